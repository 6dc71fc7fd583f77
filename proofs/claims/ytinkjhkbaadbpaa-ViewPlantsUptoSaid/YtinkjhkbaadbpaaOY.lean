import Derived.Test.YtinkjhkbaadbpaaIN
import Derived.Test.YtinkjhkbaadbpaaRR
import Derived.Lib.SmallJoins
import Derived.ProofKit
import Derived.OpenShut
import Derived.Test.YtinkjhkbaadbpaaTR
import Derived.Test.YtinkjhkbaadbpaaRows
import Derived.SizedLaws
import Derived.Test.YtinkjhkbaadbpaaMT
/- The store's 'works'. -/
namespace Go.Proofs.Ytinkjhkbaadbpaa
open Go.RowKit
set_option linter.unusedVariables false

theorem StoreIn.bound {R D : Nat → Prop} {w : World} {p : Value} {S : Store} (h : StoreIn R D w p S) : StoreIn (fun k => R k ∧ k < w.heap.size) D w p S := by
  obtain ⟨s, m, f, rfl, hs, hm, hb, hf, h1, h2, h3⟩ := h
  refine ⟨s, m, f, rfl, ⟨hs, (Array.getElem?_eq_some_iff.1 hb).1⟩, ⟨hm, hf.lt⟩, hb, hf, fun id v e => ?_, h2, h3⟩
  obtain ⟨hne, g, cap, xs, rfl, hg, ho, hv⟩ := h1 id v e
  exact ⟨hne, g, cap, xs, rfl, ⟨hg, (ownsRow_base ho rfl).2⟩, ho, hv⟩

def bA : ByteArray := ⟨#[97]⟩
def recA : Rec := ⟨2, bA, ⟨#[]⟩, 1, [], [], false⟩
def S1 : Store := { Store.fresh with given := 2 }
def S2 : Store := S1.put 5 [⟨2, recA⟩]
theorem bA_list : bA.toList = [97] := by kernel_rfl
theorem S1_wf : S1.Wf := ⟨Store.fresh_wf.rise, Store.fresh_wf.last, Store.fresh_wf.ok, Store.fresh_wf.len⟩
theorem S2_N (id : Int) : S2.N id = if id = 2 then [⟨5, recA⟩] else if id = 1 then [⟨0, Rec.root⟩] else [] := by
  simp only [S2, Store.put, List.foldl_cons, List.foldl_nil, putN, S1, Store.fresh]
  by_cases e : id = 2
  · subst e; simp
  · simp [e]
theorem S2_wf : S2.Wf where
  rise id := by
    rw [S2_N]
    by_cases e : id = 2
    · simp [e]
    · by_cases e1 : id = 1 <;> simp [e, e1]
  last id v hv := by
    rw [S2_N] at hv
    split at hv
    · simp at hv; simp [hv, S2, Store.put]
    · split at hv
      · simp at hv; simp [hv]
      · simp at hv
  ok id v hv := by
    rw [S2_N] at hv
    split at hv
    · simp at hv; subst hv; exact ⟨by decide, by decide⟩
    · split at hv
      · simp at hv; subst hv; exact ⟨by decide, by decide⟩
      · simp at hv
  len id := by
    rw [S2_N]
    by_cases e : id = 2
    · simp [e]
    · by_cases e1 : id = 1 <;> simp [e, e1]
theorem S2_len (id : Int) : (S2.N id).length ≤ 1000000 := by
  rw [S2_N]
  by_cases e : id = 2
  · simp [e]
  · by_cases e1 : id = 1 <;> simp [e, e1]
theorem S2_keys : S2.Keys := by
  intro id h
  rw [S2_N] at h
  show 1 ≤ id ∧ id ≤ 2
  split at h
  · omega
  · split at h
    · omega
    · simp at h
theorem S2_at5 : S2.at 2 5 = some recA := by
  unfold Store.at; rw [S2_N]; rfl
theorem S2_at4 : S2.at 2 4 = none := by
  unfold Store.at; rw [S2_N]; rfl
theorem rising_two {zs : List Int} (h : zs.Pairwise (· < ·)) (hm : ∀ id, id ∈ zs ↔ id = 1 ∨ id = 2) : zs = [1, 2] := by
  match zs, h, hm with
  | [], _, hm => have := (hm 1).2 (.inl rfl); simp at this
  | [a], _, hm =>
    have h1 := (hm 1).2 (.inl rfl)
    have h2 := (hm 2).2 (.inr rfl)
    simp at h1 h2; omega
  | [a, b], h, hm =>
    have h1 := (hm 1).2 (.inl rfl)
    have h2 := (hm 2).2 (.inr rfl)
    simp at h h1 h2
    have : a = 1 := by omega
    have : b = 2 := by omega
    simp [*]
  | a :: b :: c :: r, h, hm =>
    have h1 := (hm a).1 (by simp)
    have h2 := (hm b).1 (by simp)
    have h3 := (hm c).1 (by simp)
    simp at h
    have := h.1.1; have := h.2.1.1
    omega
theorem S2_count {zs : List Int} (h : IdsOf S2 zs) : countOf S2 zs = 2 := by
  have : zs = [1, 2] := rising_two h.1 (fun id => by
    rw [h.2 id, S2_N]
    by_cases e : id = 2
    · simp [e]
    · by_cases e1 : id = 1
      · simp [e1]
      · simp [e, e1])
  subst this
  simp [countOf, S2_N]
theorem okA : okL S1.given [] [⟨2, recA⟩] = true := by simp [okL, bad1, rightR, recA, S1, allPos]

set_option maxRecDepth 100000 in
set_option maxHeartbeats 4000000 in
theorem works_any (w : World) : Calls Try.prog 38 #[] w fun e w' => e = .returned (.bool true) ∧ Below w.heap.size w w' := by
  go_enter Try.func38, Try.ntmps38
  go_wp2_with fail
  refine (new_any (fun _ => False) w).mono ?_
  rintro e w1 ⟨⟨p, rfl, hst⟩, hb1⟩
  have hst1 := hst.bound
  obtain ⟨s, m, f, rfl, -⟩ := hst
  go_wp2_with fail
  refine (fresh_any hst1 (fun k h => fun f => f) (by decide) (by decide)).mono ?_
  rintro e w2 ⟨rfl, hst2, hc2⟩
  simp only [show Store.fresh.given + 1 = 2 from rfl] at *
  have hs12 : w1.heap.size ≤ w2.heap.size := hc2.size
  have hbw2 : Below w.heap.size w w2 := hb1.trans ⟨hc2.os, hc2.tape, hc2.output, hc2.size, fun k hk => hc2.block k (Nat.lt_of_lt_of_le hk hb1.size) (fun h => absurd h.1 (Nat.not_le_of_lt hk))⟩
  have hb3 : Below w2.heap.size w2 (w2.alloc (.cells #[.int .i64 2, .int .i64 2, .string bA, .string ⟨#[]⟩, .int .i64 1, .slice none 0 0, .slice none 0 0, .bool false] 125)) := (Below.refl _ _).alloc (Nat.le_refl _) _
  have hchn : ChnsIn (fun k => k = w2.heap.size) (w2.alloc (.cells #[.int .i64 2, .int .i64 2, .string bA, .string ⟨#[]⟩, .int .i64 1, .slice none 0 0, .slice none 0 0, .bool false] 125)) (.slice (some ⟨w2.heap.size, 0, none⟩) 1 1) [⟨2, recA⟩] := by
    refine ⟨_, 1, rfl, Nat.le_refl _, by decide, .inr ⟨w2.heap.size, 0, rfl, rfl, fun k c hk => ?_⟩⟩
    match k, hk with
    | 0, hk =>
      simp at hk
      subst hk
      refine ⟨.slice none 0 0, .slice none 0 0, intsIn_nil _ _, intsIn_nil _ _, fun j x hx => ?_⟩
      simpa [recA] using hx
  have hst3 : StoreIn (fun k => New w.heap.size k ∧ k < w1.heap.size) (fun _ => False) (w2.alloc (.cells #[.int .i64 2, .int .i64 2, .string bA, .string ⟨#[]⟩, .int .i64 1, .slice none 0 0, .slice none 0 0, .bool false] 125)) (.pointer (some ⟨s, 0, none⟩)) S1 :=
    hst2.keep ((keeps_below hb3).mono (fun k hk => Nat.lt_of_lt_of_le hk.2 hs12)) (fun k hk => hk.elim)
  have hin := install_any hst3 S1_wf 5 (by decide) [⟨2, recA⟩] _ hchn (fun k hk => by subst hk; exact ⟨by simp, fun h => absurd h.2 (Nat.not_lt_of_le hs12)⟩) (fun k hk => by rw [World.size_alloc]; exact Nat.lt_succ_of_lt (Nat.lt_of_lt_of_le hk.2 hs12)) (fun k hk => hk.elim) (fun k _ h => h)
    (fun id => by simp only [S1, Store.fresh]; split <;> simp) (fun c hc => by simp at hc; subst hc; exact ⟨by decide, by decide⟩)
  have HIN := Lib.hid hin
  clear hin hchn hst3 hst2 hst1
  go_wp2_with fail
  refine HIN.out.mono ?_
  rintro e w4 (⟨hno, _⟩ | ⟨-, rfl, hc4, R', D', hSA, hR', hD'⟩)
  · rw [okA] at hno; cases hno
  have hSA2 : StoreAt R' D' w4 (.pointer (some ⟨s, 0, none⟩)) S2 := hSA
  have hbw4 : Below w.heap.size w w4 := (hbw2.trans (hb3.mono hbw2.size)).trans ⟨hc4.os, hc4.tape, hc4.output, hc4.size, fun k hk => hc4.block k (by rw [World.size_alloc]; exact Nat.lt_succ_of_lt (Nat.lt_of_lt_of_le hk hbw2.size)) (fun h => absurd h.1 (Nat.not_le_of_lt hk))⟩
  have h5 := at_any hSA2.is S2_wf hSA2.dlt 2 5
  rw [S2_at5] at h5
  have H5 := Lib.hid h5
  have HSA := Lib.hid hSA2
  clear h5 hSA hSA2 HIN hR' hD'
  go_wp2_with fail
  refine H5.out.mono ?_
  rintro e w5 ⟨⟨kv, av, rfl, ⟨ka, kc, rfl, -⟩, ⟨aa, ac, rfl, -⟩⟩, hb5⟩
  simp only [recV, recA, Option.getD, Option.isSome]
  go_wp2_with fail
  have HB45 := Lib.hid hb5
  have hb6 : Below w4.heap.size w4 (w5.alloc (.cells #[.int .i64 2, .string bA, .string ⟨#[]⟩, .int .i64 1, .slice ka 0 kc, .slice aa 0 ac, .bool false] 52)) := hb5.alloc hb5.size _
  have hg6 := Go.heap_alloc_new w5 (.cells #[.int .i64 2, .string bA, .string ⟨#[]⟩, .int .i64 1, .slice ka 0 kc, .slice aa 0 ac, .bool false] 52)
  have hs6 : (w5.alloc (.cells #[.int .i64 2, .string bA, .string ⟨#[]⟩, .int .i64 1, .slice ka 0 kc, .slice aa 0 ac, .bool false] 52)).heap.size = w5.heap.size + 1 := by simp
  have h6 := at_any (storeIn_chg (R' := R') (D' := D') HSA.out.is hb6 HSA.out.rlt HSA.out.dlt) S2_wf (fun k hk => Nat.lt_of_lt_of_le (HSA.out.dlt k hk) hb6.size) 2 4
  rw [S2_at4] at h6
  have H6 := Lib.hid h6
  have HB6 := Lib.hid hb6
  have HG6 := Lib.hid hg6
  clear h6 hb6 hg6 hb5
  refine H6.out.mono ?_
  rintro e w7 ⟨⟨kv, av, rfl, ⟨kb, kd, rfl, -⟩, ⟨ab, ad, rfl, -⟩⟩, hb7⟩
  simp only [recV, Rec.zero, Option.getD, Option.isSome, List.length_nil]
  have c7 : ∀ o, (w7.alloc o).cell? ⟨w5.heap.size, 1, none⟩ = some (.string bA) := fun o => by
    have hlt : w5.heap.size < w7.heap.size := by have := hb7.size; omega
    have h1 : w7.heap[w5.heap.size]? = _ := (hb7.block w5.heap.size (by omega)).trans HG6.out
    have h2 : (w7.alloc o).heap[w5.heap.size]? = _ := (Go.heap_alloc_old w7 o hlt).trans h1
    simp [World.cell?, h2]
  have hb8 : ∀ o, Below w4.heap.size w4 (w7.alloc o) := fun o => (HB6.out.trans (hb7.mono HB6.out.size)).alloc (Nat.le_trans HB6.out.size hb7.size) o
  have h8 := fun o => count_any (storeIn_chg (R' := R') (D' := D') HSA.out.is (hb8 o) HSA.out.rlt HSA.out.dlt) S2_keys (fun k hk => Nat.lt_of_lt_of_le (HSA.out.rlt k hk) (hb8 o).size) (fun k hk => Nat.lt_of_lt_of_le (HSA.out.dlt k hk) (hb8 o).size) (by decide) (by decide) S2_len
  have H8 := Lib.hid h8
  have HB8 := Lib.hid hb8
  clear h8 hb8 hb7
  have hbA := bA_list
  go_wp2_with (go_at_call 49; refine (H8.out _).mono ?_; rintro e w9 ⟨⟨zs, hzs, rfl⟩, hb9⟩; have hcz := S2_count hzs; have HB9 := Lib.hid hb9; clear hb9 hzs)
  go_ret
  exact ⟨rfl, hbw4.trans (((HB8.out _).mono hbw4.size).trans (HB9.out.mono (Nat.le_trans hbw4.size (HB8.out _).size)))⟩
end Go.Proofs.Ytinkjhkbaadbpaa
/- A record that came in as an argument, opened. -/
namespace Go.Proofs.Ytinkjhkbaadbpaa
open Go.Joins Go.ChangeShapes Go.WideShapes Go.RowKit Go.Deep
set_option linter.unusedVariables false

section
variable {H : Type} {enc : TypeId × Value → H} {P : Program} {w : World} {base : Nat} {spare : Nat → Bool} {held : Bool}
theorem array7 {α : Type} {cs : Array α} (h : cs.size = 7) : ∃ c0 c1 c2 c3 c4 c5 c6, cs = #[c0, c1, c2, c3, c4, c5, c6] := by
  obtain ⟨l⟩ := cs
  match l, h with
  | [c0, c1, c2, c3, c4, c5, c6], _ => exact ⟨c0, c1, c2, c3, c4, c5, c6, rfl⟩
theorem open_agg7 {r : Reach} {b0 : Nat} {t : TypeId} {f0 f1 f2 f3 f4 f5 f6 : Field} {v : Value} {d : DataW H} {p : List MemPlace} (hs : P.underlying t = some (.struct #[f0, f1, f2, f3, f4, f5, f6])) (hone : oneCellFields P #[f0, f1, f2, f3, f4, f5, f6] = true) (hC : P.cellsOf t = 7)
    (hv : Value.okWide P w r b0 t v) (h : DataW.Trod enc P w base spare held t v d p) :
    ∃ (v0 v1 v2 v3 v4 v5 v6 : Value) (y0 y1 y2 y3 y4 y5 y6 : DataW H × List MemPlace) (n : Nat), v = .agg #[v0, v1, v2, v3, v4, v5, v6] ∧ p = y0.2 ++ (y1.2 ++ (y2.2 ++ (y3.2 ++ (y4.2 ++ (y5.2 ++ y6.2))))) ∧
      DataW.trod enc P w base spare held n f0.type [v0] = some y0 ∧ DataW.trod enc P w base spare held n f1.type [v1] = some y1 ∧ DataW.trod enc P w base spare held n f2.type [v2] = some y2 ∧ DataW.trod enc P w base spare held n f3.type [v3] = some y3 ∧ DataW.trod enc P w base spare held n f4.type [v4] = some y4 ∧ DataW.trod enc P w base spare held n f5.type [v5] = some y5 ∧ DataW.trod enc P w base spare held n f6.type [v6] = some y6 := by
  obtain ⟨cs, rfl, hsz⟩ := okWide_struct hs hv
  obtain ⟨c0, c1, c2, c3, c4, c5, c6, rfl⟩ := array7 (hsz.trans hC)
  obtain ⟨fuel, hf⟩ := h
  obtain ⟨xs, n, _, hx, _, hlen, hg⟩ := DataW.trod_struct hs hf
  obtain ⟨o0, k0⟩ := hone_of hone 0 f0 rfl
  obtain ⟨o1, k1⟩ := hone_of hone 1 f1 rfl
  obtain ⟨o2, k2⟩ := hone_of hone 2 f2 rfl
  obtain ⟨o3, k3⟩ := hone_of hone 3 f3 rfl
  obtain ⟨o4, k4⟩ := hone_of hone 4 f4 rfl
  obtain ⟨o5, k5⟩ := hone_of hone 5 f5 rfl
  obtain ⟨o6, k6⟩ := hone_of hone 6 f6 rfl
  match xs, hlen with
  | [y0, y1, y2, y3, y4, y5, y6], _ =>
    simp only [Prod.mk.injEq] at hx
    exact ⟨c0, c1, c2, c3, c4, c5, c6, y0, y1, y2, y3, y4, y5, y6, n, rfl, by simpa using hx.2, by simpa [Value.cells, o0, k0] using hg 0 f0 rfl, by simpa [Value.cells, o1, k1] using hg 1 f1 rfl, by simpa [Value.cells, o2, k2] using hg 2 f2 rfl, by simpa [Value.cells, o3, k3] using hg 3 f3 rfl, by simpa [Value.cells, o4, k4] using hg 4 f4 rfl, by simpa [Value.cells, o5, k5] using hg 5 f5 rfl, by simpa [Value.cells, o6, k6] using hg 6 f6 rfl⟩

/-- A slice of ints that came in. -/
theorem ints_in {t e : TypeId} {fuel : Nat} {v : Value} {x : DataW H × List MemPlace} (ht : P.underlying t = some (.slice e)) (he : P.underlying e = some (.int .i64)) (hc : P.cellsOf e = 1)
    (h : DataW.trod enc P w base (fun _ => true) held fuel t [v] = some x) : ∃ xs, IntsIn (fun k => k < w.heap.size) w v xs := by
  rcases open_ints ht he hc h with ⟨hcs, -⟩ | ⟨a, len, cap, zs, hcs, -, hl, hm, hzl, -, hcell, -⟩
  · simp at hcs
    subst hcs
    exact ⟨[], intsIn_nil _ _⟩
  · simp at hcs
    subst hcs
    simp only [if_true] at hzl
    refine ⟨zs.take len, some a, cap, by rw [List.length_take, Nat.min_eq_left (by omega)], by rw [List.length_take]; omega, hm, ?_⟩
    by_cases h0 : len = 0
    · subst h0; exact .inl (by simp)
    · right
      obtain ⟨b, off, sub⟩ := a
      have hc0 := hcell 0 (by omega)
      have hsub : sub = none := by
        cases sub with
        | none => rfl
        | some s =>
          exfalso
          simp [Addr.add, World.cell?] at hc0
          split at hc0 <;> cases hc0
      subst hsub
      refine ⟨b, off, rfl, ?_, fun j x hj => ?_⟩
      · have := World.block_lt_of_cell? w _ hc0
        simpa [Addr.add] using this
      · have hjl : j < len := by have := (List.getElem?_eq_some_iff.1 hj).1; simp at this; omega
        have h1 := hcell j (by omega)
        rw [List.getElem?_take_of_lt hjl] at hj
        have h2 : zs.getD j 0 = x := by simp [List.getD, hj]
        rw [h2] at h1
        have h3 : ((⟨b, off, none⟩ : Addr).add j) = ⟨b, off + j, none⟩ := by
          cases j <;> simp [Addr.add]
        rw [h3] at h1
        exact h1
end

theorem Try.rec_cells : Try.prog.cellsOf 52 = 7 := by kernel_rfl
theorem Try.int_cells : Try.prog.cellsOf 3 = 1 := by kernel_rfl
set_option maxRecDepth 100000 in
/-- A record that came in as an argument. -/
theorem rec_in {H : Type} {enc : TypeId × Value → H} {W : World} {b0 : Nat} {v : Value} {d : DataW H} {p : List MemPlace}
    (hv : Value.okWide Try.prog W .any b0 52 v) (h : DataW.Trod enc Try.prog W 0 (fun _ => true) true 52 v d p) : ∃ r kv av, v = recV r kv av ∧ IntsIn (fun k => k < W.heap.size) W kv r.kids ∧ IntsIn (fun k => k < W.heap.size) W av r.attrs := by
  obtain ⟨v0, v1, v2, v3, v4, v5, v6, y0, y1, y2, y3, y4, y5, y6, n, rfl, rfl, h0, h1, h2, h3, h4, h5, h6⟩ := open_agg7 Try.underlying52 (by kernel_rfl) Try.rec_cells hv h
  obtain ⟨k, e0, -⟩ := DataW.trod_int Try.underlying3 h0
  obtain ⟨nm, e1, -⟩ := DataW.trod_string Try.underlying9 h1
  obtain ⟨tx, e2, -⟩ := DataW.trod_string Try.underlying9 h2
  obtain ⟨pa, e3, -⟩ := DataW.trod_int Try.underlying3 h3
  obtain ⟨ks, i4⟩ := ints_in Try.underlying33 Try.underlying3 Try.int_cells h4
  obtain ⟨ats, i5⟩ := ints_in Try.underlying33 Try.underlying3 Try.int_cells h5
  obtain ⟨g, e6, -⟩ := DataW.trod_bool Try.underlying4 h6
  simp at e0 e1 e2 e3 e6
  subst e0 e1 e2 e3 e6
  exact ⟨⟨k, nm, tx, pa, ks, ats, g⟩, v4, v5, rfl, i4, i5⟩
end Go.Proofs.Ytinkjhkbaadbpaa
/- Trees, and records to put, that came in as arguments, opened. -/
namespace Go.Proofs.Ytinkjhkbaadbpaa
open Go.Joins Go.ChangeShapes Go.WideShapes Go.RowKit Go.Deep
set_option linter.unusedVariables false

section
variable {H : Type} {enc : TypeId × Value → H} {P : Program} {w : World} {held : Bool}
theorem weights_mem_all {e : TypeId} : ∀ {ds : List (DataW H)} {d : DataW H}, d ∈ ds → ∀ n ∈ d.weights P e, n ∈ DataW.weightsAll P e ds
  | d0 :: ds, d, hd, n, hn => by
    simp only [DataW.weightsAll, List.mem_append]
    rcases List.mem_cons.1 hd with rfl | hd
    · exact .inl hn
    · exact .inr (weights_mem_all hd n hn)

/-- A slice that came in, and its elements. -/
theorem slice_open {t e : TypeId} {fuel : Nat} {v : Value} {x : DataW H × List MemPlace} {B C : Nat} (ht : P.underlying t = some (.slice e)) (hB : P.bytesOf e = B) (hC : P.cellsOf e = C) (hC0 : 0 < C)
    (h : DataW.trod enc P w 0 (fun _ => true) held fuel t [v] = some x) (hw : ∀ n ∈ x.1.weights P t, n ≤ reachBytes) :
    ∃ a len cap, v = .slice a len cap ∧ len ≤ cap ∧ cap ≤ maxLen ∧ len * B ≤ reachBytes ∧ (len = 0 ∨ ∃ g off, a = some ⟨g, off, none⟩ ∧ g < w.heap.size ∧
      ∀ k, k < len → ∃ (cs : List Value) (y : DataW H × List MemPlace) (n : Nat), DataW.trod enc P w 0 (fun _ => true) held n e cs = some y ∧ cs.length = C ∧ (∀ j, j < C → w.cell? ⟨g, off + k * C + j, none⟩ = cs[j]?) ∧ ∀ m ∈ y.1.weights P e, m ≤ reachBytes) := by
  rcases DataW.trod_slice ht h with ⟨hcs, rfl⟩ | ⟨a, len, cap, elems, rest, n, _, hcs, rfl, hb, hl, hm, hlen, hel, hsp, hns⟩
  · simp at hcs; subst hcs
    exact ⟨none, 0, 0, rfl, by omega, by unfold maxLen; omega, by omega, .inl rfl⟩
  · simp at hcs; subst hcs
    have hbytes : (elems.length + rest.length) * B ≤ reachBytes := by
      have := hw ((elems.length + rest.length) * B) (by simp [DataW.weights, ht, hB])
      exact this
    refine ⟨some a, len, cap, rfl, hl, hm, Nat.le_trans (Nat.mul_le_mul_right _ (by omega)) hbytes, ?_⟩
    by_cases h0 : len = 0
    · exact .inl h0
    · right
      have key : ∀ k, k < len → ∃ (cs : List Value) (y : DataW H × List MemPlace), w.cells? 0 (a.add (k * C)) C = some cs ∧ DataW.trod enc P w 0 (fun _ => true) held n e cs = some y ∧ y ∈ elems := fun k hk => by
        have h1 := hel k hk
        rw [hC, List.getElem?_eq_getElem (by omega), Option.bind_eq_some_iff] at h1
        obtain ⟨cs, h2, h3⟩ := h1
        exact ⟨cs, _, h2, h3, List.getElem_mem _⟩
      obtain ⟨cs0, y0, hc0, -, -⟩ := key 0 (by omega)
      obtain ⟨-, hcl, hce⟩ := World.cells?_some hc0
      have hsome : w.cell? ((a.add (0 * C)).add 0) = some (cs0[0]'(by omega)) := by rw [hce 0 hC0]; exact List.getElem?_eq_getElem (by omega)
      obtain ⟨g, off, sub⟩ := a
      have hsub : sub = none := by
        have h2 : w.cell? ⟨g, off, sub⟩ = some (cs0[0]'(by omega)) := by simpa [Addr.add] using hsome
        simpa using World.cell?_spot h2
      subst hsub
      have hadd : ∀ (b o j : Nat), ((⟨b, o, none⟩ : Addr).add j) = ⟨b, o + j, none⟩ := fun b o j => by cases j <;> simp [Addr.add]
      refine ⟨g, off, rfl, ?_, fun k hk => ?_⟩
      · have h2 : w.cell? ⟨g, off, none⟩ = some (cs0[0]'(by omega)) := by simpa [Addr.add] using hsome
        exact World.block_lt_of_cell? w _ h2
      · obtain ⟨cs, y, hc, ht', hy⟩ := key k hk
        obtain ⟨-, hcl, hce⟩ := World.cells?_some hc
        refine ⟨cs, y, n, ht', hcl, fun j hj => ?_, fun m hm => ?_⟩
        · rw [← hce j hj, hadd, hadd]
        · refine hw m ?_
          simp only [DataW.weights, ht, List.mem_cons, List.mem_append]
          exact .inr (.inl (weights_mem_all (List.mem_map.2 ⟨y, hy, rfl⟩) m hm))
/-- A slice of ints that came in, with its bound. -/
theorem ints_in_sized {t e : TypeId} {fuel : Nat} {v : Value} {x : DataW H × List MemPlace} (ht : P.underlying t = some (.slice e)) (he : P.underlying e = some (.int .i64)) (hc : P.cellsOf e = 1) (hb : P.bytesOf e = 8)
    (h : DataW.trod enc P w 0 (fun _ => true) held fuel t [v] = some x) (hw : ∀ n ∈ x.1.weights P t, n ≤ reachBytes) : ∃ xs, IntsIn (fun k => k < w.heap.size) w v xs ∧ xs.length * 8 ≤ 140737488351232 := by
  obtain ⟨xs, hi⟩ := ints_in ht he hc h
  refine ⟨xs, hi, ?_⟩
  obtain ⟨a, len, cap, e1, -, -, hbd, -⟩ := slice_open ht hb hc (by omega) h hw
  obtain ⟨a2, cap2, e2, -⟩ := hi
  rw [e1] at e2
  cases e2
  unfold reachBytes at hbd
  exact hbd
end

theorem Try.bytes3 : Try.prog.bytesOf 3 = 8 := by kernel_rfl
theorem Try.str_cells : Try.prog.cellsOf 9 = 1 := by kernel_rfl
theorem Try.chn_cells : Try.prog.cellsOf 125 = 8 := by kernel_rfl

section
variable {H : Type} {enc : TypeId × Value → H} {W : World}
theorem list7 {α : Type} {cs : List α} (h : cs.length = 7) : ∃ c0 c1 c2 c3 c4 c5 c6, cs = [c0, c1, c2, c3, c4, c5, c6] := by
  match cs, h with
  | [c0, c1, c2, c3, c4, c5, c6], _ => exact ⟨c0, c1, c2, c3, c4, c5, c6, rfl⟩
theorem list4 {α : Type} {cs : List α} (h : cs.length = 4) : ∃ c0 c1 c2 c3, cs = [c0, c1, c2, c3] := by
  match cs, h with
  | [c0, c1, c2, c3], _ => exact ⟨c0, c1, c2, c3, rfl⟩
theorem list8 {α : Type} {cs : List α} (h : cs.length = 8) : ∃ c0 c1 c2 c3 c4 c5 c6 c7, cs = [c0, c1, c2, c3, c4, c5, c6, c7] := by
  match cs, h with
  | [c0, c1, c2, c3, c4, c5, c6, c7], _ => exact ⟨c0, c1, c2, c3, c4, c5, c6, c7, rfl⟩

theorem open_cells7 {P : Program} {w : World} {held : Bool} {t : TypeId} {f0 f1 f2 f3 f4 f5 f6 : Field} {n : Nat} {cs : List Value} {x : DataW H × List MemPlace} (hs : P.underlying t = some (.struct #[f0, f1, f2, f3, f4, f5, f6])) (hone : oneCellFields P #[f0, f1, f2, f3, f4, f5, f6] = true) (hC : P.cellsOf t = 7)
    (h : DataW.trod enc P w 0 (fun _ => true) held n t cs = some x) (hw : ∀ m ∈ x.1.weights P t, m ≤ reachBytes) :
    ∃ (v0 v1 v2 v3 v4 v5 v6 : Value) (y0 y1 y2 y3 y4 y5 y6 : DataW H × List MemPlace) (n : Nat), cs = [v0, v1, v2, v3, v4, v5, v6] ∧
      DataW.trod enc P w 0 (fun _ => true) held n f0.type [v0] = some y0 ∧ DataW.trod enc P w 0 (fun _ => true) held n f1.type [v1] = some y1 ∧ DataW.trod enc P w 0 (fun _ => true) held n f2.type [v2] = some y2 ∧ DataW.trod enc P w 0 (fun _ => true) held n f3.type [v3] = some y3 ∧ DataW.trod enc P w 0 (fun _ => true) held n f4.type [v4] = some y4 ∧ DataW.trod enc P w 0 (fun _ => true) held n f5.type [v5] = some y5 ∧ DataW.trod enc P w 0 (fun _ => true) held n f6.type [v6] = some y6 ∧
      (∀ m ∈ y4.1.weights P f4.type, m ≤ reachBytes) ∧ (∀ m ∈ y5.1.weights P f5.type, m ≤ reachBytes) := by
  obtain ⟨xs, m, _, rfl, hl, hxl, hg⟩ := DataW.trod_struct hs h
  rw [hC] at hl
  obtain ⟨c0, c1, c2, c3, c4, c5, c6, rfl⟩ := list7 hl
  obtain ⟨y0, y1, y2, y3, y4, y5, y6, rfl⟩ := list7 (hxl.trans rfl)
  obtain ⟨o0, k0⟩ := hone_of hone 0 f0 rfl
  obtain ⟨o1, k1⟩ := hone_of hone 1 f1 rfl
  obtain ⟨o2, k2⟩ := hone_of hone 2 f2 rfl
  obtain ⟨o3, k3⟩ := hone_of hone 3 f3 rfl
  obtain ⟨o4, k4⟩ := hone_of hone 4 f4 rfl
  obtain ⟨o5, k5⟩ := hone_of hone 5 f5 rfl
  obtain ⟨o6, k6⟩ := hone_of hone 6 f6 rfl
  refine ⟨c0, c1, c2, c3, c4, c5, c6, y0, y1, y2, y3, y4, y5, y6, m, rfl, by simpa [o0, k0] using hg 0 f0 rfl, by simpa [o1, k1] using hg 1 f1 rfl, by simpa [o2, k2] using hg 2 f2 rfl, by simpa [o3, k3] using hg 3 f3 rfl, by simpa [o4, k4] using hg 4 f4 rfl, by simpa [o5, k5] using hg 5 f5 rfl, by simpa [o6, k6] using hg 6 f6 rfl, fun k hk => hw k ?_, fun k hk => hw k ?_⟩
  · simp only [DataW.weights, hs]
    exact DataW.weights_mem_each (j := 4) rfl rfl k hk
  · simp only [DataW.weights, hs]
    exact DataW.weights_mem_each (j := 5) rfl rfl k hk

set_option maxRecDepth 100000 in
theorem rec_cells_in {n : Nat} {cs : List Value} {x : DataW H × List MemPlace} (h : DataW.trod enc Try.prog W 0 (fun _ => true) true n 52 cs = some x) (hw : ∀ m ∈ x.1.weights Try.prog 52, m ≤ reachBytes) :
    ∃ r kv av, cs = recL r kv av ∧ IntsIn (fun k => k < W.heap.size) W kv r.kids ∧ IntsIn (fun k => k < W.heap.size) W av r.attrs ∧ RecOk r := by
  obtain ⟨v0, v1, v2, v3, v4, v5, v6, y0, y1, y2, y3, y4, y5, y6, n, rfl, h0, h1, h2, h3, h4, h5, h6, w4, w5⟩ := open_cells7 Try.underlying52 (by kernel_rfl) Try.rec_cells h hw
  obtain ⟨k, e0, -⟩ := DataW.trod_int Try.underlying3 h0
  obtain ⟨nm, e1, -⟩ := DataW.trod_string Try.underlying9 h1
  obtain ⟨tx, e2, -⟩ := DataW.trod_string Try.underlying9 h2
  obtain ⟨pa, e3, -⟩ := DataW.trod_int Try.underlying3 h3
  obtain ⟨ks, i4, b4⟩ := ints_in_sized Try.underlying33 Try.underlying3 Try.int_cells Try.bytes3 h4 w4
  obtain ⟨ats, i5, b5⟩ := ints_in_sized Try.underlying33 Try.underlying3 Try.int_cells Try.bytes3 h5 w5
  obtain ⟨g, e6, -⟩ := DataW.trod_bool Try.underlying4 h6
  simp at e0 e1 e2 e3 e6
  subst e0 e1 e2 e3 e6
  exact ⟨⟨k, nm, tx, pa, ks, ats, g⟩, v4, v5, rfl, i4, i5, b4, b5⟩

set_option maxRecDepth 100000 in
theorem put_cells_in {n : Nat} {cs : List Value} {x : DataW H × List MemPlace} (h : DataW.trod enc Try.prog W 0 (fun _ => true) true n 131 cs = some x) (hw : ∀ m ∈ x.1.weights Try.prog 131, m ≤ reachBytes) :
    ∃ c kv av, cs = chL c kv av ∧ IntsIn (fun k => k < W.heap.size) W kv c.r.kids ∧ IntsIn (fun k => k < W.heap.size) W av c.r.attrs ∧ RecOk c.r := by
  have hp : Try.prog.cellsOf 131 = 8 := by kernel_rfl
  obtain ⟨xs, m, _, rfl, hl, hxl, hg⟩ := DataW.trod_struct Try.underlying131 h
  rw [hp] at hl
  obtain ⟨c0, c1, c2, c3, c4, c5, c6, c7, rfl⟩ := list8 hl
  match xs, hxl with
  | [y0, y1], _ =>
    have h0' : DataW.trod enc Try.prog W 0 (fun _ => true) true m 3 [c0] = some y0 := by simpa [Try.int_cells] using hg 0 _ rfl
    have h1' : DataW.trod enc Try.prog W 0 (fun _ => true) true m 52 [c1, c2, c3, c4, c5, c6, c7] = some y1 := by simpa [Try.rec_cells] using hg 1 _ rfl
    obtain ⟨k, e0, -⟩ := DataW.trod_int Try.underlying3 h0'
    obtain ⟨r, kv, av, e1, i1, i2, ok⟩ := rec_cells_in h1' (fun k hk => hw k (by
      simp only [DataW.weights, Try.underlying131]
      exact DataW.weights_mem_each (j := 1) rfl rfl k hk))
    simp at e0
    subst e0
    exact ⟨⟨k, r⟩, kv, av, by rw [e1], i1, i2, ok⟩
/-- A slice of records to put that came in. -/
theorem puts_in {n : Nat} {v : Value} {x : DataW H × List MemPlace} (h : DataW.trod enc Try.prog W 0 (fun _ => true) true n 26 [v] = some x) (hw : ∀ m ∈ x.1.weights Try.prog 26, m ≤ reachBytes) :
    ∃ cs, ChnsIn (Old W.heap.size) W v cs ∧ ∀ c ∈ cs, RecOk c.r := by
  obtain ⟨a, len, cap, rfl, h1, h2, -, h3⟩ := slice_open Try.underlying26 rfl (by kernel_rfl : Try.prog.cellsOf 131 = 8) (by omega) h hw
  rcases h3 with rfl | ⟨g, off, rfl, hg, hk⟩
  · exact ⟨[], ⟨a, cap, rfl, by simp, h2, .inl rfl⟩, by simp⟩
  · have key : ∀ k : Fin len, ∃ c : Chn, (∃ kv av, IntsIn (Old W.heap.size) W kv c.r.kids ∧ IntsIn (Old W.heap.size) W av c.r.attrs ∧ ∀ j x, (chL c kv av)[j]? = some x → W.cell? ⟨g, off + k * 8 + j, none⟩ = some x) ∧ RecOk c.r := fun k => by
      obtain ⟨cs, y, m, ht, hl, hc, hm⟩ := hk k k.2
      obtain ⟨c, kv, av, rfl, i1, i2, ok⟩ := put_cells_in ht hm
      refine ⟨c, ⟨kv, av, i1, i2, fun j x hj => ?_⟩, ok⟩
      rw [hc j (by have := (List.getElem?_eq_some_iff.1 hj).1; simpa using this), hj]
    refine ⟨List.ofFn (fun k => Classical.choose (key k)), ⟨_, cap, by rw [List.length_ofFn], by rw [List.length_ofFn]; exact h1, h2, .inr ⟨g, off, rfl, hg, fun k c hc => ?_⟩⟩, fun c hc => ?_⟩
    · rw [List.getElem?_ofFn] at hc
      split at hc
      · rename_i hlt
        cases hc
        exact (Classical.choose_spec (key ⟨k, hlt⟩)).1
      · cases hc
    · obtain ⟨k, hk⟩ := List.getElem?_of_mem hc
      rw [List.getElem?_ofFn] at hk
      split at hk
      · rename_i hlt
        cases hk
        exact (Classical.choose_spec (key ⟨k, hlt⟩)).2
      · cases hk

/-! ### trees -/
theorem bulk_pos (d : DataW H) : 1 ≤ Rows.uptoBulk d := by
  cases d with
  | lit l => cases l <;> simp [Rows.uptoBulk]
  | nil => simp [Rows.uptoBulk]
  | ptr d => simp [Rows.uptoBulk]
  | slice elems spare => simp [Rows.uptoBulk]
  | agg parts => simp [Rows.uptoBulk]
  | iface t d => simp [Rows.uptoBulk]
  | map entries => simp [Rows.uptoBulk]
  | held h => simp [Rows.uptoBulk]
theorem slice_elems {P : Program} {w : World} {held : Bool} {t e : TypeId} {fuel : Nat} {v : Value} {x : DataW H × List MemPlace} {C : Nat} (ht : P.underlying t = some (.slice e)) (hC : P.cellsOf e = C) (hC0 : 0 < C)
    (h : DataW.trod enc P w 0 (fun _ => true) held fuel t [v] = some x) :
    ∃ (a : Option Addr) (len cap : Nat) (elems : List (DataW H × List MemPlace)), v = .slice a len cap ∧ len ≤ cap ∧ cap ≤ maxLen ∧ elems.length = len ∧ Rows.uptoBulkAll (elems.map (·.1)) + 1 ≤ Rows.uptoBulk x.1 ∧
      (len = 0 ∨ ∃ g off n, fuel = n + 1 ∧ a = some ⟨g, off, none⟩ ∧ g < w.heap.size ∧ ∀ (k : Nat) (y : DataW H × List MemPlace), elems[k]? = some y → ∃ cs : List Value, DataW.trod enc P w 0 (fun _ => true) held n e cs = some y ∧ cs.length = C ∧ ∀ j, j < C → w.cell? ⟨g, off + k * C + j, none⟩ = cs[j]?) := by
  rcases DataW.trod_slice ht h with ⟨hcs, rfl⟩ | ⟨a, len, cap, elems, rest, n, hn, hcs, rfl, hb, hl, hm, hlen, hel, hsp, hns⟩
  · simp at hcs; subst hcs
    exact ⟨none, 0, 0, [], rfl, by omega, by unfold maxLen; omega, rfl, by simp [Rows.uptoBulkAll, Rows.uptoBulk], .inl rfl⟩
  · simp at hcs; subst hcs
    refine ⟨some a, len, cap, elems, rfl, hl, hm, hlen, by simp only [Rows.uptoBulk]; omega, ?_⟩
    by_cases h0 : len = 0
    · exact .inl h0
    · right
      have key : ∀ k, k < len → ∃ (cs : List Value), w.cells? 0 (a.add (k * C)) C = some cs ∧ DataW.trod enc P w 0 (fun _ => true) held n e cs = elems[k]? := fun k hk => by
        have h1 := hel k hk
        rw [hC, List.getElem?_eq_getElem (by omega), Option.bind_eq_some_iff] at h1
        obtain ⟨cs, h2, h3⟩ := h1
        exact ⟨cs, h2, by rw [h3, List.getElem?_eq_getElem (by omega)]⟩
      obtain ⟨cs0, hc0, -⟩ := key 0 (by omega)
      obtain ⟨-, hcl, hce⟩ := World.cells?_some hc0
      have hsome : w.cell? ((a.add (0 * C)).add 0) = some (cs0[0]'(by omega)) := by rw [hce 0 hC0]; exact List.getElem?_eq_getElem (by omega)
      obtain ⟨g, off, sub⟩ := a
      have hsub : sub = none := by
        have h2 : w.cell? ⟨g, off, sub⟩ = some (cs0[0]'(by omega)) := by simpa [Addr.add] using hsome
        simpa using World.cell?_spot h2
      subst hsub
      have hadd : ∀ (b o j : Nat), ((⟨b, o, none⟩ : Addr).add j) = ⟨b, o + j, none⟩ := fun b o j => by cases j <;> simp [Addr.add]
      refine ⟨g, off, n, hn, rfl, ?_, fun k y hk => ?_⟩
      · have h2 : w.cell? ⟨g, off, none⟩ = some (cs0[0]'(by omega)) := by simpa [Addr.add] using hsome
        exact World.block_lt_of_cell? w _ h2
      · obtain ⟨cs, hc, ht'⟩ := key k (by rw [← hlen]; exact (List.getElem?_eq_some_iff.1 hk).1)
        obtain ⟨-, hcl, hce⟩ := World.cells?_some hc
        exact ⟨cs, by rw [ht', hk], hcl, fun j hj => by rw [← hce j hj, hadd, hadd]⟩
theorem list2 {α : Type} {cs : List α} (h : cs.length = 2) : ∃ c0 c1, cs = [c0, c1] := by
  match cs, h with
  | [c0, c1], _ => exact ⟨c0, c1, rfl⟩
theorem list5 {α : Type} {cs : List α} (h : cs.length = 5) : ∃ c0 c1 c2 c3 c4, cs = [c0, c1, c2, c3, c4] := by
  match cs, h with
  | [c0, c1, c2, c3, c4], _ => exact ⟨c0, c1, c2, c3, c4, rfl⟩
theorem attrs_build {g : Nat} : ∀ (elems : List (DataW H × List MemPlace)) (off : Nat), (∀ (k : Nat) (y : DataW H × List MemPlace), elems[k]? = some y → ∃ p : ByteArray × ByteArray, W.cell? ⟨g, off + k * 2, none⟩ = some (.string p.1) ∧ W.cell? ⟨g, off + k * 2 + 1, none⟩ = some (.string p.2)) →
    ∃ al : List (ByteArray × ByteArray), al.length = elems.length ∧ ∀ j u, (attrL al)[j]? = some u → W.cell? ⟨g, off + j, none⟩ = some u
  | [], off, _ => ⟨[], rfl, fun j u h => by simp [attrL] at h⟩
  | y :: ys, off, h => by
    obtain ⟨p, h1, h2⟩ := h 0 y rfl
    obtain ⟨al, hl, hc⟩ := attrs_build ys (off + 2) (fun k z hz => by
      obtain ⟨q, h3, h4⟩ := h (k + 1) z (by simpa using hz)
      have e : off + 2 + k * 2 = off + (k + 1) * 2 := by omega
      exact ⟨q, by rw [e]; exact h3, by rw [e]; exact h4⟩)
    refine ⟨p :: al, by simp [hl], fun j u hu => ?_⟩
    have e : attrL (p :: al) = .string p.1 :: .string p.2 :: attrL al := by simp [attrL]
    rw [e] at hu
    match j, hu with
    | 0, hu => simp at hu; subst hu; simpa using h1
    | 1, hu => simp at hu; subst hu; simpa using h2
    | j + 2, hu =>
      have := hc j u (by simpa using hu)
      rw [show off + (j + 2) = off + 2 + j by omega]
      exact this
theorem kids_build {g : Nat} : ∀ (elems : List (DataW H × List MemPlace)) (off : Nat), (∀ (k : Nat) (y : DataW H × List MemPlace), elems[k]? = some y → ∃ (t : Tr) (av kv : Value), (∀ c, c < 5 → W.cell? ⟨g, off + k * 5 + c, none⟩ = (trL t av kv)[c]?) ∧ TrIn (Old W.heap.size) W t av kv ∧ t.size ≤ Rows.uptoBulk y.1) →
    ∃ (ts : List Tr) (zs : List Value), ts.length = elems.length ∧ KidsAre (Old W.heap.size) W ts zs ∧ (∀ j u, zs[j]? = some u → W.cell? ⟨g, off + j, none⟩ = some u) ∧ Tr.sizes ts ≤ Rows.uptoBulkAll (elems.map (·.1))
  | [], off, _ => ⟨[], [], rfl, by simp [KidsAre], fun j u h => by simp at h, by simp [Tr.sizes]⟩
  | y :: ys, off, h => by
    obtain ⟨t, av, kv, h1, h2, h3⟩ := h 0 y rfl
    obtain ⟨ts, zs, hl, hk, hc, hs⟩ := kids_build ys (off + 5) (fun k z hz => by
      obtain ⟨t', av', kv', h4, h5, h6⟩ := h (k + 1) z (by simpa using hz)
      have e : off + 5 + k * 5 = off + (k + 1) * 5 := by omega
      exact ⟨t', av', kv', fun c hcc => by rw [e]; exact h4 c hcc, h5, h6⟩)
    refine ⟨t :: ts, trL t av kv ++ zs, by simp [hl], ?_, fun j u hu => ?_, ?_⟩
    · simp only [KidsAre]
      exact ⟨av, kv, zs, rfl, h2, hk⟩
    · by_cases hj : j < 5
      · rw [List.getElem?_append_left (by simpa using hj)] at hu
        have := h1 j hj
        rw [hu] at this
        simpa using this
      · rw [List.getElem?_append_right (by simpa using hj)] at hu
        have := hc (j - 5) u (by simpa using hu)
        rw [show off + j = off + 5 + (j - 5) by omega]
        exact this
    · simp only [Tr.sizes, List.map_cons, Rows.uptoBulkAll]
      omega
set_option maxRecDepth 100000 in
theorem tree_in : ∀ (fuel : Nat) {cs : List Value} {x : DataW H × List MemPlace}, DataW.trod enc Try.prog W 0 (fun _ => true) true fuel 25 cs = some x →
    ∃ (t : Tr) (av kv : Value), cs = trL t av kv ∧ TrIn (Old W.heap.size) W t av kv ∧ t.size ≤ Rows.uptoBulk x.1 := by
  intro fuel
  induction fuel using Nat.strongRecOn with
  | ind fuel ih =>
    intro cs x h
    have hC : Try.prog.cellsOf 25 = 5 := by kernel_rfl
    obtain ⟨xs, m, hm, rfl, hl, hxl, hg⟩ := DataW.trod_struct Try.underlying25 h
    rw [hC] at hl
    obtain ⟨c0, c1, c2, c3, c4, rfl⟩ := list5 hl
    have q22 : Try.prog.cellsOf 22 = 1 := by kernel_rfl
    have q23 : Try.prog.cellsOf 23 = 1 := by kernel_rfl
    have q9 : Try.prog.cellsOf 9 = 1 := by kernel_rfl
    have hx5 : xs.length = 5 := hxl
    obtain ⟨y0, y1, y2, y3, y4, rfl⟩ := list5 hx5
    have h0' : DataW.trod enc Try.prog W 0 (fun _ => true) true m 3 [c0] = some y0 := by simpa [Try.int_cells] using hg 0 _ rfl
    have h1' : DataW.trod enc Try.prog W 0 (fun _ => true) true m 9 [c1] = some y1 := by simpa [q9] using hg 1 _ rfl
    have h2' : DataW.trod enc Try.prog W 0 (fun _ => true) true m 9 [c2] = some y2 := by simpa [q9] using hg 2 _ rfl
    have h3' : DataW.trod enc Try.prog W 0 (fun _ => true) true m 22 [c3] = some y3 := by simpa [q22] using hg 3 _ rfl
    have h4' : DataW.trod enc Try.prog W 0 (fun _ => true) true m 23 [c4] = some y4 := by simpa [q23] using hg 4 _ rfl
    obtain ⟨k, e0, -⟩ := DataW.trod_int Try.underlying3 h0'
    obtain ⟨nm, e1, -⟩ := DataW.trod_string Try.underlying9 h1'
    obtain ⟨tx, e2, -⟩ := DataW.trod_string Try.underlying9 h2'
    simp at e0 e1 e2
    subst e0 e1 e2
    obtain ⟨a3, len3, cap3, el3, rfl, l3, m3, n3, b3, h3⟩ := slice_elems (C := 2) Try.underlying22 (by kernel_rfl) (by omega) h3'
    obtain ⟨a4, len4, cap4, el4, rfl, l4, m4, n4, b4, h4⟩ := slice_elems (C := 5) Try.underlying23 hC (by omega) h4'
    unfold maxLen at m3 m4
    have hA : ∃ al : List (ByteArray × ByteArray), al.length = len3 ∧ CellsIn (Old W.heap.size) W (.slice a3 len3 cap3) al.length (attrL al) := by
      rcases h3 with h3 | ⟨g, off, n, hn, rfl, hgl, h3⟩
      · subst h3
        exact ⟨[], rfl, a3, cap3, rfl, by simp, .inl rfl⟩
      · obtain ⟨al, hal, hac⟩ := attrs_build (g := g) el3 off (fun j y hy => by
          obtain ⟨cs, ht, hcl, hcc⟩ := h3 j y hy
          obtain ⟨ys, m2, -, -, hl2, hxl2, hg2⟩ := DataW.trod_struct Try.underlying155 ht
          obtain ⟨d0, d1, rfl⟩ := list2 hcl
          have hx2 : ys.length = 2 := hxl2
          obtain ⟨z0, z1, rfl⟩ := list2 hx2
          have g0 : DataW.trod enc Try.prog W 0 (fun _ => true) true m2 9 [d0] = some z0 := by simpa [q9] using hg2 0 _ rfl
          have g1 : DataW.trod enc Try.prog W 0 (fun _ => true) true m2 9 [d1] = some z1 := by simpa [q9] using hg2 1 _ rfl
          obtain ⟨p0, f0, -⟩ := DataW.trod_string Try.underlying9 g0
          obtain ⟨p1, f1, -⟩ := DataW.trod_string Try.underlying9 g1
          simp at f0 f1
          subst f0 f1
          exact ⟨(p0, p1), hcc 0 (by omega), hcc 1 (by omega)⟩)
        have hlen : al.length = len3 := by omega
        exact ⟨al, hlen, some ⟨g, off, none⟩, cap3, by rw [hlen], by omega, .inr ⟨g, off, rfl, hgl, hac⟩⟩
    obtain ⟨al, hal, hCA⟩ := hA
    have hK : ∃ (ts : List Tr) (zs : List Value), ts.length = len4 ∧ CellsIn (Old W.heap.size) W (.slice a4 len4 cap4) ts.length zs ∧ KidsAre (Old W.heap.size) W ts zs ∧ Tr.sizes ts ≤ Rows.uptoBulkAll (el4.map (·.1)) := by
      rcases h4 with h4 | ⟨g, off, n, hn, rfl, hgl, h4⟩
      · subst h4
        exact ⟨[], [], rfl, ⟨a4, cap4, rfl, by simp, .inl rfl⟩, by simp [KidsAre], by simp [Tr.sizes]⟩
      · obtain ⟨ts, zs, htl, hkk, hkc, hks⟩ := kids_build (g := g) el4 off (fun j y hy => by
          obtain ⟨cs, ht, hcl, hcc⟩ := h4 j y hy
          obtain ⟨t, av, kv, rfl, h5, h6⟩ := ih n (by omega) ht
          exact ⟨t, av, kv, fun c hc => hcc c hc, h5, h6⟩)
        have hlen : ts.length = len4 := by omega
        exact ⟨ts, zs, hlen, ⟨some ⟨g, off, none⟩, cap4, by rw [hlen], by omega, .inr ⟨g, off, rfl, hgl, hkc⟩⟩, hkk, hks⟩
    obtain ⟨ts, zs, htl, hCK, hKK, hKS⟩ := hK
    refine ⟨.mk k nm tx al ts, .slice a3 len3 cap3, .slice a4 len4 cap4, rfl, ?_, ?_⟩
    · simp only [TrIn]
      exact ⟨hCA, zs, hCK, hKK⟩
    · have hlb : ∀ (l : List (DataW H)), l.length ≤ Rows.uptoBulkAll l := by
        intro l
        induction l with
        | nil => simp
        | cons d r ih2 => have := bulk_pos d; simp only [Rows.uptoBulkAll, List.length_cons]; omega
      have h9 := hlb (el3.map (·.1))
      simp only [List.length_map] at h9
      simp only [Tr.size, Rows.uptoBulk, List.map_cons, List.map_nil, Rows.uptoBulkAll]
      omega
end
end Go.Proofs.Ytinkjhkbaadbpaa
/- The arguments of the statements on axes and views, opened. -/
namespace Go.Proofs.Ytinkjhkbaadbpaa
open Go.Joins Go.ChangeShapes Go.WideShapes Go.RowKit Go.Deep
set_option linter.unusedVariables false

section
variable {H : Type} {enc : TypeId × Value → H} {W : World} {b0 : Nat}
theorem array_list {α : Type} {cs : Array α} {n : Nat} (h : cs.size = n) : ∃ l : List α, cs = l.toArray ∧ l.length = n := by
  obtain ⟨l⟩ := cs
  exact ⟨l, rfl, h⟩
set_option maxRecDepth 100000 in
theorem tree_arg {v : Value} {d : DataW H} {p : List MemPlace} (hv : Value.okWide Try.prog W .any b0 25 v) (h : DataW.Trod enc Try.prog W 0 (fun _ => true) true 25 v d p) :
    ∃ (t : Tr) (av kv : Value), v = trV t av kv ∧ TrIn (Old W.heap.size) W t av kv ∧ t.size ≤ Rows.uptoBulk d := by
  obtain ⟨cs, rfl, hsz⟩ := okWide_struct Try.underlying25 hv
  obtain ⟨l, rfl, hl⟩ := array_list (hsz.trans (by kernel_rfl : Try.prog.cellsOf 25 = 5))
  obtain ⟨c0, c1, c2, c3, c4, rfl⟩ := list5 hl
  obtain ⟨fuel, hf⟩ := h
  have hf' : DataW.trod enc Try.prog W 0 (fun _ => true) true fuel 25 [c0, c1, c2, c3, c4] = some (d, p) := by simpa [Value.cells] using hf
  obtain ⟨t, av, kv, e, h1, h2⟩ := tree_in fuel hf'
  refine ⟨t, av, kv, ?_, h1, h2⟩
  have : (#[c0, c1, c2, c3, c4] : Array Value) = (trL t av kv).toArray := by rw [← e]
  rw [show ([c0, c1, c2, c3, c4] : List Value).toArray = #[c0, c1, c2, c3, c4] from rfl, this]
set_option maxRecDepth 100000 in
theorem ask_arg {v : Value} {d : DataW H} {p : List MemPlace} (hv : Value.okWide Try.prog W .any b0 44 v) (h : DataW.Trod enc Try.prog W 0 (fun _ => true) true 44 v d p) :
    ∃ (id ax : Int) (T : Tst), v = .agg #[iv id, iv ax, .int .i64 T.kind, .string T.name, .bool T.has] := by
  obtain ⟨cs, rfl, hsz⟩ := okWide_struct Try.underlying44 hv
  obtain ⟨l, rfl, hl⟩ := array_list (hsz.trans (by kernel_rfl : Try.prog.cellsOf 44 = 5))
  obtain ⟨c0, c1, c2, c3, c4, rfl⟩ := list5 hl
  obtain ⟨fuel, hf⟩ := h
  have hf' : DataW.trod enc Try.prog W 0 (fun _ => true) true fuel 44 [c0, c1, c2, c3, c4] = some (d, p) := by simpa [Value.cells] using hf
  obtain ⟨xs, m, -, -, -, hxl, hg⟩ := DataW.trod_struct Try.underlying44 hf'
  have hx3 : xs.length = 3 := hxl
  match xs, hx3 with
  | [y0, y1, y2], _ =>
    have q42 : Try.prog.cellsOf 42 = 3 := by kernel_rfl
    have q9 : Try.prog.cellsOf 9 = 1 := by kernel_rfl
    have q4 : Try.prog.cellsOf 4 = 1 := by kernel_rfl
    have h0 : DataW.trod enc Try.prog W 0 (fun _ => true) true m 3 [c0] = some y0 := by simpa [Try.int_cells] using hg 0 _ rfl
    have h1 : DataW.trod enc Try.prog W 0 (fun _ => true) true m 3 [c1] = some y1 := by simpa [Try.int_cells] using hg 1 _ rfl
    have h2 : DataW.trod enc Try.prog W 0 (fun _ => true) true m 42 [c2, c3, c4] = some y2 := by simpa [q42] using hg 2 _ rfl
    obtain ⟨zs, m2, -, -, -, hzl, hg2⟩ := DataW.trod_struct Try.underlying42 h2
    have hz3 : zs.length = 3 := hzl
    match zs, hz3 with
    | [z0, z1, z2], _ =>
      have g0 : DataW.trod enc Try.prog W 0 (fun _ => true) true m2 3 [c2] = some z0 := by simpa [Try.int_cells] using hg2 0 _ rfl
      have g1 : DataW.trod enc Try.prog W 0 (fun _ => true) true m2 9 [c3] = some z1 := by simpa [q9] using hg2 1 _ rfl
      have g2 : DataW.trod enc Try.prog W 0 (fun _ => true) true m2 4 [c4] = some z2 := by simpa [q4] using hg2 2 _ rfl
      obtain ⟨id, e0, -⟩ := DataW.trod_int Try.underlying3 h0
      obtain ⟨ax, e1, -⟩ := DataW.trod_int Try.underlying3 h1
      obtain ⟨k, f0, -⟩ := DataW.trod_int Try.underlying3 g0
      obtain ⟨nm, f1, -⟩ := DataW.trod_string Try.underlying9 g1
      obtain ⟨hs, f2, -⟩ := DataW.trod_bool Try.underlying4 g2
      simp at e0 e1 f0 f1 f2
      subst e0 e1 f0 f1 f2
      exact ⟨id, ax, ⟨k, nm, hs⟩, rfl⟩
set_option maxRecDepth 100000 in
theorem two_arg {v : Value} {d : DataW H} {p : List MemPlace} (hv : Value.okWide Try.prog W .any b0 27 v) (h : DataW.Trod enc Try.prog W 0 (fun _ => true) true 27 v d p) :
    ∃ (a b : Int), v = .agg #[iv a, iv b] := by
  have hv2 := hv
  simp only [Value.okWide, Try.underlying27] at hv2
  obtain ⟨cs, rfl, hsz, -⟩ := hv2
  obtain ⟨l, rfl, hl⟩ := array_list (hsz.trans (by kernel_rfl : Try.prog.cellsOf 27 = 2))
  obtain ⟨c0, c1, rfl⟩ := list2 hl
  obtain ⟨fuel, hf⟩ := h
  have hf' : DataW.trod enc Try.prog W 0 (fun _ => true) true fuel 27 [c0, c1] = some (d, p) := by simpa [Value.cells] using hf
  obtain ⟨xs, m, -, -, -, hxl, hg⟩ := DataW.trod_array Try.underlying27 hf'
  match xs, hxl with
  | [y0, y1], _ =>
    have h0 : DataW.trod enc Try.prog W 0 (fun _ => true) true m 3 [c0] = some y0 := by simpa [Try.int_cells] using hg 0 (by omega)
    have h1 : DataW.trod enc Try.prog W 0 (fun _ => true) true m 3 [c1] = some y1 := by simpa [Try.int_cells] using hg 1 (by omega)
    obtain ⟨a, e0, -⟩ := DataW.trod_int Try.underlying3 h0
    obtain ⟨b, e1, -⟩ := DataW.trod_int Try.underlying3 h1
    simp at e0 e1
    subst e0 e1
    exact ⟨a, b, rfl⟩
end
end Go.Proofs.Ytinkjhkbaadbpaa
/- An argument of 16 bits. -/
namespace Go.Proofs.Ytinkjhkbaadbpaa
open Go.ChangeShapes Go.WideShapes Go.ChangeAt Go.RowKit
set_option linter.unusedVariables false
set_option maxRecDepth 100000

theorem u16_arg {W : World} {b0 : Nat} {v : Value} (hv : Value.okWide Try.prog W .any b0 49 v) : ∃ n : Int, v = .int .u16 n ∧ 0 ≤ n ∧ n < 65536 := by
  have hu : Try.prog.underlying 49 = some (.int .u16) := Try.underlying49
  obtain ⟨n, rfl⟩ := okWide_int hu hv
  simp only [Value.okWide, hu, Cell.okWide] at hv
  simp only [Cell.ok, hu] at hv
  have h2 : (0 : Int) ≤ n ∧ n ≤ 65535 := hv.2
  exact ⟨n, rfl, h2.1, by omega⟩
end Go.Proofs.Ytinkjhkbaadbpaa
