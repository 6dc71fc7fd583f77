/- The store's 'works'. -/
import Derived.Test.YtinkjhkbaadbpaaIN
namespace Go.Proofs.Ytinkjhkbaadbpaa
open Go.RowKit
set_option linter.unusedVariables false

theorem StoreIn.bound {R D : Nat → Prop} {w : World} {p : Value} {S : Store} (h : StoreIn R D w p S) : StoreIn (fun k => R k ∧ k < w.heap.size) D w p S := by
  obtain ⟨s, m, f, rfl, hs, hm, hb, hf, h1, h2, h3⟩ := h
  refine ⟨s, m, f, rfl, ⟨hs, (Array.getElem?_eq_some_iff.1 hb).1⟩, ⟨hm, hf.lt⟩, hb, hf, fun id v e => ?_, h2, h3⟩
  obtain ⟨hne, g, cap, xs, rfl, hg, ho, hv⟩ := h1 id v e
  exact ⟨hne, g, cap, xs, rfl, ⟨hg, (ownsRow_base ho rfl).2⟩, ho, hv⟩

def bA : ByteArray := ⟨#[97]⟩
def recA : Rec := ⟨2, bA, ⟨#[]⟩, 1, [], [], false⟩
def S1 : Store := { Store.fresh with given := 2 }
def S2 : Store := S1.put 5 [⟨2, recA⟩]
theorem bA_list : bA.toList = [97] := by kernel_rfl
theorem S1_wf : S1.Wf := ⟨Store.fresh_wf.rise, Store.fresh_wf.last, Store.fresh_wf.ok, Store.fresh_wf.len⟩
theorem S2_N (id : Int) : S2.N id = if id = 2 then [⟨5, recA⟩] else if id = 1 then [⟨0, Rec.root⟩] else [] := by
  simp only [S2, Store.put, List.foldl_cons, List.foldl_nil, putN, S1, Store.fresh]
  by_cases e : id = 2
  · subst e; simp
  · simp [e]
theorem S2_wf : S2.Wf where
  rise id := by
    rw [S2_N]
    by_cases e : id = 2
    · simp [e]
    · by_cases e1 : id = 1 <;> simp [e, e1]
  last id v hv := by
    rw [S2_N] at hv
    split at hv
    · simp at hv; simp [hv, S2, Store.put]
    · split at hv
      · simp at hv; simp [hv]
      · simp at hv
  ok id v hv := by
    rw [S2_N] at hv
    split at hv
    · simp at hv; subst hv; exact ⟨by decide, by decide⟩
    · split at hv
      · simp at hv; subst hv; exact ⟨by decide, by decide⟩
      · simp at hv
  len id := by
    rw [S2_N]
    by_cases e : id = 2
    · simp [e]
    · by_cases e1 : id = 1 <;> simp [e, e1]
theorem S2_len (id : Int) : (S2.N id).length ≤ 1000000 := by
  rw [S2_N]
  by_cases e : id = 2
  · simp [e]
  · by_cases e1 : id = 1 <;> simp [e, e1]
theorem S2_keys : S2.Keys := by
  intro id h
  rw [S2_N] at h
  show 1 ≤ id ∧ id ≤ 2
  split at h
  · omega
  · split at h
    · omega
    · simp at h
theorem S2_at5 : S2.at 2 5 = some recA := by
  unfold Store.at; rw [S2_N]; rfl
theorem S2_at4 : S2.at 2 4 = none := by
  unfold Store.at; rw [S2_N]; rfl
theorem rising_two {zs : List Int} (h : zs.Pairwise (· < ·)) (hm : ∀ id, id ∈ zs ↔ id = 1 ∨ id = 2) : zs = [1, 2] := by
  match zs, h, hm with
  | [], _, hm => have := (hm 1).2 (.inl rfl); simp at this
  | [a], _, hm =>
    have h1 := (hm 1).2 (.inl rfl)
    have h2 := (hm 2).2 (.inr rfl)
    simp at h1 h2; omega
  | [a, b], h, hm =>
    have h1 := (hm 1).2 (.inl rfl)
    have h2 := (hm 2).2 (.inr rfl)
    simp at h h1 h2
    have : a = 1 := by omega
    have : b = 2 := by omega
    simp [*]
  | a :: b :: c :: r, h, hm =>
    have h1 := (hm a).1 (by simp)
    have h2 := (hm b).1 (by simp)
    have h3 := (hm c).1 (by simp)
    simp at h
    have := h.1.1; have := h.2.1.1
    omega
theorem S2_count {zs : List Int} (h : IdsOf S2 zs) : countOf S2 zs = 2 := by
  have : zs = [1, 2] := rising_two h.1 (fun id => by
    rw [h.2 id, S2_N]
    by_cases e : id = 2
    · simp [e]
    · by_cases e1 : id = 1
      · simp [e1]
      · simp [e, e1])
  subst this
  simp [countOf, S2_N]
theorem okA : okL S1.given [] [⟨2, recA⟩] = true := by simp [okL, bad1, rightR, recA, S1, allPos]

set_option maxRecDepth 100000 in
set_option maxHeartbeats 4000000 in
theorem works_any (w : World) : Calls Try.prog 38 #[] w fun e w' => e = .returned (.bool true) ∧ Below w.heap.size w w' := by
  go_enter Try.func38, Try.ntmps38
  go_wp2_with fail
  refine (new_any (fun _ => False) w).mono ?_
  rintro e w1 ⟨⟨p, rfl, hst⟩, hb1⟩
  have hst1 := hst.bound
  obtain ⟨s, m, f, rfl, -⟩ := hst
  go_wp2_with fail
  refine (fresh_any hst1 (fun k h => fun f => f) (by decide) (by decide)).mono ?_
  rintro e w2 ⟨rfl, hst2, hc2⟩
  simp only [show Store.fresh.given + 1 = 2 from rfl] at *
  have hs12 : w1.heap.size ≤ w2.heap.size := hc2.size
  have hbw2 : Below w.heap.size w w2 := hb1.trans ⟨hc2.os, hc2.tape, hc2.output, hc2.size, fun k hk => hc2.block k (Nat.lt_of_lt_of_le hk hb1.size) (fun h => absurd h.1 (Nat.not_le_of_lt hk))⟩
  have hb3 : Below w2.heap.size w2 (w2.alloc (.cells #[.int .i64 2, .int .i64 2, .string bA, .string ⟨#[]⟩, .int .i64 1, .slice none 0 0, .slice none 0 0, .bool false] 125)) := (Below.refl _ _).alloc (Nat.le_refl _) _
  have hchn : ChnsIn (fun k => k = w2.heap.size) (w2.alloc (.cells #[.int .i64 2, .int .i64 2, .string bA, .string ⟨#[]⟩, .int .i64 1, .slice none 0 0, .slice none 0 0, .bool false] 125)) (.slice (some ⟨w2.heap.size, 0, none⟩) 1 1) [⟨2, recA⟩] := by
    refine ⟨_, 1, rfl, Nat.le_refl _, by decide, .inr ⟨w2.heap.size, 0, rfl, rfl, fun k c hk => ?_⟩⟩
    match k, hk with
    | 0, hk =>
      simp at hk
      subst hk
      refine ⟨.slice none 0 0, .slice none 0 0, intsIn_nil _ _, intsIn_nil _ _, fun j x hx => ?_⟩
      simpa [recA] using hx
  have hst3 : StoreIn (fun k => New w.heap.size k ∧ k < w1.heap.size) (fun _ => False) (w2.alloc (.cells #[.int .i64 2, .int .i64 2, .string bA, .string ⟨#[]⟩, .int .i64 1, .slice none 0 0, .slice none 0 0, .bool false] 125)) (.pointer (some ⟨s, 0, none⟩)) S1 :=
    hst2.keep ((keeps_below hb3).mono (fun k hk => Nat.lt_of_lt_of_le hk.2 hs12)) (fun k hk => hk.elim)
  have hin := install_any hst3 S1_wf 5 (by decide) [⟨2, recA⟩] _ hchn (fun k hk => by subst hk; exact ⟨by simp, fun h => absurd h.2 (Nat.not_lt_of_le hs12)⟩) (fun k hk => by rw [World.size_alloc]; exact Nat.lt_succ_of_lt (Nat.lt_of_lt_of_le hk.2 hs12)) (fun k hk => hk.elim) (fun k _ h => h)
    (fun id => by simp only [S1, Store.fresh]; split <;> simp) (fun c hc => by simp at hc; subst hc; exact ⟨by decide, by decide⟩)
  have HIN := Lib.hid hin
  clear hin hchn hst3 hst2 hst1
  go_wp2_with fail
  refine HIN.out.mono ?_
  rintro e w4 (⟨hno, _⟩ | ⟨-, rfl, hc4, R', D', hSA, hR', hD'⟩)
  · rw [okA] at hno; cases hno
  have hSA2 : StoreAt R' D' w4 (.pointer (some ⟨s, 0, none⟩)) S2 := hSA
  have hbw4 : Below w.heap.size w w4 := (hbw2.trans (hb3.mono hbw2.size)).trans ⟨hc4.os, hc4.tape, hc4.output, hc4.size, fun k hk => hc4.block k (by rw [World.size_alloc]; exact Nat.lt_succ_of_lt (Nat.lt_of_lt_of_le hk hbw2.size)) (fun h => absurd h.1 (Nat.not_le_of_lt hk))⟩
  have h5 := at_any hSA2.is S2_wf hSA2.dlt 2 5
  rw [S2_at5] at h5
  have H5 := Lib.hid h5
  have HSA := Lib.hid hSA2
  clear h5 hSA hSA2 HIN hR' hD'
  go_wp2_with fail
  refine H5.out.mono ?_
  rintro e w5 ⟨⟨kv, av, rfl, ⟨ka, kc, rfl, -⟩, ⟨aa, ac, rfl, -⟩⟩, hb5⟩
  simp only [recV, recA, Option.getD, Option.isSome]
  go_wp2_with fail
  have HB45 := Lib.hid hb5
  have hb6 : Below w4.heap.size w4 (w5.alloc (.cells #[.int .i64 2, .string bA, .string ⟨#[]⟩, .int .i64 1, .slice ka 0 kc, .slice aa 0 ac, .bool false] 52)) := hb5.alloc hb5.size _
  have hg6 := Go.heap_alloc_new w5 (.cells #[.int .i64 2, .string bA, .string ⟨#[]⟩, .int .i64 1, .slice ka 0 kc, .slice aa 0 ac, .bool false] 52)
  have hs6 : (w5.alloc (.cells #[.int .i64 2, .string bA, .string ⟨#[]⟩, .int .i64 1, .slice ka 0 kc, .slice aa 0 ac, .bool false] 52)).heap.size = w5.heap.size + 1 := by simp
  have h6 := at_any (storeIn_chg (R' := R') (D' := D') HSA.out.is hb6 HSA.out.rlt HSA.out.dlt) S2_wf (fun k hk => Nat.lt_of_lt_of_le (HSA.out.dlt k hk) hb6.size) 2 4
  rw [S2_at4] at h6
  have H6 := Lib.hid h6
  have HB6 := Lib.hid hb6
  have HG6 := Lib.hid hg6
  clear h6 hb6 hg6 hb5
  refine H6.out.mono ?_
  rintro e w7 ⟨⟨kv, av, rfl, ⟨kb, kd, rfl, -⟩, ⟨ab, ad, rfl, -⟩⟩, hb7⟩
  simp only [recV, Rec.zero, Option.getD, Option.isSome, List.length_nil]
  have c7 : ∀ o, (w7.alloc o).cell? ⟨w5.heap.size, 1, none⟩ = some (.string bA) := fun o => by
    have hlt : w5.heap.size < w7.heap.size := by have := hb7.size; omega
    have h1 : w7.heap[w5.heap.size]? = _ := (hb7.block w5.heap.size (by omega)).trans HG6.out
    have h2 : (w7.alloc o).heap[w5.heap.size]? = _ := (Go.heap_alloc_old w7 o hlt).trans h1
    simp [World.cell?, h2]
  have hb8 : ∀ o, Below w4.heap.size w4 (w7.alloc o) := fun o => (HB6.out.trans (hb7.mono HB6.out.size)).alloc (Nat.le_trans HB6.out.size hb7.size) o
  have h8 := fun o => count_any (storeIn_chg (R' := R') (D' := D') HSA.out.is (hb8 o) HSA.out.rlt HSA.out.dlt) S2_keys (fun k hk => Nat.lt_of_lt_of_le (HSA.out.rlt k hk) (hb8 o).size) (fun k hk => Nat.lt_of_lt_of_le (HSA.out.dlt k hk) (hb8 o).size) (by decide) (by decide) S2_len
  have H8 := Lib.hid h8
  have HB8 := Lib.hid hb8
  clear h8 hb8 hb7
  have hbA := bA_list
  go_wp2_with (go_at_call 49; refine (H8.out _).mono ?_; rintro e w9 ⟨⟨zs, hzs, rfl⟩, hb9⟩; have hcz := S2_count hzs; have HB9 := Lib.hid hb9; clear hb9 hzs)
  go_ret
  exact ⟨rfl, hbw4.trans (((HB8.out _).mono hbw4.size).trans (HB9.out.mono (Nat.le_trans hbw4.size (HB8.out _).size)))⟩
end Go.Proofs.Ytinkjhkbaadbpaa
