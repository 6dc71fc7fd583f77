/- Count. -/
import Derived.Test.YtinkjhkbaadbpaaEA
namespace Go.Proofs.Ytinkjhkbaadbpaa
open Go.RowKit Go.Shelf
set_option linter.unusedVariables false
attribute [local go_sem] Oper.semAt_some

def countOf (S : Store) (zs : List Int) : Int := (zs.map fun id => ((S.N id).length : Int)).sum
theorem countOf_snoc (S : Store) (zs : List Int) (x : Int) : countOf S (zs ++ [x]) = countOf S zs + (S.N x).length := by simp [countOf]
theorem countOf_bound {S : Store} (h : ∀ id, (S.N id).length ≤ 1000000) : ∀ (zs : List Int), 0 ≤ countOf S zs ∧ countOf S zs ≤ zs.length * 1000000
  | [] => by simp [countOf]
  | x :: xs => by
    have h1 := countOf_bound h xs
    have h2 := h x
    simp only [countOf, List.map_cons, List.sum_cons, List.length_cons] at *
    omega
theorem idsOf_length {S : Store} {zs : List Int} (h : IdsOf S zs) (hK : S.Keys) (hg0 : 0 ≤ S.given) : (zs.length : Int) ≤ S.given := by
  have := rising_bound (a := 1) (b := S.given) h.1 (fun x hx => hK x ((h.2 x).1 hx))
  omega
theorem chg_boxed {M : Nat → Prop} {A A' : World} {b : Nat} {t : TypeId} {v : Value} (hc : Chg M A A') (hb : ¬ M b) (h : Boxed A b t v) : Boxed A' b t v := (hc.block b h.lt hb).trans h

theorem below_putObj {B l : Nat} (w : World) (h : B ≤ l) (o : Obj) : Below B w (w.putObj l o) := ⟨rfl, rfl, rfl, by simp [World.putObj], fun k hk => World.putObj_heap_other (by omega)⟩

set_option maxRecDepth 100000 in
set_option maxHeartbeats 4000000 in
theorem count_any {R D : Nat → Prop} {w : World} {p : Value} {S : Store} (h : StoreIn R D w p S) (hK : S.Keys) (hR : ∀ k, R k → k < w.heap.size) (hD : ∀ k, D k → k < w.heap.size) (hg0 : 0 ≤ S.given) (hg : S.given ≤ 1099511627776) (hlen : ∀ id, (S.N id).length ≤ 1000000) :
    Calls Try.prog 49 #[p] w fun e w' => (∃ zs, IdsOf S zs ∧ e = .returned (.int .i64 (countOf S zs))) ∧ Below w.heap.size w w' := by
  have hkeep := fun (w' : World) (hb : Below w.heap.size w w') => h.keep (w' := w') ((keeps_below hb).mono hR) ((keeps_below hb).mono hD)
  have HE := Lib.hid (fun (w' : World) (hb : Below w.heap.size w w') => each_any (hkeep w' hb) hK hg0 hg)
  have HKP := Lib.hid hkeep
  clear hkeep
  obtain ⟨s, m, f, rfl, hs, hm, hb, hf, h1, h2, h3⟩ := h
  have hslt : s < w.heap.size := hR s hs
  have hb1 : ∀ o, Below w.heap.size w (w.alloc o) := fun o => (Below.refl _ w).alloc (Nat.le_refl _) _
  have c0 : w.cell? ⟨s, 0, none⟩ = some (.map (some m)) := by simp [World.cell?, hb]
  have c0' : ∀ o, (w.alloc o).cell? ⟨s, 0, none⟩ = some (.map (some m)) := fun o => ((hb1 o).cell (p := ⟨s, 0, none⟩) hslt).trans c0
  have HB := Lib.hid hb
  have HF := Lib.hid hf
  have H1 := Lib.hid h1
  have H2 := Lib.hid h2
  clear hb hf h1 h2 h3
  refine (callsIn_wide (n := 10)).1 ?_
  refine callsIn_of_wp_marks Try.func49 rfl trivial ?_ rfl
  simp only [Try.ntmps49, List.size_toArray, List.length_cons, List.length_nil, Nat.reduceAdd, Nat.reduceSub, Array.replicate_succ, Array.replicate_zero, List.push_toArray, List.append_toArray, List.nil_append, List.cons_append]
  gi_wp2_with (first
    | (refine ⟨trivial, ?_⟩; gi_at_call 91; refine (callsIn_wide.2 (none_no s m _ (c0' _))).mono ?_; rintro e w' ⟨rfl, rfl⟩)
    | (gi_at_call 91; refine (callsIn_wide.2 (none_no s m _ (c0' _))).mono ?_; rintro e w' ⟨rfl, rfl⟩))
  have hb2 : Below w.heap.size w ((w.alloc (.cells #[.pointer (some ⟨s, 0, none⟩)] 68)).alloc (.cells #[.int .i64 0] 3)) := (hb1 _).alloc (by simp) _
  refine ⟨trivial, (callsIn_wide.2 (HE.out _ hb2)).mono ?_⟩
  rintro e w3 ⟨B, sv, zs, rfl, hsv, hB1, hB2, hints, hids, hbel⟩
  have bP : Boxed w3 w.heap.size 68 (.pointer (some ⟨s, 0, none⟩)) := (hbel.block w.heap.size (by simp; omega)).trans ((Go.heap_alloc_old _ _ (by simp)).trans (Go.heap_alloc_new w _))
  have bN : Boxed w3 (w.heap.size + 1) 3 (.int .i64 0) := (hbel.block (w.heap.size + 1) (by simp)).trans (by simpa using Go.heap_alloc_new (w.alloc (.cells #[.pointer (some ⟨s, 0, none⟩)] 68)) (.cells #[.int .i64 0] 3))
  have hb3 : Below w.heap.size w w3 := hb2.trans (hbel.mono (by simp; omega))
  have hs3 : w.heap.size + 2 ≤ w3.heap.size := by have := hbel.size; simp at this; omega
  simp only [World.size_alloc] at hB1
  have hidl := idsOf_length hids hK hg0
  have BP := Lib.hid bP
  have BN := Lib.hid bN
  have HIDS := Lib.hid hids
  clear bP bN hids
  gi_wp2
  refine wpIn_rangeFunc_gives rfl (by omega) (gf := 144) (lb := #[.pointer (some ⟨B, 0, none⟩)]) rfl trivial (enters_of Try.func144 (by kernel_rfl) rfl)
    (values_gives 9 (by omega) B _ sv zs w3 hsv hints) (Keeps.refl _ _) (fun k hk => by rcases hk with rfl | h; exact hB2; exact h.2) (fun _ => rfl)
    (fun pre M W => (∀ k, M k ↔ k = w.heap.size + 1) ∧ Boxed W (w.heap.size + 1) 3 (.int .i64 (countOf S pre)) ∧ Boxed W w.heap.size 68 (.pointer (some ⟨s, 0, none⟩)) ∧ Below w.heap.size w W)
    (fun _ _ _ _ => False)
    (fun pre M A A' ⟨i1, i2, i3, i4⟩ hc => ⟨i1, chg_boxed hc (fun h => h.2 ((i1 _).2 rfl)) i2, chg_boxed hc (fun h => by omega) i3, i4.trans ⟨hc.os, hc.tape, hc.output, hc.size, fun k hk => hc.block k (by have := i4.size; omega) (fun h => by omega)⟩⟩)
    (fun _ _ _ _ _ hs _ => hs) (fun k => k = w.heap.size + 1) (fun k hk => ⟨by omega, fun h => by rcases h with rfl | h; omega; have := h.1; simp at this; omega⟩)
    ⟨fun _ => Iff.rfl, BN.out, BP.out, hb3⟩
    (fun x => { tmps := #[.pointer (some ⟨s, 0, none⟩), .pointer (some ⟨w.heap.size, 0, none⟩), .int .i64 0, .pointer (some ⟨w.heap.size + 1, 0, none⟩), .int .i64 x, .pointer (some ⟨s, 0, none⟩), .bool false, .pointer (some ⟨s, 0, none⟩), .func (.func 144) #[] #[.pointer (some ⟨B, 0, none⟩)], .int .i64 x, undef, undef, undef, undef, undef, undef, undef, undef, undef, undef], defers := [] }) ?assign ?body ?done ?stop
  case assign =>
    intro l x W K hK
    gi_wp2
    exact hK
  case body =>
    rintro l pre x M W hpre hsz ⟨i1, i2, i3, i4⟩
    have d0 := i2.cell
    have d1 := i2.frozen
    have d2 := i3.cell
    have d3 : W.cell? ⟨s, 0, none⟩ = some (.map (some m)) := (i4.cell (p := ⟨s, 0, none⟩) hslt).trans c0
    have hpl : pre.length ≤ zs.length := by have := hpre.length_le; simp at this; omega
    have hbnd := countOf_bound hlen pre
    have hbx := hlen x
    have hmW : MapIs iv W m f := HF.out.keep (i4.block m HF.out.lt)
    obtain ⟨sa, cap, hlk⟩ : ∃ sa cap, (Instr.lookup 96 (.map (some m)) (.int .i64 x) false).run Try.prog W.drew = .ok (.slice sa (S.N x).length cap) W.drew := by
      cases e : f x with
      | none =>
        refine ⟨none, 0, ?_⟩
        have := (hmW.keep (w' := W.drew) rfl).look key3 Try.underlying96 Try.zero79 x false
        rw [e] at this
        rw [H2.out x e]
        exact this
      | some v =>
        obtain ⟨-, g, cap, xs, rfl, -⟩ := H1.out x v e
        refine ⟨some ⟨g, 0, none⟩, cap, ?_⟩
        have := (hmW.keep (w' := W.drew) rfl).look key3 Try.underlying96 Try.zero79 x false
        rw [e] at this
        exact this
    have I1 := Lib.hid i1
    have I2 := Lib.hid i2
    have I3 := Lib.hid i3
    have I4 := Lib.hid i4
    clear i1 i2 i3 i4 hmW
    have hmx : Try.prog.follows .mixedOrders = true := by kernel_rfl
    gi_wp2
    gi_region_with_o (fail)
    all_goals gi_wp2
    all_goals (try go_bits)
    all_goals
      refine ⟨M, ((chg_set (M := M) (w := W) (b := w.heap.size + 1) ((I1.out _).2 rfl) 0 (.int .i64 (countOf S pre + (S.N x).length))).trans (chg_drewN _ 1)), fun k hk => .inl hk, I1.out, ?_, ?_, ?_⟩
      · rw [countOf_snoc]
        have := heap_setCell_same W (w.heap.size + 1) 0 _ _ (.int .i64 (countOf S pre + (S.N x).length)) I2.out
        show (W.setCell ⟨w.heap.size + 1, 0, none⟩ (.int .i64 (countOf S pre + (S.N x).length))).heap[w.heap.size + 1]? = _
        simpa using this
      · exact (heap_setCell_other W ⟨w.heap.size + 1, 0, none⟩ _ _ (by simp)).trans I3.out
      · exact below_drewN (below_setAt I4.out (by omega) 0 _) 1
  case done =>
    rintro Dd M W hD hMD ⟨i1, i2, i3, i4⟩ hK
    have d0 := i2.cell
    gi_wp2
    refine ⟨by simp, .inl ⟨_, _, rfl, run_takeDeferred hK, ?_⟩⟩
    exact ⟨_, results_tmp rfl _ _ _, ⟨zs, HIDS.out, rfl⟩, i4.trans (below_putObj _ (by omega) _)⟩
  case stop =>
    rintro Dd c pre M W _ _ _ h _
    exact h.elim
end Go.Proofs.Ytinkjhkbaadbpaa
