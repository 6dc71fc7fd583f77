/- slices.AppendSeq and slices.Collect at int; Ids. -/
import Derived.Test.YtinkjhkbaadbpaaCO
import Derived.Maps.OwnIn
namespace Go.Proofs.Ytinkjhkbaadbpaa
open Go.RowKit Go.Shelf
set_option linter.unusedVariables false
attribute [local go_sem] Oper.semAt_some

theorem slice_form {w : World} {B e size n : Nat} {v : Value} {xs : List Value} (h : w.ownsRow B e size v n xs) : ∃ a m c, v = .slice a m c := by
  rcases h.2 with ⟨rfl, _⟩ | ⟨g, cp, cur, rfl, _⟩
  · exact ⟨_, _, _, rfl⟩
  · exact ⟨_, _, _, rfl⟩
set_option maxRecDepth 100000 in
set_option maxHeartbeats 4000000 in
theorem appendSeq_any {w : World} {B : Nat} {sv : Value} {D : Nat → Prop} {zs : List Int} (hsv : w.cell? ⟨B, 0, none⟩ = some sv) (hI : IntsIn D w sv zs) (hB : B < w.heap.size) (hD : ∀ k, D k → k < w.heap.size) (hl : zs.length ≤ 1099511627776) :
    Calls Try.prog 126 #[.slice none 0 0, .func (.func 144) #[] #[.pointer (some ⟨B, 0, none⟩)]] w fun e w' => (∃ v, e = .returned v ∧ IntsIn (fun k => w.heap.size ≤ k ∧ k < w'.heap.size) w' v zs) ∧ Below w.heap.size w w' := by
  obtain ⟨i0, hi, hz0, hz1, hz2⟩ := info_parts Try.info3
  have hb1 : ∀ o, Below w.heap.size w (w.alloc o) := fun o => (Below.refl _ w).alloc (Nat.le_refl _) _
  have hsv' : ∀ o, (w.alloc o).cell? ⟨B, 0, none⟩ = some sv := fun o => ((hb1 o).cell (p := ⟨B, 0, none⟩) hB).trans hsv
  have hI' : ∀ o, IntsIn D (w.alloc o) sv zs := fun o => hI.keep ((keeps_below (hb1 o)).mono hD)
  have bN : ∀ o, (w.alloc o).heap[w.heap.size]? = some o := fun o => Go.heap_alloc_new w o
  have BN := Lib.hid bN
  clear hsv hI
  refine (callsIn_wide (n := 10)).1 ?_
  refine callsIn_of_wp_marks Try.func126 rfl trivial ?_ rfl
  simp only [Try.ntmps126, List.size_toArray, List.length_cons, List.length_nil, Nat.reduceAdd, Nat.reduceSub, Array.replicate_succ, Array.replicate_zero, List.push_toArray, List.append_toArray, List.nil_append, List.cons_append]
  gi_wp2
  refine wpIn_rangeFunc_gives rfl (by omega) (gf := 144) (lb := #[.pointer (some ⟨B, 0, none⟩)]) rfl trivial (enters_of Try.func144 (by kernel_rfl) rfl)
    (values_gives 9 (by omega) B _ sv zs (w.alloc (.cells #[.slice none 0 0] 33)) (hsv' _) (hI' _)) (Keeps.refl _ _) (fun k hk => by rcases hk with rfl | h; exact Nat.lt_of_lt_of_le hB (by simp); exact Nat.lt_of_lt_of_le (hD k h) (by simp)) (fun _ => rfl)
    (fun pre M W => ∃ v, Boxed W w.heap.size 33 v ∧ W.ownsRow (w.heap.size + 1) 3 1 v pre.length (pre.map iv) ∧ (∀ k, M k ↔ k = w.heap.size ∨ v.ownBlock = some k) ∧ Below w.heap.size w W)
    (fun _ _ _ _ => False)
    (fun pre M A A' ⟨v, i1, i2, i3, i4⟩ hc => ⟨v, chg_boxed hc (fun h => h.2 ((i3 _).2 (.inl rfl))) i1, ownsRow_keeps i2 (fun g hg => hc.block g (ownsRow_base i2 hg).2 (fun h => h.2 ((i3 _).2 (.inr hg)))), i3, i4.trans ⟨hc.os, hc.tape, hc.output, hc.size, fun k hk => hc.block k (by have := i4.size; omega) (fun h => by have := h.1; simp at this; omega)⟩⟩)
    (fun _ _ _ _ _ hs _ => hs) (fun k => k = w.heap.size) (fun k hk => ⟨by rw [hk]; simp, fun h => by rcases h with h | h; omega; have := hD k h; omega⟩)
    ⟨.slice none 0 0, BN.out _, World.ownsRow_nil _ _ _ _, fun k => by simp [Value.ownBlock], hb1 _⟩
    (fun x => { tmps := #[.slice none 0 0, .func (.func 144) #[] #[.pointer (some ⟨B, 0, none⟩)], .pointer (some ⟨w.heap.size, 0, none⟩), undef, .slice none 0 0, .int .i64 x, .func (.func 144) #[] #[.pointer (some ⟨B, 0, none⟩)], .int .i64 x, undef, undef, undef, undef, undef], defers := [] }) ?assign ?body ?done ?stop
  case assign =>
    intro l x W K hK
    gi_wp2
    exact hK
  case body =>
    rintro l pre x M W hpre hsz ⟨v, i1, i2, i3, i4⟩
    have d0 := i1.cell
    have d1 := i1.frozen
    have hpl : pre.length ≤ zs.length := by have := hpre.length_le; simp at this; omega
    have hlt := i1.lt
    have I1 := Lib.hid i1
    have I2 := Lib.hid i2
    have I3 := Lib.hid i3
    have I4 := Lib.hid i4
    have hsz' : w.heap.size + 1 ≤ W.heap.size := by simpa using hsz
    clear i1 i2 i3 i4 hsz
    have hmx : Try.prog.follows .mixedOrders = true := by kernel_rfl
    gi_wp2_with ((gi_at_builtin; refine wpListIn_append_own_at _ rfl _ _ 33 rfl (w.heap.size + 1) 3 i0 (.int .i64 0) 1 8 Try.underlying33 hi hz0 hz1 hz2 rfl (by decide) _ _ _ rfl (ownsRow_alloc I2.out _) ⟨W.heap.size, 0, none⟩ 1 1 [iv x] rfl rfl (cell_one_new _ _ _) (by simp [Value.oneCell']) (by unfold maxLen; omega) (by omega) (by simp; omega) ?_; intro v' w2 hown2 hgrow hnil hloc; obtain ⟨a2, n2, cp2, rfl⟩ := slice_form hown2; have hkb := (hgrow.block w.heap.size (by simp; omega) (fun e => by have := (ownsRow_base I2.out e.symm).1; omega)).trans (Go.heap_alloc_old W _ hlt); have q0 := (World.cell?_of_block (a := ⟨w.heap.size, 0, none⟩) hkb).trans d0; have q1 : w2.frozen? ⟨w.heap.size, 0, none⟩ = false := free_block (hkb.trans I1.out) 0))
    have hch : Chg M W w2 := (chg_alloc W _).trans (chg_grown hgrow (fun k e => (I3.out k).2 (.inr e)))
    have hbox : M w.heap.size := (I3.out _).2 (.inl rfl)
    generalize hv' : Value.slice a2 n2 cp2 = v' at *
    refine ⟨fun k => k = w.heap.size ∨ v'.ownBlock = some k, hch.trans (chg_set hbox 0 _), ?_, v', ?_, ?_, fun _ => Iff.rfl, ?_⟩
    · rintro k (h | h)
      · exact .inl ((I3.out k).2 (.inl h))
      · rcases hloc with e | e
        · exact .inl ((I3.out k).2 (.inr (e.symm.trans h)))
        · rw [e] at h; cases h; exact .inr (by simp)
    · have := heap_setCell_same w2 w.heap.size 0 _ _ v' (hkb.trans I1.out)
      unfold Boxed
      simpa using this
    · rw [List.length_append, List.map_append]
      exact ownsRow_keeps hown2 (fun g hg => heap_setCell_other _ _ _ _ (by have := (ownsRow_base hown2 hg).1; simp; omega))
    · refine I4.out.trans ?_
      have hc2 := hch.trans (chg_set (w := w2) hbox 0 v')
      exact ⟨hc2.os, hc2.tape, hc2.output, hc2.size, fun k hk => hc2.block k (by omega) (fun h => by
        rcases (I3.out k).1 h with h | h
        · omega
        · have := (ownsRow_base I2.out h).1; omega)⟩
  case done =>
    rintro Dd M W hD2 hMD ⟨v, i1, i2, i3, i4⟩ hK
    have d0 := i1.cell
    gi_wp2
    refine ⟨by simp, .inl ⟨_, _, rfl, run_takeDeferred hK, ?_⟩⟩
    have hsz : w.heap.size + 1 ≤ Dd := by simpa using hD2
    have hDl : Dd ≠ w.heap.size := by omega
    have hx := (intsIn_row i2).bound
    refine ⟨_, results_tmp rfl _ _ _, ⟨_, rfl, ?_⟩, i4.trans (below_putObj _ (by omega) _)⟩
    have hDv : v.ownBlock ≠ some Dd := fun e => hMD ((i3 _).2 (.inr e))
    have hx2 : IntsIn (fun k => w.heap.size ≤ k ∧ k < W.heap.size ∧ k ≠ Dd) W v zs := by
      rcases i2.2 with ⟨rfl, h0⟩ | ⟨g, cp, cur, rfl, hbg, hg, h1, h2, h3, h4⟩
      · obtain rfl : zs = [] := List.eq_nil_of_length_eq_zero h0
        exact intsIn_nil _ _
      · obtain ⟨a, c, e, q1, q2, q3⟩ := hx
        cases e
        refine ⟨_, _, rfl, q1, q2, ?_⟩
        rcases q3 with q3 | ⟨g', off, e, ⟨q4, q5⟩, q6⟩
        · exact .inl q3
        · cases e
          exact .inr ⟨_, _, rfl, ⟨by omega, q5, fun e => hDv (by rw [← e]; rfl)⟩, q6⟩
    refine (hx2.keep (fun k hk => World.putObj_heap_other hk.2.2)).mono (fun k hk => ⟨hk.1, ?_⟩)
    simpa [World.putObj] using hk.2.1
  case stop =>
    rintro Dd c pre M W _ _ _ h _
    exact h.elim

theorem collect_any {w : World} {B : Nat} {sv : Value} {D : Nat → Prop} {zs : List Int} (hsv : w.cell? ⟨B, 0, none⟩ = some sv) (hI : IntsIn D w sv zs) (hB : B < w.heap.size) (hD : ∀ k, D k → k < w.heap.size) (hl : zs.length ≤ 1099511627776) :
    Calls Try.prog 94 #[.func (.func 144) #[] #[.pointer (some ⟨B, 0, none⟩)]] w fun e w' => (∃ v, e = .returned v ∧ IntsIn (fun k => w.heap.size ≤ k ∧ k < w'.heap.size) w' v zs) ∧ Below w.heap.size w w' := by
  have H := Lib.hid (appendSeq_any hsv hI hB hD hl)
  clear hsv hI hB hD
  go_enter Try.func94, Try.ntmps94
  go_wp2_with (go_at_call 126; refine H.out.mono ?_; rintro e w' ⟨⟨v, rfl, hv⟩, hb⟩)
  go_ret
  exact ⟨⟨_, rfl, hv⟩, hb⟩

theorem ids_any {R D : Nat → Prop} {w : World} {p : Value} {S : Store} (h : StoreIn R D w p S) (hK : S.Keys) (hg0 : 0 ≤ S.given) (hg : S.given ≤ 1099511627776) :
    Calls Try.prog 50 #[p] w fun e w' => (∃ zs v, e = .returned v ∧ IntsIn (fun k => w.heap.size ≤ k ∧ k < w'.heap.size) w' v zs ∧ IdsOf S zs) ∧ Below w.heap.size w w' := by
  have HE := Lib.hid (each_any h hK hg0 hg)
  obtain ⟨s, m, f, rfl, hs, hm, hb, hf, h1, h2, h3⟩ := h
  have c0 : w.cell? ⟨s, 0, none⟩ = some (.map (some m)) := by simp [World.cell?, hb]
  clear hb hf h1 h2 h3
  go_enter Try.func50, Try.ntmps50
  go_wp2_with (first
    | (go_at_call 91; refine (none_no s m _ c0).mono ?_; rintro e w' ⟨rfl, rfl⟩)
    | (go_at_call 93; refine HE.out.mono ?_; rintro e w3 ⟨B, sv, zs, rfl, hsv, hB1, hB2, hints, hids, hbel⟩; have hidl := idsOf_length hids hK hg0; have HC := Lib.hid (collect_any hsv hints hB2 (fun k hk => hk.2) (by omega)); clear hsv hints; have HIDS := Lib.hid hids; clear hids)
    | (go_at_call 94; refine HC.out.mono ?_; rintro e w4 ⟨⟨v, rfl, hv⟩, hb4⟩))
  go_ret
  exact ⟨⟨zs, _, rfl, hv.mono (fun k hk => ⟨Nat.le_trans hbel.size hk.1, hk.2⟩), HIDS.out⟩, hbel.trans (hb4.mono hbel.size)⟩
end Go.Proofs.Ytinkjhkbaadbpaa
