/- slices.AppendSeq, Collect, Sorted over maps.Keys. -/
import Derived.Test.YtamjopgpmeeheaaKY
import Derived.Maps.OwnIn
namespace Go.Proofs.Ytamjopgpmeeheaa
open Go.RowKit Go.Shelf
set_option linter.unusedVariables false
attribute [local go_sem] Oper.semAt_some

theorem slice_form {w : World} {B e size n : Nat} {v : Value} {xs : List Value} (h : w.ownsRow B e size v n xs) : ∃ a m c, v = .slice a m c := by
  rcases h.2 with ⟨rfl, _⟩ | ⟨g, cp, cur, rfl, _⟩
  · exact ⟨_, _, _, rfl⟩
  · exact ⟨_, _, _, rfl⟩
theorem chg_boxed {M : Nat → Prop} {A A' : World} {b : Nat} {t : TypeId} {v : Value} (hc : Chg M A A') (hb : ¬ M b) (h : Boxed A b t v) : Boxed A' b t v := (hc.block b h.lt hb).trans h
theorem below_putObj {B l : Nat} (w : World) (h : B ≤ l) (o : Obj) : Below B w (w.putObj l o) := ⟨rfl, rfl, rfl, by simp [World.putObj], fun k hk => World.putObj_heap_other (by omega)⟩
theorem nodup_sub_length {α : Type} [DecidableEq α] : ∀ {l m : List α}, l.Nodup → (∀ x ∈ l, x ∈ m) → l.length ≤ m.length
  | [], m, _, _ => Nat.zero_le _
  | x :: l, m, hn, hs => by
    obtain ⟨h1, h2⟩ := List.nodup_cons.1 hn
    have hx : x ∈ m := hs x (by simp)
    have := nodup_sub_length (l := l) (m := m.erase x) h2 (fun y hy => (List.mem_erase_of_ne (fun e => h1 (by rw [← e]; exact hy))).2 (hs y (by simp [hy])))
    rw [List.length_erase_of_mem hx] at this
    have := List.length_pos_of_mem hx
    simp only [List.length_cons]; omega
theorem keysOk_few {f : Int → Option Value} {ks : List Int} (h : ∀ id, (f id).isSome → id ∈ ks) {xs : List Int} (hx : KeysOk f xs) : xs.length ≤ ks.length := nodup_sub_length hx.1 (fun x hx' => h x (hx.2 x hx'))

set_option maxRecDepth 100000 in
set_option maxHeartbeats 4000000 in
theorem appendSeq49_any {w : World} {B m : Nat} {f : Int → Option Value} (hsv : w.cell? ⟨B, 0, none⟩ = some (.map (some m))) (hI : MapIs iv w m f) (hB : B < w.heap.size) (hl : ∀ xs, KeysOk f xs → xs.length ≤ 1099511627776) :
    Calls Try.prog 70 #[.slice none 0 0, .func (.func 83) #[] #[.pointer (some ⟨B, 0, none⟩)]] w fun e w' => (∃ v zs, e = .returned v ∧ w'.ownsRow w.heap.size 3 1 v zs.length (zs.map iv) ∧ KeysFull f zs) ∧ Below w.heap.size w w' := by
  obtain ⟨i0, hi, hz0, hz1, hz2⟩ := info_parts Try.info3
  have hml := hI.lt
  have hb1 : ∀ o, Below w.heap.size w (w.alloc o) := fun o => (Below.refl _ w).alloc (Nat.le_refl _) _
  have hsv' : ∀ o, (w.alloc o).cell? ⟨B, 0, none⟩ = some (.map (some m)) := fun o => ((hb1 o).cell (p := ⟨B, 0, none⟩) hB).trans hsv
  have hI' : ∀ o, MapIs iv (w.alloc o) m f := fun o => hI.keep ((hb1 o).block m hml)
  have bN : ∀ o, (w.alloc o).heap[w.heap.size]? = some o := fun o => Go.heap_alloc_new w o
  have BN := Lib.hid bN
  have HL := Lib.hid hl
  clear hsv hI hl
  refine (callsIn_wide (n := 10)).1 ?_
  refine callsIn_of_wp_marks Try.func70 rfl trivial ?_ rfl
  simp only [Try.ntmps70, List.size_toArray, List.length_cons, List.length_nil, Nat.reduceAdd, Nat.reduceSub, Array.replicate_succ, Array.replicate_zero, List.push_toArray, List.append_toArray, List.nil_append, List.cons_append]
  gi_wp2
  refine wpIn_rangeFunc_gives rfl (by omega) (gf := 83) (lb := #[.pointer (some ⟨B, 0, none⟩)]) rfl trivial (enters_of Try.func83 (by kernel_rfl) rfl)
    (keys49_gives 9 (by omega) B m f (w.alloc (.cells #[.slice none 0 0] 44)) (hsv' _) (hI' _)) (Keeps.refl _ _) (Keeps.refl _ _) (fun k hk => by rcases hk with rfl | rfl; exact Nat.lt_of_lt_of_le hB (by simp); exact Nat.lt_of_lt_of_le hml (by simp)) (fun k hk => hk.elim) (fun _ _ _ _ _ => trivial) (fun _ => rfl)
    (fun pre M W => ∃ v, Boxed W w.heap.size 44 v ∧ W.ownsRow (w.heap.size + 1) 3 1 v pre.length (pre.map iv) ∧ (∀ k, M k ↔ k = w.heap.size ∨ v.ownBlock = some k) ∧ Below w.heap.size w W)
    (fun _ _ _ _ => False)
    (fun pre M A A' ⟨v, i1, i2, i3, i4⟩ hc => ⟨v, chg_boxed hc (fun h => h.2 ((i3 _).2 (.inl rfl))) i1, ownsRow_keeps i2 (fun g hg => hc.block g (ownsRow_base i2 hg).2 (fun h => h.2 ((i3 _).2 (.inr hg)))), i3, i4.trans ⟨hc.os, hc.tape, hc.output, hc.size, fun k hk => hc.block k (by have := i4.size; omega) (fun h => by have := h.1.resolve_right (fun f => f); simp at this; omega)⟩⟩)
    (fun _ _ _ _ _ hs _ => hs) (fun k => k = w.heap.size) (fun k hk => ⟨by rw [hk]; simp, fun h => by rcases h with h | h <;> omega, fun h => h⟩)
    ⟨.slice none 0 0, BN.out _, World.ownsRow_nil _ _ _ _, fun k => by simp [Value.ownBlock], hb1 _⟩
    (fun x => { tmps := #[.slice none 0 0, .func (.func 83) #[] #[.pointer (some ⟨B, 0, none⟩)], .pointer (some ⟨w.heap.size, 0, none⟩), undef, .slice none 0 0, .int .i64 x, .func (.func 83) #[] #[.pointer (some ⟨B, 0, none⟩)], .int .i64 x, undef, undef, undef, undef, undef], defers := [] }) ?assign ?body ?done ?stop
  case assign =>
    intro l x W K hK
    gi_wp2
    exact hK
  case body =>
    rintro l pre x M W hpre hsz ⟨v, i1, i2, i3, i4⟩
    have d0 := i1.cell
    have d1 := i1.frozen
    have hpl : pre.length + 1 ≤ 1099511627776 := by have := HL.out _ hpre; simpa using this
    have hlt := i1.lt
    have I1 := Lib.hid i1
    have I2 := Lib.hid i2
    have I3 := Lib.hid i3
    have I4 := Lib.hid i4
    have hsz' : w.heap.size + 1 ≤ W.heap.size := by simpa using hsz
    clear i1 i2 i3 i4 hsz hpre
    have hmx : Try.prog.follows .mixedOrders = true := by kernel_rfl
    gi_wp2_with ((gi_at_builtin; refine wpListIn_append_own_at _ rfl _ _ 44 rfl (w.heap.size + 1) 3 i0 (.int .i64 0) 1 8 Try.underlying44 hi hz0 hz1 hz2 rfl (by decide) _ _ _ rfl (ownsRow_alloc I2.out _) ⟨W.heap.size, 0, none⟩ 1 1 [iv x] rfl rfl (cell_one_new _ _ _) (by simp [Value.oneCell']) (by unfold maxLen; omega) (by omega) (by simp; omega) ?_; intro v' w2 hown2 hgrow hnil hloc; obtain ⟨a2, n2, cp2, rfl⟩ := slice_form hown2; have hkb := (hgrow.block w.heap.size (by simp; omega) (fun e => by have := (ownsRow_base I2.out e.symm).1; omega)).trans (Go.heap_alloc_old W _ hlt); have q0 := (World.cell?_of_block (a := ⟨w.heap.size, 0, none⟩) hkb).trans d0; have q1 : w2.frozen? ⟨w.heap.size, 0, none⟩ = false := free_block (hkb.trans I1.out) 0))
    have hch : Chg M W w2 := (chg_alloc W _).trans (chg_grown hgrow (fun k e => (I3.out k).2 (.inr e)))
    have hbox : M w.heap.size := (I3.out _).2 (.inl rfl)
    generalize hv' : Value.slice a2 n2 cp2 = v' at *
    refine ⟨fun k => k = w.heap.size ∨ v'.ownBlock = some k, hch.trans (chg_set hbox 0 _), ?_, v', ?_, ?_, fun _ => Iff.rfl, ?_⟩
    · rintro k (h | h)
      · exact .inl ((I3.out k).2 (.inl h))
      · rcases hloc with e | e
        · exact .inl ((I3.out k).2 (.inr (e.symm.trans h)))
        · rw [e] at h; cases h
          exact .inr ⟨by simp, by have := (ownsRow_base hown2 e).2; simpa [World.setCell] using this⟩
    · have := heap_setCell_same w2 w.heap.size 0 _ _ v' (hkb.trans I1.out)
      unfold Boxed
      simpa using this
    · rw [List.length_append, List.map_append]
      exact ownsRow_keeps hown2 (fun g hg => heap_setCell_other _ _ _ _ (by have := (ownsRow_base hown2 hg).1; simp; omega))
    · refine I4.out.trans ?_
      have hc2 := hch.trans (chg_set (w := w2) hbox 0 v')
      exact ⟨hc2.os, hc2.tape, hc2.output, hc2.size, fun k hk => hc2.block k (by omega) (fun h => by
        rcases (I3.out k).1 h with h | h
        · omega
        · have := (ownsRow_base I2.out h).1; omega)⟩
  case done =>
    rintro Dd zs M W hD2 hMD hMM hful ⟨v, i1, i2, i3, i4⟩ - hK
    have d0 := i1.cell
    gi_wp2
    refine ⟨by simp, .inl ⟨_, _, rfl, run_takeDeferred hK, ?_⟩⟩
    have hDv : v.ownBlock ≠ some Dd := fun e => hMD ((i3 _).2 (.inr e))
    have hsz : w.heap.size + 1 ≤ Dd := by simpa using hD2
    refine ⟨_, results_tmp rfl _ _ _, ⟨_, zs, rfl, ?_, hful⟩, i4.trans (below_putObj _ (by omega) _)⟩
    obtain ⟨hl2, h2⟩ := ownsRow_keeps (w' := W.putObj Dd (.deferred none)) i2 (fun g hg => World.putObj_heap_other (fun e => hDv (by rw [← e]; exact hg)))
    refine ⟨hl2, h2.imp id ?_⟩
    rintro ⟨g, cap, cur, e, hb, r⟩
    exact ⟨g, cap, cur, e, by omega, r⟩
  case stop =>
    rintro Dd c pre M W _ _ _ _ h _
    exact h.elim

theorem sorted49_any {w : World} {B m : Nat} {f : Int → Option Value} (hsv : w.cell? ⟨B, 0, none⟩ = some (.map (some m))) (hI : MapIs iv w m f) (hB : B < w.heap.size) (hl : ∀ xs, KeysOk f xs → xs.length ≤ 1099511627776) :
    Calls Try.prog 40 #[.func (.func 83) #[] #[.pointer (some ⟨B, 0, none⟩)]] w fun e w' => (∃ v zs, e = .returned v ∧ IntsIn (fun k => w.heap.size ≤ k ∧ k < w'.heap.size) w' v zs ∧ zs.Pairwise (· < ·) ∧ ∀ x, x ∈ zs ↔ (f x).isSome) ∧ Below w.heap.size w w' := by
  have H := Lib.hid (appendSeq49_any hsv hI hB hl)
  have hcol : Calls Try.prog 60 #[.func (.func 83) #[] #[.pointer (some ⟨B, 0, none⟩)]] w fun e w' => (∃ v zs, e = .returned v ∧ w'.ownsRow w.heap.size 3 1 v zs.length (zs.map iv) ∧ KeysFull f zs) ∧ Below w.heap.size w w' := by
    clear hsv hI hB hl
    go_enter Try.func60, Try.ntmps60
    go_wp2_with (go_at_call 70; refine H.out.mono ?_; rintro e w' ⟨⟨v, zs, rfl, hv, hf⟩, hb⟩)
    go_ret
    exact ⟨⟨_, zs, rfl, hv, hf⟩, hb⟩
  have HC := Lib.hid hcol
  have HL := Lib.hid hl
  clear hsv hI hB hcol H hl
  go_enter Try.func40, Try.ntmps40
  go_wp2_with (go_at_call 60; refine HC.out.mono ?_; rintro e w1 ⟨⟨v, zs, rfl, hv, hf⟩, hb⟩; have HV := Lib.hid hv; have HF := Lib.hid hf; have HB := Lib.hid hb; clear hv hf hb)
  obtain ⟨hll, ⟨rfl, hl0⟩ | ⟨g, cap, cur, rfl, hbg, hgg, hlc, hcm, hcs, htake⟩⟩ := HV.out
  · obtain rfl : zs = [] := List.eq_nil_of_length_eq_zero hl0
    refine (sort_none none 0 w1).mono ?_
    rintro e w' ⟨rfl, rfl⟩
    go_wp2
    go_ret
    exact ⟨⟨_, [], rfl, intsIn_nil _ _, List.Pairwise.nil, fun x => HF.out.2 x⟩, HB.out⟩
  · rw [Nat.mul_one] at htake
    have hglt := (Array.getElem?_eq_some_iff.1 hgg).1
    have hzl := HL.out zs ⟨HF.out.1, fun x hx => (HF.out.2 x).1 hx⟩
    refine (sort_any g cap zs cur w1 hgg (by omega) htake).mono ?_
    rintro e w2 ⟨rfl, hch, hsd⟩
    have HSD := Lib.hid hsd
    have HCH := Lib.hid hch
    clear hsd hch
    go_wp2
    go_ret
    have hs2 := HCH.out.size
    refine ⟨⟨_, sorted zs, rfl, ?_, sorted_strict HF.out.1, fun x => ((sorted_perm zs).mem_iff).trans (HF.out.2 x)⟩, HB.out.trans ⟨HCH.out.os, HCH.out.tape, HCH.out.output, hs2, fun k hk => HCH.out.block k (by have := HB.out.size; omega) (by omega)⟩⟩
    exact ⟨some ⟨g, 0, none⟩, cap, by rw [sorted_length]; rfl, by rw [sorted_length]; exact hlc, hcm, .inr ⟨g, 0, rfl, ⟨hbg, by omega⟩, fun j x hj => HSD.out j x hj⟩⟩

set_option maxRecDepth 100000 in
set_option maxHeartbeats 4000000 in
theorem appendSeq57_any {w : World} {B m : Nat} {f : Int → Option Value} (hsv : w.cell? ⟨B, 0, none⟩ = some (.map (some m))) (hI : MapIs iv w m f) (hB : B < w.heap.size) (hl : ∀ xs, KeysOk f xs → xs.length ≤ 1099511627776) :
    Calls Try.prog 70 #[.slice none 0 0, .func (.func 61) #[] #[.pointer (some ⟨B, 0, none⟩)]] w fun e w' => (∃ v zs, e = .returned v ∧ w'.ownsRow w.heap.size 3 1 v zs.length (zs.map iv) ∧ KeysFull f zs) ∧ Below w.heap.size w w' := by
  obtain ⟨i0, hi, hz0, hz1, hz2⟩ := info_parts Try.info3
  have hml := hI.lt
  have hb1 : ∀ o, Below w.heap.size w (w.alloc o) := fun o => (Below.refl _ w).alloc (Nat.le_refl _) _
  have hsv' : ∀ o, (w.alloc o).cell? ⟨B, 0, none⟩ = some (.map (some m)) := fun o => ((hb1 o).cell (p := ⟨B, 0, none⟩) hB).trans hsv
  have hI' : ∀ o, MapIs iv (w.alloc o) m f := fun o => hI.keep ((hb1 o).block m hml)
  have bN : ∀ o, (w.alloc o).heap[w.heap.size]? = some o := fun o => Go.heap_alloc_new w o
  have BN := Lib.hid bN
  have HL := Lib.hid hl
  clear hsv hI hl
  refine (callsIn_wide (n := 10)).1 ?_
  refine callsIn_of_wp_marks Try.func70 rfl trivial ?_ rfl
  simp only [Try.ntmps70, List.size_toArray, List.length_cons, List.length_nil, Nat.reduceAdd, Nat.reduceSub, Array.replicate_succ, Array.replicate_zero, List.push_toArray, List.append_toArray, List.nil_append, List.cons_append]
  gi_wp2
  refine wpIn_rangeFunc_gives rfl (by omega) (gf := 61) (lb := #[.pointer (some ⟨B, 0, none⟩)]) rfl trivial (enters_of Try.func61 (by kernel_rfl) rfl)
    (keys57_gives 9 (by omega) B m f (w.alloc (.cells #[.slice none 0 0] 44)) (hsv' _) (hI' _)) (Keeps.refl _ _) (Keeps.refl _ _) (fun k hk => by rcases hk with rfl | rfl; exact Nat.lt_of_lt_of_le hB (by simp); exact Nat.lt_of_lt_of_le hml (by simp)) (fun k hk => hk.elim) (fun _ _ _ _ _ => trivial) (fun _ => rfl)
    (fun pre M W => ∃ v, Boxed W w.heap.size 44 v ∧ W.ownsRow (w.heap.size + 1) 3 1 v pre.length (pre.map iv) ∧ (∀ k, M k ↔ k = w.heap.size ∨ v.ownBlock = some k) ∧ Below w.heap.size w W)
    (fun _ _ _ _ => False)
    (fun pre M A A' ⟨v, i1, i2, i3, i4⟩ hc => ⟨v, chg_boxed hc (fun h => h.2 ((i3 _).2 (.inl rfl))) i1, ownsRow_keeps i2 (fun g hg => hc.block g (ownsRow_base i2 hg).2 (fun h => h.2 ((i3 _).2 (.inr hg)))), i3, i4.trans ⟨hc.os, hc.tape, hc.output, hc.size, fun k hk => hc.block k (by have := i4.size; omega) (fun h => by have := h.1.resolve_right (fun f => f); simp at this; omega)⟩⟩)
    (fun _ _ _ _ _ hs _ => hs) (fun k => k = w.heap.size) (fun k hk => ⟨by rw [hk]; simp, fun h => by rcases h with h | h <;> omega, fun h => h⟩)
    ⟨.slice none 0 0, BN.out _, World.ownsRow_nil _ _ _ _, fun k => by simp [Value.ownBlock], hb1 _⟩
    (fun x => { tmps := #[.slice none 0 0, .func (.func 61) #[] #[.pointer (some ⟨B, 0, none⟩)], .pointer (some ⟨w.heap.size, 0, none⟩), undef, .slice none 0 0, .int .i64 x, .func (.func 61) #[] #[.pointer (some ⟨B, 0, none⟩)], .int .i64 x, undef, undef, undef, undef, undef], defers := [] }) ?assign ?body ?done ?stop
  case assign =>
    intro l x W K hK
    gi_wp2
    exact hK
  case body =>
    rintro l pre x M W hpre hsz ⟨v, i1, i2, i3, i4⟩
    have d0 := i1.cell
    have d1 := i1.frozen
    have hpl : pre.length + 1 ≤ 1099511627776 := by have := HL.out _ hpre; simpa using this
    have hlt := i1.lt
    have I1 := Lib.hid i1
    have I2 := Lib.hid i2
    have I3 := Lib.hid i3
    have I4 := Lib.hid i4
    have hsz' : w.heap.size + 1 ≤ W.heap.size := by simpa using hsz
    clear i1 i2 i3 i4 hsz hpre
    have hmx : Try.prog.follows .mixedOrders = true := by kernel_rfl
    gi_wp2_with ((gi_at_builtin; refine wpListIn_append_own_at _ rfl _ _ 44 rfl (w.heap.size + 1) 3 i0 (.int .i64 0) 1 8 Try.underlying44 hi hz0 hz1 hz2 rfl (by decide) _ _ _ rfl (ownsRow_alloc I2.out _) ⟨W.heap.size, 0, none⟩ 1 1 [iv x] rfl rfl (cell_one_new _ _ _) (by simp [Value.oneCell']) (by unfold maxLen; omega) (by omega) (by simp; omega) ?_; intro v' w2 hown2 hgrow hnil hloc; obtain ⟨a2, n2, cp2, rfl⟩ := slice_form hown2; have hkb := (hgrow.block w.heap.size (by simp; omega) (fun e => by have := (ownsRow_base I2.out e.symm).1; omega)).trans (Go.heap_alloc_old W _ hlt); have q0 := (World.cell?_of_block (a := ⟨w.heap.size, 0, none⟩) hkb).trans d0; have q1 : w2.frozen? ⟨w.heap.size, 0, none⟩ = false := free_block (hkb.trans I1.out) 0))
    have hch : Chg M W w2 := (chg_alloc W _).trans (chg_grown hgrow (fun k e => (I3.out k).2 (.inr e)))
    have hbox : M w.heap.size := (I3.out _).2 (.inl rfl)
    generalize hv' : Value.slice a2 n2 cp2 = v' at *
    refine ⟨fun k => k = w.heap.size ∨ v'.ownBlock = some k, hch.trans (chg_set hbox 0 _), ?_, v', ?_, ?_, fun _ => Iff.rfl, ?_⟩
    · rintro k (h | h)
      · exact .inl ((I3.out k).2 (.inl h))
      · rcases hloc with e | e
        · exact .inl ((I3.out k).2 (.inr (e.symm.trans h)))
        · rw [e] at h; cases h
          exact .inr ⟨by simp, by have := (ownsRow_base hown2 e).2; simpa [World.setCell] using this⟩
    · have := heap_setCell_same w2 w.heap.size 0 _ _ v' (hkb.trans I1.out)
      unfold Boxed
      simpa using this
    · rw [List.length_append, List.map_append]
      exact ownsRow_keeps hown2 (fun g hg => heap_setCell_other _ _ _ _ (by have := (ownsRow_base hown2 hg).1; simp; omega))
    · refine I4.out.trans ?_
      have hc2 := hch.trans (chg_set (w := w2) hbox 0 v')
      exact ⟨hc2.os, hc2.tape, hc2.output, hc2.size, fun k hk => hc2.block k (by omega) (fun h => by
        rcases (I3.out k).1 h with h | h
        · omega
        · have := (ownsRow_base I2.out h).1; omega)⟩
  case done =>
    rintro Dd zs M W hD2 hMD hMM hful ⟨v, i1, i2, i3, i4⟩ - hK
    have d0 := i1.cell
    gi_wp2
    refine ⟨by simp, .inl ⟨_, _, rfl, run_takeDeferred hK, ?_⟩⟩
    have hDv : v.ownBlock ≠ some Dd := fun e => hMD ((i3 _).2 (.inr e))
    have hsz : w.heap.size + 1 ≤ Dd := by simpa using hD2
    refine ⟨_, results_tmp rfl _ _ _, ⟨_, zs, rfl, ?_, hful⟩, i4.trans (below_putObj _ (by omega) _)⟩
    obtain ⟨hl2, h2⟩ := ownsRow_keeps (w' := W.putObj Dd (.deferred none)) i2 (fun g hg => World.putObj_heap_other (fun e => hDv (by rw [← e]; exact hg)))
    refine ⟨hl2, h2.imp id ?_⟩
    rintro ⟨g, cap, cur, e, hb, r⟩
    exact ⟨g, cap, cur, e, by omega, r⟩
  case stop =>
    rintro Dd c pre M W _ _ _ _ h _
    exact h.elim

theorem sorted57_any {w : World} {B m : Nat} {f : Int → Option Value} (hsv : w.cell? ⟨B, 0, none⟩ = some (.map (some m))) (hI : MapIs iv w m f) (hB : B < w.heap.size) (hl : ∀ xs, KeysOk f xs → xs.length ≤ 1099511627776) :
    Calls Try.prog 40 #[.func (.func 61) #[] #[.pointer (some ⟨B, 0, none⟩)]] w fun e w' => (∃ v zs, e = .returned v ∧ IntsIn (fun k => w.heap.size ≤ k ∧ k < w'.heap.size) w' v zs ∧ zs.Pairwise (· < ·) ∧ ∀ x, x ∈ zs ↔ (f x).isSome) ∧ Below w.heap.size w w' := by
  have H := Lib.hid (appendSeq57_any hsv hI hB hl)
  have hcol : Calls Try.prog 60 #[.func (.func 61) #[] #[.pointer (some ⟨B, 0, none⟩)]] w fun e w' => (∃ v zs, e = .returned v ∧ w'.ownsRow w.heap.size 3 1 v zs.length (zs.map iv) ∧ KeysFull f zs) ∧ Below w.heap.size w w' := by
    clear hsv hI hB hl
    go_enter Try.func60, Try.ntmps60
    go_wp2_with (go_at_call 70; refine H.out.mono ?_; rintro e w' ⟨⟨v, zs, rfl, hv, hf⟩, hb⟩)
    go_ret
    exact ⟨⟨_, zs, rfl, hv, hf⟩, hb⟩
  have HC := Lib.hid hcol
  have HL := Lib.hid hl
  clear hsv hI hB hcol H hl
  go_enter Try.func40, Try.ntmps40
  go_wp2_with (go_at_call 60; refine HC.out.mono ?_; rintro e w1 ⟨⟨v, zs, rfl, hv, hf⟩, hb⟩; have HV := Lib.hid hv; have HF := Lib.hid hf; have HB := Lib.hid hb; clear hv hf hb)
  obtain ⟨hll, ⟨rfl, hl0⟩ | ⟨g, cap, cur, rfl, hbg, hgg, hlc, hcm, hcs, htake⟩⟩ := HV.out
  · obtain rfl : zs = [] := List.eq_nil_of_length_eq_zero hl0
    refine (sort_none none 0 w1).mono ?_
    rintro e w' ⟨rfl, rfl⟩
    go_wp2
    go_ret
    exact ⟨⟨_, [], rfl, intsIn_nil _ _, List.Pairwise.nil, fun x => HF.out.2 x⟩, HB.out⟩
  · rw [Nat.mul_one] at htake
    have hglt := (Array.getElem?_eq_some_iff.1 hgg).1
    have hzl := HL.out zs ⟨HF.out.1, fun x hx => (HF.out.2 x).1 hx⟩
    refine (sort_any g cap zs cur w1 hgg (by omega) htake).mono ?_
    rintro e w2 ⟨rfl, hch, hsd⟩
    have HSD := Lib.hid hsd
    have HCH := Lib.hid hch
    clear hsd hch
    go_wp2
    go_ret
    have hs2 := HCH.out.size
    refine ⟨⟨_, sorted zs, rfl, ?_, sorted_strict HF.out.1, fun x => ((sorted_perm zs).mem_iff).trans (HF.out.2 x)⟩, HB.out.trans ⟨HCH.out.os, HCH.out.tape, HCH.out.output, hs2, fun k hk => HCH.out.block k (by have := HB.out.size; omega) (by omega)⟩⟩
    exact ⟨some ⟨g, 0, none⟩, cap, by rw [sorted_length]; rfl, by rw [sorted_length]; exact hlc, hcm, .inr ⟨g, 0, rfl, ⟨hbg, by omega⟩, fun j x hj => HSD.out j x hj⟩⟩

end Go.Proofs.Ytamjopgpmeeheaa
