/- All (28), Below (70). -/
import Derived.Test.YtinkjhkbaadbpaaTH
import Derived.Test.YtinkjhkbaadbpaaRB
import Derived.Maps.OwnIn
namespace Go.Proofs.Ytinkjhkbaadbpaa
open Go.RowKit Go.Shelf
set_option linter.unusedVariables false
attribute [local go_sem] Oper.semAt_some

theorem slice_form2 {w : World} {B e size n : Nat} {v : Value} {xs : List Value} (h : w.ownsRow B e size v n xs) : ∃ a m c, v = .slice a m c := by
  rcases h.2 with ⟨rfl, _⟩ | ⟨g, cp, cur, rfl, _⟩
  · exact ⟨_, _, _, rfl⟩
  · exact ⟨_, _, _, rfl⟩
set_option maxRecDepth 100000 in
set_option maxHeartbeats 4000000 in
theorem all_any {Rb : Nat → Prop} {w : World} {v : Nat} {g : Int → Option Rec} {keys : List Int} (hR : ReadsK Rb w v g) (hRl : ∀ k, Rb k → k < w.heap.size) (hk : KeysOf g keys) (hkl : keys.length ≤ 1000000000) :
    Calls Try.prog 28 #[ptr v] w (AxPost w (allF g (keys.length + 1))) := by
  obtain ⟨i0, hi, hz0, hz1, hz2⟩ := info_parts Try.info3
  obtain ⟨W1, hW1⟩ : ∃ W1, w.alloc (.cells #[.slice none 0 0] 33) = W1 := ⟨_, rfl⟩
  have hs1 : W1.heap.size = w.heap.size + 1 := by rw [← hW1]; simp
  have hb1 : Below w.heap.size w W1 := by rw [← hW1]; exact (Below.refl _ w).alloc (Nat.le_refl _) _
  have hL1 : W1.heap[w.heap.size]? = some (.cells #[.slice none 0 0] 33 (0, 0)) := by rw [← hW1]; exact Go.heap_alloc_new _ _
  obtain ⟨W3, hW3⟩ : ∃ W3, (W1.alloc (.cells #[ptr v] 35)).alloc (.cells #[iv 1] 3) = W3 := ⟨_, rfl⟩
  have hs3 : W3.heap.size = w.heap.size + 3 := by rw [← hW3]; simp [hs1]
  have hb3 : Below W1.heap.size W1 W3 := by rw [← hW3]; exact ((Below.refl _ _).alloc (Nat.le_refl _) _).alloc (by simp) _
  have h2 : W3.heap[w.heap.size + 1]? = some (.cells #[ptr v] 35 (0, 0)) := by
    rw [← hW3]
    refine (Go.heap_alloc_old _ _ (by simp; omega)).trans ?_
    rw [← hs1]; exact Go.heap_alloc_new _ _
  have h3 : W3.heap[w.heap.size + 2]? = some (.cells #[iv 1] 3 (0, 0)) := by
    rw [← hW3]
    have := Go.heap_alloc_new (W1.alloc (.cells #[ptr v] 35)) (.cells #[iv 1] 3)
    rw [World.size_alloc, hs1] at this
    exact this
  have hL3 := (hb3.block w.heap.size (by omega)).trans hL1
  have hbB : Below w.heap.size w W3 := hb1.trans (hb3.mono hb1.size)
  have hgv := through_gives (id := 1) 9 (by omega) (hR.later (fun k hk => hbB.block k (hRl k hk))) hk hkl (b1 := w.heap.size + 1) (b2 := w.heap.size + 1 + 1) (by simp [World.cell?, h2]) (by simp [World.cell?, h3])
  have hlt := through_any v 1 W1
  rw [hs1, hW3] at hlt
  have hinv := goS_inv hk (keys.length + 1) 1 false [] (GoInv.nil keys)
  have hlen : (goF g (keys.length + 1) 1).length ≤ keys.length := hinv.len
  have HT := Lib.hid hlt
  have HW1 := Lib.hid hW1
  clear hW1 hW3 hlt h2 h3 hb1 hb3 hL1 hinv
  refine (callsIn_wide (n := 10)).1 ?_
  refine callsIn_of_wp_marks Try.func28 rfl trivial ?_ rfl
  simp only [Try.ntmps28, List.size_toArray, List.length_cons, List.length_nil, Nat.reduceAdd, Nat.reduceSub, Array.replicate_succ, Array.replicate_zero, List.push_toArray, List.append_toArray, List.nil_append, List.cons_append]
  gi_wp2_with fail
  rw [HW1.out]
  refine ⟨trivial, (callsIn_wide.2 HT.out).mono ?_⟩
  rintro e w9 ⟨rfl, rfl⟩
  gi_wp2
  obtain ⟨acc, hacc⟩ : ∃ acc, goF g (keys.length + 1) 1 = acc := ⟨_, rfl⟩
  have hall : allF g (keys.length + 1) = acc.map (·.1) := by unfold allF; rw [hacc]
  rw [hacc] at hgv hlen
  rw [hall]
  refine wpIn_rangeFunc_gives2 rfl (by omega) (gf := 119) (lb := #[ptr (w.heap.size + 1), ptr (w.heap.size + 1 + 1)]) rfl trivial (enters_of Try.func119 (by kernel_rfl) rfl)
    hgv (Keeps.refl _ _) (fun k hk => by rcases hk with rfl | rfl | h; omega; omega; have := hRl k h; omega) (fun _ => rfl)
    (fun pre M W => ∃ v, Boxed W w.heap.size 33 v ∧ W.ownsRow (w.heap.size + 3) 3 1 v pre.length (pre.map (fun x => iv x.1)) ∧ (∀ k, M k ↔ k = w.heap.size ∨ v.ownBlock = some k) ∧ Below w.heap.size w W)
    (fun _ _ _ _ => False)
    (fun pre M A A' ⟨v, i1, i2, i3, i4⟩ hc => ⟨v, chg_boxed hc (fun h => h.2 ((i3 _).2 (.inl rfl))) i1, ownsRow_keeps i2 (fun g hg => hc.block g (ownsRow_base i2 hg).2 (fun h => h.2 ((i3 _).2 (.inr hg)))), i3, i4.trans ⟨hc.os, hc.tape, hc.output, hc.size, fun k hk => hc.block k (by have := i4.size; omega) (fun h => by have := h.1; omega)⟩⟩)
    (fun _ _ _ _ _ hs _ => hs)
    (fun pre M A ⟨v, i1, i2, i3, i4⟩ => ⟨v, i1, i2, fun k => ⟨fun h => (i3 k).1 h.1, fun h => ⟨(i3 k).2 h, h.elim (fun e => by rw [e]; exact i1.lt) (fun e => (ownsRow_base i2 e).2)⟩⟩, i4⟩)
    (fun _ _ _ _ h => h)
    (fun k => k = w.heap.size) (fun k hk => ⟨by omega, fun h => by rcases h with h | h | h; omega; omega; have := hRl k h; omega⟩)
    ⟨.slice none 0 0, hL3, World.ownsRow_nil _ _ _ _, fun k => by simp [Value.ownBlock], hbB⟩
    (fun x => { tmps := #[ptr v, undef, .slice none 0 0, .pointer (some ⟨w.heap.size, 0, none⟩), iv x.1, ptr v, .func (.func 119) #[] #[ptr (w.heap.size + 1), ptr (w.heap.size + 1 + 1)], iv x.1, .bool x.2, undef, undef, undef, undef, undef], defers := [] }) ?assign ?body ?done ?stop
  case assign =>
    intro l x W K hK
    gi_wp2
    exact hK
  case body =>
    rintro l pre x M W hpre hsz ⟨u, i1, i2, i3, i4⟩
    obtain ⟨x1, x2⟩ := x
    have d0 := i1.cell
    have d1 := i1.frozen
    have hpl : pre.length + 1 ≤ acc.length := by have := hpre.length_le; simpa using this
    have hlt := i1.lt
    have I1 := Lib.hid i1
    have I2 := Lib.hid i2
    have I3 := Lib.hid i3
    have I4 := Lib.hid i4
    clear i1 i2 i3 i4 hgv
    have hmx : Try.prog.follows .mixedOrders = true := by kernel_rfl
    gi_wp2_with ((gi_at_builtin; refine wpListIn_append_own_at _ rfl _ _ 33 rfl (w.heap.size + 3) 3 i0 (.int .i64 0) 1 8 Try.underlying33 hi hz0 hz1 hz2 rfl (by decide) _ _ _ rfl (ownsRow_alloc I2.out _) ⟨W.heap.size, 0, none⟩ 1 1 [iv x1] rfl rfl (cell_one_new _ _ _) (by simp [Value.oneCell']) (by unfold maxLen; omega) (by omega) (by simp; omega) ?_; intro v' w2 hown2 hgrow hnil hloc; obtain ⟨a2, n2, cp2, rfl⟩ := slice_form2 hown2; have hkb := (hgrow.block w.heap.size (by simp; omega) (fun e => by have := (ownsRow_base I2.out e.symm).1; omega)).trans (Go.heap_alloc_old W _ hlt); have q0 := (World.cell?_of_block (a := ⟨w.heap.size, 0, none⟩) hkb).trans d0; have q1 : w2.frozen? ⟨w.heap.size, 0, none⟩ = false := free_block (hkb.trans I1.out) 0))
    have hch : Chg M W w2 := (chg_alloc W _).trans (chg_grown hgrow (fun k e => (I3.out k).2 (.inr e)))
    have hbox : M w.heap.size := (I3.out _).2 (.inl rfl)
    generalize hv' : Value.slice a2 n2 cp2 = v' at *
    refine ⟨fun k => k = w.heap.size ∨ v'.ownBlock = some k, hch.trans (chg_set hbox 0 _), ?_, v', ?_, ?_, fun _ => Iff.rfl, ?_⟩
    · rintro k (h | h)
      · exact .inl ((I3.out k).2 (.inl h))
      · rcases hloc with e | e
        · exact .inl ((I3.out k).2 (.inr (e.symm.trans h)))
        · rw [e] at h; cases h; exact .inr (by simp)
    · have := heap_setCell_same w2 w.heap.size 0 _ _ v' (hkb.trans I1.out)
      unfold Boxed
      simpa using this
    · rw [List.length_append, List.map_append]
      exact ownsRow_keeps hown2 (fun g hg => heap_setCell_other _ _ _ _ (by have := (ownsRow_base hown2 hg).1; simp; omega))
    · refine I4.out.trans ?_
      have hc2 := hch.trans (chg_set (w := w2) hbox 0 v')
      exact ⟨hc2.os, hc2.tape, hc2.output, hc2.size, fun k hk => hc2.block k (by omega) (fun h => by
        rcases (I3.out k).1 h with h | h
        · omega
        · have := (ownsRow_base I2.out h).1; omega)⟩
  case done =>
    rintro Dd M W hD2 hMD ⟨u, i1, i2, i3, i4⟩ hK
    have d0 := i1.cell
    have hfinal : ∀ o, IntsIn (Old (W.putObj Dd o).heap.size) (W.putObj Dd o) u (acc.map (·.1)) := fun o => by
      have h8 : W.ownsRow (w.heap.size + 3) 3 1 u (acc.map (·.1)).length ((acc.map (·.1)).map iv) := by rw [List.map_map, List.length_map]; exact i2
      have hDv : u.ownBlock ≠ some Dd := fun e => hMD ((i3 _).2 (.inr e))
      have h9 : (W.putObj Dd o).ownsRow (w.heap.size + 3) 3 1 u (acc.map (·.1)).length ((acc.map (·.1)).map iv) := ownsRow_keeps h8 (fun q hq => World.putObj_heap_other (by rintro rfl; exact hDv hq))
      exact (intsIn_row h9).old
    gi_wp2
    refine ⟨by simp, .inl ⟨_, _, rfl, run_takeDeferred hK, ?_⟩⟩
    exact ⟨_, results_tmp rfl _ _ _, ⟨_, rfl, by rw [hall]; exact hfinal _⟩, i4.trans (below_putObj _ (by omega) _)⟩
  case stop =>
    rintro Dd c pre M W _ _ _ h _
    exact h.elim
set_option maxRecDepth 100000 in
set_option maxHeartbeats 4000000 in
theorem below_any {Rb : Nat → Prop} {w : World} {v : Nat} {g : Int → Option Rec} {keys : List Int} (hR : ReadsK Rb w v g) (hRl : ∀ k, Rb k → k < w.heap.size) (hk : KeysOf g keys) (hkl : keys.length ≤ 1000000000) (id : Int) :
    Calls Try.prog 70 #[ptr v, iv id] w (AxPost w (belowF g (keys.length + 1) id)) := by
  obtain ⟨i0, hi, hz0, hz1, hz2⟩ := info_parts Try.info3
  obtain ⟨W1, hW1⟩ : ∃ W1, (w.alloc (.cells #[iv id] 3)).alloc (.cells #[.slice none 0 0] 33) = W1 := ⟨_, rfl⟩
  have hs1 : W1.heap.size = w.heap.size + 2 := by rw [← hW1]; simp
  have hb1 : Below w.heap.size w W1 := by rw [← hW1]; exact ((Below.refl _ w).alloc (Nat.le_refl _) _).alloc (by simp) _
  have hL1 : W1.heap[w.heap.size + 1]? = some (.cells #[.slice none 0 0] 33 (0, 0)) := by
    rw [← hW1]
    have := Go.heap_alloc_new (w.alloc (.cells #[iv id] 3)) (.cells #[.slice none 0 0] 33)
    rw [World.size_alloc] at this
    exact this
  have hI1 : W1.heap[w.heap.size]? = some (.cells #[iv id] 3 (0, 0)) := by rw [← hW1]; exact (Go.heap_alloc_old _ _ (by simp)).trans (Go.heap_alloc_new _ _)
  obtain ⟨W3, hW3⟩ : ∃ W3, (W1.alloc (.cells #[ptr v] 35)).alloc (.cells #[iv id] 3) = W3 := ⟨_, rfl⟩
  have hs3 : W3.heap.size = w.heap.size + 4 := by rw [← hW3]; simp [hs1]
  have hb3 : Below W1.heap.size W1 W3 := by rw [← hW3]; exact ((Below.refl _ _).alloc (Nat.le_refl _) _).alloc (by simp) _
  have h2 : W3.heap[w.heap.size + 2]? = some (.cells #[ptr v] 35 (0, 0)) := by
    rw [← hW3]
    refine (Go.heap_alloc_old _ _ (by simp; omega)).trans ?_
    rw [← hs1]; exact Go.heap_alloc_new _ _
  have h3 : W3.heap[w.heap.size + 2 + 1]? = some (.cells #[iv id] 3 (0, 0)) := by
    rw [← hW3]
    have := Go.heap_alloc_new (W1.alloc (.cells #[ptr v] 35)) (.cells #[iv id] 3)
    rw [World.size_alloc, hs1] at this
    exact this
  have hL3 := (hb3.block (w.heap.size + 1) (by omega)).trans hL1
  have hI3 := (hb3.block w.heap.size (by omega)).trans hI1
  have hbB : Below w.heap.size w W3 := hb1.trans (hb3.mono hb1.size)
  have hgv := through_gives (id := id) 9 (by omega) (hR.later (fun k hk => hbB.block k (hRl k hk))) hk hkl (b1 := w.heap.size + 2) (b2 := w.heap.size + 2 + 1) (by simp [World.cell?, h2]) (by simp [World.cell?, h3])
  have hlt := through_any v id W1
  rw [hs1, hW3] at hlt
  have hinv := goS_inv hk (keys.length + 1) id false [] (GoInv.nil keys)
  have hlen : (goF g (keys.length + 1) id).length ≤ keys.length := hinv.len
  have d10 : W1.cell? ⟨w.heap.size, 0, none⟩ = some (iv id) := by simp [World.cell?, hI1]
  have HT := Lib.hid hlt
  have HW1 := Lib.hid hW1
  clear hW1 hW3 hlt h2 h3 hb1 hb3 hL1 hinv hI1
  refine (callsIn_wide (n := 10)).1 ?_
  refine callsIn_of_wp_marks Try.func70 rfl trivial ?_ rfl
  simp only [Try.ntmps70, List.size_toArray, List.length_cons, List.length_nil, Nat.reduceAdd, Nat.reduceSub, Array.replicate_succ, Array.replicate_zero, List.push_toArray, List.append_toArray, List.nil_append, List.cons_append]
  gi_upto_region 2 with fail
  rw [HW1.out]
  gi_wp2_with fail
  refine ⟨trivial, (callsIn_wide.2 HT.out).mono ?_⟩
  rintro e w9 ⟨rfl, rfl⟩
  gi_wp2
  obtain ⟨acc, hacc⟩ : ∃ acc, goF g (keys.length + 1) id = acc := ⟨_, rfl⟩
  have hall : belowF g (keys.length + 1) id = (acc.filter (fun p => decide (p.1 ≠ id) && !p.2)).map (·.1) := by unfold belowF; rw [hacc]
  rw [hacc] at hgv hlen
  have HALL := Lib.hid hall
  clear hall hacc
  refine wpIn_rangeFunc_gives2 rfl (by omega) (gf := 119) (lb := #[ptr (w.heap.size + 2), ptr (w.heap.size + 2 + 1)]) rfl trivial (enters_of Try.func119 (by kernel_rfl) rfl)
    hgv (Keeps.refl _ _) (fun k hk => by rcases hk with rfl | rfl | h; omega; omega; have := hRl k h; omega) (fun _ => rfl)
    (fun pre M W => ∃ v, Boxed W (w.heap.size + 1) 33 v ∧ Boxed W w.heap.size 3 (iv id) ∧ W.ownsRow (w.heap.size + 4) 3 1 v (pre.filter (fun p => decide (p.1 ≠ id) && !p.2)).length ((pre.filter (fun p => decide (p.1 ≠ id) && !p.2)).map (fun x => iv x.1)) ∧ (∀ k, M k ↔ k = w.heap.size + 1 ∨ v.ownBlock = some k) ∧ Below w.heap.size w W)
    (fun _ _ _ _ => False)
    (fun pre M A A' ⟨v, i1, i0, i2, i3, i4⟩ hc => ⟨v, chg_boxed hc (fun h => h.2 ((i3 _).2 (.inl rfl))) i1, chg_boxed hc (fun h => by have := h.1; omega) i0, ownsRow_keeps i2 (fun g hg => hc.block g (ownsRow_base i2 hg).2 (fun h => h.2 ((i3 _).2 (.inr hg)))), i3, i4.trans ⟨hc.os, hc.tape, hc.output, hc.size, fun k hk => hc.block k (by have := i4.size; omega) (fun h => by have := h.1; omega)⟩⟩)
    (fun _ _ _ _ _ hs _ => hs)
    (fun pre M A ⟨v, i1, i0, i2, i3, i4⟩ => ⟨v, i1, i0, i2, fun k => ⟨fun h => (i3 k).1 h.1, fun h => ⟨(i3 k).2 h, h.elim (fun e => by rw [e]; exact i1.lt) (fun e => (ownsRow_base i2 e).2)⟩⟩, i4⟩)
    (fun _ _ _ _ h => h)
    (fun k => k = w.heap.size + 1) (fun k hk => ⟨by omega, fun h => by rcases h with h | h | h; omega; omega; have := hRl k h; omega⟩)
    ⟨.slice none 0 0, hL3, hI3, World.ownsRow_nil _ _ _ _, fun k => by simp [Value.ownBlock], hbB⟩
    (fun x => { tmps := #[ptr v, iv id, undef, .pointer (some ⟨w.heap.size, 0, none⟩), .slice none 0 0, .pointer (some ⟨w.heap.size + 1, 0, none⟩), iv x.1, .bool x.2, ptr v, iv id, .func (.func 119) #[] #[ptr (w.heap.size + 2), ptr (w.heap.size + 2 + 1)], iv x.1, .bool x.2, undef, undef, undef, undef, undef, undef, undef, undef, undef, undef, undef, undef], defers := [] }) ?assign ?body ?done ?stop
  case assign =>
    intro l x W K hK
    gi_wp2
    exact hK
  case body =>
    rintro l pre x M W hpre hsz ⟨u, i1, i0, i2, i3, i4⟩
    obtain ⟨x1, x2⟩ := x
    have d0 := i1.cell
    have d1 := i1.frozen
    have d2 := i0.cell
    have hpl : pre.length + 1 ≤ acc.length := by have := hpre.length_le; simpa using this
    have hfl := List.length_filter_le (fun p : Int × Bool => decide (p.1 ≠ id) && !p.2) pre
    have hsn : (pre ++ [(x1, x2)]).filter (fun p => decide (p.1 ≠ id) && !p.2) = pre.filter (fun p => decide (p.1 ≠ id) && !p.2) ++ (if (decide (x1 ≠ id) && !x2) = true then [(x1, x2)] else []) := by
      rw [List.filter_append, List.filter_cons, List.filter_nil]
    have hlt := i1.lt
    have HSN := Lib.hid hsn
    have I1 := Lib.hid i1
    have I0 := Lib.hid i0
    have I2 := Lib.hid i2
    have I3 := Lib.hid i3
    have I4 := Lib.hid i4
    clear i1 i0 i2 i3 i4 hgv hsn
    have hmx : Try.prog.follows .mixedOrders = true := by kernel_rfl
    by_cases hin : x1 = id
    · have hne : (x1 != id) = false := by simpa using hin
      have HIN := Lib.hid hin
      clear hin
      gi_wp2
      all_goals (try go_bits)
      exact ⟨M, Chg.refl _ _, fun k hk => .inl hk, u, I1.out, I0.out, by rw [HSN.out, if_neg (by simp [HIN.out]), List.append_nil]; exact I2.out, I3.out, I4.out⟩
    · have hne : (x1 != id) = true := by simpa using hin
      have HIN := Lib.hid hin
      clear hin
      cases x2 with
      | true =>
        gi_wp2
        all_goals (try go_bits)
        exact ⟨M, Chg.refl _ _, fun k hk => .inl hk, u, I1.out, I0.out, by rw [HSN.out, if_neg (by simp), List.append_nil]; exact I2.out, I3.out, I4.out⟩
      | false =>
        gi_wp2_with ((gi_at_builtin; refine wpListIn_append_own_at _ rfl _ _ 33 rfl (w.heap.size + 4) 3 i0 (.int .i64 0) 1 8 Try.underlying33 hi hz0 hz1 hz2 rfl (by decide) _ _ _ rfl (ownsRow_alloc I2.out _) ⟨W.heap.size, 0, none⟩ 1 1 [iv x1] rfl rfl (cell_one_new _ _ _) (by simp [Value.oneCell']) (by unfold maxLen; omega) (by omega) (by simp; omega) ?_; intro v' w2 hown2 hgrow hnil hloc; obtain ⟨a2, n2, cp2, rfl⟩ := slice_form2 hown2; have hkb := (hgrow.block (w.heap.size + 1) (by simp; omega) (fun e => by have := (ownsRow_base I2.out e.symm).1; omega)).trans (Go.heap_alloc_old W _ hlt); have hki := (hgrow.block w.heap.size (by simp; omega) (fun e => by have := (ownsRow_base I2.out e.symm).1; omega)).trans (Go.heap_alloc_old W _ (by omega)); have q0 := (World.cell?_of_block (a := ⟨w.heap.size + 1, 0, none⟩) hkb).trans d0; have q1 : w2.frozen? ⟨w.heap.size + 1, 0, none⟩ = false := free_block (hkb.trans I1.out) 0))
        have hch : Chg M W w2 := (chg_alloc W _).trans (chg_grown hgrow (fun k e => (I3.out k).2 (.inr e)))
        have hbox : M (w.heap.size + 1) := (I3.out _).2 (.inl rfl)
        generalize hv' : Value.slice a2 n2 cp2 = v' at *
        refine ⟨fun k => k = w.heap.size + 1 ∨ v'.ownBlock = some k, hch.trans (chg_set hbox 0 _), ?_, v', ?_, ?_, ?_, fun _ => Iff.rfl, ?_⟩
        · rintro k (h | h)
          · exact .inl ((I3.out k).2 (.inl h))
          · rcases hloc with e | e
            · exact .inl ((I3.out k).2 (.inr (e.symm.trans h)))
            · rw [e] at h; cases h; exact .inr (by simp)
        · have := heap_setCell_same w2 (w.heap.size + 1) 0 _ _ v' (hkb.trans I1.out)
          unfold Boxed
          simpa using this
        · exact (heap_setCell_other _ _ _ _ (by simp)).trans (hki.trans I0.out)
        · rw [HSN.out, if_pos (by simp [HIN.out]), List.length_append, List.map_append]
          exact ownsRow_keeps hown2 (fun g hg => heap_setCell_other _ _ _ _ (by have := (ownsRow_base hown2 hg).1; simp; omega))
        · refine I4.out.trans ?_
          have hc2 := hch.trans (chg_set (w := w2) hbox 0 v')
          exact ⟨hc2.os, hc2.tape, hc2.output, hc2.size, fun k hk => hc2.block k (by omega) (fun h => by
            rcases (I3.out k).1 h with h | h
            · omega
            · have := (ownsRow_base I2.out h).1; omega)⟩
  case done =>
    rintro Dd M W hD2 hMD ⟨u, i1, i0, i2, i3, i4⟩ hK
    have d0 := i1.cell
    have hfinal : ∀ o, IntsIn (Old (W.putObj Dd o).heap.size) (W.putObj Dd o) u ((acc.filter (fun p => decide (p.1 ≠ id) && !p.2)).map (·.1)) := fun o => by
      have h8 : W.ownsRow (w.heap.size + 4) 3 1 u ((acc.filter (fun p => decide (p.1 ≠ id) && !p.2)).map (·.1)).length (((acc.filter (fun p => decide (p.1 ≠ id) && !p.2)).map (·.1)).map iv) := by rw [List.map_map, List.length_map]; exact i2
      have hDv : u.ownBlock ≠ some Dd := fun e => hMD ((i3 _).2 (.inr e))
      have h9 : (W.putObj Dd o).ownsRow (w.heap.size + 4) 3 1 u ((acc.filter (fun p => decide (p.1 ≠ id) && !p.2)).map (·.1)).length (((acc.filter (fun p => decide (p.1 ≠ id) && !p.2)).map (·.1)).map iv) := ownsRow_keeps h8 (fun q hq => World.putObj_heap_other (by rintro rfl; exact hDv hq))
      exact (intsIn_row h9).old
    gi_wp2
    refine ⟨by simp, .inl ⟨_, _, rfl, run_takeDeferred hK, ?_⟩⟩
    exact ⟨_, results_tmp rfl _ _ _, ⟨_, rfl, by rw [HALL.out]; exact hfinal _⟩, i4.trans (below_putObj _ (by omega) _)⟩
  case stop =>
    rintro Dd c pre M W _ _ _ h _
    exact h.elim
end Go.Proofs.Ytinkjhkbaadbpaa
