/- store.copied and view.copied: a record that shares nothing. -/
import Derived.Test.YtinkjhkbaadbpaaR2
import Derived.Deep.RegionHeld3
import Derived.Deep.DeepCutAuto
namespace Go.Proofs.Ytinkjhkbaadbpaa
open Go.RowKit

theorem IntsIn.bound {F : Nat → Prop} {w : World} {v : Value} {xs : List Int} (h : IntsIn F w v xs) : IntsIn (fun b => F b ∧ b < w.heap.size) w v xs := by
  obtain ⟨a, cap, rfl, h1, h2, hx⟩ := h
  cases xs with
  | nil => exact ⟨a, cap, rfl, h1, h2, .inl rfl⟩
  | cons x xs =>
    rcases hx with hx | ⟨g, off, rfl, hg, hc⟩
    · cases hx
    · exact ⟨_, cap, rfl, h1, h2, .inr ⟨g, off, rfl, ⟨hg, World.block_lt_of_cell? w _ (hc 0 x rfl)⟩, hc⟩⟩
theorem Keeps.setCell {F : Nat → Prop} {w w' : World} (h : Keeps F w w') {a : Addr} (v : Value) (ha : ¬ F a.block) : Keeps F w (w'.setCell a v) :=
  fun k hk => (heap_setCell_other w' a k v (by rintro rfl; exact ha hk)).trans (h k hk)
theorem Keeps.setAt {F : Nat → Prop} {w w' : World} (h : Keeps F w w') {b : Nat} (hb : ¬ F b) (j : Nat) (v : Value) : Keeps F w (w'.setCell ⟨b, j, none⟩ v) := h.setCell v hb
theorem below_setAt {B : Nat} {w w' : World} (h : Below B w w') {b : Nat} (hb : B ≤ b) (j : Nat) (v : Value) : Below B w (w'.setCell ⟨b, j, none⟩ v) := h.setCell (p := ⟨b, j, none⟩) hb v
theorem cells7 {w : World} {B T : Nat} {a0 a1 a2 a3 a4 a5 a6 : Value} (h : w.heap[B]? = some (.cells #[a0, a1, a2, a3, a4, a5, a6] T (0, 0))) :
    w.cell? ⟨B, 0, none⟩ = some a0 ∧ w.cell? ⟨B, 1, none⟩ = some a1 ∧ w.cell? ⟨B, 2, none⟩ = some a2 ∧ w.cell? ⟨B, 3, none⟩ = some a3 ∧ w.cell? ⟨B, 4, none⟩ = some a4 ∧ w.cell? ⟨B, 5, none⟩ = some a5 ∧ w.cell? ⟨B, 6, none⟩ = some a6 := by
  refine ⟨?_, ?_, ?_, ?_, ?_, ?_, ?_⟩ <;> simp [World.cell?, h]
theorem free_block {w : World} {B T : Nat} {cs : Array Value} (h : w.heap[B]? = some (.cells cs T (0, 0))) (j : Nat) : w.frozen? ⟨B, j, none⟩ = false := by simp [World.frozen?, h]

set_option maxRecDepth 100000 in
set_option maxHeartbeats 2000000 in
theorem copied_any (r : Rec) (kv av : Value) (F : Nat → Prop) (w : World) (hk : IntsIn F w kv r.kids) (ha : IntsIn F w av r.attrs) (hF : ∀ k, F k → k < w.heap.size)
    (hr : r.kids.length * 8 ≤ 140737488351232) (hr2 : r.attrs.length * 8 ≤ 140737488351232) :
    Calls Try.prog 92 #[recV r kv av] w fun e w' => (∃ kv' av', e = .returned (recV r kv' av') ∧ IntsIn (New w.heap.size) w' kv' r.kids ∧ IntsIn (New w.heap.size) w' av' r.attrs) ∧ Below w.heap.size w w' := by
  have hk2 := hk
  have ha2 := ha
  obtain ⟨ka, kc, rfl, -, -, -⟩ := hk2
  obtain ⟨aa, ac, rfl, -, -, -⟩ := ha2
  obtain ⟨kind, name, text, parent, kids, attrs, gone⟩ := r
  simp only at *
  have HK : ∀ w' : World, Below w.heap.size w w' → IntsIn F w' (.slice ka kids.length kc) kids := fun w' hb => hk.keep ((keeps_below hb).mono hF)
  have HA : ∀ w' : World, Below w.heap.size w w' → IntsIn F w' (.slice aa attrs.length ac) attrs := fun w' hb => ha.keep ((keeps_below hb).mono hF)
  have HK := Lib.hid HK
  have HA := Lib.hid HA
  have HF := Lib.hid hF
  have HR := Lib.hid hr
  have HR2 := Lib.hid hr2
  clear hk ha hF hr hr2
  go_enter Try.func92, Try.ntmps92
  go_upto_region 1 with fail
  obtain ⟨hbW, hsz⟩ : Below w.heap.size w ((w.alloc (Obj.cells #[Value.int IntKind.i64 kind, Value.string name, Value.string text, Value.int IntKind.i64 parent, Value.slice ka kids.length kc, Value.slice aa attrs.length ac, Value.bool gone] 52)).alloc
      (Obj.cells #[Value.int IntKind.i64 0, Value.string { data := #[] }, Value.string { data := #[] }, Value.int IntKind.i64 0, Value.slice none 0 0, Value.slice none 0 0, Value.bool false] 52)) ∧
      ((w.alloc (Obj.cells #[Value.int IntKind.i64 kind, Value.string name, Value.string text, Value.int IntKind.i64 parent, Value.slice ka kids.length kc, Value.slice aa attrs.length ac, Value.bool gone] 52)).alloc
      (Obj.cells #[Value.int IntKind.i64 0, Value.string { data := #[] }, Value.string { data := #[] }, Value.int IntKind.i64 0, Value.slice none 0 0, Value.slice none 0 0, Value.bool false] 52)).heap.size = w.heap.size + 2 :=
    ⟨((Below.refl _ _).alloc (Nat.le_refl _) _).alloc (by simp) _, by simp⟩
  have hB0 := Below.heap_alloc (w.alloc (Obj.cells #[Value.int IntKind.i64 kind, Value.string name, Value.string text, Value.int IntKind.i64 parent, Value.slice ka kids.length kc, Value.slice aa attrs.length ac, Value.bool gone] 52)) (Obj.cells #[Value.int IntKind.i64 0, Value.string { data := #[] }, Value.string { data := #[] }, Value.int IntKind.i64 0, Value.slice none 0 0, Value.slice none 0 0, Value.bool false] 52) w.heap.size (by simp)
  rw [Go.heap_alloc_new] at hB0
  have hB1 := Go.heap_alloc_new (w.alloc (Obj.cells #[Value.int IntKind.i64 kind, Value.string name, Value.string text, Value.int IntKind.i64 parent, Value.slice ka kids.length kc, Value.slice aa attrs.length ac, Value.bool gone] 52)) (Obj.cells #[Value.int IntKind.i64 0, Value.string { data := #[] }, Value.string { data := #[] }, Value.int IntKind.i64 0, Value.slice none 0 0, Value.slice none 0 0, Value.bool false] 52)
  rw [World.size_alloc] at hB1
  generalize ((w.alloc (Obj.cells #[Value.int IntKind.i64 kind, Value.string name, Value.string text, Value.int IntKind.i64 parent, Value.slice ka kids.length kc, Value.slice aa attrs.length ac, Value.bool gone] 52)).alloc
      (Obj.cells #[Value.int IntKind.i64 0, Value.string { data := #[] }, Value.string { data := #[] }, Value.int IntKind.i64 0, Value.slice none 0 0, Value.slice none 0 0, Value.bool false] 52)) = W at *
  have HB0 := Lib.hid hB0
  have HB1 := Lib.hid hB1
  have HSZ := Lib.hid hsz
  have c4 : W.cell? ⟨w.heap.size, 4, none⟩ = some (Value.slice ka kids.length kc) := by simp [World.cell?, hB0]
  have c5 : W.cell? ⟨w.heap.size, 5, none⟩ = some (Value.slice aa attrs.length ac) := by simp [World.cell?, hB0]
  clear hB0 hB1 hsz
  have hlt : w.heap.size < W.heap.size := by rw [HSZ.out]; omega
  have HLT := Lib.hid hlt
  clear hlt
  have f4 : W.frozen? ⟨w.heap.size, 4, none⟩ = false := by simp [World.frozen?, HB0.out]
  have f5 : W.frozen? ⟨w.heap.size, 5, none⟩ = false := by simp [World.frozen?, HB0.out]
  go_cut [] (fun wx => ∃ ka' kc' aa' ac', wx.heap[w.heap.size]? = some (Obj.cells #[Value.int IntKind.i64 kind, Value.string name, Value.string text, Value.int IntKind.i64 parent, Value.slice ka' kids.length kc', Value.slice aa' attrs.length ac', Value.bool gone] 52) ∧
    wx.heap[w.heap.size + 1]? = some (Obj.cells #[Value.int IntKind.i64 0, Value.string { data := #[] }, Value.string { data := #[] }, Value.int IntKind.i64 0, Value.slice none 0 0, Value.slice none 0 0, Value.bool false] 52) ∧
    IntsIn (New (w.heap.size + 2)) wx (.slice ka' kids.length kc') kids ∧ IntsIn (New (w.heap.size + 2)) wx (.slice aa' attrs.length ac') attrs ∧ Below w.heap.size w wx)
  case first =>
    go_region_with (first
        | (go_at_call_of 121 (Value.slice ka kids.length kc); refine (clone_any kids F _ _ (HK.out _ hbW.drew) (fun k hk => Nat.lt_of_lt_of_le (HF.out k hk) hbW.size) HR.out).mono ?_; rintro e w1 ⟨⟨kv', rfl, hk1⟩, hb1⟩; have HK1 := Lib.hid hk1; obtain ⟨ka', kc', rfl, -, -, -⟩ := hk1; have c5' := (hb1.cell (p := ⟨w.heap.size, 5, none⟩) HLT.out).trans c5; have f4' := (hb1.frozen (p := ⟨w.heap.size, 4, none⟩) HLT.out).trans f4; have f5' := (hb1.frozen (p := ⟨w.heap.size, 5, none⟩) HLT.out).trans f5)
        | (go_at_call 121; refine (clone_any attrs F _ _ (HA.out _ (hbW.drew.trans (hb1.mono hbW.size))) (fun k hk => Nat.lt_of_lt_of_le (HF.out k hk) (Nat.le_trans hbW.size hb1.size)) HR2.out).mono ?_; rintro e w2 ⟨⟨av', rfl, ha1⟩, hb2⟩; have HA1 := Lib.hid ha1; obtain ⟨aa', ac', rfl, -, -, -⟩ := ha1; have d4 := (hb2.cell (p := ⟨w.heap.size, 4, none⟩) (Nat.lt_of_lt_of_le HLT.out hb1.size)).trans ((hb1.cell (p := ⟨w.heap.size, 4, none⟩) HLT.out).trans c4); have d5 := (hb2.cell (p := ⟨w.heap.size, 5, none⟩) (Nat.lt_of_lt_of_le HLT.out hb1.size)).trans c5'; have e4 := (hb2.frozen (p := ⟨w.heap.size, 4, none⟩) (Nat.lt_of_lt_of_le HLT.out hb1.size)).trans f4'; have e5 := (hb2.frozen (p := ⟨w.heap.size, 5, none⟩) (Nat.lt_of_lt_of_le HLT.out hb1.size)).trans f5'))
    all_goals
      go_wp2_with fail
      go_meet
      have hk0 : Below W.heap.size W w2 := (Below.refl _ W).drew.trans (hb1.trans (hb2.mono hb1.size))
      have hlt1 : w.heap.size + 1 < W.heap.size := by have := HSZ.out; omega
      have g0 := (hk0.block w.heap.size HLT.out).trans HB0.out
      have g1 := (hk0.block (w.heap.size + 1) hlt1).trans HB1.out
      have hbw2 : Below w.heap.size w w2 := hbW.trans (hk0.mono hbW.size)
      have i1 : IntsIn (New (w.heap.size + 2)) w2 (.slice ka' kids.length kc') kids := (HK1.out.bound.keep ((keeps_below hb2).mono (fun k hk => hk.2))).mono (fun k hk => by have := hk.1; have := HSZ.out; simp at *; omega)
      have i2 : IntsIn (New (w.heap.size + 2)) w2 (.slice aa' attrs.length ac') attrs := HA1.out.mono (fun k hk => by have := hb1.size; have := HSZ.out; simp at *; omega)
      have hkp : ∀ a b, Keeps (New (w.heap.size + 2)) w2 ((w2.setCell ⟨w.heap.size, 4, none⟩ a).setCell ⟨w.heap.size, 5, none⟩ b) := fun a b k hk => (heap_setCell_other _ _ _ _ (by simp at *; omega)).trans (heap_setCell_other _ _ _ _ (by simp at *; omega))
      refine ⟨ka', kc', aa', ac', ?_, ?_, i1.keep (hkp _ _), i2.keep (hkp _ _), (hbw2.setCell (Nat.le_refl _) _).setCell (Nat.le_refl _) _⟩
      · have := heap_setCell_same _ w.heap.size 5 _ _ (Value.slice aa' attrs.length ac') (heap_setCell_same w2 w.heap.size 4 _ _ (Value.slice ka' kids.length kc') g0)
        simpa using this
      · exact ((heap_setCell_other _ _ _ _ (by simp)).trans (heap_setCell_other _ _ _ _ (by simp))).trans g1
  case rest =>
    obtain ⟨ka', kc', aa', ac', g0, g1, i1, i2, hbx⟩ := hcut
    obtain ⟨p0, p1, p2, p3, p4, p5, p6⟩ := cells7 g0
    obtain ⟨q0, q1, q2, q3, q4, q5, q6⟩ := cells7 g1
    have hfr0 := free_block g0
    have hfr1 := free_block g1
    have I1 := Lib.hid i1
    have I2 := Lib.hid i2
    have HBX := Lib.hid hbx
    clear g0 g1 i1 i2 hbx c4 c5 f4 f5 hbW
    go_wp2
    have hn : ¬ New (w.heap.size + 2) (w.heap.size + 1) := by simp
    have hp : w.heap.size ≤ w.heap.size + 1 := Nat.le_succ _
    refine bodyPost_ret (v := recV ⟨kind, name, text, parent, kids, attrs, gone⟩ (.slice ka' kids.length kc') (.slice aa' attrs.length ac')) (by simp [results, Try.results92, go_sem, *]) rfl ⟨⟨_, _, rfl, ?_, ?_⟩, ?_⟩
    · exact (I1.out.keep ((((((((Keeps.refl (New (w.heap.size + 2)) wc).setAt hn 0 _).setAt hn 1 _).setAt hn 2 _).setAt hn 3 _).setAt hn 4 _).setAt hn 5 _).setAt hn 6 _)).mono (fun k hk => Nat.le_trans (Nat.le_add_right _ _) hk)
    · exact (I2.out.keep ((((((((Keeps.refl (New (w.heap.size + 2)) wc).setAt hn 0 _).setAt hn 1 _).setAt hn 2 _).setAt hn 3 _).setAt hn 4 _).setAt hn 5 _).setAt hn 6 _)).mono (fun k hk => Nat.le_trans (Nat.le_add_right _ _) hk)
    · exact below_setAt (below_setAt (below_setAt (below_setAt (below_setAt (below_setAt (below_setAt HBX.out hp 0 _) hp 1 _) hp 2 _) hp 3 _) hp 4 _) hp 5 _) hp 6 _
set_option maxRecDepth 100000 in
set_option maxHeartbeats 2000000 in
theorem vcopied_any (r : Rec) (kv av : Value) (F : Nat → Prop) (w : World) (hk : IntsIn F w kv r.kids) (ha : IntsIn F w av r.attrs) (hF : ∀ k, F k → k < w.heap.size)
    (hr : r.kids.length * 8 ≤ 140737488351232) (hr2 : r.attrs.length * 8 ≤ 140737488351232) :
    Calls Try.prog 85 #[recV r kv av] w fun e w' => (∃ kv' av', e = .returned (recV r kv' av') ∧ IntsIn (New w.heap.size) w' kv' r.kids ∧ IntsIn (New w.heap.size) w' av' r.attrs) ∧ Below w.heap.size w w' := by
  have hk2 := hk
  have ha2 := ha
  obtain ⟨ka, kc, rfl, -, -, -⟩ := hk2
  obtain ⟨aa, ac, rfl, -, -, -⟩ := ha2
  obtain ⟨kind, name, text, parent, kids, attrs, gone⟩ := r
  simp only at *
  have HK : ∀ w' : World, Below w.heap.size w w' → IntsIn F w' (.slice ka kids.length kc) kids := fun w' hb => hk.keep ((keeps_below hb).mono hF)
  have HA : ∀ w' : World, Below w.heap.size w w' → IntsIn F w' (.slice aa attrs.length ac) attrs := fun w' hb => ha.keep ((keeps_below hb).mono hF)
  have HK := Lib.hid HK
  have HA := Lib.hid HA
  have HF := Lib.hid hF
  have HR := Lib.hid hr
  have HR2 := Lib.hid hr2
  clear hk ha hF hr hr2
  go_enter Try.func85, Try.ntmps85
  go_upto_region 1 with fail
  obtain ⟨hbW, hsz⟩ : Below w.heap.size w ((w.alloc (Obj.cells #[Value.int IntKind.i64 kind, Value.string name, Value.string text, Value.int IntKind.i64 parent, Value.slice ka kids.length kc, Value.slice aa attrs.length ac, Value.bool gone] 52)).alloc
      (Obj.cells #[Value.int IntKind.i64 0, Value.string { data := #[] }, Value.string { data := #[] }, Value.int IntKind.i64 0, Value.slice none 0 0, Value.slice none 0 0, Value.bool false] 52)) ∧
      ((w.alloc (Obj.cells #[Value.int IntKind.i64 kind, Value.string name, Value.string text, Value.int IntKind.i64 parent, Value.slice ka kids.length kc, Value.slice aa attrs.length ac, Value.bool gone] 52)).alloc
      (Obj.cells #[Value.int IntKind.i64 0, Value.string { data := #[] }, Value.string { data := #[] }, Value.int IntKind.i64 0, Value.slice none 0 0, Value.slice none 0 0, Value.bool false] 52)).heap.size = w.heap.size + 2 :=
    ⟨((Below.refl _ _).alloc (Nat.le_refl _) _).alloc (by simp) _, by simp⟩
  have hB0 := Below.heap_alloc (w.alloc (Obj.cells #[Value.int IntKind.i64 kind, Value.string name, Value.string text, Value.int IntKind.i64 parent, Value.slice ka kids.length kc, Value.slice aa attrs.length ac, Value.bool gone] 52)) (Obj.cells #[Value.int IntKind.i64 0, Value.string { data := #[] }, Value.string { data := #[] }, Value.int IntKind.i64 0, Value.slice none 0 0, Value.slice none 0 0, Value.bool false] 52) w.heap.size (by simp)
  rw [Go.heap_alloc_new] at hB0
  have hB1 := Go.heap_alloc_new (w.alloc (Obj.cells #[Value.int IntKind.i64 kind, Value.string name, Value.string text, Value.int IntKind.i64 parent, Value.slice ka kids.length kc, Value.slice aa attrs.length ac, Value.bool gone] 52)) (Obj.cells #[Value.int IntKind.i64 0, Value.string { data := #[] }, Value.string { data := #[] }, Value.int IntKind.i64 0, Value.slice none 0 0, Value.slice none 0 0, Value.bool false] 52)
  rw [World.size_alloc] at hB1
  generalize ((w.alloc (Obj.cells #[Value.int IntKind.i64 kind, Value.string name, Value.string text, Value.int IntKind.i64 parent, Value.slice ka kids.length kc, Value.slice aa attrs.length ac, Value.bool gone] 52)).alloc
      (Obj.cells #[Value.int IntKind.i64 0, Value.string { data := #[] }, Value.string { data := #[] }, Value.int IntKind.i64 0, Value.slice none 0 0, Value.slice none 0 0, Value.bool false] 52)) = W at *
  have HB0 := Lib.hid hB0
  have HB1 := Lib.hid hB1
  have HSZ := Lib.hid hsz
  have c4 : W.cell? ⟨w.heap.size, 4, none⟩ = some (Value.slice ka kids.length kc) := by simp [World.cell?, hB0]
  have c5 : W.cell? ⟨w.heap.size, 5, none⟩ = some (Value.slice aa attrs.length ac) := by simp [World.cell?, hB0]
  clear hB0 hB1 hsz
  have hlt : w.heap.size < W.heap.size := by rw [HSZ.out]; omega
  have HLT := Lib.hid hlt
  clear hlt
  have f4 : W.frozen? ⟨w.heap.size, 4, none⟩ = false := by simp [World.frozen?, HB0.out]
  have f5 : W.frozen? ⟨w.heap.size, 5, none⟩ = false := by simp [World.frozen?, HB0.out]
  go_cut [] (fun wx => ∃ ka' kc' aa' ac', wx.heap[w.heap.size]? = some (Obj.cells #[Value.int IntKind.i64 kind, Value.string name, Value.string text, Value.int IntKind.i64 parent, Value.slice ka' kids.length kc', Value.slice aa' attrs.length ac', Value.bool gone] 52) ∧
    wx.heap[w.heap.size + 1]? = some (Obj.cells #[Value.int IntKind.i64 0, Value.string { data := #[] }, Value.string { data := #[] }, Value.int IntKind.i64 0, Value.slice none 0 0, Value.slice none 0 0, Value.bool false] 52) ∧
    IntsIn (New (w.heap.size + 2)) wx (.slice ka' kids.length kc') kids ∧ IntsIn (New (w.heap.size + 2)) wx (.slice aa' attrs.length ac') attrs ∧ Below w.heap.size w wx)
  case first =>
    go_region_with (first
        | (go_at_call_of 121 (Value.slice ka kids.length kc); refine (clone_any kids F _ _ (HK.out _ hbW.drew) (fun k hk => Nat.lt_of_lt_of_le (HF.out k hk) hbW.size) HR.out).mono ?_; rintro e w1 ⟨⟨kv', rfl, hk1⟩, hb1⟩; have HK1 := Lib.hid hk1; obtain ⟨ka', kc', rfl, -, -, -⟩ := hk1; have c5' := (hb1.cell (p := ⟨w.heap.size, 5, none⟩) HLT.out).trans c5; have f4' := (hb1.frozen (p := ⟨w.heap.size, 4, none⟩) HLT.out).trans f4; have f5' := (hb1.frozen (p := ⟨w.heap.size, 5, none⟩) HLT.out).trans f5)
        | (go_at_call 121; refine (clone_any attrs F _ _ (HA.out _ (hbW.drew.trans (hb1.mono hbW.size))) (fun k hk => Nat.lt_of_lt_of_le (HF.out k hk) (Nat.le_trans hbW.size hb1.size)) HR2.out).mono ?_; rintro e w2 ⟨⟨av', rfl, ha1⟩, hb2⟩; have HA1 := Lib.hid ha1; obtain ⟨aa', ac', rfl, -, -, -⟩ := ha1; have d4 := (hb2.cell (p := ⟨w.heap.size, 4, none⟩) (Nat.lt_of_lt_of_le HLT.out hb1.size)).trans ((hb1.cell (p := ⟨w.heap.size, 4, none⟩) HLT.out).trans c4); have d5 := (hb2.cell (p := ⟨w.heap.size, 5, none⟩) (Nat.lt_of_lt_of_le HLT.out hb1.size)).trans c5'; have e4 := (hb2.frozen (p := ⟨w.heap.size, 4, none⟩) (Nat.lt_of_lt_of_le HLT.out hb1.size)).trans f4'; have e5 := (hb2.frozen (p := ⟨w.heap.size, 5, none⟩) (Nat.lt_of_lt_of_le HLT.out hb1.size)).trans f5'))
    all_goals
      go_wp2_with fail
      go_meet
      have hk0 : Below W.heap.size W w2 := (Below.refl _ W).drew.trans (hb1.trans (hb2.mono hb1.size))
      have hlt1 : w.heap.size + 1 < W.heap.size := by have := HSZ.out; omega
      have g0 := (hk0.block w.heap.size HLT.out).trans HB0.out
      have g1 := (hk0.block (w.heap.size + 1) hlt1).trans HB1.out
      have hbw2 : Below w.heap.size w w2 := hbW.trans (hk0.mono hbW.size)
      have i1 : IntsIn (New (w.heap.size + 2)) w2 (.slice ka' kids.length kc') kids := (HK1.out.bound.keep ((keeps_below hb2).mono (fun k hk => hk.2))).mono (fun k hk => by have := hk.1; have := HSZ.out; simp at *; omega)
      have i2 : IntsIn (New (w.heap.size + 2)) w2 (.slice aa' attrs.length ac') attrs := HA1.out.mono (fun k hk => by have := hb1.size; have := HSZ.out; simp at *; omega)
      have hkp : ∀ a b, Keeps (New (w.heap.size + 2)) w2 ((w2.setCell ⟨w.heap.size, 4, none⟩ a).setCell ⟨w.heap.size, 5, none⟩ b) := fun a b k hk => (heap_setCell_other _ _ _ _ (by simp at *; omega)).trans (heap_setCell_other _ _ _ _ (by simp at *; omega))
      refine ⟨ka', kc', aa', ac', ?_, ?_, i1.keep (hkp _ _), i2.keep (hkp _ _), (hbw2.setCell (Nat.le_refl _) _).setCell (Nat.le_refl _) _⟩
      · have := heap_setCell_same _ w.heap.size 5 _ _ (Value.slice aa' attrs.length ac') (heap_setCell_same w2 w.heap.size 4 _ _ (Value.slice ka' kids.length kc') g0)
        simpa using this
      · exact ((heap_setCell_other _ _ _ _ (by simp)).trans (heap_setCell_other _ _ _ _ (by simp))).trans g1
  case rest =>
    obtain ⟨ka', kc', aa', ac', g0, g1, i1, i2, hbx⟩ := hcut
    obtain ⟨p0, p1, p2, p3, p4, p5, p6⟩ := cells7 g0
    obtain ⟨q0, q1, q2, q3, q4, q5, q6⟩ := cells7 g1
    have hfr0 := free_block g0
    have hfr1 := free_block g1
    have I1 := Lib.hid i1
    have I2 := Lib.hid i2
    have HBX := Lib.hid hbx
    clear g0 g1 i1 i2 hbx c4 c5 f4 f5 hbW
    go_wp2
    have hn : ¬ New (w.heap.size + 2) (w.heap.size + 1) := by simp
    have hp : w.heap.size ≤ w.heap.size + 1 := Nat.le_succ _
    refine bodyPost_ret (v := recV ⟨kind, name, text, parent, kids, attrs, gone⟩ (.slice ka' kids.length kc') (.slice aa' attrs.length ac')) (by simp [results, Try.results85, go_sem, *]) rfl ⟨⟨_, _, rfl, ?_, ?_⟩, ?_⟩
    · exact (I1.out.keep ((((((((Keeps.refl (New (w.heap.size + 2)) wc).setAt hn 0 _).setAt hn 1 _).setAt hn 2 _).setAt hn 3 _).setAt hn 4 _).setAt hn 5 _).setAt hn 6 _)).mono (fun k hk => Nat.le_trans (Nat.le_add_right _ _) hk)
    · exact (I2.out.keep ((((((((Keeps.refl (New (w.heap.size + 2)) wc).setAt hn 0 _).setAt hn 1 _).setAt hn 2 _).setAt hn 3 _).setAt hn 4 _).setAt hn 5 _).setAt hn 6 _)).mono (fun k hk => Nat.le_trans (Nat.le_add_right _ _) hk)
    · exact below_setAt (below_setAt (below_setAt (below_setAt (below_setAt (below_setAt (below_setAt HBX.out hp 0 _) hp 1 _) hp 2 _) hp 3 _) hp 4 _) hp 5 _) hp 6 _
end Go.Proofs.Ytinkjhkbaadbpaa
