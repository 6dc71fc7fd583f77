/- Put (66) of a view. -/
import Derived.Test.YtinkjhkbaadbpaaVG
import Derived.Test.YtinkjhkbaadbpaaIN
namespace Go.Proofs.Ytinkjhkbaadbpaa
open Go.RowKit
open Go.ChangeMaps (setBlock)
set_option linter.unusedVariables false

def setV (V : Vw) (id : Int) (r : Rec) : Vw := ⟨fun j => if j = id then some r else V.own j, V.time⟩
/-- a change is laid into the view's map -/
theorem VIn.put {D E : Nat → Prop} {w w2 : World} {v m : Nat} {sp : Value} {V : Vw} (h : VIn D w v m sp V) (hD : ∀ k, D k → k < w.heap.size ∧ k ≠ m) {id : Int} {r : Rec} {x : Value} (hok : RecOk r) (hx : RecV E w2 x r) (hE : ∀ k, E k → k ≠ m) (hDE : ∀ k, D k → E k) (hb : Chg (fun _ => False) w w2) {f : Int → Option Value} (hf1 : ∀ id x, f id = some x → ∃ r, V.own id = some r ∧ RecV D w x r) (hf2 : ∀ id, f id = none → V.own id = none)
    {es : Array MapEntry} {ck : Nat} (hview : MapView iv es ck (upd f id (some x))) : VIn E (setBlock w2 m (.map es ck)) v m sp (setV V id r) ∧ Chg (fun k => k = m) w (setBlock w2 m (.map es ck)) := by
  have hml := h.lt
  have hs := hb.size
  have hm2 : m < w2.heap.size := by omega
  have hch : Chg (fun k => k = m) w2 (setBlock w2 m (.map es ck)) := chg_setBlock (M := fun k => k = m) rfl _
  have hkE : Keeps E w2 (setBlock w2 m (.map es ck)) := fun k hk => heap_setBlock_other _ (hE k hk)
  refine ⟨⟨?_, ?_, ?_⟩, (hb.mono (fun k hk => hk.elim)).trans hch⟩
  · exact (heap_setBlock_other _ h.ne).trans ((hb.block v hml.1 (fun f => f)).trans h.cell)
  · refine ⟨upd f id (some x), ⟨es, ck, heap_setBlock_same hm2 _, hview⟩, fun j y hy => ?_, fun j hj => ?_⟩
    · by_cases e : j = id
      · subst e
        rw [upd_same] at hy
        cases hy
        exact ⟨r, by simp [setV], hx.keep hkE⟩
      · rw [upd_other _ _ e] at hy
        obtain ⟨r', h1, h2⟩ := hf1 j y hy
        refine ⟨r', by simp [setV, e, h1], ((h2.keep (w' := setBlock w2 m (.map es ck)) (fun k hk => (heap_setBlock_other _ (hD k hk).2).trans (hb.block k (hD k hk).1 (fun f => f)))).mono hDE)⟩
    · by_cases e : j = id
      · subst e; rw [upd_same] at hj; cases hj
      · rw [upd_other _ _ e] at hj
        simp [setV, e, hf2 j hj]
  · intro j r' hr'
    by_cases e : j = id
    · subst e
      simp [setV] at hr'
      subst hr'; exact hok
    · simp [setV, e] at hr'
      exact h.ok j r' hr'

theorem RecV.bound {D : Nat → Prop} {w : World} {v : Value} {r : Rec} (h : RecV D w v r) : RecV (fun k => D k ∧ k < w.heap.size) w v r := by
  obtain ⟨kv, av, e, h1, h2⟩ := h
  exact ⟨kv, av, e, h1.bound, h2.bound⟩
/-- what Put answers and turns -/
def PutPost (D : Nat → Prop) (w : World) (v m : Nat) (sp : Value) (V : Vw) (id : Int) (r : Rec) (rb : Bool) (e : Ending) (w' : World) : Prop :=
  ((id < 1 ∨ rb = false) ∧ e = .returned (.int .i64 2) ∧ Below w.heap.size w w') ∨
      (1 ≤ id ∧ rb = true ∧ e = .returned (.int .i64 0) ∧ VIn (fun k => D k ∨ (w.heap.size ≤ k ∧ k < w'.heap.size)) w' v m sp (setV V id r) ∧ Chg (fun k => k = m) w w')
set_option maxRecDepth 100000 in
set_option maxHeartbeats 4000000 in
theorem put_any {D F : Nat → Prop} {w : World} {v m : Nat} {sp : Value} {V : Vw} (h : VIn D w v m sp V) (hD : ∀ k, D k → k < w.heap.size ∧ k ≠ m) (id : Int) {r : Rec} {x : Value} (hok : RecOk r) (hx : RecV F w x r) (hF : ∀ k, F k → k < w.heap.size) :
    Calls Try.prog 66 #[.pointer (some ⟨v, 0, none⟩), iv id, x] w (PutPost D w v m sp V id r (rightR r)) := by
  obtain ⟨f, hm, hf1, hf2⟩ := h.map
  obtain ⟨kv, av, rfl, hk, ha⟩ := hx
  obtain ⟨hvl, hml⟩ := h.lt
  have hcell := h.cell
  have c2 : w.cell? ⟨v, 2, none⟩ = some (.map (some m)) := by simp [World.cell?, hcell]
  obtain ⟨kind, name, text, parent, kids, attrs, gone⟩ := r
  obtain ⟨ka, kc, rfl, -, -, -⟩ := id_ hk
  obtain ⟨aa, ac, rfl, -, -, -⟩ := id_ ha
  simp only at hk ha ⊢
  obtain ⟨W, hW⟩ : ∃ W, w.alloc (.cells #[.int .i64 kind, .string name, .string text, .int .i64 parent, .slice ka kids.length kc, .slice aa attrs.length ac, .bool gone] 52) = W := ⟨_, rfl⟩
  have hbW : Below w.heap.size w W := by rw [← hW]; exact (Below.refl _ _).alloc (Nat.le_refl _) _
  have hlW : w.heap.size < W.heap.size := by rw [← hW]; simp
  have HNO := Lib.hid (vnone_any (w := W) ((hbW.block v hvl).trans hcell))
  have hkeep : ∀ W', Below w.heap.size w W' → IntsIn F W' (.slice ka kids.length kc) kids ∧ IntsIn F W' (.slice aa attrs.length ac) attrs := fun W' hb => ⟨hk.keep ((keeps_below hb).mono hF), ha.keep ((keeps_below hb).mono hF)⟩
  have HRI := Lib.hid (right_any ⟨kind, name, text, parent, kids, attrs, gone⟩ (.slice ka kids.length kc) (.slice aa attrs.length ac) F W (hkeep W hbW).1 (hkeep W hbW).2 (fun k hk => Nat.lt_of_lt_of_le (hF k hk) hbW.size))
  have HKP := Lib.hid hkeep
  have H := Lib.hid h
  have HM := Lib.hid hm
  have HF1 := Lib.hid hf1
  have HF2 := Lib.hid hf2
  have HD := Lib.hid hD
  have HFF := Lib.hid hF
  have HOK := Lib.hid hok
  have HWW := Lib.hid hW
  have HBW := Lib.hid hbW
  have HC := Lib.hid hcell
  clear h hm hf1 hf2 hD hF hok hW hbW hk ha hkeep hcell
  by_cases h1 : id < 1
  · go_enter Try.func66, Try.ntmps66
    go_wp2_with fail
    rw [HWW.out]
    refine HNO.out.mono ?_
    rintro e w1 ⟨rfl, rfl⟩
    go_wp2
    go_ret
    exact .inl ⟨.inl h1, rfl, HBW.out⟩
  · have hd1 : decide (id < 1) = false := decide_eq_false h1
    obtain ⟨rb, hrb⟩ : ∃ rb, rightR ⟨kind, name, text, parent, kids, attrs, gone⟩ = rb := ⟨_, rfl⟩
    rw [hrb] at HRI ⊢
    have e5 : ∀ W', Below W.heap.size W W' → W'.heap[w.heap.size]? = some (.cells #[.int .i64 kind, .string name, .string text, .int .i64 parent, .slice ka kids.length kc, .slice aa attrs.length ac, .bool gone] 52 (0, 0)) := fun W' hb => (hb.block _ hlW).trans (by rw [← HWW.out]; exact Go.heap_alloc_new _ _)
    have E5 := Lib.hid e5
    obtain ⟨x0, x1, x2, x3, x4, x5, x6⟩ := cells7 (e5 W (Below.refl _ _))
    have H1 := Lib.hid h1
    clear hrb e5 h1
    go_enter Try.func66, Try.ntmps66
    go_wp2_with fail
    rw [HWW.out]
    refine HNO.out.mono ?_
    rintro e w1 ⟨rfl, rfl⟩
    go_wp2_with fail
    refine HRI.out.mono ?_
    rintro e w2 ⟨rfl, hb2⟩
    cases rb with
    | false =>
      go_wp2
      go_ret
      exact .inl ⟨.inr rfl, rfl, HBW.out.trans (hb2.mono HBW.out.size)⟩
    | true =>
      have hb3 : Below w.heap.size w w2 := HBW.out.trans (hb2.mono HBW.out.size)
      obtain ⟨y0, y1, y2, y3, y4, y5, y6⟩ := cells7 (E5.out w2 hb2)
      have z2 : w2.cell? ⟨v, 2, none⟩ = some (.map (some m)) := (hb3.cell (p := ⟨v, 2, none⟩) hvl).trans c2
      have HCP := Lib.hid (vcopied_any ⟨kind, name, text, parent, kids, attrs, gone⟩ (.slice ka kids.length kc) (.slice aa attrs.length ac) F w2.drew (HKP.out _ hb3.drew).1 (HKP.out _ hb3.drew).2 (fun k hk => Nat.lt_of_lt_of_le (HFF.out k hk) hb3.size) HOK.out.1 HOK.out.2)
      have HB3 := Lib.hid hb3
      have hs3 := hb3.size
      clear hb2 hb3
      go_wp2_with fail
      go_region_with (go_at_call 85; refine HCP.out.mono ?_; rintro e w4 ⟨⟨kv', av', rfl, hk', ha'⟩, hb4⟩; have z4 := (hb4.cell (p := ⟨v, 2, none⟩) (Nat.lt_of_lt_of_le hvl hs3)).trans z2; obtain ⟨es', ck', hmu, hview⟩ := MapIs.store (HM.out.keep (w' := w4) ((hb4.block m (Nat.lt_of_lt_of_le hml hs3)).trans (HB3.out.block m hml))) key3 Try.underlying117 id (.agg #[.int .i64 kind, .string name, .string text, .int .i64 parent, kv', av', .bool gone]); have HRV := Lib.hid (⟨kv', av', rfl, hk', ha'⟩ : RecV (New w2.drew.heap.size) w4 (recV ⟨kind, name, text, parent, kids, attrs, gone⟩ kv' av') ⟨kind, name, text, parent, kids, attrs, gone⟩); have hk9 : IntsIn (New w2.drew.heap.size) w4 kv' kids := hk'; have ha9 : IntsIn (New w2.drew.heap.size) w4 av' attrs := ha'; obtain ⟨ka', kc', rfl, -, -, -⟩ := hk9; obtain ⟨aa', ac', rfl, -, -, -⟩ := ha9; have HV := Lib.hid hview; clear hview hk' ha')
      all_goals
        go_wp2
        go_ret
        have hb5 : Below w.heap.size w w4 := HB3.out.drew.trans (hb4.mono HB3.out.drew.size)
        have hs4 := hb4.size
        simp only [World.drew] at hs4
        refine .inr ⟨by have := H1.out; omega, rfl, rfl, ?_⟩
        exact VIn.put H.out HD.out HOK.out ((RecV.bound HRV.out).mono (fun k hk => .inr ⟨by have h9 : _ ≤ k := hk.1; simp only [World.drew] at h9; omega, by have := hk.2; simpa using this⟩)) (fun k hk => hk.elim (fun h => (HD.out k h).2) (fun h => by omega)) (fun k hk => .inl hk) (chg_new hb5) HF1.out HF2.out HV.out
end Go.Proofs.Ytinkjhkbaadbpaa
