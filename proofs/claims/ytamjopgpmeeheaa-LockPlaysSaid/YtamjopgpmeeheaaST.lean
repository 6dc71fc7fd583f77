/- step (12): a call of both. -/
import Derived.Test.YtamjopgpmeeheaaPB
import Derived.Test.YtamjopgpmeeheaaWK
import Derived.Test.YtamjopgpmeeheaaSM
import Derived.Outline
import Derived.Deep.CutBlock
import Derived.Deep.CutRange
import Derived.Deep.DeepCutAuto
namespace Go.Proofs.Ytamjopgpmeeheaa
open Go.RowKit
set_option linter.unusedVariables false

/-- the program's table and the reference's, side by side in memory from block B on -/
structure Two (B : Nat) (w : World) (s m : Nat) (M R F : Nat → Prop) (f : Int → Option Value) (T : Tb) (c : Nat) (s2 : Nat) (hd wt : List G3) : Prop where
  tab : TabF M R w s m f T c
  hM : ∀ k, M k → B ≤ k ∧ k < w.heap.size
  hR : ∀ k, R k → B ≤ k ∧ k < w.heap.size ∧ ¬ M k ∧ k ≠ s2
  rt : RTab F w s2 hd wt
  hF : ∀ k, F k → B ≤ k ∧ k < w.heap.size ∧ ¬ M k ∧ k ≠ s2
  s2m : ¬ M s2
  s2b : B ≤ s2
theorem Two.s2l {B : Nat} {w : World} {s m : Nat} {M R F : Nat → Prop} {f : Int → Option Value} {T : Tb} {c : Nat} {s2 : Nat} {hd wt : List G3} (h : Two B w s m M R F f T c s2 hd wt) : s2 < w.heap.size := by
  obtain ⟨v1, v2, hc, -⟩ := h.rt
  exact (Array.getElem?_eq_some_iff.1 hc).1
/-- what is new turns nothing of them -/
theorem Two.keepNew {B : Nat} {w w' : World} {s m : Nat} {M R F : Nat → Prop} {f : Int → Option Value} {T : Tb} {c : Nat} {s2 : Nat} {hd wt : List G3} (h : Two B w s m M R F f T c s2 hd wt) (hb : Below w.heap.size w w') : Two B w' s m M R F f T c s2 hd wt where
  tab := h.tab.keepNew (fun k hk => (h.hM k hk).2) (fun k hk => (h.hR k hk).2.1) hb
  hM k hk := ⟨(h.hM k hk).1, Nat.lt_of_lt_of_le (h.hM k hk).2 hb.size⟩
  hR k hk := ⟨(h.hR k hk).1, Nat.lt_of_lt_of_le (h.hR k hk).2.1 hb.size, (h.hR k hk).2.2⟩
  rt := h.rt.keep (hb.block _ h.s2l) (fun k hk => hb.block k (h.hF k hk).2.1)
  hF k hk := ⟨(h.hF k hk).1, Nat.lt_of_lt_of_le (h.hF k hk).2.1 hb.size, (h.hF k hk).2.2⟩
  s2m := h.s2m
  s2b := h.s2b
/-- a call of the program's table -/
theorem Two.left {B : Nat} {w w' : World} {s m : Nat} {M R F : Nat → Prop} {f : Int → Option Value} {T : Tb} {c : Nat} {s2 : Nat} {hd wt : List G3} (h : Two B w s m M R F f T c s2 hd wt) (hB : B ≤ w.heap.size) {M' R' : Nat → Prop} {f' : Int → Option Value} {T' : Tb} {c' : Nat}
    (ht : TabF M' R' w' s m f' T' c') (hM : ∀ k, M' k → M k ∨ (w.heap.size ≤ k ∧ k < w'.heap.size)) (hR : ∀ k, R' k → R k ∨ (w.heap.size ≤ k ∧ k < w'.heap.size)) (hRM : ∀ k, R' k → ¬ M' k) (hc : Chg M w w') : Two B w' s m M' R' F f' T' c' s2 hd wt where
  tab := ht
  hM k hk := (hM k hk).elim (fun h' => ⟨(h.hM k h').1, Nat.lt_of_lt_of_le (h.hM k h').2 hc.size⟩) (fun h' => ⟨by omega, h'.2⟩)
  hR k hk := ⟨(hR k hk).elim (fun h' => (h.hR k h').1) (fun h' => by omega), (hR k hk).elim (fun h' => Nat.lt_of_lt_of_le (h.hR k h').2.1 hc.size) (fun h' => h'.2), hRM k hk, (hR k hk).elim (fun h' => (h.hR k h').2.2.2) (fun h' => by have := h.s2l; omega)⟩
  rt := h.rt.keep (hc.block _ h.s2l h.s2m) (fun k hk => hc.block k (h.hF k hk).2.1 (h.hF k hk).2.2.1)
  hF k hk := ⟨(h.hF k hk).1, Nat.lt_of_lt_of_le (h.hF k hk).2.1 hc.size, fun hm => (hM k hm).elim (h.hF k hk).2.2.1 (fun h' => by have := (h.hF k hk).2.1; omega), (h.hF k hk).2.2.2⟩
  s2m hm := (hM _ hm).elim h.s2m (fun h' => by have := h.s2l; omega)
  s2b := h.s2b
/-- a call of the reference's -/
theorem Two.right {B : Nat} {w w' : World} {s m : Nat} {M R F : Nat → Prop} {f : Int → Option Value} {T : Tb} {c : Nat} {s2 : Nat} {hd wt hd' wt' : List G3} (h : Two B w s m M R F f T c s2 hd wt) (hB : B ≤ w.heap.size)
    (hr : RTab (fun k => (F k ∨ w.heap.size ≤ k) ∧ k < w'.heap.size ∧ k ≠ s2) w' s2 hd' wt') (hc : Chg (fun k => k = s2) w w') : Two B w' s m M R (fun k => (F k ∨ w.heap.size ≤ k) ∧ k < w'.heap.size ∧ k ≠ s2) f T c s2 hd' wt' where
  tab := h.tab.keep (fun k hk => hc.block k (h.hM k hk).2 (fun e => h.s2m (e ▸ hk))) (fun k hk => hc.block k (h.hR k hk).2.1 (h.hR k hk).2.2.2)
  hM k hk := ⟨(h.hM k hk).1, Nat.lt_of_lt_of_le (h.hM k hk).2 hc.size⟩
  hR k hk := ⟨(h.hR k hk).1, Nat.lt_of_lt_of_le (h.hR k hk).2.1 hc.size, (h.hR k hk).2.2⟩
  rt := hr
  hF k hk := ⟨hk.1.elim (fun h' => (h.hF k h').1) (fun h' => by omega), hk.2.1, hk.1.elim (fun h' => (h.hF k h').2.2.1) (fun h' hm => by have := (h.hM k hm).2; omega), hk.2.2⟩
  s2m := h.s2m
  s2b := h.s2b

/-- what a step answers and turns -/
def StepPost (B : Nat) (w : World) (s m : Nat) (M : Nat → Prop) (T : Tb) (c s2 : Nat) (hd wt : List G3) (kd t nd mo : Int) (e : Ending) (w' : World) : Prop :=
  ∃ b M' R' F' f' T' hd' wt', e = .returned (.bool b) ∧ Two B w' s m M' R' F' f' T' (c + 1) s2 hd' wt' ∧ stepT T kd t nd mo T' ∧ (Rel T hd wt → b = true ∧ Rel T' hd' wt') ∧ hd'.length + wt'.length ≤ hd.length + wt.length + 1 ∧ Chg (fun k => M k ∨ k = s2) w w'
theorem Two.moreC {B : Nat} {w : World} {s m : Nat} {M R F : Nat → Prop} {f : Int → Option Value} {T : Tb} {c : Nat} {s2 : Nat} {hd wt : List G3} (h : Two B w s m M R F f T c s2 hd wt) : Two B w s m M R F f T (c + 1) s2 hd wt :=
  ⟨h.tab.mono (fun _ h => h) (fun _ h => h) (Nat.le_succ _), h.hM, h.hR, h.rt, h.hF, h.s2m, h.s2b⟩
theorem box4 {w : World} {b : Nat} {x0 x1 x2 x3 : Value} {t : TypeId} {c : Nat × Nat} (h : w.heap[b]? = some (.cells #[x0, x1, x2, x3] t c)) : w.cell? ⟨b, 0, none⟩ = some x0 ∧ w.cell? ⟨b, 1, none⟩ = some x1 ∧ w.cell? ⟨b, 2, none⟩ = some x2 ∧ w.cell? ⟨b, 3, none⟩ = some x3 := by
  refine ⟨?_, ?_, ?_, ?_⟩ <;> simp only [World.cell?, h] <;> rfl

theorem rask_any {F : Nat → Prop} {w : World} {s : Nat} {hd wt : List G3} (h : RTab F w s hd wt) (hF : ∀ k, F k → k < w.heap.size ∧ k ≠ s) (hl : hd.length + wt.length ≤ 1000) (t nd m : Int) :
    Calls Try.prog 37 #[.pointer (some ⟨s, 0, none⟩), iv t, iv nd, iv m] w fun e w' => ∃ ab er hd' wt', e = .returned (.tuple #[.bool ab, .int .i64 er]) ∧ ((mayR wt t nd m ∧ ab = (askR hd wt t nd m).1 ∧ er = 0 ∧ hd' = (askR hd wt t nd m).2.1 ∧ wt' = (askR hd wt t nd m).2.2) ∨ (¬ mayR wt t nd m ∧ ab = false ∧ er = 2 ∧ hd' = hd ∧ wt' = wt)) ∧
      RTab (fun k => (F k ∨ w.heap.size ≤ k) ∧ k < w'.heap.size ∧ k ≠ s) w' s hd' wt' ∧ Chg (fun k => k = s) w w' := by
  have hsl : s < w.heap.size := by obtain ⟨v1, v2, hc, -⟩ := h; exact (Array.getElem?_eq_some_iff.1 hc).1
  have hsame : ∀ w', Below w.heap.size w w' → RTab (fun k => (F k ∨ w.heap.size ≤ k) ∧ k < w'.heap.size ∧ k ≠ s) w' s hd wt := fun w' hb => (h.keep (hb.block s hsl) (fun j hj => hb.block j (hF j hj).1)).mono (fun j hj => ⟨.inl hj, Nat.lt_of_lt_of_le (hF j hj).1 hb.size, (hF j hj).2⟩)
  by_cases hm : mayR wt t nd m
  · by_cases hc : covB (hasG hd t nd) m = true
    · refine (rask_cov h hF t nd m hm hc).mono ?_
      rintro e w' ⟨rfl, hb⟩
      have e9 : askR hd wt t nd m = (true, hd, wt) := by unfold askR; rw [if_pos hc]
      exact ⟨true, 0, hd, wt, rfl, .inl ⟨hm, by rw [e9], rfl, by rw [e9], by rw [e9]⟩, hsame w' hb, chg_new hb⟩
    · refine (rask_more h hF hl t nd m hm (by simpa using hc)).mono ?_
      rintro e w' ⟨rfl, hr, hch⟩
      exact ⟨_, 0, _, _, rfl, .inl ⟨hm, rfl, rfl, rfl, rfl⟩, hr, hch⟩
  · refine (rask_bad h hF t nd m hm).mono ?_
    rintro e w' ⟨rfl, hb⟩
    exact ⟨false, 2, hd, wt, rfl, .inr ⟨hm, rfl, rfl, rfl, rfl⟩, hsame w' hb, chg_new hb⟩

set_option maxRecDepth 100000 in
set_option maxHeartbeats 8000000 in
theorem step_ask {B : Nat} {w : World} {s m : Nat} {M R F : Nat → Prop} {f : Int → Option Value} {T : Tb} {c : Nat} {s2 : Nat} {hd wt : List G3} (h : Two B w s m M R F f T c s2 hd wt) (hB : B ≤ w.heap.size) (hT : TbOk T) (hl : hd.length + wt.length ≤ 999) (kd t nd mo : Int) (h1 : kd ≠ 1) (h2 : kd ≠ 2) :
    Calls Try.prog 12 #[.pointer (some ⟨s, 0, none⟩), .pointer (some ⟨s2, 0, none⟩), .agg #[iv kd, iv t, iv nd, iv mo]] w (StepPost B w s m M T c s2 hd wt kd t nd mo) := by
  have k1 : (kd == 1) = false := by simp [h1]
  have k2 : (kd == 2) = false := by simp [h2]
  have hbn := Go.heap_alloc_new w (.cells #[iv kd, iv t, iv nd, iv mo] 30)
  obtain ⟨e0, e1, e2, e3⟩ := box4 hbn
  have hb1 : Below w.heap.size w (w.alloc (.cells #[iv kd, iv t, iv nd, iv mo] 30)) := (Below.refl _ _).alloc (Nat.le_refl _) _
  have hx := h.keepNew hb1
  have hB1 : B ≤ (w.alloc (.cells #[iv kd, iv t, iv nd, iv mo] 30)).heap.size := by simp; omega
  have HA := Lib.hid (ask_any hx.tab (fun k hk => (hx.hM k hk).2) (fun k hk => ⟨(hx.hR k hk).2.1, (hx.hR k hk).2.2.1⟩) t nd mo (hT.1 nd))
  have HX := Lib.hid hx
  have HBN := Lib.hid hbn
  have HB1 := Lib.hid hb1
  have K := Lib.hid (And.intro h1 h2)
  have hnM : ¬ M w.heap.size := fun hm => by have := (h.hM _ hm).2; omega
  have hns2 : w.heap.size ≠ s2 := fun e => by have := h.s2l; omega
  clear h hbn hb1 hx h1 h2
  go_enter Try.func12, Try.ntmps12
  go_wp2_with fail
  refine HA.out.mono ?_
  rintro e w1 ⟨M', R', f', T', hcase, hM', hR', hRM', htab', hch⟩
  have htwo := HX.out.left hB1 htab' hM' hR' hRM' hch
  have hs1 := hch.size
  simp only [World.size_alloc] at hs1
  obtain ⟨e0, e1, e2, e3⟩ := box4 ((hch.block w.heap.size (by simp) hnM).trans HBN.out)
  have hB2 : B ≤ w1.heap.size := by omega
  obtain ⟨ab, er, rfl, hcase'⟩ : ∃ ab er, e = .returned (.tuple #[.bool ab, .int .i64 er]) ∧ ((mayAsk T t nd mo ∧ ab = (askN (T nd) t mo).1 ∧ er = 0 ∧ T' = setT T nd (askN (T nd) t mo).2) ∨ (¬ mayAsk T t nd mo ∧ ab = false ∧ er = 2 ∧ T' = T)) := by
    rcases hcase with ⟨q1, q2, q3⟩ | ⟨q1, q2, q3⟩
    · exact ⟨_, 0, q2, .inl ⟨q1, rfl, rfl, q3⟩⟩
    · exact ⟨false, 2, q2, .inr ⟨q1, rfl, rfl, q3⟩⟩
  have HR2 := Lib.hid (rask_any htwo.rt (fun k hk => ⟨(htwo.hF k hk).2.1, (htwo.hF k hk).2.2.2⟩) (by omega) t nd mo)
  have HTW := Lib.hid htwo
  have HCH := Lib.hid hch
  have HCASE := Lib.hid hcase'
  clear htab' hM' hR' hRM' hch hcase hcase' htwo
  go_wp2_with fail
  refine HR2.out.mono ?_
  rintro e w2 ⟨ab2, er2, hd', wt', rfl, hc2, hr2, hch2⟩
  have htw2 := HTW.out.right hB2 hr2 hch2
  have hrel : Rel T hd wt → ab = ab2 ∧ er = er2 ∧ Rel T' hd' wt' := fun hr => by
    have hmi := hr.may t nd mo
    rcases HCASE.out with ⟨q1, q2, q3, q4⟩ | ⟨q1, q2, q3, q4⟩ <;> rcases hc2 with ⟨p1, p2, p3, p4, p5⟩ | ⟨p1, p2, p3, p4, p5⟩
    · have := hr.ask t nd mo
      rw [q2, q3, q4, p2, p3, p4, p5]
      exact ⟨this.1.symm, rfl, this.2⟩
    · exact absurd (hmi.1 q1) p1
    · exact absurd (hmi.2 p1) q1
    · rw [q2, q3, q4, p2, p3, p4, p5]
      exact ⟨rfl, rfl, hr⟩
  have hstep : stepT T kd t nd mo T' := by
    rcases HCASE.out with ⟨q1, q2, q3, q4⟩ | ⟨q1, q2, q3, q4⟩
    · exact .inr (.inr (.inr (.inl ⟨K.out.1, K.out.2, q1, q4⟩)))
    · exact .inr (.inr (.inr (.inr ⟨K.out.1, K.out.2, q1, q4⟩)))
  have hfew : hd'.length + wt'.length ≤ hd.length + wt.length + 1 := by
    rcases hc2 with ⟨p1, p2, p3, p4, p5⟩ | ⟨p1, p2, p3, p4, p5⟩
    · rw [p4, p5]; exact askR_few hd wt t nd mo
    · rw [p4, p5]; omega
  have hchT : Chg (fun k => M k ∨ k = s2) w w2 := ((chg_new HB1.out).andThen HCH.out (fun k _ hk => .inl hk)).andThen hch2 (fun k _ hk => .inr hk)
  have HF := Lib.hid (And.intro htw2 (And.intro hrel (And.intro hstep (And.intro hfew hchT))))
  clear hc2 hr2 hch2 htw2 hrel hstep hfew hchT
  obtain ⟨p, hp⟩ : ∃ p, (er == er2) = p := ⟨_, rfl⟩
  cases ab <;> cases ab2
  all_goals
    go_wp2
    go_ret
    exact ⟨_, M', R', _, f', T', hd', wt', rfl, HF.out.1, HF.out.2.2.1, fun hr => ⟨by have := HF.out.2.1 hr; first | (rw [← hp, this.2.1]; simp) | (exact absurd this.1 (by simp)), (HF.out.2.1 hr).2.2⟩, HF.out.2.2.2.1, HF.out.2.2.2.2⟩

theorem supp_same {T : Tb} {hd wt : List G3} (h : Rel T hd wt) (hT : TbOk T) {ks : List Int} (hs : Supp T ks) : grantsT T ks = (serveW hd wt).1 ∧ Rel (serveT T) (serveW hd wt).2.1 (serveW hd wt).2.2 := by
  obtain ⟨h1, h2⟩ := Rel.serve wt.length (Nat.le_refl _) h hT hs
  exact ⟨h1.symm, h2⟩

theorem same_two {w1 w2 : World} {s2 A : Nat} {v1 v2 : Value} {l1 l2 : List G3} (h1 : TrisIn (fun k => A ≤ k ∧ k < w1.heap.size) w1 v1 l1) (h2 : TrisIn (fun k => w1.heap.size ≤ k ∧ k < w2.heap.size) w2 v2 l2) (hc : Chg (fun k => k = s2) w1 w2) (hs : s2 < A) :
    Calls Try.prog 20 #[v1, v2] w2 fun e w' => e = .returned (.bool (decide (l1 = l2))) ∧ Below w2.heap.size w2 w' :=
  same_any (F := fun k => k < w2.heap.size) ((h1.keep (fun k hk => hc.block k hk.2 (fun e => by have h9 := hk.1; omega))).mono (fun k hk => Nat.lt_of_lt_of_le hk.2 hc.size)) (h2.mono (fun k hk => hk.2)) (fun k hk => hk)
set_option maxRecDepth 100000 in
set_option maxHeartbeats 8000000 in
theorem step_release {B : Nat} {w : World} {s m : Nat} {M R F : Nat → Prop} {f : Int → Option Value} {T : Tb} {c : Nat} {s2 : Nat} {hd wt : List G3} (h : Two B w s m M R F f T c s2 hd wt) (hB : B ≤ w.heap.size) (hT : TbOk T) (hl : hd.length + wt.length ≤ 999) (hc : c ≤ 1000000) (h0 : ∀ g ∈ wt, g.1 ≠ 0) (t nd mo : Int) :
    Calls Try.prog 12 #[.pointer (some ⟨s, 0, none⟩), .pointer (some ⟨s2, 0, none⟩), .agg #[iv 1, iv t, iv nd, iv mo]] w (StepPost B w s m M T c s2 hd wt 1 t nd mo) := by
  have hbn := Go.heap_alloc_new w (.cells #[iv 1, iv t, iv nd, iv mo] 30)
  obtain ⟨e0, e1, e2, e3⟩ := box4 hbn
  have hb1 : Below w.heap.size w (w.alloc (.cells #[iv 1, iv t, iv nd, iv mo] 30)) := (Below.refl _ _).alloc (Nat.le_refl _) _
  have hx := h.keepNew hb1
  have hxd : Two B (w.alloc (.cells #[iv 1, iv t, iv nd, iv mo] 30)).drew s m M R F f T c s2 hd wt := h.keepNew hb1.drew
  have hB1 : B ≤ (w.alloc (.cells #[iv 1, iv t, iv nd, iv mo] 30)).drew.heap.size := by simp; omega
  have hsA : s2 < (w.alloc (.cells #[iv 1, iv t, iv nd, iv mo] 30)).drew.heap.size := hxd.s2l
  have HA := Lib.hid (release_any hxd.tab (fun k hk => (hxd.hM k hk).2) (fun k hk => ⟨(hxd.hR k hk).2.1, (hxd.hR k hk).2.2.1⟩) hT.1 hc t)
  have HX := Lib.hid hxd
  have HBN := Lib.hid hbn
  have HB1 := Lib.hid hb1
  have H0 := Lib.hid h0
  have hnM : ¬ M w.heap.size := fun hm => by have := (h.hM _ hm).2; omega
  have hns2 : w.heap.size ≠ s2 := fun e => by have := h.s2l; omega
  clear h hbn hb1 hx h0 hxd
  go_enter Try.func12, Try.ntmps12
  go_upto_region 3 with fail
  go_region_with (first
    | (go_at_call 20; refine HS.out.mono ?_; rintro e w3 ⟨rfl, hb3⟩)
    | (go_at_call 35; refine HRR.out.mono ?_; rintro e w2 ⟨⟨v2, rfl, htr2⟩, hr2, hch2⟩; have HT2 := Lib.hid (And.intro hr2 hch2); have HS := Lib.hid (same_two HTR.out htr2 hch2 hsA); obtain ⟨a2, cp2, rfl, -, -, -⟩ := id htr2; clear htr2 hr2 hch2)
    | (go_at_call 13; refine HA.out.mono ?_; rintro e w1 ⟨R', ks, f', v1, hsup, rfl, htr1, hR', hRM', htab', hch⟩; have htwo := HX.out.left hB1 htab' (fun k hk => .inl hk) hR' hRM' hch; have hs1 := hch.size; simp only [World.drew, World.size_alloc] at hs1; have f1 := (box4 ((hch.block w.heap.size (by simp) hnM).trans HBN.out)).2.1; have HRR := Lib.hid (rrelease_any htwo.rt (fun k hk => ⟨(htwo.hF k hk).2.1, (htwo.hF k hk).2.2.2⟩) H0.out (by omega) t); have HTW := Lib.hid htwo; have HSUP := Lib.hid hsup; have HCH := Lib.hid hch; have HTR := Lib.hid htr1; obtain ⟨a1, cp1, rfl, -, -, -⟩ := id htr1; clear htwo hsup hch htr1 hR' hRM' htab'))
  all_goals
    go_wp2
    go_ret
    have htw3 := (HTW.out.right (by omega) HT2.out.1 HT2.out.2).keepNew hb3
    refine ⟨_, M, R', _, f', _, _, _, rfl, htw3.moreC, .inl ⟨rfl, rfl⟩, fun hr => ?_, ?_, ?_⟩
    · have := supp_same ((hr.leave t).free t) (tbOk_free (tbOk_leave hT t) t) HSUP.out
      exact ⟨decide_eq_true this.1, this.2⟩
    · have h1 := serveW_few _ (Nat.le_refl _) (outG_sub H0.out (t := t)) (hd := outG hd t) (wt := outG wt t)
      have h2 := outG_few hd t
      have h3 := outG_few wt t
      omega
    · exact (((chg_new HB1.out.drew).andThen HCH.out (fun k _ hk => .inl hk)).andThen HT2.out.2 (fun k _ hk => .inr hk)).trans (chg_new hb3)

theorem cancel_u {M R : Nat → Prop} {w : World} {s m : Nat} {f : Int → Option Value} {T : Tb} {c : Nat} (h : TabF M R w s m f T c) (hM : ∀ k, M k → k < w.heap.size) (hR : ∀ k, R k → k < w.heap.size ∧ ¬ M k) (hOK : ∀ id, NdOk (T id)) (hc : c ≤ 1000000) (t : Int) :
    Calls Try.prog 26 #[.pointer (some ⟨s, 0, none⟩), iv t] w fun e w' => ∃ v l wb T' R' f', e = .returned (.tuple #[v, .bool wb]) ∧ TrisIn (fun k => w.heap.size ≤ k ∧ k < w'.heap.size) w' v l ∧ TabF M R' w' s m f' T' c ∧ (∀ k, R' k → R k ∨ (w.heap.size ≤ k ∧ k < w'.heap.size)) ∧ (∀ k, R' k → ¬ M k) ∧ Chg M w w' ∧
      ((waitsP T t ∧ wb = true ∧ (∃ ks, Supp (leaveT T t) ks ∧ l = grantsT (leaveT T t) ks) ∧ T' = serveT (leaveT T t)) ∨ (¬ waitsP T t ∧ wb = false ∧ l = [] ∧ T' = T)) := by
  refine (cancel_any h hM hR hOK hc t).mono ?_
  rintro e w' ⟨⟨R', f', h1, h2, ⟨ks, v, hw, hs, rfl, htr, ht⟩ | ⟨hn, rfl, ht⟩⟩, hch⟩
  · exact ⟨v, _, true, _, R', f', rfl, htr, ht, h1, h2, hch, .inl ⟨hw, rfl, ⟨ks, hs, rfl⟩, rfl⟩⟩
  · rw [leave_none hn] at ht
    exact ⟨_, [], false, T, R', f', rfl, trisIn_nil _ _, ht, h1, h2, hch, .inr ⟨hn, rfl, rfl, rfl⟩⟩
theorem rcancel_u {F : Nat → Prop} {w : World} {s : Nat} {hd wt : List G3} (h : RTab F w s hd wt) (hF : ∀ k, F k → k < w.heap.size ∧ k ≠ s) (h0 : ∀ g ∈ wt, g.1 ≠ 0) (hl : hd.length + wt.length ≤ 1000) (t : Int) :
    Calls Try.prog 36 #[.pointer (some ⟨s, 0, none⟩), iv t] w fun e w' => ∃ v l wb hd' wt', e = .returned (.tuple #[v, .bool wb]) ∧ TrisIn (fun k => w.heap.size ≤ k ∧ k < w'.heap.size) w' v l ∧ RTab (fun k => (F k ∨ w.heap.size ≤ k) ∧ k < w'.heap.size ∧ k ≠ s) w' s hd' wt' ∧ Chg (fun k => k = s) w w' ∧
      ((wantG wt t ≠ none ∧ wb = true ∧ l = (serveW hd (outG wt t)).1 ∧ hd' = (serveW hd (outG wt t)).2.1 ∧ wt' = (serveW hd (outG wt t)).2.2) ∨ (wantG wt t = none ∧ wb = false ∧ l = [] ∧ hd' = hd ∧ wt' = wt)) := by
  refine (rcancel_any h hF h0 hl t).mono ?_
  rintro e w' ⟨hd', wt', ⟨hn, ⟨v, rfl, htr⟩, e1, e2⟩ | ⟨hn, rfl, e1, e2⟩, hr, hch⟩
  · exact ⟨v, _, true, hd', wt', rfl, htr, hr, hch, .inl ⟨hn, rfl, rfl, e1, e2⟩⟩
  · exact ⟨_, [], false, hd', wt', rfl, trisIn_nil _ _, hr, hch, .inr ⟨hn, rfl, rfl, e1, e2⟩⟩

set_option maxRecDepth 100000 in
set_option maxHeartbeats 8000000 in
theorem step_cancel {B : Nat} {w : World} {s m : Nat} {M R F : Nat → Prop} {f : Int → Option Value} {T : Tb} {c : Nat} {s2 : Nat} {hd wt : List G3} (h : Two B w s m M R F f T c s2 hd wt) (hB : B ≤ w.heap.size) (hT : TbOk T) (hl : hd.length + wt.length ≤ 999) (hc : c ≤ 1000000) (h0 : ∀ g ∈ wt, g.1 ≠ 0) (t nd mo : Int) :
    Calls Try.prog 12 #[.pointer (some ⟨s, 0, none⟩), .pointer (some ⟨s2, 0, none⟩), .agg #[iv 2, iv t, iv nd, iv mo]] w (StepPost B w s m M T c s2 hd wt 2 t nd mo) := by
  have hbn := Go.heap_alloc_new w (.cells #[iv 2, iv t, iv nd, iv mo] 30)
  obtain ⟨e0, e1, e2, e3⟩ := box4 hbn
  have hb1 : Below w.heap.size w (w.alloc (.cells #[iv 2, iv t, iv nd, iv mo] 30)) := (Below.refl _ _).alloc (Nat.le_refl _) _
  have hx := h.keepNew hb1
  have hB1 : B ≤ (w.alloc (.cells #[iv 2, iv t, iv nd, iv mo] 30)).heap.size := by simp; omega
  have hsA : s2 < (w.alloc (.cells #[iv 2, iv t, iv nd, iv mo] 30)).heap.size := hx.s2l
  have HA := Lib.hid (cancel_u hx.tab (fun k hk => (hx.hM k hk).2) (fun k hk => ⟨(hx.hR k hk).2.1, (hx.hR k hk).2.2.1⟩) hT.1 hc t)
  have HX := Lib.hid hx
  have HBN := Lib.hid hbn
  have HB1 := Lib.hid hb1
  have H0 := Lib.hid h0
  have hnM : ¬ M w.heap.size := fun hm => by have := (h.hM _ hm).2; omega
  have hns2 : w.heap.size ≠ s2 := fun e => by have := h.s2l; omega
  clear h hbn hb1 hx h0
  go_enter Try.func12, Try.ntmps12
  go_wp2_with fail
  refine HA.out.mono ?_
  rintro e w1 ⟨v1, l1, wb1, T', R', f', rfl, htr1, htab', hR', hRM', hch, hc1⟩
  have htwo := HX.out.left hB1 htab' (fun k hk => .inl hk) hR' hRM' hch
  have hs1 := hch.size
  simp only [World.size_alloc] at hs1
  obtain ⟨e0, e1, e2, e3⟩ := box4 ((hch.block w.heap.size (by simp) hnM).trans HBN.out)
  have HRR := Lib.hid (rcancel_u htwo.rt (fun k hk => ⟨(htwo.hF k hk).2.1, (htwo.hF k hk).2.2.2⟩) H0.out (by omega) t)
  have HTW := Lib.hid htwo
  have HCH := Lib.hid hch
  have HTR := Lib.hid htr1
  have HC1 := Lib.hid hc1
  obtain ⟨a1, cp1, rfl, -, -, -⟩ := id htr1
  clear htwo hch htr1 hR' hRM' htab' hc1
  go_wp2_with fail
  refine HRR.out.mono ?_
  rintro e w2 ⟨v2, l2, wb2, hd', wt', rfl, htr2, hr2, hch2, hc2⟩
  have HT2 := Lib.hid (And.intro hr2 hch2)
  have HS := Lib.hid (same_two HTR.out htr2 hch2 hsA)
  have HC2 := Lib.hid hc2
  obtain ⟨a2, cp2, rfl, -, -, -⟩ := id htr2
  have hrel : Rel T hd wt → l1 = l2 ∧ wb1 = wb2 ∧ Rel T' hd' wt' := fun hr => by
    have hwi := hr.waits t
    rcases HC1.out with ⟨q1, q2, ⟨ks, q3, q4⟩, q5⟩ | ⟨q1, q2, q3, q4⟩ <;> rcases hc2 with ⟨p1, p2, p3, p4, p5⟩ | ⟨p1, p2, p3, p4, p5⟩
    · have := supp_same (hr.leave t) (tbOk_leave hT t) q3
      rw [q2, q4, q5, p2, p3, p4, p5]
      exact ⟨this.1, rfl, this.2⟩
    · exact absurd p1 (hwi.1 q1)
    · exact absurd (hwi.2 p1) q1
    · rw [q2, q3, q4, p2, p3, p4, p5]
      exact ⟨rfl, rfl, hr⟩
  have HREL0 := Lib.hid hrel
  clear htr2 hr2 hch2 hc2 hrel
  go_wp2_with fail
  refine HS.out.mono ?_
  rintro e w3 ⟨rfl, hb3⟩
  obtain ⟨p, hp⟩ : ∃ p, decide (l1 = l2) = p := ⟨_, rfl⟩
  rw [hp]
  have hfin : stepT T 2 t nd mo T' ∧ hd'.length + wt'.length ≤ hd.length + wt.length + 1 := by
    refine ⟨?_, ?_⟩
    · rcases HC1.out with ⟨q1, q2, _, q5⟩ | ⟨q1, q2, q3, q4⟩
      · exact .inr (.inl ⟨rfl, q1, q5⟩)
      · exact .inr (.inr (.inl ⟨rfl, q1, q4⟩))
    · rcases HC2.out with ⟨p1, p2, p3, p4, p5⟩ | ⟨p1, p2, p3, p4, p5⟩
      · rw [p4, p5]
        have h1 := serveW_few _ (Nat.le_refl _) (outG_sub H0.out (t := t)) (hd := hd) (wt := outG wt t)
        have h3 := outG_few wt t
        omega
      · rw [p4, p5]; omega
  have HFIN := Lib.hid hfin
  have HPQ := Lib.hid (fun hr => ⟨by rw [← hp]; exact decide_eq_true (HREL0.out hr).1, (HREL0.out hr).2.1⟩ : Rel T hd wt → p = true ∧ wb1 = wb2)
  have HREL := Lib.hid (fun hr => (HREL0.out hr).2.2 : Rel T hd wt → Rel T' hd' wt')
  have HB3 := Lib.hid hb3
  clear hp hfin hb3 HREL0
  cases p <;> cases wb1 <;> cases wb2
  all_goals
    go_wp2
    go_ret
    have htw3 := (HTW.out.right (by omega) HT2.out.1 HT2.out.2).keepNew HB3.out
    exact ⟨_, M, R', _, f', T', hd', wt', rfl, htw3.moreC, HFIN.out.1, fun hr => ⟨(by first | rfl | (cases (HPQ.out hr).1; done) | (cases (HPQ.out hr).2; done)), HREL.out hr⟩, HFIN.out.2, (((chg_new HB1.out).andThen HCH.out (fun k _ hk => .inl hk)).andThen HT2.out.2 (fun k _ hk => .inr hk)).trans (chg_new HB3.out)⟩
theorem step_any {B : Nat} {w : World} {s m : Nat} {M R F : Nat → Prop} {f : Int → Option Value} {T : Tb} {c : Nat} {s2 : Nat} {hd wt : List G3} (h : Two B w s m M R F f T c s2 hd wt) (hB : B ≤ w.heap.size) (hT : TbOk T) (hl : hd.length + wt.length ≤ 999) (hc : c ≤ 1000000) (h0 : ∀ g ∈ wt, g.1 ≠ 0) (kd t nd mo : Int) :
    Calls Try.prog 12 #[.pointer (some ⟨s, 0, none⟩), .pointer (some ⟨s2, 0, none⟩), .agg #[iv kd, iv t, iv nd, iv mo]] w (StepPost B w s m M T c s2 hd wt kd t nd mo) := by
  by_cases h1 : kd = 1
  · subst h1; exact step_release h hB hT hl hc h0 t nd mo
  · by_cases h2 : kd = 2
    · subst h2; exact step_cancel h hB hT hl hc h0 t nd mo
    · exact step_ask h hB hT hl kd t nd mo h1 h2
end Go.Proofs.Ytamjopgpmeeheaa
