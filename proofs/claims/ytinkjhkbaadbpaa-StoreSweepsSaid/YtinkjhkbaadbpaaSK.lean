/- A step that asks; any step. -/
import Derived.Test.YtinkjhkbaadbpaaST
namespace Go.Proofs.Ytinkjhkbaadbpaa
open Go.RowKit
set_option linter.unusedVariables false

section
variable {n0 j : Nat} {R D Rd : Nat → Prop} {w : World} {p q : Value} {S : Store} {d : Doc}

set_option maxRecDepth 100000 in
set_option maxHeartbeats 8000000 in
theorem step_ask (h : Both n0 R D Rd w p q S d) (hf : Few S d j) (hj : j + 1 ≤ 90) (kd id : Int) (T : Nat) (a : Option Addr) (n cap : Nat) (k0 : ¬ kd = 0) (k1 : ¬ kd = 1) (k2 : ¬ kd = 2) :
    Calls Try.prog 41 #[p, q, .agg #[.int .i64 kd, .int .i64 id, .int .u64 T, .slice a n cap]] w fun e w' => StepDone n0 w p q (j + 1) e w' := by
  have hb1 : ∀ o, Below w.heap.size w (w.alloc o) := fun o => (Below.refl _ _).alloc (Nat.le_refl _) _
  have hL := hf.L
  have hsm := hf.small
  have hNN := hf.N id
  have HA := Lib.hid (fun (w' : World) (hb : Below w.heap.size w w') => at_any (h.below hb).st.is h.wf (h.below hb).st.dlt id T)
  have HB := Lib.hid (fun (w' : World) (hb : Below w.heap.size w w') => docAt_any (h.below hb).dc (fun k hk => Nat.lt_of_lt_of_le hk (h.below hb).le) id T (by omega))
  have HV := Lib.hid (fun (w' : World) (hb : Below w.heap.size w w') => versions_any (h.below hb).st.is h.wf (h.below hb).st.rlt (h.below hb).st.dlt id (by omega))
  have HW := Lib.hid (fun (w' : World) (hb : Below w.heap.size w w') => docVersions_any (h.below hb).dc (fun k hk => Nat.lt_of_lt_of_le hk (h.below hb).le) id (by omega))
  have hat := h.says.at id T
  have hNd : d.N id = S.N id := (h.says.N id).symm
  rw [hat] at HB
  rw [hNd] at HW
  have HFIN : Hid (∀ w' : World, Below w.heap.size w w' → StepDone n0 w p q (j + 1) (.returned (.bool true)) w') := fun w' hb => ⟨rfl, hb.mono h.le, R, D, Rd, S, d, h.below hb, hj, hf.g0, by have := hf.g; push_cast; omega, fun id => by have := hf.N id; omega, by omega⟩
  have hn0 := h.le
  clear h hf hat hNd
  generalize S.at id T = o at *
  generalize S.N id = vs at *
  unfold RecOut at HA
  unfold RecIn at HB
  obtain ⟨bo, hbo⟩ : ∃ bo, o.isSome = bo := ⟨_, rfl⟩
  obtain ⟨r, hr⟩ : ∃ r, o.getD Rec.zero = r := ⟨_, rfl⟩
  rw [hbo, hr] at HA HB
  clear hbo hr
  obtain ⟨kind, name, text, parent, kids, attrs, gone⟩ := r
  simp only [recV] at HA HB
  have hsz0 : ∀ o, w.heap.size < (w.alloc o).heap.size := fun o => by simp
  go_enter Try.func41, Try.ntmps41
  go_upto_region 9 with ((go_at_call 51; refine (HA.out _ (hb1 _)).mono ?_; rintro e w1 ⟨⟨kv, av, rfl, ik, ia⟩, hbl1⟩; have IK := Lib.hid ik; have IA := Lib.hid ia; obtain ⟨ka, kc, rfl, -, -, -⟩ := ik; obtain ⟨aa, ac, rfl, -, -, -⟩ := ia; have hbw1 := (hb1 (.cells #[.int .i64 kd, .int .i64 id, .int .u64 T, .slice a n cap] 74)).trans (hbl1.mono (hb1 _).size); have g5 := (hbl1.block w.heap.size (hsz0 _)).trans (Go.heap_alloc_new w (.cells #[.int .i64 kd, .int .i64 id, .int .u64 T, .slice a n cap] 74))))
  have hs1 : w.heap.size < w1.heap.size := (Array.getElem?_eq_some_iff.1 g5).1
  obtain ⟨W2, hW2⟩ : ∃ W2, w1.alloc (.cells #[.int .i64 kind, .string name, .string text, .int .i64 parent, .slice ka kids.length kc, .slice aa attrs.length ac, .bool gone] 52) = W2 := ⟨_, rfl⟩
  have g7 := Go.heap_alloc_new w1 (.cells #[.int .i64 kind, .string name, .string text, .int .i64 parent, .slice ka kids.length kc, .slice aa attrs.length ac, .bool gone] 52)
  have hbw2 : Below w.heap.size w (w1.alloc (.cells #[.int .i64 kind, .string name, .string text, .int .i64 parent, .slice ka kids.length kc, .slice aa attrs.length ac, .bool gone] 52)) := hbw1.alloc hbw1.size _
  have hbn2 : Below w1.heap.size w1 (w1.alloc (.cells #[.int .i64 kind, .string name, .string text, .int .i64 parent, .slice ka kids.length kc, .slice aa attrs.length ac, .bool gone] 52)) := (Below.refl _ _).alloc (Nat.le_refl _) _
  have hs2 : (w1.alloc (.cells #[.int .i64 kind, .string name, .string text, .int .i64 parent, .slice ka kids.length kc, .slice aa attrs.length ac, .bool gone] 52)).heap.size = w1.heap.size + 1 := by simp
  rw [hW2] at g7 hbw2 hbn2 hs2 ⊢
  clear hW2
  have g5b := (hbn2.block w.heap.size hs1).trans g5
  have c1 : W2.cell? ⟨w.heap.size, 1, none⟩ = some (.int .i64 id) := by simp [World.cell?, g5b]
  have c2 : W2.cell? ⟨w.heap.size, 2, none⟩ = some (.int .u64 T) := by simp [World.cell?, g5b]
  have I1 := Lib.hid (IK.out.bound.keep (fun k hk => hbn2.block k hk.2))
  have I2 := Lib.hid (IA.out.bound.keep (fun k hk => hbn2.block k hk.2))
  go_upto_region 10 with ((go_at_call 90; refine (HB.out _ hbw2).mono ?_; rintro e w3 ⟨⟨kv2, av2, rfl, ik2, ia2⟩, hbl3⟩; have IK2 := Lib.hid ik2; have IA2 := Lib.hid ia2; obtain ⟨ka2, kc2, rfl, -, -, -⟩ := ik2; obtain ⟨aa2, ac2, rfl, -, -, -⟩ := ia2))
  have hs3 : W2.heap.size ≤ w3.heap.size := hbl3.size
  have hbw3 := hbw2.trans (hbl3.mono hbw2.size)
  obtain ⟨W4, hW4⟩ : ∃ W4, w3.alloc (.cells #[.int .i64 kind, .string name, .string text, .int .i64 parent, .slice ka2 kids.length kc2, .slice aa2 attrs.length ac2, .bool gone] 52) = W4 := ⟨_, rfl⟩
  have g9 := Go.heap_alloc_new w3 (.cells #[.int .i64 kind, .string name, .string text, .int .i64 parent, .slice ka2 kids.length kc2, .slice aa2 attrs.length ac2, .bool gone] 52)
  have hbw4 : Below w.heap.size w (w3.alloc (.cells #[.int .i64 kind, .string name, .string text, .int .i64 parent, .slice ka2 kids.length kc2, .slice aa2 attrs.length ac2, .bool gone] 52)) := hbw3.alloc hbw3.size _
  have hbn4 : Below w3.heap.size w3 (w3.alloc (.cells #[.int .i64 kind, .string name, .string text, .int .i64 parent, .slice ka2 kids.length kc2, .slice aa2 attrs.length ac2, .bool gone] 52)) := (Below.refl _ _).alloc (Nat.le_refl _) _
  have hs4 : (w3.alloc (.cells #[.int .i64 kind, .string name, .string text, .int .i64 parent, .slice ka2 kids.length kc2, .slice aa2 attrs.length ac2, .bool gone] 52)).heap.size = w3.heap.size + 1 := by simp
  rw [hW4] at g9 hbw4 hbn4 hs4 ⊢
  clear hW4
  have g5d := (hbn4.block w.heap.size (by omega)).trans ((hbl3.block w.heap.size (by omega)).trans g5b)
  have g7d := (hbn4.block w1.heap.size (by omega)).trans ((hbl3.block w1.heap.size (by omega)).trans g7)
  have J1 := Lib.hid (I1.out.bound.keep (w' := W4) (fun k hk => (hbn4.block k (by have := hk.2; omega)).trans (hbl3.block k hk.2)))
  have J2 := Lib.hid (I2.out.bound.keep (w' := W4) (fun k hk => (hbn4.block k (by have := hk.2; omega)).trans (hbl3.block k hk.2)))
  have J3 := Lib.hid (IK2.out.keep (w' := W4) (fun k hk => hbn4.block k (by have : k < n0 := hk; have := hbw3.size; omega)))
  have J4 := Lib.hid (IA2.out.keep (w' := W4) (fun k hk => hbn4.block k (by have : k < n0 := hk; have := hbw3.size; omega)))
  have hss : ∀ w' : World, Below W4.heap.size W4 w' → (w'.cell? ⟨w.heap.size, 1, none⟩ = some (.int .i64 id)) ∧ (w'.cell? ⟨w1.heap.size, 0, none⟩ = some (.int .i64 kind) ∧ w'.cell? ⟨w1.heap.size, 1, none⟩ = some (.string name) ∧ w'.cell? ⟨w1.heap.size, 2, none⟩ = some (.string text) ∧ w'.cell? ⟨w1.heap.size, 3, none⟩ = some (.int .i64 parent) ∧ w'.cell? ⟨w1.heap.size, 4, none⟩ = some (.slice ka kids.length kc) ∧ w'.cell? ⟨w1.heap.size, 5, none⟩ = some (.slice aa attrs.length ac) ∧ w'.cell? ⟨w1.heap.size, 6, none⟩ = some (.bool gone)) ∧ (w'.cell? ⟨w3.heap.size, 0, none⟩ = some (.int .i64 kind) ∧ w'.cell? ⟨w3.heap.size, 1, none⟩ = some (.string name) ∧ w'.cell? ⟨w3.heap.size, 2, none⟩ = some (.string text) ∧ w'.cell? ⟨w3.heap.size, 3, none⟩ = some (.int .i64 parent) ∧ w'.cell? ⟨w3.heap.size, 4, none⟩ = some (.slice ka2 kids.length kc2) ∧ w'.cell? ⟨w3.heap.size, 5, none⟩ = some (.slice aa2 attrs.length ac2) ∧ w'.cell? ⟨w3.heap.size, 6, none⟩ = some (.bool gone)) := fun w' hb => by
    have e5 := (hb.block w.heap.size (by omega)).trans g5d
    have e7 := (hb.block w1.heap.size (by omega)).trans g7d
    have e9 := (hb.block w3.heap.size (by omega)).trans g9
    exact ⟨by simp [World.cell?, e5], cells7 e7, cells7 e9⟩
  have HSS := Lib.hid hss
  have HSM := Lib.hid (fun (w' : World) (hb : Below W4.heap.size W4 w') => same_any (w := w') ⟨kind, name, text, parent, kids, attrs, gone⟩ (.slice ka kids.length kc) (.slice aa attrs.length ac) (.slice ka2 kids.length kc2) (.slice aa2 attrs.length ac2) (F := fun k => k < W4.heap.size) (G := fun k => k < W4.heap.size)
    ((J1.out.bound.mono (fun k hk => hk.2)).keep (fun k hk => hb.block k hk)) ((J2.out.bound.mono (fun k hk => hk.2)).keep (fun k hk => hb.block k hk)) ((J3.out.bound.mono (fun k hk => hk.2)).keep (fun k hk => hb.block k hk)) ((J4.out.bound.mono (fun k hk => hk.2)).keep (fun k hk => hb.block k hk)) (fun k hk => Nat.lt_of_lt_of_le hk hb.size) (fun k hk => Nat.lt_of_lt_of_le hk hb.size))
  have HBW4 := Lib.hid hbw4
  have hcur : Below W4.heap.size W4 W4.drew := (Below.refl _ _).drew
  clear hss g5 g7 g9 g5b g5d g7d c1 c2 hbw1 hbw2 hbw3 hbw4 hbn2 hbn4 hbl1 hbl3 hb1 hsz0
  go_region_held3 (fun w' => (w'.cell? ⟨w.heap.size, 1, none⟩ = some (.int .i64 id)) ∧ (w'.cell? ⟨w1.heap.size, 0, none⟩ = some (.int .i64 kind) ∧ w'.cell? ⟨w1.heap.size, 1, none⟩ = some (.string name) ∧ w'.cell? ⟨w1.heap.size, 2, none⟩ = some (.string text) ∧ w'.cell? ⟨w1.heap.size, 3, none⟩ = some (.int .i64 parent) ∧ w'.cell? ⟨w1.heap.size, 4, none⟩ = some (.slice ka kids.length kc) ∧ w'.cell? ⟨w1.heap.size, 5, none⟩ = some (.slice aa attrs.length ac) ∧ w'.cell? ⟨w1.heap.size, 6, none⟩ = some (.bool gone)) ∧ (w'.cell? ⟨w3.heap.size, 0, none⟩ = some (.int .i64 kind) ∧ w'.cell? ⟨w3.heap.size, 1, none⟩ = some (.string name) ∧ w'.cell? ⟨w3.heap.size, 2, none⟩ = some (.string text) ∧ w'.cell? ⟨w3.heap.size, 3, none⟩ = some (.int .i64 parent) ∧ w'.cell? ⟨w3.heap.size, 4, none⟩ = some (.slice ka2 kids.length kc2) ∧ w'.cell? ⟨w3.heap.size, 5, none⟩ = some (.slice aa2 attrs.length ac2) ∧ w'.cell? ⟨w3.heap.size, 6, none⟩ = some (.bool gone)))
    (exact HSS.out _ hcur)
    (first
      | (go_at_call 53; refine (HSM.out _ hcur).mono ?_; rintro e w5 ⟨rfl, hb5⟩; have hcur := hcur.trans (hb5.mono hcur.size); clear hb5)
      | (go_at_call 46; refine (HV.out _ (HBW4.out.trans (hcur.mono HBW4.out.size))).mono ?_; rintro e w6 ⟨⟨v1, rfl, hv1⟩, hb6⟩; have HV1 := Lib.hid hv1; clear hv1; have hcur := hcur.trans (hb6.mono hcur.size))
      | (go_at_call 47; refine (HW.out _ (HBW4.out.trans (hcur.mono HBW4.out.size))).mono ?_; rintro e w7 ⟨⟨v2, rfl, hv2⟩, hb7⟩; have HV2 := Lib.hid hv2; clear hv2; have hcur := hcur.trans (hb7.mono hcur.size))
      | (go_at_call 45; refine (all_any vs v1 v2 (F := fun k => k < w6.heap.size) (G := fun k => k < w7.heap.size) ((HV1.out.mono (fun k hk => hk.2)).keep (keeps_below hb7)) (HV2.out.mono (fun k hk => hk.2)) (fun k hk => Nat.lt_of_lt_of_le hk hb7.size) (fun k hk => hk)).mono ?_; rintro e w8 ⟨rfl, hb8⟩; have hcur := hcur.trans (hb8.mono hcur.size)))
  all_goals
    go_wp2_with fail
    go_ret
    exact HFIN.out _ (HBW4.out.trans (hcur.mono HBW4.out.size))
end
end Go.Proofs.Ytinkjhkbaadbpaa
