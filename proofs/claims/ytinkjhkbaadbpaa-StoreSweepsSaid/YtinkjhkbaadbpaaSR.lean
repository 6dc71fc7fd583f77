/- StoreRights: the walk. -/
import Derived.Test.YtinkjhkbaadbpaaRO
import Derived.Deep.RegionHeld3
namespace Go.Proofs.Ytinkjhkbaadbpaa
open Go.RowKit
set_option linter.unusedVariables false

set_option maxRecDepth 100000 in
set_option maxHeartbeats 4000000 in
theorem storeRights_walk (r : Rec) (kv av : Value) (w : World) (hk : IntsIn (fun k => k < w.heap.size) w kv r.kids) (ha : IntsIn (fun k => k < w.heap.size) w av r.attrs) :
    Calls Try.prog 8 #[recV r kv av] w fun e w' => e = .returned (.bool true) ∧ Below w.heap.size w w' := by
  have hk2 := hk
  have ha2 := ha
  obtain ⟨ka, kc, rfl, -, -, -⟩ := hk2
  obtain ⟨aa, ac, rfl, -, -, -⟩ := ha2
  obtain ⟨kind, name, text, parent, kids, attrs, gone⟩ := r
  simp only at *
  have IK := Lib.hid hk
  have IA := Lib.hid ha
  clear hk ha
  go_enter Try.func8, Try.ntmps8
  go_upto_region 1 with fail
  obtain ⟨W1, hW1⟩ : ∃ W1, w.alloc (Obj.cells #[.int .i64 kind, .string name, .string text, .int .i64 parent, .slice ka kids.length kc, .slice aa attrs.length ac, .bool gone] 52) = W1 := ⟨_, rfl⟩
  have hg1 := Go.heap_alloc_new w (Obj.cells #[.int .i64 kind, .string name, .string text, .int .i64 parent, .slice ka kids.length kc, .slice aa attrs.length ac, .bool gone] 52)
  have hbw1 : Below w.heap.size w (w.alloc (Obj.cells #[.int .i64 kind, .string name, .string text, .int .i64 parent, .slice ka kids.length kc, .slice aa attrs.length ac, .bool gone] 52)) := (Below.refl _ _).alloc (Nat.le_refl _) _
  rw [hW1] at hg1 hbw1 ⊢
  clear hW1
  have hlt := (Array.getElem?_eq_some_iff.1 hg1).1
  have hss : ∀ w' : World, Below W1.heap.size W1 w' → (w'.cell? ⟨w.heap.size, 0, none⟩ = some (.int .i64 kind) ∧ w'.cell? ⟨w.heap.size, 1, none⟩ = some (.string name) ∧ w'.cell? ⟨w.heap.size, 2, none⟩ = some (.string text) ∧ w'.cell? ⟨w.heap.size, 3, none⟩ = some (.int .i64 parent) ∧ w'.cell? ⟨w.heap.size, 4, none⟩ = some (.slice ka kids.length kc) ∧ w'.cell? ⟨w.heap.size, 5, none⟩ = some (.slice aa attrs.length ac) ∧ w'.cell? ⟨w.heap.size, 6, none⟩ = some (.bool gone)) := fun w' hb => by
    have h := (hb.block w.heap.size hlt).trans hg1
    exact cells7 h
  have hR := fun (w' : World) (hb : Below W1.heap.size W1 w') => right_any ⟨kind, name, text, parent, kids, attrs, gone⟩ (.slice ka kids.length kc) (.slice aa attrs.length ac) (fun k => k < w.heap.size) w' (IK.out.keep (keeps_below (hbw1.trans (hb.mono hbw1.size)))) (IA.out.keep (keeps_below (hbw1.trans (hb.mono hbw1.size)))) (fun k hk => Nat.lt_of_lt_of_le hk (Nat.le_trans hbw1.size hb.size))
  have hQ := fun (w' : World) (hb : Below W1.heap.size W1 w') => refRight_any ⟨kind, name, text, parent, kids, attrs, gone⟩ (.slice ka kids.length kc) (.slice aa attrs.length ac) (fun k => k < w.heap.size) w' (IK.out.keep (keeps_below (hbw1.trans (hb.mono hbw1.size)))) (IA.out.keep (keeps_below (hbw1.trans (hb.mono hbw1.size)))) (fun k hk => Nat.lt_of_lt_of_le hk (Nat.le_trans hbw1.size hb.size))
  have HSS := Lib.hid hss
  have HR := Lib.hid hR
  have HQ := Lib.hid hQ
  have HBW := Lib.hid hbw1
  generalize rightR ⟨kind, name, text, parent, kids, attrs, gone⟩ = b at *
  have hcur : Below W1.heap.size W1 W1.drew := (Below.refl _ W1).drew
  clear hss hR hQ hg1 hbw1 hlt IK IA
  cases b
  all_goals
    go_region_held3 (fun w' => w'.cell? ⟨w.heap.size, 0, none⟩ = some (.int .i64 kind) ∧ w'.cell? ⟨w.heap.size, 1, none⟩ = some (.string name) ∧ w'.cell? ⟨w.heap.size, 2, none⟩ = some (.string text) ∧ w'.cell? ⟨w.heap.size, 3, none⟩ = some (.int .i64 parent) ∧ w'.cell? ⟨w.heap.size, 4, none⟩ = some (.slice ka kids.length kc) ∧ w'.cell? ⟨w.heap.size, 5, none⟩ = some (.slice aa attrs.length ac) ∧ w'.cell? ⟨w.heap.size, 6, none⟩ = some (.bool gone))
      (exact HSS.out _ hcur)
      (first
        | (go_at_call 36; refine (HR.out _ hcur).mono ?_; rintro e w2 ⟨rfl, hb⟩; have hcur := hcur.trans (hb.mono hcur.size); clear hb)
        | (go_at_call 37; refine (HQ.out _ hcur).mono ?_; rintro e w2 ⟨rfl, hb⟩; have hcur := hcur.trans (hb.mono hcur.size); clear hb)
        | (go_at_call 38; refine (works_any _).mono ?_; rintro e w2 ⟨rfl, hb⟩; have hcur := hcur.trans (hb.mono hcur.size); clear hb))
    all_goals
      go_wp2_with fail
      go_ret
      exact ⟨rfl, HBW.out.trans (hcur.mono HBW.out.size)⟩
end Go.Proofs.Ytinkjhkbaadbpaa
