/- PROVED: of any two numbers mode.Compatible, Covers, Join and Name answer as the document's tables (breviaryref20) do: ModeTables returns true at every input. No condition. -/
import Derived.Test.YtenllaeempeggaaF
import Derived.ProofKit
import Derived.OpenShut
namespace Go.Proofs.Ytenllaeempeggaa.modeTables
open Go.ChangeShapes Go.WideShapes Go.ChangeAt Go.RowKit
set_option linter.unusedVariables false

theorem own : ownKnob Try.prog.godebug = none := by kernel_rfl

theorem walk (a0 : Int) (a1 : Int) (w : World) :
    Calls Try.prog 3 #[.int .i64 a0, .int .i64 a1] w fun e w' => e = .returned (.bool true) ∧ Below w.heap.size w w' := by
  have hb := Below.refl w.heap.size w
  have hB : w.heap.size ≤ w.heap.size := Nat.le_refl _
  go_enter Try.func3, Try.ntmps3
  go_wp2_with fail
  refine (comp_any _ _ _).mono ?_; rintro e w1 ⟨rfl, hn⟩; obtain ⟨hb, hB⟩ := below_step hb hn hB
  go_wp2_with fail
  refine (rcomp_any _ _ _).mono ?_; rintro e w2 ⟨rfl, hn⟩; obtain ⟨hb, hB⟩ := below_step hb hn hB
  go_wp2_with fail
  refine (cov_any _ _ _).mono ?_; rintro e w3 ⟨rfl, hn⟩; obtain ⟨hb, hB⟩ := below_step hb hn hB
  go_wp2_with fail
  refine (rcov_any _ _ _).mono ?_; rintro e w4 ⟨rfl, hn⟩; obtain ⟨hb, hB⟩ := below_step hb hn hB
  go_wp2_with fail
  refine (join_any _ _ _).mono ?_; rintro e w5 ⟨rfl, hn⟩; obtain ⟨hb, hB⟩ := below_step hb hn hB
  go_wp2_with fail
  refine (rjoin_any _ _ _).mono ?_; rintro e w6 ⟨rfl, hn⟩; obtain ⟨hb, hB⟩ := below_step hb hn hB
  go_wp2_with fail
  refine (name_any _ _).mono ?_; rintro e w7 ⟨rfl, hn⟩; obtain ⟨hb, hB⟩ := below_step hb hn hB
  go_wp2_with fail
  refine (rname_any _ _).mono ?_; rintro e w8 ⟨rfl, hn⟩; obtain ⟨hb, hB⟩ := below_step hb hn hB
  go_wp2_with fail
  refine (works_any _).mono ?_; rintro e w9 ⟨rfl, hn⟩; obtain ⟨hb, hB⟩ := below_step hb hn hB
  go_wp2_with fail
  go_ret
  exact ⟨rfl, hb⟩

set_option maxRecDepth 100000 in
theorem lifted (os : Os) (started : os.Started) (H : Type) (enc : TypeId × Value → H) :
    ReturnsInHanded {} Try.checked os 3 .any (Rows.modeTablesSpec.pre6 enc Try.prog Try.f3 Rows.modeTablesRow.domain false) (Rows.modeTablesSpec.post enc Try.prog Try.f3 false true false false) := by
  refine returnsInHanded_of_change (C := Try.checked) own started (by kernel_rfl) Try.func3
    (ChangeSpec.witness6 (enc := enc) (C := Try.checked) false ⟨#[], #[.int .i64 0, .int .i64 0], []⟩ 8 (by kernel_rfl) (by kernel_rfl) (by kernel_rfl) (by kernel_rfl)) ?_
  intro W base args ds gs before hval0 hW hcnd _
  have hval : ∀ (j : Nat) t v, Try.f3.params[j]? = some t → args[j]? = some v → Value.okWide Try.prog W .any base t v := hval0
  have hW' := hW
  obtain ⟨p, q, hA0, hV, rfl, hfz, hnd⟩ := hW
  have hA : DataW.TrodAll enc Try.prog W 0 (fun _ => true) true Try.f3.params.toList args.toList ds p := hA0
  rw [Try.params3] at hA hval
  obtain ⟨v0, vs0, d0, ds0, p0, q0, hargs, rfl, rfl, h0, r0⟩ := trodAll_cons hA
  obtain ⟨v1, vs1, d1, ds1, p1, q1, rfl, rfl, rfl, h1, r1⟩ := trodAll_cons r0
  obtain ⟨rfl, rfl, rfl⟩ := trodAll_nil r1
  obtain rfl : args = #[v0, v1] := by cases args; simp_all
  obtain ⟨rfl, rfl⟩ := trodVars_none hV
  obtain ⟨a0, rfl, rfl, rfl, w0⟩ := open_int Try.underlying3 (hval 0 3 v0 rfl rfl) h0
  obtain ⟨a1, rfl, rfl, rfl, w1⟩ := open_int Try.underlying3 (hval 1 3 v1 rfl rfl) h1
  clear hA0 hval0
  simp only [List.append_nil] at hW'
  refine (walk a0 a1 W).mono fun e W' ⟨he, hg⟩ => ?_
  subst he
  exact ⟨_, rfl, post_below (pa := []) (pv := []) hW' (fun _ _ _ => (trodAll_cons_mk (shut_bool Try.underlying4 _) trodAll_mk0)) (fun sp _ => (trodAll_cons_mk (shut_int Try.underlying3 w0) (trodAll_cons_mk (shut_int Try.underlying3 w1) trodAll_mk0))) (fun _ _ => rfl) hg⟩

theorem over : Rows.modeTablesRow.holds Try.pinned (OpenSpec.ofChange Rows.modeTablesSpec) :=
  OpenClaim.holds_of_wide 3 Try.f3 rfl rfl rfl rfl rfl rfl rfl ⟨rfl, rfl, rfl, rfl, rfl⟩ rfl rfl rfl rfl rfl (by kernel_rfl) Try.func3 (by kernel_rfl)
    (of_decide_eq_true (by kernel_rfl)) (by unfold Func.isWrapper; first | (rw [if_pos (by decide +kernel)]; kernel_rfl) | (rw [if_neg (by decide +kernel)]; exact ⟨rfl, rfl⟩))
    (fun os started H enc _ => lifted os started H enc)

/-- ████ THE STATEMENT ████ -/
theorem proved : Rows.ModeTablesSaid :=
  over
#print axioms proved
end Go.Proofs.Ytenllaeempeggaa.modeTables
