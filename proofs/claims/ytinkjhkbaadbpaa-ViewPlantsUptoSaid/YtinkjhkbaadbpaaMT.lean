/- What tests may be: Right (26), the reference's Right (27). -/
import Derived.Test.YtinkjhkbaadbpaaRD
import Derived.Test.YtinkjhkbaadbpaaNM
namespace Go.Proofs.Ytinkjhkbaadbpaa
open Go.RowKit
set_option linter.unusedVariables false

structure Tst where
  kind : Int
  name : ByteArray
  has : Bool
abbrev tstV (t : Tst) : Value := .agg #[.int .i64 t.kind, .string t.name, .bool t.has]
def tRight (t : Tst) : Bool :=
  if t.kind < 1 ∨ 6 < t.kind ∨ (t.has = true ∧ t.kind ≠ 6) then false else if t.kind = 1 then !emptyB t.name else emptyB t.name || t.has
set_option maxRecDepth 100000 in
set_option maxHeartbeats 4000000 in
theorem tright_any (t : Tst) (w : World) : Calls Try.prog 26 #[tstV t] w fun e w' => e = .returned (.bool (tRight t)) ∧ Below w.heap.size w w' := by
  obtain ⟨k, nm, has⟩ := t
  have HB := Lib.hid ((Below.refl _ w).alloc (Nat.le_refl _) (.cells #[.int .i64 k, .string nm, .bool has] 42))
  by_cases h1 : k = 1
  · subst h1
    cases has <;> (go_enter Try.func26, Try.ntmps26; go_wp2; all_goals (go_ret; exact ⟨ret_b (by simp [tRight, emptyB, *]), HB.out⟩))
  · by_cases h6 : k = 6
    · subst h6
      cases has <;> (go_enter Try.func26, Try.ntmps26; go_wp2; all_goals (go_ret; exact ⟨ret_b (by simp [tRight, emptyB, *]), HB.out⟩))
    · by_cases h2 : k = 2
      · subst h2
        cases has <;> (go_enter Try.func26, Try.ntmps26; go_wp2; all_goals (go_ret; exact ⟨ret_b (by simp [tRight, emptyB, *]), HB.out⟩))
      · by_cases h3 : k = 3
        · subst h3
          cases has <;> (go_enter Try.func26, Try.ntmps26; go_wp2; all_goals (go_ret; exact ⟨ret_b (by simp [tRight, emptyB, *]), HB.out⟩))
        · by_cases h4 : k = 4
          · subst h4
            cases has <;> (go_enter Try.func26, Try.ntmps26; go_wp2; all_goals (go_ret; exact ⟨ret_b (by simp [tRight, emptyB, *]), HB.out⟩))
          · by_cases h5 : k = 5
            · subst h5
              cases has <;> (go_enter Try.func26, Try.ntmps26; go_wp2; all_goals (go_ret; exact ⟨ret_b (by simp [tRight, emptyB, *]), HB.out⟩))
            · have hz : tRight ⟨k, nm, has⟩ = false := by unfold tRight; rw [if_pos (by simp only; omega)]
              rw [hz]
              clear hz
              go_enter Try.func26, Try.ntmps26
              go_wp2
              go_ret
              exact ⟨rfl, HB.out⟩
set_option maxRecDepth 100000 in
set_option maxHeartbeats 4000000 in
theorem rtright_any (t : Tst) (w : World) : Calls Try.prog 27 #[tstV t] w fun e w' => e = .returned (.bool (tRight t)) ∧ Below w.heap.size w w' := by
  obtain ⟨k, nm, has⟩ := t
  have HB := Lib.hid ((Below.refl _ w).alloc (Nat.le_refl _) (.cells #[.int .i64 k, .string nm, .bool has] 42))
  by_cases h1 : k = 1
  · subst h1
    cases has <;> (go_enter Try.func27, Try.ntmps27; go_wp2; all_goals (go_ret; exact ⟨ret_b (by simp [tRight, emptyB, *]), HB.out⟩))
  · by_cases h6 : k = 6
    · subst h6
      cases has <;> (go_enter Try.func27, Try.ntmps27; go_wp2; all_goals (go_ret; exact ⟨ret_b (by simp [tRight, emptyB, *]), HB.out⟩))
    · by_cases hr : k < 1 ∨ 6 < k
      · have hz : tRight ⟨k, nm, has⟩ = false := by unfold tRight; rw [if_pos (by simp only; omega)]
        rw [hz]
        clear hz
        rcases hr with hr | hr
        · go_enter Try.func27, Try.ntmps27
          go_wp2
          go_ret
          exact ⟨rfl, HB.out⟩
        · have hr2 : ¬ k < 1 := by omega
          go_enter Try.func27, Try.ntmps27
          go_wp2
          go_ret
          exact ⟨rfl, HB.out⟩
      · have g1 : ¬ k < 1 := by omega
        have g2 : ¬ 6 < k := by omega
        have gz : tRight ⟨k, nm, has⟩ = (!has && emptyB nm) := by
          unfold tRight
          simp only
          cases has
          · rw [if_neg (by simp; omega), if_neg h1]; simp
          · rw [if_pos (by simp; omega)]; simp
        rw [gz]
        clear gz hr
        cases has <;> (go_enter Try.func27, Try.ntmps27; go_wp2; all_goals (go_ret; exact ⟨ret_b (by simp [emptyB, *]), HB.out⟩))
end Go.Proofs.Ytinkjhkbaadbpaa
