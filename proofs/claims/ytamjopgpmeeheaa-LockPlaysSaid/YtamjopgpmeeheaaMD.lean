/- Contracts of the document's tables (breviaryref20.Compatible, Covers, Name) and of mode.Name. -/
import Derived.Test.YtamjopgpmeeheaaMB
namespace Go.Proofs.Ytamjopgpmeeheaa
open Go.RowKit

theorem rcomp_no (a b : Int) (w : World) (h : ¬ (rightB a = true ∧ rightB b = true)) : Calls Try.prog 16 #[.int .i64 a, .int .i64 b] w fun e w' => e = .returned (.bool (compB a b)) ∧ Below w.heap.size w w' := by
  have hx : compB a b = false := by
    unfold compB eachB
    cases ha : rightB a
    · simp
    · cases hb : rightB b
      · simp
      · exact absurd ⟨ha, hb⟩ h
  rw [hx]; clear hx
  have hh : a < 1 ∨ (1 ≤ a ∧ 7 < a) ∨ (1 ≤ a ∧ a ≤ 7 ∧ b < 1) ∨ (1 ≤ a ∧ a ≤ 7 ∧ 1 ≤ b ∧ 7 < b) := by
    simp [rightB] at h; omega
  clear h
  rcases hh with h1 | ⟨h1, h2⟩ | ⟨h1, h2, h3⟩ | ⟨h1, h2, h3, h4⟩
  all_goals
    go_enter Try.func16, Try.ntmps16
    go_wp2
    go_ret
    exact ⟨rfl, Below.refl _ _⟩

theorem rcomp_1 (b : Int) (w : World) (h : b = 1 ∨ b = 2 ∨ b = 3 ∨ b = 4 ∨ b = 5 ∨ b = 6 ∨ b = 7) : Calls Try.prog 16 #[.int .i64 1, .int .i64 b] w fun e w' => e = .returned (.bool (compB 1 b)) ∧ Below w.heap.size w w' := by
  rcases h with rfl | rfl | rfl | rfl | rfl | rfl | rfl
  all_goals
    go_enter Try.func16, Try.ntmps16
    go_wp2
    go_ret
    exact ⟨rfl, (Below.refl _ _).alloc (Nat.le_refl _) _⟩

theorem rcomp_2 (b : Int) (w : World) (h : b = 1 ∨ b = 2 ∨ b = 3 ∨ b = 4 ∨ b = 5 ∨ b = 6 ∨ b = 7) : Calls Try.prog 16 #[.int .i64 2, .int .i64 b] w fun e w' => e = .returned (.bool (compB 2 b)) ∧ Below w.heap.size w w' := by
  rcases h with rfl | rfl | rfl | rfl | rfl | rfl | rfl
  all_goals
    go_enter Try.func16, Try.ntmps16
    go_wp2
    go_ret
    exact ⟨rfl, (Below.refl _ _).alloc (Nat.le_refl _) _⟩

theorem rcomp_3 (b : Int) (w : World) (h : b = 1 ∨ b = 2 ∨ b = 3 ∨ b = 4 ∨ b = 5 ∨ b = 6 ∨ b = 7) : Calls Try.prog 16 #[.int .i64 3, .int .i64 b] w fun e w' => e = .returned (.bool (compB 3 b)) ∧ Below w.heap.size w w' := by
  rcases h with rfl | rfl | rfl | rfl | rfl | rfl | rfl
  all_goals
    go_enter Try.func16, Try.ntmps16
    go_wp2
    go_ret
    exact ⟨rfl, (Below.refl _ _).alloc (Nat.le_refl _) _⟩

theorem rcomp_4 (b : Int) (w : World) (h : b = 1 ∨ b = 2 ∨ b = 3 ∨ b = 4 ∨ b = 5 ∨ b = 6 ∨ b = 7) : Calls Try.prog 16 #[.int .i64 4, .int .i64 b] w fun e w' => e = .returned (.bool (compB 4 b)) ∧ Below w.heap.size w w' := by
  rcases h with rfl | rfl | rfl | rfl | rfl | rfl | rfl
  all_goals
    go_enter Try.func16, Try.ntmps16
    go_wp2
    go_ret
    exact ⟨rfl, (Below.refl _ _).alloc (Nat.le_refl _) _⟩

theorem rcomp_5 (b : Int) (w : World) (h : b = 1 ∨ b = 2 ∨ b = 3 ∨ b = 4 ∨ b = 5 ∨ b = 6 ∨ b = 7) : Calls Try.prog 16 #[.int .i64 5, .int .i64 b] w fun e w' => e = .returned (.bool (compB 5 b)) ∧ Below w.heap.size w w' := by
  rcases h with rfl | rfl | rfl | rfl | rfl | rfl | rfl
  all_goals
    go_enter Try.func16, Try.ntmps16
    go_wp2
    go_ret
    exact ⟨rfl, (Below.refl _ _).alloc (Nat.le_refl _) _⟩

theorem rcomp_6 (b : Int) (w : World) (h : b = 1 ∨ b = 2 ∨ b = 3 ∨ b = 4 ∨ b = 5 ∨ b = 6 ∨ b = 7) : Calls Try.prog 16 #[.int .i64 6, .int .i64 b] w fun e w' => e = .returned (.bool (compB 6 b)) ∧ Below w.heap.size w w' := by
  rcases h with rfl | rfl | rfl | rfl | rfl | rfl | rfl
  all_goals
    go_enter Try.func16, Try.ntmps16
    go_wp2
    go_ret
    exact ⟨rfl, (Below.refl _ _).alloc (Nat.le_refl _) _⟩

theorem rcomp_7 (b : Int) (w : World) (h : b = 1 ∨ b = 2 ∨ b = 3 ∨ b = 4 ∨ b = 5 ∨ b = 6 ∨ b = 7) : Calls Try.prog 16 #[.int .i64 7, .int .i64 b] w fun e w' => e = .returned (.bool (compB 7 b)) ∧ Below w.heap.size w w' := by
  rcases h with rfl | rfl | rfl | rfl | rfl | rfl | rfl
  all_goals
    go_enter Try.func16, Try.ntmps16
    go_wp2
    go_ret
    exact ⟨rfl, (Below.refl _ _).alloc (Nat.le_refl _) _⟩

theorem rcomp_any (a b : Int) (w : World) : Calls Try.prog 16 #[.int .i64 a, .int .i64 b] w fun e w' => e = .returned (.bool (compB a b)) ∧ Below w.heap.size w w' := by
  by_cases h : rightB a = true ∧ rightB b = true
  · have ha : a = 1 ∨ a = 2 ∨ a = 3 ∨ a = 4 ∨ a = 5 ∨ a = 6 ∨ a = 7 := by simp [rightB] at h; omega
    have hb : b = 1 ∨ b = 2 ∨ b = 3 ∨ b = 4 ∨ b = 5 ∨ b = 6 ∨ b = 7 := by simp [rightB] at h; omega
    rcases ha with rfl | rfl | rfl | rfl | rfl | rfl | rfl
    · exact rcomp_1 b w hb
    · exact rcomp_2 b w hb
    · exact rcomp_3 b w hb
    · exact rcomp_4 b w hb
    · exact rcomp_5 b w hb
    · exact rcomp_6 b w hb
    · exact rcomp_7 b w hb
  · exact rcomp_no a b w h

theorem rcov_no (a b : Int) (w : World) (h : ¬ (rightB a = true ∧ rightB b = true)) : Calls Try.prog 52 #[.int .i64 a, .int .i64 b] w fun e w' => e = .returned (.bool (covB a b)) ∧ Below w.heap.size w w' := by
  have hx : covB a b = false := by
    unfold covB eachB
    cases ha : rightB a
    · simp
    · cases hb : rightB b
      · simp
      · exact absurd ⟨ha, hb⟩ h
  rw [hx]; clear hx
  have hh : a < 1 ∨ (1 ≤ a ∧ 7 < a) ∨ (1 ≤ a ∧ a ≤ 7 ∧ b < 1) ∨ (1 ≤ a ∧ a ≤ 7 ∧ 1 ≤ b ∧ 7 < b) := by
    simp [rightB] at h; omega
  clear h
  rcases hh with h1 | ⟨h1, h2⟩ | ⟨h1, h2, h3⟩ | ⟨h1, h2, h3, h4⟩
  all_goals
    go_enter Try.func52, Try.ntmps52
    go_wp2
    go_ret
    exact ⟨rfl, Below.refl _ _⟩

theorem rcov_1 (b : Int) (w : World) (h : b = 1 ∨ b = 2 ∨ b = 3 ∨ b = 4 ∨ b = 5 ∨ b = 6 ∨ b = 7) : Calls Try.prog 52 #[.int .i64 1, .int .i64 b] w fun e w' => e = .returned (.bool (covB 1 b)) ∧ Below w.heap.size w w' := by
  rcases h with rfl | rfl | rfl | rfl | rfl | rfl | rfl
  all_goals
    go_enter Try.func52, Try.ntmps52
    go_wp2
    go_ret
    exact ⟨rfl, (Below.refl _ _).alloc (Nat.le_refl _) _⟩

theorem rcov_2 (b : Int) (w : World) (h : b = 1 ∨ b = 2 ∨ b = 3 ∨ b = 4 ∨ b = 5 ∨ b = 6 ∨ b = 7) : Calls Try.prog 52 #[.int .i64 2, .int .i64 b] w fun e w' => e = .returned (.bool (covB 2 b)) ∧ Below w.heap.size w w' := by
  rcases h with rfl | rfl | rfl | rfl | rfl | rfl | rfl
  all_goals
    go_enter Try.func52, Try.ntmps52
    go_wp2
    go_ret
    exact ⟨rfl, (Below.refl _ _).alloc (Nat.le_refl _) _⟩

theorem rcov_3 (b : Int) (w : World) (h : b = 1 ∨ b = 2 ∨ b = 3 ∨ b = 4 ∨ b = 5 ∨ b = 6 ∨ b = 7) : Calls Try.prog 52 #[.int .i64 3, .int .i64 b] w fun e w' => e = .returned (.bool (covB 3 b)) ∧ Below w.heap.size w w' := by
  rcases h with rfl | rfl | rfl | rfl | rfl | rfl | rfl
  all_goals
    go_enter Try.func52, Try.ntmps52
    go_wp2
    go_ret
    exact ⟨rfl, (Below.refl _ _).alloc (Nat.le_refl _) _⟩

theorem rcov_4 (b : Int) (w : World) (h : b = 1 ∨ b = 2 ∨ b = 3 ∨ b = 4 ∨ b = 5 ∨ b = 6 ∨ b = 7) : Calls Try.prog 52 #[.int .i64 4, .int .i64 b] w fun e w' => e = .returned (.bool (covB 4 b)) ∧ Below w.heap.size w w' := by
  rcases h with rfl | rfl | rfl | rfl | rfl | rfl | rfl
  all_goals
    go_enter Try.func52, Try.ntmps52
    go_wp2
    go_ret
    exact ⟨rfl, (Below.refl _ _).alloc (Nat.le_refl _) _⟩

theorem rcov_5 (b : Int) (w : World) (h : b = 1 ∨ b = 2 ∨ b = 3 ∨ b = 4 ∨ b = 5 ∨ b = 6 ∨ b = 7) : Calls Try.prog 52 #[.int .i64 5, .int .i64 b] w fun e w' => e = .returned (.bool (covB 5 b)) ∧ Below w.heap.size w w' := by
  rcases h with rfl | rfl | rfl | rfl | rfl | rfl | rfl
  all_goals
    go_enter Try.func52, Try.ntmps52
    go_wp2
    go_ret
    exact ⟨rfl, (Below.refl _ _).alloc (Nat.le_refl _) _⟩

theorem rcov_6 (b : Int) (w : World) (h : b = 1 ∨ b = 2 ∨ b = 3 ∨ b = 4 ∨ b = 5 ∨ b = 6 ∨ b = 7) : Calls Try.prog 52 #[.int .i64 6, .int .i64 b] w fun e w' => e = .returned (.bool (covB 6 b)) ∧ Below w.heap.size w w' := by
  rcases h with rfl | rfl | rfl | rfl | rfl | rfl | rfl
  all_goals
    go_enter Try.func52, Try.ntmps52
    go_wp2
    go_ret
    exact ⟨rfl, (Below.refl _ _).alloc (Nat.le_refl _) _⟩

theorem rcov_7 (b : Int) (w : World) (h : b = 1 ∨ b = 2 ∨ b = 3 ∨ b = 4 ∨ b = 5 ∨ b = 6 ∨ b = 7) : Calls Try.prog 52 #[.int .i64 7, .int .i64 b] w fun e w' => e = .returned (.bool (covB 7 b)) ∧ Below w.heap.size w w' := by
  rcases h with rfl | rfl | rfl | rfl | rfl | rfl | rfl
  all_goals
    go_enter Try.func52, Try.ntmps52
    go_wp2
    go_ret
    exact ⟨rfl, (Below.refl _ _).alloc (Nat.le_refl _) _⟩

theorem rcov_any (a b : Int) (w : World) : Calls Try.prog 52 #[.int .i64 a, .int .i64 b] w fun e w' => e = .returned (.bool (covB a b)) ∧ Below w.heap.size w w' := by
  by_cases h : rightB a = true ∧ rightB b = true
  · have ha : a = 1 ∨ a = 2 ∨ a = 3 ∨ a = 4 ∨ a = 5 ∨ a = 6 ∨ a = 7 := by simp [rightB] at h; omega
    have hb : b = 1 ∨ b = 2 ∨ b = 3 ∨ b = 4 ∨ b = 5 ∨ b = 6 ∨ b = 7 := by simp [rightB] at h; omega
    rcases ha with rfl | rfl | rfl | rfl | rfl | rfl | rfl
    · exact rcov_1 b w hb
    · exact rcov_2 b w hb
    · exact rcov_3 b w hb
    · exact rcov_4 b w hb
    · exact rcov_5 b w hb
    · exact rcov_6 b w hb
    · exact rcov_7 b w hb
  · exact rcov_no a b w h

/-- the names, as bytes. -/
def nameT : Nat → ByteArray
  | 1 => ⟨#[73, 82]⟩
  | 2 => ⟨#[78, 82]⟩
  | 3 => ⟨#[73, 88]⟩
  | 4 => ⟨#[76, 82]⟩
  | 5 => ⟨#[83, 82]⟩
  | 6 => ⟨#[83, 85]⟩
  | 7 => ⟨#[83, 88]⟩
  | _ => ⟨#[]⟩
def nameS (m : Int) : ByteArray := if rightB m then nameT m.toNat else ⟨#[]⟩

theorem ndx0 (w : World) : (Instr.index 78 (.agg #[.string ⟨#[73, 82]⟩, .string ⟨#[78, 82]⟩, .string ⟨#[73, 88]⟩, .string ⟨#[76, 82]⟩, .string ⟨#[83, 82]⟩, .string ⟨#[83, 85]⟩, .string ⟨#[83, 88]⟩]) (.int .i64 0)).run Try.prog w = .ok (.string ⟨#[73, 82]⟩) w := by kernel_rfl
theorem ndx1 (w : World) : (Instr.index 78 (.agg #[.string ⟨#[73, 82]⟩, .string ⟨#[78, 82]⟩, .string ⟨#[73, 88]⟩, .string ⟨#[76, 82]⟩, .string ⟨#[83, 82]⟩, .string ⟨#[83, 85]⟩, .string ⟨#[83, 88]⟩]) (.int .i64 1)).run Try.prog w = .ok (.string ⟨#[78, 82]⟩) w := by kernel_rfl
theorem ndx2 (w : World) : (Instr.index 78 (.agg #[.string ⟨#[73, 82]⟩, .string ⟨#[78, 82]⟩, .string ⟨#[73, 88]⟩, .string ⟨#[76, 82]⟩, .string ⟨#[83, 82]⟩, .string ⟨#[83, 85]⟩, .string ⟨#[83, 88]⟩]) (.int .i64 2)).run Try.prog w = .ok (.string ⟨#[73, 88]⟩) w := by kernel_rfl
theorem ndx3 (w : World) : (Instr.index 78 (.agg #[.string ⟨#[73, 82]⟩, .string ⟨#[78, 82]⟩, .string ⟨#[73, 88]⟩, .string ⟨#[76, 82]⟩, .string ⟨#[83, 82]⟩, .string ⟨#[83, 85]⟩, .string ⟨#[83, 88]⟩]) (.int .i64 3)).run Try.prog w = .ok (.string ⟨#[76, 82]⟩) w := by kernel_rfl
theorem ndx4 (w : World) : (Instr.index 78 (.agg #[.string ⟨#[73, 82]⟩, .string ⟨#[78, 82]⟩, .string ⟨#[73, 88]⟩, .string ⟨#[76, 82]⟩, .string ⟨#[83, 82]⟩, .string ⟨#[83, 85]⟩, .string ⟨#[83, 88]⟩]) (.int .i64 4)).run Try.prog w = .ok (.string ⟨#[83, 82]⟩) w := by kernel_rfl
theorem ndx5 (w : World) : (Instr.index 78 (.agg #[.string ⟨#[73, 82]⟩, .string ⟨#[78, 82]⟩, .string ⟨#[73, 88]⟩, .string ⟨#[76, 82]⟩, .string ⟨#[83, 82]⟩, .string ⟨#[83, 85]⟩, .string ⟨#[83, 88]⟩]) (.int .i64 5)).run Try.prog w = .ok (.string ⟨#[83, 85]⟩) w := by kernel_rfl
theorem ndx6 (w : World) : (Instr.index 78 (.agg #[.string ⟨#[73, 82]⟩, .string ⟨#[78, 82]⟩, .string ⟨#[73, 88]⟩, .string ⟨#[76, 82]⟩, .string ⟨#[83, 82]⟩, .string ⟨#[83, 85]⟩, .string ⟨#[83, 88]⟩]) (.int .i64 6)).run Try.prog w = .ok (.string ⟨#[83, 88]⟩) w := by kernel_rfl
theorem name1 (w : World) : Calls Try.prog 28 #[.int .i64 1] w fun e w' => e = .returned (.string (nameS 1)) ∧ Below w.heap.size w w' := by
  have h := ndx0
  have e : rightB 1 = true := rfl
  go_enter Try.func28, Try.ntmps28
  go_wp2_with (go_at_call 45; refine (right_any _ _).mono ?_; rintro e w' ⟨rfl, rfl⟩)
  go_ret
  exact ⟨rfl, Below.refl _ _⟩
theorem name2 (w : World) : Calls Try.prog 28 #[.int .i64 2] w fun e w' => e = .returned (.string (nameS 2)) ∧ Below w.heap.size w w' := by
  have h := ndx1
  have e : rightB 2 = true := rfl
  go_enter Try.func28, Try.ntmps28
  go_wp2_with (go_at_call 45; refine (right_any _ _).mono ?_; rintro e w' ⟨rfl, rfl⟩)
  go_ret
  exact ⟨rfl, Below.refl _ _⟩
theorem name3 (w : World) : Calls Try.prog 28 #[.int .i64 3] w fun e w' => e = .returned (.string (nameS 3)) ∧ Below w.heap.size w w' := by
  have h := ndx2
  have e : rightB 3 = true := rfl
  go_enter Try.func28, Try.ntmps28
  go_wp2_with (go_at_call 45; refine (right_any _ _).mono ?_; rintro e w' ⟨rfl, rfl⟩)
  go_ret
  exact ⟨rfl, Below.refl _ _⟩
theorem name4 (w : World) : Calls Try.prog 28 #[.int .i64 4] w fun e w' => e = .returned (.string (nameS 4)) ∧ Below w.heap.size w w' := by
  have h := ndx3
  have e : rightB 4 = true := rfl
  go_enter Try.func28, Try.ntmps28
  go_wp2_with (go_at_call 45; refine (right_any _ _).mono ?_; rintro e w' ⟨rfl, rfl⟩)
  go_ret
  exact ⟨rfl, Below.refl _ _⟩
theorem name5 (w : World) : Calls Try.prog 28 #[.int .i64 5] w fun e w' => e = .returned (.string (nameS 5)) ∧ Below w.heap.size w w' := by
  have h := ndx4
  have e : rightB 5 = true := rfl
  go_enter Try.func28, Try.ntmps28
  go_wp2_with (go_at_call 45; refine (right_any _ _).mono ?_; rintro e w' ⟨rfl, rfl⟩)
  go_ret
  exact ⟨rfl, Below.refl _ _⟩
theorem name6 (w : World) : Calls Try.prog 28 #[.int .i64 6] w fun e w' => e = .returned (.string (nameS 6)) ∧ Below w.heap.size w w' := by
  have h := ndx5
  have e : rightB 6 = true := rfl
  go_enter Try.func28, Try.ntmps28
  go_wp2_with (go_at_call 45; refine (right_any _ _).mono ?_; rintro e w' ⟨rfl, rfl⟩)
  go_ret
  exact ⟨rfl, Below.refl _ _⟩
theorem name7 (w : World) : Calls Try.prog 28 #[.int .i64 7] w fun e w' => e = .returned (.string (nameS 7)) ∧ Below w.heap.size w w' := by
  have h := ndx6
  have e : rightB 7 = true := rfl
  go_enter Try.func28, Try.ntmps28
  go_wp2_with (go_at_call 45; refine (right_any _ _).mono ?_; rintro e w' ⟨rfl, rfl⟩)
  go_ret
  exact ⟨rfl, Below.refl _ _⟩
theorem name_any (m : Int) (w : World) : Calls Try.prog 28 #[.int .i64 m] w fun e w' => e = .returned (.string (nameS m)) ∧ Below w.heap.size w w' := by
  by_cases h : rightB m = true
  · have hm : m = 1 ∨ m = 2 ∨ m = 3 ∨ m = 4 ∨ m = 5 ∨ m = 6 ∨ m = 7 := by simp [rightB] at h; omega
    rcases hm with rfl | rfl | rfl | rfl | rfl | rfl | rfl
    · exact name1 w
    · exact name2 w
    · exact name3 w
    · exact name4 w
    · exact name5 w
    · exact name6 w
    · exact name7 w
  ·
    have hr : rightB m = false := by simpa using h
    have hx : nameS m = ⟨#[]⟩ := by simp [nameS, hr]
    rw [hx]; clear hx h
    go_enter Try.func28, Try.ntmps28
    go_wp2_with (go_at_call 45; refine (right_any _ _).mono ?_; rintro e w' ⟨rfl, rfl⟩)
    go_ret
    exact ⟨rfl, Below.refl _ _⟩

end Go.Proofs.Ytamjopgpmeeheaa
