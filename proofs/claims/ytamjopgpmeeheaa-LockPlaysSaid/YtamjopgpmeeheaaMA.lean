/- Contracts of the functions of package mode and of the document's tables (breviaryref20). -/
import Derived.Test.YtamjopgpmeeheaaProg
import Derived.WalkKit
import Derived.Deep.QuietTactic
import Derived.BigQuiet
import Derived.WalkSpells
import Derived.WalkLawsBesides
namespace Go.Proofs.Ytamjopgpmeeheaa
open Go.RowKit

/-! plain functions -/
def rightB (m : Int) : Bool := decide (1 ≤ m ∧ m ≤ 7)
def clashB (a b : Int) : Bool :=
  let (a, b) := if a < b then (b, a) else (a, b)
  if b = 0 then false else if a = 5 then true else if a = 4 then (b == 2 || b == 4) else a == 3 && b == 2
def holdsB (a b : Int) : Bool := decide (a ≥ b) && (b != 2 || a == 2 || a == 5)
def doesT : Nat → Int × Int × Int
  | 1 => (3, 1, 1) | 2 => (3, 0, 0) | 3 => (3, 2, 2) | 4 => (3, 3, 0) | 5 => (3, 3, 3) | 6 => (4, 4, 4) | 7 => (5, 5, 5) | _ => (0, 0, 0)
def does (m : Int) : Int × Int × Int := if rightB m then doesT m.toNat else (0, 0, 0)
abbrev i3 (t : Int × Int × Int) : Value := .agg #[.int .i64 t.1, .int .i64 t.2.1, .int .i64 t.2.2]
def eachB (f : Int → Int → Bool) (a b : Int) : Bool :=
  rightB a && rightB b && f (does a).1 (does b).1 && f (does a).2.1 (does b).2.1 && f (does a).2.2 (does b).2.2
def compB (a b : Int) : Bool := eachB (fun x y => !clashB x y) a b
def covB (a b : Int) : Bool := eachB holdsB a b

theorem right_any (m : Int) (w : World) : Calls Try.prog 45 #[.int .i64 m] w fun e w' => e = .returned (.bool (rightB m)) ∧ w = w' := by
  by_cases h1 : 1 ≤ m
  · by_cases h7 : m ≤ 7
    · have e : rightB m = true := by simp [rightB, h1, h7]
      rw [e]; clear e
      go_enter Try.func45, Try.ntmps45
      go_wp2
      go_ret
      exact ⟨rfl, rfl⟩
    · have e : rightB m = false := by simp [rightB, h7]
      rw [e]; clear e
      go_enter Try.func45, Try.ntmps45
      go_wp2
      go_ret
      exact ⟨rfl, rfl⟩
  · have e : rightB m = false := by simp [rightB, h1]
    rw [e]; clear e
    go_enter Try.func45, Try.ntmps45
    go_wp2
    go_ret
    exact ⟨rfl, rfl⟩

abbrev row7 : Value := .agg #[.int .i64 3, .int .i64 1, .int .i64 1, .int .i64 3, .int .i64 0, .int .i64 0, .int .i64 3, .int .i64 2, .int .i64 2, .int .i64 3, .int .i64 3, .int .i64 0, .int .i64 3, .int .i64 3, .int .i64 3, .int .i64 4, .int .i64 4, .int .i64 4, .int .i64 5, .int .i64 5, .int .i64 5]
theorem idx0 (w : World) : (Instr.index 112 row7 (.int .i64 0)).run Try.prog w = .ok (i3 (3, 1, 1)) w := by kernel_rfl
theorem idx1 (w : World) : (Instr.index 112 row7 (.int .i64 1)).run Try.prog w = .ok (i3 (3, 0, 0)) w := by kernel_rfl
theorem idx2 (w : World) : (Instr.index 112 row7 (.int .i64 2)).run Try.prog w = .ok (i3 (3, 2, 2)) w := by kernel_rfl
theorem idx3 (w : World) : (Instr.index 112 row7 (.int .i64 3)).run Try.prog w = .ok (i3 (3, 3, 0)) w := by kernel_rfl
theorem idx4 (w : World) : (Instr.index 112 row7 (.int .i64 4)).run Try.prog w = .ok (i3 (3, 3, 3)) w := by kernel_rfl
theorem idx5 (w : World) : (Instr.index 112 row7 (.int .i64 5)).run Try.prog w = .ok (i3 (4, 4, 4)) w := by kernel_rfl
theorem idx6 (w : World) : (Instr.index 112 row7 (.int .i64 6)).run Try.prog w = .ok (i3 (5, 5, 5)) w := by kernel_rfl

theorem does1 (w : World) : Calls Try.prog 66 #[.int .i64 1] w fun e w' => e = .returned (i3 (3, 1, 1)) ∧ Below w.heap.size w w' := by
  have h := idx0
  have e : rightB 1 = true := rfl
  go_enter Try.func66, Try.ntmps66
  go_wp2_with (go_at_call 45; refine (right_any _ _).mono ?_; rintro e w' ⟨rfl, rfl⟩)
  refine bodyPost_ret (v := i3 (3, 1, 1)) (by simp [results, Try.results66, go_sem]) rfl ⟨rfl, ?_⟩
  exact (Below.refl _ _).alloc (Nat.le_refl _) _

theorem does2 (w : World) : Calls Try.prog 66 #[.int .i64 2] w fun e w' => e = .returned (i3 (3, 0, 0)) ∧ Below w.heap.size w w' := by
  have h := idx1
  have e : rightB 2 = true := rfl
  go_enter Try.func66, Try.ntmps66
  go_wp2_with (go_at_call 45; refine (right_any _ _).mono ?_; rintro e w' ⟨rfl, rfl⟩)
  refine bodyPost_ret (v := i3 (3, 0, 0)) (by simp [results, Try.results66, go_sem]) rfl ⟨rfl, ?_⟩
  exact (Below.refl _ _).alloc (Nat.le_refl _) _

theorem does3 (w : World) : Calls Try.prog 66 #[.int .i64 3] w fun e w' => e = .returned (i3 (3, 2, 2)) ∧ Below w.heap.size w w' := by
  have h := idx2
  have e : rightB 3 = true := rfl
  go_enter Try.func66, Try.ntmps66
  go_wp2_with (go_at_call 45; refine (right_any _ _).mono ?_; rintro e w' ⟨rfl, rfl⟩)
  refine bodyPost_ret (v := i3 (3, 2, 2)) (by simp [results, Try.results66, go_sem]) rfl ⟨rfl, ?_⟩
  exact (Below.refl _ _).alloc (Nat.le_refl _) _

theorem does4 (w : World) : Calls Try.prog 66 #[.int .i64 4] w fun e w' => e = .returned (i3 (3, 3, 0)) ∧ Below w.heap.size w w' := by
  have h := idx3
  have e : rightB 4 = true := rfl
  go_enter Try.func66, Try.ntmps66
  go_wp2_with (go_at_call 45; refine (right_any _ _).mono ?_; rintro e w' ⟨rfl, rfl⟩)
  refine bodyPost_ret (v := i3 (3, 3, 0)) (by simp [results, Try.results66, go_sem]) rfl ⟨rfl, ?_⟩
  exact (Below.refl _ _).alloc (Nat.le_refl _) _

theorem does5 (w : World) : Calls Try.prog 66 #[.int .i64 5] w fun e w' => e = .returned (i3 (3, 3, 3)) ∧ Below w.heap.size w w' := by
  have h := idx4
  have e : rightB 5 = true := rfl
  go_enter Try.func66, Try.ntmps66
  go_wp2_with (go_at_call 45; refine (right_any _ _).mono ?_; rintro e w' ⟨rfl, rfl⟩)
  refine bodyPost_ret (v := i3 (3, 3, 3)) (by simp [results, Try.results66, go_sem]) rfl ⟨rfl, ?_⟩
  exact (Below.refl _ _).alloc (Nat.le_refl _) _

theorem does6 (w : World) : Calls Try.prog 66 #[.int .i64 6] w fun e w' => e = .returned (i3 (4, 4, 4)) ∧ Below w.heap.size w w' := by
  have h := idx5
  have e : rightB 6 = true := rfl
  go_enter Try.func66, Try.ntmps66
  go_wp2_with (go_at_call 45; refine (right_any _ _).mono ?_; rintro e w' ⟨rfl, rfl⟩)
  refine bodyPost_ret (v := i3 (4, 4, 4)) (by simp [results, Try.results66, go_sem]) rfl ⟨rfl, ?_⟩
  exact (Below.refl _ _).alloc (Nat.le_refl _) _

theorem does7 (w : World) : Calls Try.prog 66 #[.int .i64 7] w fun e w' => e = .returned (i3 (5, 5, 5)) ∧ Below w.heap.size w w' := by
  have h := idx6
  have e : rightB 7 = true := rfl
  go_enter Try.func66, Try.ntmps66
  go_wp2_with (go_at_call 45; refine (right_any _ _).mono ?_; rintro e w' ⟨rfl, rfl⟩)
  refine bodyPost_ret (v := i3 (5, 5, 5)) (by simp [results, Try.results66, go_sem]) rfl ⟨rfl, ?_⟩
  exact (Below.refl _ _).alloc (Nat.le_refl _) _


theorem does_any (m : Int) (w : World) : Calls Try.prog 66 #[.int .i64 m] w fun e w' => e = .returned (i3 (does m)) ∧ Below w.heap.size w w' := by
  by_cases h : rightB m = true
  · have hm : m = 1 ∨ m = 2 ∨ m = 3 ∨ m = 4 ∨ m = 5 ∨ m = 6 ∨ m = 7 := by simp [rightB] at h; omega
    rcases hm with rfl | rfl | rfl | rfl | rfl | rfl | rfl
    · exact does1 w
    · exact does2 w
    · exact does3 w
    · exact does4 w
    · exact does5 w
    · exact does6 w
    · exact does7 w
  · have h' : rightB m = false := by simpa using h
    have e : does m = (0, 0, 0) := by simp [does, h']
    rw [e]; clear e h
    go_enter Try.func66, Try.ntmps66
    go_wp2_with (go_at_call 45; refine (right_any _ _).mono ?_; rintro e w' ⟨rfl, rfl⟩)
    refine bodyPost_ret (v := i3 (0, 0, 0)) (by simp [results, Try.results66, go_sem]) rfl ⟨rfl, ?_⟩
    exact (Below.refl _ _).alloc (Nat.le_refl _) _

theorem holds_any (a b : Int) (w : World) (ha : 0 ≤ a ∧ a ≤ 5) (hb : 0 ≤ b ∧ b ≤ 5) : Calls Try.prog 47 #[.int .i64 a, .int .i64 b] w fun e w' => e = .returned (.bool (holdsB a b)) ∧ w = w' := by
  have h1 : a = 0 ∨ a = 1 ∨ a = 2 ∨ a = 3 ∨ a = 4 ∨ a = 5 := by omega
  have h2 : b = 0 ∨ b = 1 ∨ b = 2 ∨ b = 3 ∨ b = 4 ∨ b = 5 := by omega
  clear ha hb
  rcases h1 with rfl | rfl | rfl | rfl | rfl | rfl <;> rcases h2 with rfl | rfl | rfl | rfl | rfl | rfl
  all_goals
    go_enter Try.func47, Try.ntmps47
    go_wp2
    go_ret
    exact ⟨rfl, rfl⟩

theorem clash_any (a b : Int) (w : World) (ha : 0 ≤ a ∧ a ≤ 5) (hb : 0 ≤ b ∧ b ≤ 5) : Calls Try.prog 63 #[.int .i64 a, .int .i64 b] w fun e w' => e = .returned (.bool (clashB a b)) ∧ w = w' := by
  have h1 : a = 0 ∨ a = 1 ∨ a = 2 ∨ a = 3 ∨ a = 4 ∨ a = 5 := by omega
  have h2 : b = 0 ∨ b = 1 ∨ b = 2 ∨ b = 3 ∨ b = 4 ∨ b = 5 := by omega
  clear ha hb
  rcases h1 with rfl | rfl | rfl | rfl | rfl | rfl <;> rcases h2 with rfl | rfl | rfl | rfl | rfl | rfl
  all_goals
    go_enter Try.func63, Try.ntmps63
    go_wp2
    go_ret
    exact ⟨rfl, rfl⟩

theorem comp1_any (a b : Int) (w : World) (ha : 0 ≤ a ∧ a ≤ 5) (hb : 0 ≤ b ∧ b ≤ 5) : Calls Try.prog 62 #[.int .i64 a, .int .i64 b] w fun e w' => e = .returned (.bool (!clashB a b)) ∧ w = w' := by
  go_enter Try.func62, Try.ntmps62
  go_wp2_with (go_at_call 63; refine (clash_any _ _ _ ha hb).mono ?_; rintro e w' ⟨rfl, rfl⟩)
  go_ret
  exact ⟨rfl, rfl⟩
end Go.Proofs.Ytamjopgpmeeheaa
