/- The names of the axes: Name (32), the reference's Name (33), Of (31), Reverse (34). -/
import Derived.Test.YtinkjhkbaadbpaaR2
namespace Go.Proofs.Ytinkjhkbaadbpaa
open Go.RowKit
set_option linter.unusedVariables false

def axNames : List ByteArray := [⟨#[99, 104, 105, 108, 100]⟩, ⟨#[100, 101, 115, 99, 101, 110, 100, 97, 110, 116]⟩, ⟨#[112, 97, 114, 101, 110, 116]⟩, ⟨#[97, 110, 99, 101, 115, 116, 111, 114]⟩, ⟨#[102, 111, 108, 108, 111, 119, 105, 110, 103, 45, 115, 105, 98, 108, 105, 110, 103]⟩, ⟨#[112, 114, 101, 99, 101, 100, 105, 110, 103, 45, 115, 105, 98, 108, 105, 110, 103]⟩, ⟨#[102, 111, 108, 108, 111, 119, 105, 110, 103]⟩, ⟨#[112, 114, 101, 99, 101, 100, 105, 110, 103]⟩, ⟨#[97, 116, 116, 114, 105, 98, 117, 116, 101]⟩, ⟨#[115, 101, 108, 102]⟩, ⟨#[100, 101, 115, 99, 101, 110, 100, 97, 110, 116, 45, 111, 114, 45, 115, 101, 108, 102]⟩, ⟨#[97, 110, 99, 101, 115, 116, 111, 114, 45, 111, 114, 45, 115, 101, 108, 102]⟩]
def axName (a : Int) : ByteArray := if 1 ≤ a ∧ a ≤ 12 then (axNames[(a - 1).toNat]?).getD ⟨#[]⟩ else ⟨#[]⟩
theorem ax_cases {a : Int} (h1 : 1 ≤ a) (h2 : a ≤ 12) : a = 1 ∨ a = 2 ∨ a = 3 ∨ a = 4 ∨ a = 5 ∨ a = 6 ∨ a = 7 ∨ a = 8 ∨ a = 9 ∨ a = 10 ∨ a = 11 ∨ a = 12 := by omega
theorem axName_out {a : Int} (h : ¬ (1 ≤ a ∧ a ≤ 12)) : axName a = ⟨#[]⟩ := if_neg h

set_option maxRecDepth 100000 in
set_option maxHeartbeats 4000000 in
theorem name_any (a : Int) (w : World) : Calls Try.prog 32 #[.int .i64 a] w fun e w' => e = .returned (.string (axName a)) ∧ w = w' := by
  by_cases h : 1 ≤ a ∧ a ≤ 12
  · rcases ax_cases h.1 h.2 with rfl | rfl | rfl | rfl | rfl | rfl | rfl | rfl | rfl | rfl | rfl | rfl
    all_goals
      clear h
      go_enter Try.func32, Try.ntmps32
      go_wp2
      go_ret
      exact ⟨rfl, rfl⟩
  · rw [axName_out h]
    have g1 : ¬ a = 1 := by omega
    have g2 : ¬ a = 2 := by omega
    have g3 : ¬ a = 3 := by omega
    have g4 : ¬ a = 4 := by omega
    have g5 : ¬ a = 5 := by omega
    have g6 : ¬ a = 6 := by omega
    have g7 : ¬ a = 7 := by omega
    have g8 : ¬ a = 8 := by omega
    have g9 : ¬ a = 9 := by omega
    have g10 : ¬ a = 10 := by omega
    have g11 : ¬ a = 11 := by omega
    have g12 : ¬ a = 12 := by omega
    clear h
    go_enter Try.func32, Try.ntmps32
    go_wp2
    go_ret
    exact ⟨rfl, rfl⟩

set_option maxRecDepth 100000 in
set_option maxHeartbeats 4000000 in
theorem refName_any (a : Int) (w : World) : Calls Try.prog 33 #[.int .i64 a] w fun e w' => e = .returned (.string (axName a)) ∧ Below w.heap.size w w' := by
  by_cases h : 1 ≤ a ∧ a ≤ 12
  · rcases ax_cases h.1 h.2 with rfl | rfl | rfl | rfl | rfl | rfl | rfl | rfl | rfl | rfl | rfl | rfl
    all_goals
      clear h
      go_enter Try.func33, Try.ntmps33
      go_wp2
      go_ret
      exact ⟨rfl, (Below.refl _ _).alloc (Nat.le_refl _) _⟩
  · rw [axName_out h]
    by_cases h1 : a < 1
    · clear h
      go_enter Try.func33, Try.ntmps33
      go_wp2
      go_ret
      exact ⟨rfl, Below.refl _ _⟩
    · have h2 : 12 < a := by omega
      clear h
      go_enter Try.func33, Try.ntmps33
      go_wp2
      go_ret
      exact ⟨rfl, Below.refl _ _⟩

def axRev (a : Int) : Bool := a == 3 || a == 4 || a == 6 || a == 8 || a == 12
set_option maxRecDepth 100000 in
set_option maxHeartbeats 4000000 in
theorem reverse_any (a : Int) (w : World) : Calls Try.prog 34 #[.int .i64 a] w fun e w' => e = .returned (.bool (axRev a)) ∧ w = w' := by
  by_cases h : a = 3 ∨ a = 4 ∨ a = 6 ∨ a = 8 ∨ a = 12
  · rcases h with rfl | rfl | rfl | rfl | rfl
    all_goals
      go_enter Try.func34, Try.ntmps34
      go_wp2
      go_ret
      exact ⟨rfl, rfl⟩
  · have g3 : ¬ a = 3 := by omega
    have g4 : ¬ a = 4 := by omega
    have g6 : ¬ a = 6 := by omega
    have g8 : ¬ a = 8 := by omega
    have g12 : ¬ a = 12 := by omega
    clear h
    go_enter Try.func34, Try.ntmps34
    go_wp2
    go_ret
    exact ⟨by simp [axRev, *], rfl⟩

theorem str_eq {a b : ByteArray} (h : a.toList = b.toList) : a = b := by
  rw [ByteArray.toList_eq, ByteArray.toList_eq] at h
  obtain ⟨⟨l⟩⟩ := a
  obtain ⟨⟨m⟩⟩ := b
  simpa using h
theorem str_beq (a b : ByteArray) : (a.toList == b.toList) = decide (a = b) := by
  by_cases h : a = b
  · subst h; simp
  · rw [decide_eq_false h]
    simp
    exact fun h' => h (str_eq h')
/-- the first axis of a name; 0: none -/
def axOf (s : ByteArray) : Int := (((List.range 12).map (fun k => ((k + 1 : Nat) : Int))).find? (fun a => decide (axName a = s))).getD 0
theorem axOf_hit {s : ByteArray} {k : Nat} (hk : k < 12) (h1 : axName ((k + 1 : Nat) : Int) = s) (h2 : ∀ j : Nat, j < k → axName ((j + 1 : Nat) : Int) ≠ s) : axOf s = (k : Int) + 1 := by
  have : ((List.range 12).map (fun k => ((k + 1 : Nat) : Int))).find? (fun a => decide (axName a = s)) = some ((k + 1 : Nat) : Int) := by
    rw [List.find?_eq_some_iff_getElem]
    refine ⟨by simpa using h1, k, by simpa using hk, by simp, fun j hj => ?_⟩
    simpa using h2 j hj
  unfold axOf
  rw [this]
  simp
theorem axOf_none {s : ByteArray} (h : ∀ j : Nat, j < 12 → axName ((j + 1 : Nat) : Int) ≠ s) : axOf s = 0 := by
  have : ((List.range 12).map (fun k => ((k + 1 : Nat) : Int))).find? (fun a => decide (axName a = s)) = none := by
    rw [List.find?_eq_none]
    intro x hx
    simp only [List.mem_map, List.mem_range] at hx
    obtain ⟨k, hk, rfl⟩ := hx
    simpa using h k hk
  unfold axOf
  rw [this]
  rfl
set_option maxRecDepth 100000 in
set_option maxHeartbeats 4000000 in
theorem of_name_any (s : ByteArray) (w : World) : Calls Try.prog 31 #[.string s] w fun e w' => e = .returned (.int .i64 (axOf s)) ∧ w = w' := by
  go_enter Try.func31, Try.ntmps31
  go_wp2_with fail
  go_loop [3] (fun i => ∃ k : Nat, k ≤ 12 ∧ i = .int .i64 ((k : Int) + 1) ∧ ∀ j : Nat, j < k → axName ((j + 1 : Nat) : Int) ≠ s) (fun i => 13 - (intOf i).toNat)
  case atStart => exact ⟨0, by omega, rfl, fun j hj => by omega⟩
  case round =>
    obtain ⟨k, hk, rfl, hno⟩ := hrel
    have HN := Lib.hid hno
    clear hno
    by_cases hlt : k < 12
    · obtain ⟨nm, hnm⟩ : ∃ nm, axName ((k : Int) + 1) = nm := ⟨_, rfl⟩
      have HC := Lib.hid (show Calls Try.prog 32 #[.int .i64 ((k : Int) + 1)] w fun e w' => e = .returned (.string nm) ∧ w = w' from hnm ▸ name_any _ _)
      have HNM := Lib.hid hnm
      clear hnm
      have hbe := str_beq nm s
      by_cases he : nm = s
      · rw [decide_eq_true he] at hbe
        have fin := Lib.hid (axOf_hit hlt ((by push_cast; exact HNM.out : axName ((k + 1 : Nat) : Int) = nm).trans he) HN.out)
        have HE := Lib.hid he
        clear he
        go_wp2_with (go_at_call 32; refine HC.out.mono ?_; rintro e w1 ⟨rfl, rfl⟩)
        go_ret
        exact ⟨ret_i fin.out.symm, rfl⟩
      · rw [decide_eq_false he] at hbe
        have HE := Lib.hid he
        clear he
        go_wp2_with (go_at_call 32; refine HC.out.mono ?_; rintro e w1 ⟨rfl, rfl⟩)
        go_round
        case rel => exact ⟨k + 1, by omega, by go_num, fun j hj => by
          by_cases e : j = k
          · subst e; push_cast; rw [HNM.out]; exact HE.out
          · exact HN.out j (by omega)⟩
        case measure => simp [intOf]; omega
    · obtain rfl : k = 12 := by omega
      have fin := Lib.hid (axOf_none HN.out)
      go_wp2
      go_ret
      exact ⟨ret_i fin.out.symm, rfl⟩
theorem axOf_name : ∀ {j : Int}, 1 ≤ j → j ≤ 12 → axOf (axName j) = j := by
  intro j h1 h2
  rcases ax_cases h1 h2 with rfl | rfl | rfl | rfl | rfl | rfl | rfl | rfl | rfl | rfl | rfl | rfl <;> decide +kernel
theorem axOf_cases (s : ByteArray) : (axOf s = 0 ∧ ∀ j : Int, 1 ≤ j → j ≤ 12 → axName j ≠ s) ∨ (1 ≤ axOf s ∧ axOf s ≤ 12 ∧ axName (axOf s) = s) := by
  by_cases h : ∃ j : Int, 1 ≤ j ∧ j ≤ 12 ∧ axName j = s
  · obtain ⟨j, h1, h2, rfl⟩ := h
    right
    rw [axOf_name h1 h2]
    exact ⟨h1, h2, rfl⟩
  · left
    have hn : ∀ j : Int, 1 ≤ j → j ≤ 12 → axName j ≠ s := fun j h1 h2 h3 => h ⟨j, h1, h2, h3⟩
    exact ⟨axOf_none (fun j hj => hn _ (by omega) (by omega)), hn⟩
end Go.Proofs.Ytinkjhkbaadbpaa
