/- The reference's has (18) and stands (19). -/
import Derived.Test.YtkfmgeddckcnkaaED
namespace Go.Proofs.Ytkfmgeddckcnkaa
open Go.RowKit
set_option linter.unusedVariables false

set_option maxRecDepth 100000 in
theorem has_any {F : Nat → Prop} {w : World} {v : Value} {l : List Edge} (h : EdgesIn F w v l) (x y : Int) :
    Calls Try.prog 18 #[v, iv x, iv y] w fun e w' => e = .returned (.bool (decide ((x, y) ∈ l))) ∧ w = w' := by
  obtain ⟨a, cap, rfl, hlc, hcm, hx⟩ := h
  have hl2 : l.length ≤ 9223372036854775807 := by unfold maxLen at hcm; omega
  have HX := Lib.hid hx
  clear hx hlc hcm
  go_enter Try.func18, Try.ntmps18
  go_wp2
  go_loop [7] (fun i => ∃ k : Nat, k ≤ l.length ∧ i = .int .i64 k ∧ (x, y) ∉ l.take k) (fun i => l.length - (Lib.intOf i).toNat)
  case atStart => exact ⟨0, Nat.zero_le _, rfl, by simp⟩
  case round =>
    obtain ⟨k, hk, rfl, hno⟩ := hrel
    by_cases hlt : k < l.length
    · obtain ⟨e, he⟩ : ∃ e, l[k]? = some e := ⟨_, List.getElem?_eq_getElem hlt⟩
      rcases HX.out with rfl | ⟨g, off, rfl, hgF, hc⟩
      · simp at he
      obtain ⟨c0, c1⟩ := hc k e he
      have hmem : (x, y) ∈ l.take (k + 1) ↔ (x, y) ∈ l.take k ∨ (x, y) = e := by rw [List.take_add_one, he]; simp
      have HM := Lib.hid hmem
      have HNO := Lib.hid hno
      have HE := Lib.hid (List.mem_of_getElem? he)
      obtain ⟨p, q⟩ := e
      simp only at c0 c1
      have q0 : (0 : Int) ≤ (k : Int) := by omega
      have q1 : (k : Int) < (l.length : Int) := by omega
      clear hc he hmem hno
      by_cases hp : p = x
      · by_cases hq : q = y
        · subst hp hq
          go_wp2
          go_ret
          exact ⟨ret_eq (by rw [decide_eq_true HE.out]; rfl), rfl⟩
        · have hqb : (q == y) = false := beq_false_of_ne hq
          have hpb : (p == x) = true := beq_iff_eq.2 hp
          go_wp2
          go_round
          case rel => exact ⟨k + 1, by omega, by go_num, fun h => (HM.out.1 h).elim HNO.out (fun h => hq (by cases h; rfl))⟩
          case measure => simp [Lib.intOf]; omega
      · have hpb : (p == x) = false := beq_false_of_ne hp
        go_wp2
        go_round
        case rel => exact ⟨k + 1, by omega, by go_num, fun h => (HM.out.1 h).elim HNO.out (fun h => hp (by cases h; rfl))⟩
        case measure => simp [Lib.intOf]; omega
    · obtain rfl : k = l.length := by omega
      rw [List.take_length] at hno
      have HNO := Lib.hid hno
      clear hno
      go_wp2
      go_ret
      exact ⟨ret_eq (by rw [decide_eq_false HNO.out]; rfl), rfl⟩
set_option maxRecDepth 100000 in
theorem stands_any {F : Nat → Prop} {w : World} {v : Value} {l : List Int} (h : IntsIn F w v l) (x : Int) :
    Calls Try.prog 19 #[v, iv x] w fun e w' => e = .returned (.bool (decide (x ∈ l))) ∧ w = w' := by
  obtain ⟨a, cap, rfl, hlc, hcm, hx⟩ := h
  have hl2 : l.length ≤ 9223372036854775807 := by unfold maxLen at hcm; omega
  have HX := Lib.hid hx
  clear hx hlc hcm
  go_enter Try.func19, Try.ntmps19
  go_wp2
  go_loop [5] (fun i => ∃ k : Nat, k ≤ l.length ∧ i = .int .i64 k ∧ x ∉ l.take k) (fun i => l.length - (Lib.intOf i).toNat)
  case atStart => exact ⟨0, Nat.zero_le _, rfl, by simp⟩
  case round =>
    obtain ⟨k, hk, rfl, hno⟩ := hrel
    by_cases hlt : k < l.length
    · obtain ⟨e, he⟩ : ∃ e, l[k]? = some e := ⟨_, List.getElem?_eq_getElem hlt⟩
      rcases HX.out with rfl | ⟨g, off, rfl, hgF, hc⟩
      · simp at he
      have c0 := hc k e he
      have hmem : x ∈ l.take (k + 1) ↔ x ∈ l.take k ∨ x = e := by rw [List.take_add_one, he]; simp
      have HM := Lib.hid hmem
      have HNO := Lib.hid hno
      have HE := Lib.hid (List.mem_of_getElem? he)
      have q0 : (0 : Int) ≤ (k : Int) := by omega
      have q1 : (k : Int) < (l.length : Int) := by omega
      clear hc he hmem hno
      by_cases hp : e = x
      · subst hp
        go_wp2
        go_ret
        exact ⟨ret_eq (by rw [decide_eq_true HE.out]; rfl), rfl⟩
      · have hpb : (e == x) = false := beq_false_of_ne hp
        go_wp2
        go_round
        case rel => exact ⟨k + 1, by omega, by go_num, fun h => (HM.out.1 h).elim HNO.out (fun h => hp h.symm)⟩
        case measure => simp [Lib.intOf]; omega
    · obtain rfl : k = l.length := by omega
      rw [List.take_length] at hno
      have HNO := Lib.hid hno
      clear hno
      go_wp2
      go_ret
      exact ⟨ret_eq (by rw [decide_eq_false HNO.out]; rfl), rfl⟩
end Go.Proofs.Ytkfmgeddckcnkaa
