/- ModeLaws: the plain laws of modes, and the walk of the law's text. -/
import Derived.Test.YtenllaeempeggaaF
namespace Go.Proofs.Ytenllaeempeggaa.modeLaws
open Go.ChangeShapes Go.WideShapes Go.ChangeAt Go.RowKit

theorem seven {m : Int} (h : rightB m = true) : m = 1 ∨ m = 2 ∨ m = 3 ∨ m = 4 ∨ m = 5 ∨ m = 6 ∨ m = 7 := by simp [rightB] at h; omega
theorem comp_not {a b : Int} (h : ¬ (rightB a = true ∧ rightB b = true)) : compB a b = false := by
  unfold compB eachB
  cases ha : rightB a
  · simp
  · cases hb : rightB b
    · simp
    · exact absurd ⟨ha, hb⟩ h
theorem comp_comm (a b : Int) : compB a b = compB b a := by
  by_cases h : rightB a = true ∧ rightB b = true
  · rcases seven h.1 with rfl | rfl | rfl | rfl | rfl | rfl | rfl <;> rcases seven h.2 with rfl | rfl | rfl | rfl | rfl | rfl | rfl <;> rfl
  · rw [comp_not h, comp_not (fun k => h ⟨k.2, k.1⟩)]
theorem both_comm (a b : Int) (j : Nat) : both a b j = both b a j := by simp [both, Bool.and_comm]
theorem first_comm (a b : Int) : firstB a b = firstB b a := by simp [firstB, both_comm a b]
theorem join_comm (a b : Int) : joinI a b = joinI b a := by
  unfold joinI
  by_cases h1 : a = 0 ∧ rightB b = true
  · rw [if_pos h1]
    by_cases h2 : b = 0 ∧ rightB a = true
    · have := h1.2; rw [h2.1] at this; exact absurd this (by decide)
    · rw [if_neg h2, if_pos h1]
  · rw [if_neg h1]
    by_cases h2 : b = 0 ∧ rightB a = true
    · rw [if_pos h2, if_pos h2]
    · rw [if_neg h2, if_neg h2, if_neg h1, first_comm]
theorem self_join {a : Int} (h : rightB a = true) : joinI a a = a ∧ covB a a = true := by
  rcases seven h with rfl | rfl | rfl | rfl | rfl | rfl | rfl <;> exact ⟨rfl, rfl⟩
theorem cov_join {a b : Int} (h : rightB a = true) (h' : rightB b = true) : covB (joinI a b) a = true ∧ covB (joinI a b) b = true := by
  rcases seven h with rfl | rfl | rfl | rfl | rfl | rfl | rfl <;> rcases seven h' with rfl | rfl | rfl | rfl | rfl | rfl | rfl <;> exact ⟨rfl, rfl⟩
theorem comp_join {a b c : Int} (h : rightB a = true) (h' : rightB b = true) (k : compB (joinI a b) c = true) : compB a c = true ∧ compB b c = true := by
  have hc : rightB c = true := by
    cases e : rightB c
    · rw [comp_not (fun x => by rw [e] at x; exact absurd x.2 (by decide))] at k; exact absurd k (by decide)
    · rfl
  rcases seven h with rfl | rfl | rfl | rfl | rfl | rfl | rfl <;> rcases seven h' with rfl | rfl | rfl | rfl | rfl | rfl | rfl <;> rcases seven hc with rfl | rfl | rfl | rfl | rfl | rfl | rfl <;> revert k <;> decide

theorem name_two (m : Int) (h : rightB m = true) : ∃ c d : UInt8, nameS m = ⟨#[c, d]⟩ := by
  rcases seven h with rfl | rfl | rfl | rfl | rfl | rfl | rfl <;> exact ⟨_, _, rfl⟩
theorem name_none (m : Int) (h : rightB m = false) : nameS m = ⟨#[]⟩ := by simp [nameS, h]

set_option maxHeartbeats 1600000 in
theorem walk_n (a0 a1 a2 : Int) (w : World) (ha : rightB a0 = false) :
    Calls Try.prog 4 #[.int .i64 a0, .int .i64 a1, .int .i64 a2] w fun e w' => e = .returned (.bool true) ∧ Below w.heap.size w w' := by
  have hbw := Below.refl w.heap.size w
  have HC := Lib.hid (comp_comm a1 a0)
  have HJ := Lib.hid (join_comm a1 a0)
  have HA := Lib.hid (name_none a0 ha)
  clear ha
  go_enter Try.func4, Try.ntmps4
  go_wp2_with fail
  refine (join_any _ _ _).mono ?_; rintro e w1 ⟨rfl, hn⟩; replace hbw := hbw.trans (hn.mono hbw.size); clear hn
  go_wp2_with fail
  refine (comp_any _ _ _).mono ?_; rintro e w2 ⟨rfl, hn⟩; replace hbw := hbw.trans (hn.mono hbw.size); clear hn
  go_wp2_with fail
  refine (comp_any _ _ _).mono ?_; rw [HC.out]; rintro e w3 ⟨rfl, hn⟩; replace hbw := hbw.trans (hn.mono hbw.size); clear hn
  go_wp2_with fail
  refine (join_any _ _ _).mono ?_; rw [HJ.out]; rintro e w4 ⟨rfl, hn⟩; replace hbw := hbw.trans (hn.mono hbw.size); clear hn
  go_wp2_with fail
  refine (name_any _ _).mono ?_; rw [HA.out]; rintro e w5 ⟨rfl, hn⟩; replace hbw := hbw.trans (hn.mono hbw.size); clear hn
  go_wp2_with fail
  refine (name_any _ _).mono ?_; rw [HA.out]; rintro e w6 ⟨rfl, hn⟩; replace hbw := hbw.trans (hn.mono hbw.size); clear hn
  go_wp2_with fail
  refine (works_any _).mono ?_; rintro e w30 ⟨rfl, hn⟩; replace hbw := hbw.trans (hn.mono hbw.size); clear hn
  go_wp2_with fail
  go_ret
  exact ⟨rfl, hbw⟩

set_option maxHeartbeats 1600000 in
theorem walk_yn (a0 a1 a2 : Int) (w : World) (ha : rightB a0 = true) (hb : rightB a1 = false) :
    Calls Try.prog 4 #[.int .i64 a0, .int .i64 a1, .int .i64 a2] w fun e w' => e = .returned (.bool true) ∧ Below w.heap.size w w' := by
  have hbw := Below.refl w.heap.size w
  have HC := Lib.hid (comp_comm a1 a0)
  have HJ := Lib.hid (join_comm a1 a0)
  obtain ⟨c, d, hna⟩ := name_two a0 ha
  have HA := Lib.hid hna
  obtain ⟨hj, hc⟩ := self_join ha
  have HJA := Lib.hid hj
  have HCA := Lib.hid hc
  have HB := Lib.hid (name_none a1 hb)
  clear ha hb hna hj hc
  go_enter Try.func4, Try.ntmps4
  go_wp2_with fail
  refine (join_any _ _ _).mono ?_; rintro e w1 ⟨rfl, hn⟩; replace hbw := hbw.trans (hn.mono hbw.size); clear hn
  go_wp2_with fail
  refine (comp_any _ _ _).mono ?_; rintro e w2 ⟨rfl, hn⟩; replace hbw := hbw.trans (hn.mono hbw.size); clear hn
  go_wp2_with fail
  refine (comp_any _ _ _).mono ?_; rw [HC.out]; rintro e w3 ⟨rfl, hn⟩; replace hbw := hbw.trans (hn.mono hbw.size); clear hn
  go_wp2_with fail
  refine (join_any _ _ _).mono ?_; rw [HJ.out]; rintro e w4 ⟨rfl, hn⟩; replace hbw := hbw.trans (hn.mono hbw.size); clear hn
  go_wp2_with fail
  refine (name_any _ _).mono ?_; rw [HA.out]; rintro e w5 ⟨rfl, hn⟩; replace hbw := hbw.trans (hn.mono hbw.size); clear hn
  go_wp2_with fail
  refine (join_any _ _ _).mono ?_; rw [HJA.out]; rintro e w6 ⟨rfl, hn⟩; replace hbw := hbw.trans (hn.mono hbw.size); clear hn
  go_wp2_with fail
  refine (cov_any _ _ _).mono ?_; rw [HCA.out]; rintro e w7 ⟨rfl, hn⟩; replace hbw := hbw.trans (hn.mono hbw.size); clear hn
  go_wp2_with fail
  refine (name_any _ _).mono ?_; rw [HA.out]; rintro e w8 ⟨rfl, hn⟩; replace hbw := hbw.trans (hn.mono hbw.size); clear hn
  go_wp2_with fail
  refine (name_any _ _).mono ?_; rw [HB.out]; rintro e w9 ⟨rfl, hn⟩; replace hbw := hbw.trans (hn.mono hbw.size); clear hn
  go_wp2_with fail
  refine (works_any _).mono ?_; rintro e w30 ⟨rfl, hn⟩; replace hbw := hbw.trans (hn.mono hbw.size); clear hn
  go_wp2_with fail
  go_ret
  exact ⟨rfl, hbw⟩

set_option maxHeartbeats 1600000 in
theorem walk_yyn (a0 a1 a2 : Int) (w : World) (ha : rightB a0 = true) (hb : rightB a1 = true) (hc0 : compB (joinI a0 a1) a2 = false) :
    Calls Try.prog 4 #[.int .i64 a0, .int .i64 a1, .int .i64 a2] w fun e w' => e = .returned (.bool true) ∧ Below w.heap.size w w' := by
  have hbw := Below.refl w.heap.size w
  have HC := Lib.hid (comp_comm a1 a0)
  have HJ := Lib.hid (join_comm a1 a0)
  obtain ⟨c, d, hna⟩ := name_two a0 ha
  have HA := Lib.hid hna
  obtain ⟨hj, hc⟩ := self_join ha
  have HJA := Lib.hid hj
  have HCA := Lib.hid hc
  obtain ⟨c', d', hnb⟩ := name_two a1 hb
  have HB := Lib.hid hnb
  obtain ⟨hja, hjb⟩ := cov_join ha hb
  have HA1 := Lib.hid hja
  have HB1 := Lib.hid hjb
  have H0 := Lib.hid hc0
  clear ha hb hna hj hc hnb hja hjb hc0
  go_enter Try.func4, Try.ntmps4
  go_wp2_with fail
  refine (join_any _ _ _).mono ?_; rintro e w1 ⟨rfl, hn⟩; replace hbw := hbw.trans (hn.mono hbw.size); clear hn
  go_wp2_with fail
  refine (comp_any _ _ _).mono ?_; rintro e w2 ⟨rfl, hn⟩; replace hbw := hbw.trans (hn.mono hbw.size); clear hn
  go_wp2_with fail
  refine (comp_any _ _ _).mono ?_; rw [HC.out]; rintro e w3 ⟨rfl, hn⟩; replace hbw := hbw.trans (hn.mono hbw.size); clear hn
  go_wp2_with fail
  refine (join_any _ _ _).mono ?_; rw [HJ.out]; rintro e w4 ⟨rfl, hn⟩; replace hbw := hbw.trans (hn.mono hbw.size); clear hn
  go_wp2_with fail
  refine (name_any _ _).mono ?_; rw [HA.out]; rintro e w5 ⟨rfl, hn⟩; replace hbw := hbw.trans (hn.mono hbw.size); clear hn
  go_wp2_with fail
  refine (join_any _ _ _).mono ?_; rw [HJA.out]; rintro e w6 ⟨rfl, hn⟩; replace hbw := hbw.trans (hn.mono hbw.size); clear hn
  go_wp2_with fail
  refine (cov_any _ _ _).mono ?_; rw [HCA.out]; rintro e w7 ⟨rfl, hn⟩; replace hbw := hbw.trans (hn.mono hbw.size); clear hn
  go_wp2_with fail
  refine (name_any _ _).mono ?_; rw [HA.out]; rintro e w8 ⟨rfl, hn⟩; replace hbw := hbw.trans (hn.mono hbw.size); clear hn
  go_wp2_with fail
  refine (name_any _ _).mono ?_; rw [HB.out]; rintro e w9 ⟨rfl, hn⟩; replace hbw := hbw.trans (hn.mono hbw.size); clear hn
  go_wp2_with fail
  refine (cov_any _ _ _).mono ?_; rw [HA1.out]; rintro e w10 ⟨rfl, hn⟩; replace hbw := hbw.trans (hn.mono hbw.size); clear hn
  go_wp2_with fail
  refine (cov_any _ _ _).mono ?_; rw [HB1.out]; rintro e w11 ⟨rfl, hn⟩; replace hbw := hbw.trans (hn.mono hbw.size); clear hn
  go_wp2_with fail
  refine (comp_any _ _ _).mono ?_; rw [H0.out]; rintro e w12 ⟨rfl, hn⟩; replace hbw := hbw.trans (hn.mono hbw.size); clear hn
  go_wp2_with fail
  refine (works_any _).mono ?_; rintro e w30 ⟨rfl, hn⟩; replace hbw := hbw.trans (hn.mono hbw.size); clear hn
  go_wp2_with fail
  go_ret
  exact ⟨rfl, hbw⟩

set_option maxHeartbeats 1600000 in
theorem walk_yyy (a0 a1 a2 : Int) (w : World) (ha : rightB a0 = true) (hb : rightB a1 = true) (hc0 : compB (joinI a0 a1) a2 = true) :
    Calls Try.prog 4 #[.int .i64 a0, .int .i64 a1, .int .i64 a2] w fun e w' => e = .returned (.bool true) ∧ Below w.heap.size w w' := by
  have hbw := Below.refl w.heap.size w
  have HC := Lib.hid (comp_comm a1 a0)
  have HJ := Lib.hid (join_comm a1 a0)
  obtain ⟨c, d, hna⟩ := name_two a0 ha
  have HA := Lib.hid hna
  obtain ⟨hj, hc⟩ := self_join ha
  have HJA := Lib.hid hj
  have HCA := Lib.hid hc
  obtain ⟨c', d', hnb⟩ := name_two a1 hb
  have HB := Lib.hid hnb
  obtain ⟨hja, hjb⟩ := cov_join ha hb
  have HA1 := Lib.hid hja
  have HB1 := Lib.hid hjb
  have H0 := Lib.hid hc0
  obtain ⟨hx, hy⟩ := comp_join ha hb hc0
  have HX := Lib.hid hx
  have HY := Lib.hid hy
  clear ha hb hna hj hc hnb hja hjb hc0 hx hy
  go_enter Try.func4, Try.ntmps4
  go_wp2_with fail
  refine (join_any _ _ _).mono ?_; rintro e w1 ⟨rfl, hn⟩; replace hbw := hbw.trans (hn.mono hbw.size); clear hn
  go_wp2_with fail
  refine (comp_any _ _ _).mono ?_; rintro e w2 ⟨rfl, hn⟩; replace hbw := hbw.trans (hn.mono hbw.size); clear hn
  go_wp2_with fail
  refine (comp_any _ _ _).mono ?_; rw [HC.out]; rintro e w3 ⟨rfl, hn⟩; replace hbw := hbw.trans (hn.mono hbw.size); clear hn
  go_wp2_with fail
  refine (join_any _ _ _).mono ?_; rw [HJ.out]; rintro e w4 ⟨rfl, hn⟩; replace hbw := hbw.trans (hn.mono hbw.size); clear hn
  go_wp2_with fail
  refine (name_any _ _).mono ?_; rw [HA.out]; rintro e w5 ⟨rfl, hn⟩; replace hbw := hbw.trans (hn.mono hbw.size); clear hn
  go_wp2_with fail
  refine (join_any _ _ _).mono ?_; rw [HJA.out]; rintro e w6 ⟨rfl, hn⟩; replace hbw := hbw.trans (hn.mono hbw.size); clear hn
  go_wp2_with fail
  refine (cov_any _ _ _).mono ?_; rw [HCA.out]; rintro e w7 ⟨rfl, hn⟩; replace hbw := hbw.trans (hn.mono hbw.size); clear hn
  go_wp2_with fail
  refine (name_any _ _).mono ?_; rw [HA.out]; rintro e w8 ⟨rfl, hn⟩; replace hbw := hbw.trans (hn.mono hbw.size); clear hn
  go_wp2_with fail
  refine (name_any _ _).mono ?_; rw [HB.out]; rintro e w9 ⟨rfl, hn⟩; replace hbw := hbw.trans (hn.mono hbw.size); clear hn
  go_wp2_with fail
  refine (cov_any _ _ _).mono ?_; rw [HA1.out]; rintro e w10 ⟨rfl, hn⟩; replace hbw := hbw.trans (hn.mono hbw.size); clear hn
  go_wp2_with fail
  refine (cov_any _ _ _).mono ?_; rw [HB1.out]; rintro e w11 ⟨rfl, hn⟩; replace hbw := hbw.trans (hn.mono hbw.size); clear hn
  go_wp2_with fail
  refine (comp_any _ _ _).mono ?_; rw [H0.out]; rintro e w12 ⟨rfl, hn⟩; replace hbw := hbw.trans (hn.mono hbw.size); clear hn
  go_wp2_with fail
  refine (comp_any _ _ _).mono ?_; rw [HX.out]; rintro e w13 ⟨rfl, hn⟩; replace hbw := hbw.trans (hn.mono hbw.size); clear hn
  go_wp2_with fail
  refine (comp_any _ _ _).mono ?_; rw [HY.out]; rintro e w14 ⟨rfl, hn⟩; replace hbw := hbw.trans (hn.mono hbw.size); clear hn
  go_wp2_with fail
  refine (works_any _).mono ?_; rintro e w30 ⟨rfl, hn⟩; replace hbw := hbw.trans (hn.mono hbw.size); clear hn
  go_wp2_with fail
  go_ret
  exact ⟨rfl, hbw⟩

theorem walk (a0 a1 a2 : Int) (w : World) :
    Calls Try.prog 4 #[.int .i64 a0, .int .i64 a1, .int .i64 a2] w fun e w' => e = .returned (.bool true) ∧ Below w.heap.size w w' := by
  cases ha : rightB a0
  · exact walk_n a0 a1 a2 w ha
  · cases hb : rightB a1
    · exact walk_yn a0 a1 a2 w ha hb
    · cases hc : compB (joinI a0 a1) a2
      · exact walk_yyn a0 a1 a2 w ha hb hc
      · exact walk_yyy a0 a1 a2 w ha hb hc
end Go.Proofs.Ytenllaeempeggaa.modeLaws
