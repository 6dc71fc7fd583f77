/- Contracts of mode.Join, mode.Name and of the document's tables. -/
import Derived.Test.YtamjopgpmeeheaaMD
import Derived.Lib.Hide
namespace Go.Proofs.Ytamjopgpmeeheaa
open Go.RowKit

def ord : Nat → Int | 0 => 2 | 1 => 1 | 2 => 3 | 3 => 4 | 4 => 5 | 5 => 6 | 6 => 7 | _ => 0
def both (a b : Int) (j : Nat) : Bool := covB (ord j) a && covB (ord j) b
/-- the first of the order that covers both; 0: there is none. -/
def firstB (a b : Int) : Int :=
  if both a b 0 then 2 else if both a b 1 then 1 else if both a b 2 then 3 else if both a b 3 then 4 else if both a b 4 then 5 else if both a b 5 then 6 else if both a b 6 then 7 else 0
def joinI (a b : Int) : Int := if a = 0 ∧ rightB b = true then b else if b = 0 ∧ rightB a = true then a else firstB a b

theorem first_end {a b : Int} (h : ∀ j, j < 7 → both a b j = false) : firstB a b = 0 := by
  simp [firstB, h 0 (by omega), h 1 (by omega), h 2 (by omega), h 3 (by omega), h 4 (by omega), h 5 (by omega), h 6 (by omega)]

theorem first_0 {a b : Int} (_h : ∀ j, j < 0 → both a b j = false) (h1 : covB 2 a = true) (h2 : covB 2 b = true) : firstB a b = 2 := by
  have e : both a b 0 = true := by simp [both, ord, h1, h2]
  simp [firstB, e]
theorem first_1 {a b : Int} (h : ∀ j, j < 1 → both a b j = false) (h1 : covB 1 a = true) (h2 : covB 1 b = true) : firstB a b = 1 := by
  have e : both a b 1 = true := by simp [both, ord, h1, h2]
  simp [firstB, e, h 0 (by omega)]
theorem first_2 {a b : Int} (h : ∀ j, j < 2 → both a b j = false) (h1 : covB 3 a = true) (h2 : covB 3 b = true) : firstB a b = 3 := by
  have e : both a b 2 = true := by simp [both, ord, h1, h2]
  simp [firstB, e, h 0 (by omega), h 1 (by omega)]
theorem first_3 {a b : Int} (h : ∀ j, j < 3 → both a b j = false) (h1 : covB 4 a = true) (h2 : covB 4 b = true) : firstB a b = 4 := by
  have e : both a b 3 = true := by simp [both, ord, h1, h2]
  simp [firstB, e, h 0 (by omega), h 1 (by omega), h 2 (by omega)]
theorem first_4 {a b : Int} (h : ∀ j, j < 4 → both a b j = false) (h1 : covB 5 a = true) (h2 : covB 5 b = true) : firstB a b = 5 := by
  have e : both a b 4 = true := by simp [both, ord, h1, h2]
  simp [firstB, e, h 0 (by omega), h 1 (by omega), h 2 (by omega), h 3 (by omega)]
theorem first_5 {a b : Int} (h : ∀ j, j < 5 → both a b j = false) (h1 : covB 6 a = true) (h2 : covB 6 b = true) : firstB a b = 6 := by
  have e : both a b 5 = true := by simp [both, ord, h1, h2]
  simp [firstB, e, h 0 (by omega), h 1 (by omega), h 2 (by omega), h 3 (by omega), h 4 (by omega)]
theorem first_6 {a b : Int} (h : ∀ j, j < 6 → both a b j = false) (h1 : covB 7 a = true) (h2 : covB 7 b = true) : firstB a b = 7 := by
  have e : both a b 6 = true := by simp [both, ord, h1, h2]
  simp [firstB, e, h 0 (by omega), h 1 (by omega), h 2 (by omega), h 3 (by omega), h 4 (by omega), h 5 (by omega)]
theorem more {a b : Int} {k : Nat} (h : ∀ j, j < k → both a b j = false) (h1 : both a b k = false) : ∀ j, j < k + 1 → both a b j = false := by
  intro j hj
  by_cases e : j = k
  · subst e; exact h1
  · exact h j (by omega)
theorem not_l {a b : Int} {k : Nat} {m : Int} (e : ord k = m) (h : covB m a = false) : both a b k = false := by simp [both, e, h]
theorem not_r {a b : Int} {k : Nat} {m : Int} (e : ord k = m) (h : covB m b = false) : both a b k = false := by simp [both, e, h]

theorem jdx0 (w : World) : (Instr.index 80 (.agg #[.int .i64 2, .int .i64 1, .int .i64 3, .int .i64 4, .int .i64 5, .int .i64 6, .int .i64 7]) (.int .i64 0)).run Try.prog w = .ok (.int .i64 2) w := by kernel_rfl
theorem jdx1 (w : World) : (Instr.index 80 (.agg #[.int .i64 2, .int .i64 1, .int .i64 3, .int .i64 4, .int .i64 5, .int .i64 6, .int .i64 7]) (.int .i64 1)).run Try.prog w = .ok (.int .i64 1) w := by kernel_rfl
theorem jdx2 (w : World) : (Instr.index 80 (.agg #[.int .i64 2, .int .i64 1, .int .i64 3, .int .i64 4, .int .i64 5, .int .i64 6, .int .i64 7]) (.int .i64 2)).run Try.prog w = .ok (.int .i64 3) w := by kernel_rfl
theorem jdx3 (w : World) : (Instr.index 80 (.agg #[.int .i64 2, .int .i64 1, .int .i64 3, .int .i64 4, .int .i64 5, .int .i64 6, .int .i64 7]) (.int .i64 3)).run Try.prog w = .ok (.int .i64 4) w := by kernel_rfl
theorem jdx4 (w : World) : (Instr.index 80 (.agg #[.int .i64 2, .int .i64 1, .int .i64 3, .int .i64 4, .int .i64 5, .int .i64 6, .int .i64 7]) (.int .i64 4)).run Try.prog w = .ok (.int .i64 5) w := by kernel_rfl
theorem jdx5 (w : World) : (Instr.index 80 (.agg #[.int .i64 2, .int .i64 1, .int .i64 3, .int .i64 4, .int .i64 5, .int .i64 6, .int .i64 7]) (.int .i64 5)).run Try.prog w = .ok (.int .i64 6) w := by kernel_rfl
theorem jdx6 (w : World) : (Instr.index 80 (.agg #[.int .i64 2, .int .i64 1, .int .i64 3, .int .i64 4, .int .i64 5, .int .i64 6, .int .i64 7]) (.int .i64 6)).run Try.prog w = .ok (.int .i64 7) w := by kernel_rfl

set_option maxHeartbeats 3200000 in
theorem join_aa (a b : Int) (w : World) (ha : (a == 0) = false) (hb : (b == 0) = false) : Calls Try.prog 31 #[.int .i64 a, .int .i64 b] w fun e w' => e = .returned (.int .i64 (firstB a b)) ∧ Below w.heap.size w w' := by
  go_enter Try.func31, Try.ntmps31
  go_wp2_with (go_at_call 45; refine (right_any _ _).mono ?_; rintro e w' ⟨rfl, rfl⟩)
  go_loopw [24] (fun i wr => ∃ k : Nat, k ≤ 7 ∧ i = .int .i64 k ∧ (∀ j, j < k → both a b j = false) ∧ Below w.heap.size w wr) (fun i _ => 7 - (intOf i).toNat)
  case atStart => exact ⟨0, by omega, rfl, fun j hj => by omega, Below.refl _ _⟩
  case round =>
    obtain ⟨k, hk, rfl, hno, hbw⟩ := hrel
    have hks : k = 0 ∨ k = 1 ∨ k = 2 ∨ k = 3 ∨ k = 4 ∨ k = 5 ∨ k = 6 ∨ k = 7 := by omega
    rcases hks with rfl | rfl | rfl | rfl | rfl | rfl | rfl | rfl
    · have HN := Lib.hid hno
      have hj := jdx0
      clear hno
      by_cases ca : covB 2 a = true
      · by_cases cb : covB 2 b = true
        · have fin := Lib.hid (first_0 HN.out ca cb)
          go_wp2_with (go_at_call 30; refine (cov_any _ _ _).mono ?_; rintro e w' ⟨rfl, hb'⟩; replace hbw := hbw.trans (hb'.mono hbw.size); clear hb')
          go_ret
          exact ⟨congrArg (fun x => Ending.returned (.int .i64 x)) fin.out.symm, by first | assumption | skip⟩
        · have cb : covB 2 b = false := by simpa using cb
          have HM := Lib.hid (more HN.out (not_r (k := 0) (a := a) rfl cb))
          go_wp2_with (go_at_call 30; refine (cov_any _ _ _).mono ?_; rintro e w' ⟨rfl, hb'⟩; replace hbw := hbw.trans (hb'.mono hbw.size); clear hb')
          go_roundw
          case rel => exact ⟨1, by omega, rfl, HM.out, by first | assumption | skip⟩
          case measure => simp [intOf]
      · have ca : covB 2 a = false := by simpa using ca
        have HM := Lib.hid (more HN.out (not_l (k := 0) (b := b) rfl ca))
        go_wp2_with (go_at_call 30; refine (cov_any _ _ _).mono ?_; rintro e w' ⟨rfl, hb'⟩; replace hbw := hbw.trans (hb'.mono hbw.size); clear hb')
        go_roundw
        case rel => exact ⟨1, by omega, rfl, HM.out, by first | assumption | skip⟩
        case measure => simp [intOf]
    · have HN := Lib.hid hno
      have hj := jdx1
      clear hno
      by_cases ca : covB 1 a = true
      · by_cases cb : covB 1 b = true
        · have fin := Lib.hid (first_1 HN.out ca cb)
          go_wp2_with (go_at_call 30; refine (cov_any _ _ _).mono ?_; rintro e w' ⟨rfl, hb'⟩; replace hbw := hbw.trans (hb'.mono hbw.size); clear hb')
          go_ret
          exact ⟨congrArg (fun x => Ending.returned (.int .i64 x)) fin.out.symm, by first | assumption | skip⟩
        · have cb : covB 1 b = false := by simpa using cb
          have HM := Lib.hid (more HN.out (not_r (k := 1) (a := a) rfl cb))
          go_wp2_with (go_at_call 30; refine (cov_any _ _ _).mono ?_; rintro e w' ⟨rfl, hb'⟩; replace hbw := hbw.trans (hb'.mono hbw.size); clear hb')
          go_roundw
          case rel => exact ⟨2, by omega, rfl, HM.out, by first | assumption | skip⟩
          case measure => simp [intOf]
      · have ca : covB 1 a = false := by simpa using ca
        have HM := Lib.hid (more HN.out (not_l (k := 1) (b := b) rfl ca))
        go_wp2_with (go_at_call 30; refine (cov_any _ _ _).mono ?_; rintro e w' ⟨rfl, hb'⟩; replace hbw := hbw.trans (hb'.mono hbw.size); clear hb')
        go_roundw
        case rel => exact ⟨2, by omega, rfl, HM.out, by first | assumption | skip⟩
        case measure => simp [intOf]
    · have HN := Lib.hid hno
      have hj := jdx2
      clear hno
      by_cases ca : covB 3 a = true
      · by_cases cb : covB 3 b = true
        · have fin := Lib.hid (first_2 HN.out ca cb)
          go_wp2_with (go_at_call 30; refine (cov_any _ _ _).mono ?_; rintro e w' ⟨rfl, hb'⟩; replace hbw := hbw.trans (hb'.mono hbw.size); clear hb')
          go_ret
          exact ⟨congrArg (fun x => Ending.returned (.int .i64 x)) fin.out.symm, by first | assumption | skip⟩
        · have cb : covB 3 b = false := by simpa using cb
          have HM := Lib.hid (more HN.out (not_r (k := 2) (a := a) rfl cb))
          go_wp2_with (go_at_call 30; refine (cov_any _ _ _).mono ?_; rintro e w' ⟨rfl, hb'⟩; replace hbw := hbw.trans (hb'.mono hbw.size); clear hb')
          go_roundw
          case rel => exact ⟨3, by omega, rfl, HM.out, by first | assumption | skip⟩
          case measure => simp [intOf]
      · have ca : covB 3 a = false := by simpa using ca
        have HM := Lib.hid (more HN.out (not_l (k := 2) (b := b) rfl ca))
        go_wp2_with (go_at_call 30; refine (cov_any _ _ _).mono ?_; rintro e w' ⟨rfl, hb'⟩; replace hbw := hbw.trans (hb'.mono hbw.size); clear hb')
        go_roundw
        case rel => exact ⟨3, by omega, rfl, HM.out, by first | assumption | skip⟩
        case measure => simp [intOf]
    · have HN := Lib.hid hno
      have hj := jdx3
      clear hno
      by_cases ca : covB 4 a = true
      · by_cases cb : covB 4 b = true
        · have fin := Lib.hid (first_3 HN.out ca cb)
          go_wp2_with (go_at_call 30; refine (cov_any _ _ _).mono ?_; rintro e w' ⟨rfl, hb'⟩; replace hbw := hbw.trans (hb'.mono hbw.size); clear hb')
          go_ret
          exact ⟨congrArg (fun x => Ending.returned (.int .i64 x)) fin.out.symm, by first | assumption | skip⟩
        · have cb : covB 4 b = false := by simpa using cb
          have HM := Lib.hid (more HN.out (not_r (k := 3) (a := a) rfl cb))
          go_wp2_with (go_at_call 30; refine (cov_any _ _ _).mono ?_; rintro e w' ⟨rfl, hb'⟩; replace hbw := hbw.trans (hb'.mono hbw.size); clear hb')
          go_roundw
          case rel => exact ⟨4, by omega, rfl, HM.out, by first | assumption | skip⟩
          case measure => simp [intOf]
      · have ca : covB 4 a = false := by simpa using ca
        have HM := Lib.hid (more HN.out (not_l (k := 3) (b := b) rfl ca))
        go_wp2_with (go_at_call 30; refine (cov_any _ _ _).mono ?_; rintro e w' ⟨rfl, hb'⟩; replace hbw := hbw.trans (hb'.mono hbw.size); clear hb')
        go_roundw
        case rel => exact ⟨4, by omega, rfl, HM.out, by first | assumption | skip⟩
        case measure => simp [intOf]
    · have HN := Lib.hid hno
      have hj := jdx4
      clear hno
      by_cases ca : covB 5 a = true
      · by_cases cb : covB 5 b = true
        · have fin := Lib.hid (first_4 HN.out ca cb)
          go_wp2_with (go_at_call 30; refine (cov_any _ _ _).mono ?_; rintro e w' ⟨rfl, hb'⟩; replace hbw := hbw.trans (hb'.mono hbw.size); clear hb')
          go_ret
          exact ⟨congrArg (fun x => Ending.returned (.int .i64 x)) fin.out.symm, by first | assumption | skip⟩
        · have cb : covB 5 b = false := by simpa using cb
          have HM := Lib.hid (more HN.out (not_r (k := 4) (a := a) rfl cb))
          go_wp2_with (go_at_call 30; refine (cov_any _ _ _).mono ?_; rintro e w' ⟨rfl, hb'⟩; replace hbw := hbw.trans (hb'.mono hbw.size); clear hb')
          go_roundw
          case rel => exact ⟨5, by omega, rfl, HM.out, by first | assumption | skip⟩
          case measure => simp [intOf]
      · have ca : covB 5 a = false := by simpa using ca
        have HM := Lib.hid (more HN.out (not_l (k := 4) (b := b) rfl ca))
        go_wp2_with (go_at_call 30; refine (cov_any _ _ _).mono ?_; rintro e w' ⟨rfl, hb'⟩; replace hbw := hbw.trans (hb'.mono hbw.size); clear hb')
        go_roundw
        case rel => exact ⟨5, by omega, rfl, HM.out, by first | assumption | skip⟩
        case measure => simp [intOf]
    · have HN := Lib.hid hno
      have hj := jdx5
      clear hno
      by_cases ca : covB 6 a = true
      · by_cases cb : covB 6 b = true
        · have fin := Lib.hid (first_5 HN.out ca cb)
          go_wp2_with (go_at_call 30; refine (cov_any _ _ _).mono ?_; rintro e w' ⟨rfl, hb'⟩; replace hbw := hbw.trans (hb'.mono hbw.size); clear hb')
          go_ret
          exact ⟨congrArg (fun x => Ending.returned (.int .i64 x)) fin.out.symm, by first | assumption | skip⟩
        · have cb : covB 6 b = false := by simpa using cb
          have HM := Lib.hid (more HN.out (not_r (k := 5) (a := a) rfl cb))
          go_wp2_with (go_at_call 30; refine (cov_any _ _ _).mono ?_; rintro e w' ⟨rfl, hb'⟩; replace hbw := hbw.trans (hb'.mono hbw.size); clear hb')
          go_roundw
          case rel => exact ⟨6, by omega, rfl, HM.out, by first | assumption | skip⟩
          case measure => simp [intOf]
      · have ca : covB 6 a = false := by simpa using ca
        have HM := Lib.hid (more HN.out (not_l (k := 5) (b := b) rfl ca))
        go_wp2_with (go_at_call 30; refine (cov_any _ _ _).mono ?_; rintro e w' ⟨rfl, hb'⟩; replace hbw := hbw.trans (hb'.mono hbw.size); clear hb')
        go_roundw
        case rel => exact ⟨6, by omega, rfl, HM.out, by first | assumption | skip⟩
        case measure => simp [intOf]
    · have HN := Lib.hid hno
      have hj := jdx6
      clear hno
      by_cases ca : covB 7 a = true
      · by_cases cb : covB 7 b = true
        · have fin := Lib.hid (first_6 HN.out ca cb)
          go_wp2_with (go_at_call 30; refine (cov_any _ _ _).mono ?_; rintro e w' ⟨rfl, hb'⟩; replace hbw := hbw.trans (hb'.mono hbw.size); clear hb')
          go_ret
          exact ⟨congrArg (fun x => Ending.returned (.int .i64 x)) fin.out.symm, by first | assumption | skip⟩
        · have cb : covB 7 b = false := by simpa using cb
          have HM := Lib.hid (more HN.out (not_r (k := 6) (a := a) rfl cb))
          go_wp2_with (go_at_call 30; refine (cov_any _ _ _).mono ?_; rintro e w' ⟨rfl, hb'⟩; replace hbw := hbw.trans (hb'.mono hbw.size); clear hb')
          go_roundw
          case rel => exact ⟨7, by omega, rfl, HM.out, by first | assumption | skip⟩
          case measure => simp [intOf]
      · have ca : covB 7 a = false := by simpa using ca
        have HM := Lib.hid (more HN.out (not_l (k := 6) (b := b) rfl ca))
        go_wp2_with (go_at_call 30; refine (cov_any _ _ _).mono ?_; rintro e w' ⟨rfl, hb'⟩; replace hbw := hbw.trans (hb'.mono hbw.size); clear hb')
        go_roundw
        case rel => exact ⟨7, by omega, rfl, HM.out, by first | assumption | skip⟩
        case measure => simp [intOf]
    · have fin := Lib.hid (first_end hno)
      clear hno
      go_wp2
      go_ret
      exact ⟨congrArg (fun x => Ending.returned (.int .i64 x)) fin.out.symm, hbw⟩

set_option maxHeartbeats 3200000 in
theorem join_0b (b : Int) (w : World) (hb : (b == 0) = false) (hr : rightB b = false) : Calls Try.prog 31 #[.int .i64 0, .int .i64 b] w fun e w' => e = .returned (.int .i64 (firstB 0 b)) ∧ Below w.heap.size w w' := by
  go_enter Try.func31, Try.ntmps31
  go_wp2_with (go_at_call 45; refine (right_any _ _).mono ?_; rintro e w' ⟨rfl, rfl⟩)
  go_loopw [24] (fun i wr => ∃ k : Nat, k ≤ 7 ∧ i = .int .i64 k ∧ (∀ j, j < k → both 0 b j = false) ∧ Below w.heap.size w wr) (fun i _ => 7 - (intOf i).toNat)
  case atStart => exact ⟨0, by omega, rfl, fun j hj => by omega, Below.refl _ _⟩
  case round =>
    obtain ⟨k, hk, rfl, hno, hbw⟩ := hrel
    have hks : k = 0 ∨ k = 1 ∨ k = 2 ∨ k = 3 ∨ k = 4 ∨ k = 5 ∨ k = 6 ∨ k = 7 := by omega
    rcases hks with rfl | rfl | rfl | rfl | rfl | rfl | rfl | rfl
    · have HN := Lib.hid hno
      have hj := jdx0
      clear hno
      by_cases ca : covB 2 0 = true
      · by_cases cb : covB 2 b = true
        · have fin := Lib.hid (first_0 HN.out ca cb)
          go_wp2_with (go_at_call 30; refine (cov_any _ _ _).mono ?_; rintro e w' ⟨rfl, hb'⟩; replace hbw := hbw.trans (hb'.mono hbw.size); clear hb')
          go_ret
          exact ⟨congrArg (fun x => Ending.returned (.int .i64 x)) fin.out.symm, by first | assumption | skip⟩
        · have cb : covB 2 b = false := by simpa using cb
          have HM := Lib.hid (more HN.out (not_r (k := 0) (a := 0) rfl cb))
          go_wp2_with (go_at_call 30; refine (cov_any _ _ _).mono ?_; rintro e w' ⟨rfl, hb'⟩; replace hbw := hbw.trans (hb'.mono hbw.size); clear hb')
          go_roundw
          case rel => exact ⟨1, by omega, rfl, HM.out, by first | assumption | skip⟩
          case measure => simp [intOf]
      · have ca : covB 2 0 = false := by simpa using ca
        have HM := Lib.hid (more HN.out (not_l (k := 0) (b := b) rfl ca))
        go_wp2_with (go_at_call 30; refine (cov_any _ _ _).mono ?_; rintro e w' ⟨rfl, hb'⟩; replace hbw := hbw.trans (hb'.mono hbw.size); clear hb')
        go_roundw
        case rel => exact ⟨1, by omega, rfl, HM.out, by first | assumption | skip⟩
        case measure => simp [intOf]
    · have HN := Lib.hid hno
      have hj := jdx1
      clear hno
      by_cases ca : covB 1 0 = true
      · by_cases cb : covB 1 b = true
        · have fin := Lib.hid (first_1 HN.out ca cb)
          go_wp2_with (go_at_call 30; refine (cov_any _ _ _).mono ?_; rintro e w' ⟨rfl, hb'⟩; replace hbw := hbw.trans (hb'.mono hbw.size); clear hb')
          go_ret
          exact ⟨congrArg (fun x => Ending.returned (.int .i64 x)) fin.out.symm, by first | assumption | skip⟩
        · have cb : covB 1 b = false := by simpa using cb
          have HM := Lib.hid (more HN.out (not_r (k := 1) (a := 0) rfl cb))
          go_wp2_with (go_at_call 30; refine (cov_any _ _ _).mono ?_; rintro e w' ⟨rfl, hb'⟩; replace hbw := hbw.trans (hb'.mono hbw.size); clear hb')
          go_roundw
          case rel => exact ⟨2, by omega, rfl, HM.out, by first | assumption | skip⟩
          case measure => simp [intOf]
      · have ca : covB 1 0 = false := by simpa using ca
        have HM := Lib.hid (more HN.out (not_l (k := 1) (b := b) rfl ca))
        go_wp2_with (go_at_call 30; refine (cov_any _ _ _).mono ?_; rintro e w' ⟨rfl, hb'⟩; replace hbw := hbw.trans (hb'.mono hbw.size); clear hb')
        go_roundw
        case rel => exact ⟨2, by omega, rfl, HM.out, by first | assumption | skip⟩
        case measure => simp [intOf]
    · have HN := Lib.hid hno
      have hj := jdx2
      clear hno
      by_cases ca : covB 3 0 = true
      · by_cases cb : covB 3 b = true
        · have fin := Lib.hid (first_2 HN.out ca cb)
          go_wp2_with (go_at_call 30; refine (cov_any _ _ _).mono ?_; rintro e w' ⟨rfl, hb'⟩; replace hbw := hbw.trans (hb'.mono hbw.size); clear hb')
          go_ret
          exact ⟨congrArg (fun x => Ending.returned (.int .i64 x)) fin.out.symm, by first | assumption | skip⟩
        · have cb : covB 3 b = false := by simpa using cb
          have HM := Lib.hid (more HN.out (not_r (k := 2) (a := 0) rfl cb))
          go_wp2_with (go_at_call 30; refine (cov_any _ _ _).mono ?_; rintro e w' ⟨rfl, hb'⟩; replace hbw := hbw.trans (hb'.mono hbw.size); clear hb')
          go_roundw
          case rel => exact ⟨3, by omega, rfl, HM.out, by first | assumption | skip⟩
          case measure => simp [intOf]
      · have ca : covB 3 0 = false := by simpa using ca
        have HM := Lib.hid (more HN.out (not_l (k := 2) (b := b) rfl ca))
        go_wp2_with (go_at_call 30; refine (cov_any _ _ _).mono ?_; rintro e w' ⟨rfl, hb'⟩; replace hbw := hbw.trans (hb'.mono hbw.size); clear hb')
        go_roundw
        case rel => exact ⟨3, by omega, rfl, HM.out, by first | assumption | skip⟩
        case measure => simp [intOf]
    · have HN := Lib.hid hno
      have hj := jdx3
      clear hno
      by_cases ca : covB 4 0 = true
      · by_cases cb : covB 4 b = true
        · have fin := Lib.hid (first_3 HN.out ca cb)
          go_wp2_with (go_at_call 30; refine (cov_any _ _ _).mono ?_; rintro e w' ⟨rfl, hb'⟩; replace hbw := hbw.trans (hb'.mono hbw.size); clear hb')
          go_ret
          exact ⟨congrArg (fun x => Ending.returned (.int .i64 x)) fin.out.symm, by first | assumption | skip⟩
        · have cb : covB 4 b = false := by simpa using cb
          have HM := Lib.hid (more HN.out (not_r (k := 3) (a := 0) rfl cb))
          go_wp2_with (go_at_call 30; refine (cov_any _ _ _).mono ?_; rintro e w' ⟨rfl, hb'⟩; replace hbw := hbw.trans (hb'.mono hbw.size); clear hb')
          go_roundw
          case rel => exact ⟨4, by omega, rfl, HM.out, by first | assumption | skip⟩
          case measure => simp [intOf]
      · have ca : covB 4 0 = false := by simpa using ca
        have HM := Lib.hid (more HN.out (not_l (k := 3) (b := b) rfl ca))
        go_wp2_with (go_at_call 30; refine (cov_any _ _ _).mono ?_; rintro e w' ⟨rfl, hb'⟩; replace hbw := hbw.trans (hb'.mono hbw.size); clear hb')
        go_roundw
        case rel => exact ⟨4, by omega, rfl, HM.out, by first | assumption | skip⟩
        case measure => simp [intOf]
    · have HN := Lib.hid hno
      have hj := jdx4
      clear hno
      by_cases ca : covB 5 0 = true
      · by_cases cb : covB 5 b = true
        · have fin := Lib.hid (first_4 HN.out ca cb)
          go_wp2_with (go_at_call 30; refine (cov_any _ _ _).mono ?_; rintro e w' ⟨rfl, hb'⟩; replace hbw := hbw.trans (hb'.mono hbw.size); clear hb')
          go_ret
          exact ⟨congrArg (fun x => Ending.returned (.int .i64 x)) fin.out.symm, by first | assumption | skip⟩
        · have cb : covB 5 b = false := by simpa using cb
          have HM := Lib.hid (more HN.out (not_r (k := 4) (a := 0) rfl cb))
          go_wp2_with (go_at_call 30; refine (cov_any _ _ _).mono ?_; rintro e w' ⟨rfl, hb'⟩; replace hbw := hbw.trans (hb'.mono hbw.size); clear hb')
          go_roundw
          case rel => exact ⟨5, by omega, rfl, HM.out, by first | assumption | skip⟩
          case measure => simp [intOf]
      · have ca : covB 5 0 = false := by simpa using ca
        have HM := Lib.hid (more HN.out (not_l (k := 4) (b := b) rfl ca))
        go_wp2_with (go_at_call 30; refine (cov_any _ _ _).mono ?_; rintro e w' ⟨rfl, hb'⟩; replace hbw := hbw.trans (hb'.mono hbw.size); clear hb')
        go_roundw
        case rel => exact ⟨5, by omega, rfl, HM.out, by first | assumption | skip⟩
        case measure => simp [intOf]
    · have HN := Lib.hid hno
      have hj := jdx5
      clear hno
      by_cases ca : covB 6 0 = true
      · by_cases cb : covB 6 b = true
        · have fin := Lib.hid (first_5 HN.out ca cb)
          go_wp2_with (go_at_call 30; refine (cov_any _ _ _).mono ?_; rintro e w' ⟨rfl, hb'⟩; replace hbw := hbw.trans (hb'.mono hbw.size); clear hb')
          go_ret
          exact ⟨congrArg (fun x => Ending.returned (.int .i64 x)) fin.out.symm, by first | assumption | skip⟩
        · have cb : covB 6 b = false := by simpa using cb
          have HM := Lib.hid (more HN.out (not_r (k := 5) (a := 0) rfl cb))
          go_wp2_with (go_at_call 30; refine (cov_any _ _ _).mono ?_; rintro e w' ⟨rfl, hb'⟩; replace hbw := hbw.trans (hb'.mono hbw.size); clear hb')
          go_roundw
          case rel => exact ⟨6, by omega, rfl, HM.out, by first | assumption | skip⟩
          case measure => simp [intOf]
      · have ca : covB 6 0 = false := by simpa using ca
        have HM := Lib.hid (more HN.out (not_l (k := 5) (b := b) rfl ca))
        go_wp2_with (go_at_call 30; refine (cov_any _ _ _).mono ?_; rintro e w' ⟨rfl, hb'⟩; replace hbw := hbw.trans (hb'.mono hbw.size); clear hb')
        go_roundw
        case rel => exact ⟨6, by omega, rfl, HM.out, by first | assumption | skip⟩
        case measure => simp [intOf]
    · have HN := Lib.hid hno
      have hj := jdx6
      clear hno
      by_cases ca : covB 7 0 = true
      · by_cases cb : covB 7 b = true
        · have fin := Lib.hid (first_6 HN.out ca cb)
          go_wp2_with (go_at_call 30; refine (cov_any _ _ _).mono ?_; rintro e w' ⟨rfl, hb'⟩; replace hbw := hbw.trans (hb'.mono hbw.size); clear hb')
          go_ret
          exact ⟨congrArg (fun x => Ending.returned (.int .i64 x)) fin.out.symm, by first | assumption | skip⟩
        · have cb : covB 7 b = false := by simpa using cb
          have HM := Lib.hid (more HN.out (not_r (k := 6) (a := 0) rfl cb))
          go_wp2_with (go_at_call 30; refine (cov_any _ _ _).mono ?_; rintro e w' ⟨rfl, hb'⟩; replace hbw := hbw.trans (hb'.mono hbw.size); clear hb')
          go_roundw
          case rel => exact ⟨7, by omega, rfl, HM.out, by first | assumption | skip⟩
          case measure => simp [intOf]
      · have ca : covB 7 0 = false := by simpa using ca
        have HM := Lib.hid (more HN.out (not_l (k := 6) (b := b) rfl ca))
        go_wp2_with (go_at_call 30; refine (cov_any _ _ _).mono ?_; rintro e w' ⟨rfl, hb'⟩; replace hbw := hbw.trans (hb'.mono hbw.size); clear hb')
        go_roundw
        case rel => exact ⟨7, by omega, rfl, HM.out, by first | assumption | skip⟩
        case measure => simp [intOf]
    · have fin := Lib.hid (first_end hno)
      clear hno
      go_wp2
      go_ret
      exact ⟨congrArg (fun x => Ending.returned (.int .i64 x)) fin.out.symm, hbw⟩

set_option maxHeartbeats 3200000 in
theorem join_a0 (a : Int) (w : World) (ha : (a == 0) = false) (hr : rightB a = false) : Calls Try.prog 31 #[.int .i64 a, .int .i64 0] w fun e w' => e = .returned (.int .i64 (firstB a 0)) ∧ Below w.heap.size w w' := by
  go_enter Try.func31, Try.ntmps31
  go_wp2_with (go_at_call 45; refine (right_any _ _).mono ?_; rintro e w' ⟨rfl, rfl⟩)
  go_loopw [24] (fun i wr => ∃ k : Nat, k ≤ 7 ∧ i = .int .i64 k ∧ (∀ j, j < k → both a 0 j = false) ∧ Below w.heap.size w wr) (fun i _ => 7 - (intOf i).toNat)
  case atStart => exact ⟨0, by omega, rfl, fun j hj => by omega, Below.refl _ _⟩
  case round =>
    obtain ⟨k, hk, rfl, hno, hbw⟩ := hrel
    have hks : k = 0 ∨ k = 1 ∨ k = 2 ∨ k = 3 ∨ k = 4 ∨ k = 5 ∨ k = 6 ∨ k = 7 := by omega
    rcases hks with rfl | rfl | rfl | rfl | rfl | rfl | rfl | rfl
    · have HN := Lib.hid hno
      have hj := jdx0
      clear hno
      by_cases ca : covB 2 a = true
      · by_cases cb : covB 2 0 = true
        · have fin := Lib.hid (first_0 HN.out ca cb)
          go_wp2_with (go_at_call 30; refine (cov_any _ _ _).mono ?_; rintro e w' ⟨rfl, hb'⟩; replace hbw := hbw.trans (hb'.mono hbw.size); clear hb')
          go_ret
          exact ⟨congrArg (fun x => Ending.returned (.int .i64 x)) fin.out.symm, by first | assumption | skip⟩
        · have cb : covB 2 0 = false := by simpa using cb
          have HM := Lib.hid (more HN.out (not_r (k := 0) (a := a) rfl cb))
          go_wp2_with (go_at_call 30; refine (cov_any _ _ _).mono ?_; rintro e w' ⟨rfl, hb'⟩; replace hbw := hbw.trans (hb'.mono hbw.size); clear hb')
          go_roundw
          case rel => exact ⟨1, by omega, rfl, HM.out, by first | assumption | skip⟩
          case measure => simp [intOf]
      · have ca : covB 2 a = false := by simpa using ca
        have HM := Lib.hid (more HN.out (not_l (k := 0) (b := 0) rfl ca))
        go_wp2_with (go_at_call 30; refine (cov_any _ _ _).mono ?_; rintro e w' ⟨rfl, hb'⟩; replace hbw := hbw.trans (hb'.mono hbw.size); clear hb')
        go_roundw
        case rel => exact ⟨1, by omega, rfl, HM.out, by first | assumption | skip⟩
        case measure => simp [intOf]
    · have HN := Lib.hid hno
      have hj := jdx1
      clear hno
      by_cases ca : covB 1 a = true
      · by_cases cb : covB 1 0 = true
        · have fin := Lib.hid (first_1 HN.out ca cb)
          go_wp2_with (go_at_call 30; refine (cov_any _ _ _).mono ?_; rintro e w' ⟨rfl, hb'⟩; replace hbw := hbw.trans (hb'.mono hbw.size); clear hb')
          go_ret
          exact ⟨congrArg (fun x => Ending.returned (.int .i64 x)) fin.out.symm, by first | assumption | skip⟩
        · have cb : covB 1 0 = false := by simpa using cb
          have HM := Lib.hid (more HN.out (not_r (k := 1) (a := a) rfl cb))
          go_wp2_with (go_at_call 30; refine (cov_any _ _ _).mono ?_; rintro e w' ⟨rfl, hb'⟩; replace hbw := hbw.trans (hb'.mono hbw.size); clear hb')
          go_roundw
          case rel => exact ⟨2, by omega, rfl, HM.out, by first | assumption | skip⟩
          case measure => simp [intOf]
      · have ca : covB 1 a = false := by simpa using ca
        have HM := Lib.hid (more HN.out (not_l (k := 1) (b := 0) rfl ca))
        go_wp2_with (go_at_call 30; refine (cov_any _ _ _).mono ?_; rintro e w' ⟨rfl, hb'⟩; replace hbw := hbw.trans (hb'.mono hbw.size); clear hb')
        go_roundw
        case rel => exact ⟨2, by omega, rfl, HM.out, by first | assumption | skip⟩
        case measure => simp [intOf]
    · have HN := Lib.hid hno
      have hj := jdx2
      clear hno
      by_cases ca : covB 3 a = true
      · by_cases cb : covB 3 0 = true
        · have fin := Lib.hid (first_2 HN.out ca cb)
          go_wp2_with (go_at_call 30; refine (cov_any _ _ _).mono ?_; rintro e w' ⟨rfl, hb'⟩; replace hbw := hbw.trans (hb'.mono hbw.size); clear hb')
          go_ret
          exact ⟨congrArg (fun x => Ending.returned (.int .i64 x)) fin.out.symm, by first | assumption | skip⟩
        · have cb : covB 3 0 = false := by simpa using cb
          have HM := Lib.hid (more HN.out (not_r (k := 2) (a := a) rfl cb))
          go_wp2_with (go_at_call 30; refine (cov_any _ _ _).mono ?_; rintro e w' ⟨rfl, hb'⟩; replace hbw := hbw.trans (hb'.mono hbw.size); clear hb')
          go_roundw
          case rel => exact ⟨3, by omega, rfl, HM.out, by first | assumption | skip⟩
          case measure => simp [intOf]
      · have ca : covB 3 a = false := by simpa using ca
        have HM := Lib.hid (more HN.out (not_l (k := 2) (b := 0) rfl ca))
        go_wp2_with (go_at_call 30; refine (cov_any _ _ _).mono ?_; rintro e w' ⟨rfl, hb'⟩; replace hbw := hbw.trans (hb'.mono hbw.size); clear hb')
        go_roundw
        case rel => exact ⟨3, by omega, rfl, HM.out, by first | assumption | skip⟩
        case measure => simp [intOf]
    · have HN := Lib.hid hno
      have hj := jdx3
      clear hno
      by_cases ca : covB 4 a = true
      · by_cases cb : covB 4 0 = true
        · have fin := Lib.hid (first_3 HN.out ca cb)
          go_wp2_with (go_at_call 30; refine (cov_any _ _ _).mono ?_; rintro e w' ⟨rfl, hb'⟩; replace hbw := hbw.trans (hb'.mono hbw.size); clear hb')
          go_ret
          exact ⟨congrArg (fun x => Ending.returned (.int .i64 x)) fin.out.symm, by first | assumption | skip⟩
        · have cb : covB 4 0 = false := by simpa using cb
          have HM := Lib.hid (more HN.out (not_r (k := 3) (a := a) rfl cb))
          go_wp2_with (go_at_call 30; refine (cov_any _ _ _).mono ?_; rintro e w' ⟨rfl, hb'⟩; replace hbw := hbw.trans (hb'.mono hbw.size); clear hb')
          go_roundw
          case rel => exact ⟨4, by omega, rfl, HM.out, by first | assumption | skip⟩
          case measure => simp [intOf]
      · have ca : covB 4 a = false := by simpa using ca
        have HM := Lib.hid (more HN.out (not_l (k := 3) (b := 0) rfl ca))
        go_wp2_with (go_at_call 30; refine (cov_any _ _ _).mono ?_; rintro e w' ⟨rfl, hb'⟩; replace hbw := hbw.trans (hb'.mono hbw.size); clear hb')
        go_roundw
        case rel => exact ⟨4, by omega, rfl, HM.out, by first | assumption | skip⟩
        case measure => simp [intOf]
    · have HN := Lib.hid hno
      have hj := jdx4
      clear hno
      by_cases ca : covB 5 a = true
      · by_cases cb : covB 5 0 = true
        · have fin := Lib.hid (first_4 HN.out ca cb)
          go_wp2_with (go_at_call 30; refine (cov_any _ _ _).mono ?_; rintro e w' ⟨rfl, hb'⟩; replace hbw := hbw.trans (hb'.mono hbw.size); clear hb')
          go_ret
          exact ⟨congrArg (fun x => Ending.returned (.int .i64 x)) fin.out.symm, by first | assumption | skip⟩
        · have cb : covB 5 0 = false := by simpa using cb
          have HM := Lib.hid (more HN.out (not_r (k := 4) (a := a) rfl cb))
          go_wp2_with (go_at_call 30; refine (cov_any _ _ _).mono ?_; rintro e w' ⟨rfl, hb'⟩; replace hbw := hbw.trans (hb'.mono hbw.size); clear hb')
          go_roundw
          case rel => exact ⟨5, by omega, rfl, HM.out, by first | assumption | skip⟩
          case measure => simp [intOf]
      · have ca : covB 5 a = false := by simpa using ca
        have HM := Lib.hid (more HN.out (not_l (k := 4) (b := 0) rfl ca))
        go_wp2_with (go_at_call 30; refine (cov_any _ _ _).mono ?_; rintro e w' ⟨rfl, hb'⟩; replace hbw := hbw.trans (hb'.mono hbw.size); clear hb')
        go_roundw
        case rel => exact ⟨5, by omega, rfl, HM.out, by first | assumption | skip⟩
        case measure => simp [intOf]
    · have HN := Lib.hid hno
      have hj := jdx5
      clear hno
      by_cases ca : covB 6 a = true
      · by_cases cb : covB 6 0 = true
        · have fin := Lib.hid (first_5 HN.out ca cb)
          go_wp2_with (go_at_call 30; refine (cov_any _ _ _).mono ?_; rintro e w' ⟨rfl, hb'⟩; replace hbw := hbw.trans (hb'.mono hbw.size); clear hb')
          go_ret
          exact ⟨congrArg (fun x => Ending.returned (.int .i64 x)) fin.out.symm, by first | assumption | skip⟩
        · have cb : covB 6 0 = false := by simpa using cb
          have HM := Lib.hid (more HN.out (not_r (k := 5) (a := a) rfl cb))
          go_wp2_with (go_at_call 30; refine (cov_any _ _ _).mono ?_; rintro e w' ⟨rfl, hb'⟩; replace hbw := hbw.trans (hb'.mono hbw.size); clear hb')
          go_roundw
          case rel => exact ⟨6, by omega, rfl, HM.out, by first | assumption | skip⟩
          case measure => simp [intOf]
      · have ca : covB 6 a = false := by simpa using ca
        have HM := Lib.hid (more HN.out (not_l (k := 5) (b := 0) rfl ca))
        go_wp2_with (go_at_call 30; refine (cov_any _ _ _).mono ?_; rintro e w' ⟨rfl, hb'⟩; replace hbw := hbw.trans (hb'.mono hbw.size); clear hb')
        go_roundw
        case rel => exact ⟨6, by omega, rfl, HM.out, by first | assumption | skip⟩
        case measure => simp [intOf]
    · have HN := Lib.hid hno
      have hj := jdx6
      clear hno
      by_cases ca : covB 7 a = true
      · by_cases cb : covB 7 0 = true
        · have fin := Lib.hid (first_6 HN.out ca cb)
          go_wp2_with (go_at_call 30; refine (cov_any _ _ _).mono ?_; rintro e w' ⟨rfl, hb'⟩; replace hbw := hbw.trans (hb'.mono hbw.size); clear hb')
          go_ret
          exact ⟨congrArg (fun x => Ending.returned (.int .i64 x)) fin.out.symm, by first | assumption | skip⟩
        · have cb : covB 7 0 = false := by simpa using cb
          have HM := Lib.hid (more HN.out (not_r (k := 6) (a := a) rfl cb))
          go_wp2_with (go_at_call 30; refine (cov_any _ _ _).mono ?_; rintro e w' ⟨rfl, hb'⟩; replace hbw := hbw.trans (hb'.mono hbw.size); clear hb')
          go_roundw
          case rel => exact ⟨7, by omega, rfl, HM.out, by first | assumption | skip⟩
          case measure => simp [intOf]
      · have ca : covB 7 a = false := by simpa using ca
        have HM := Lib.hid (more HN.out (not_l (k := 6) (b := 0) rfl ca))
        go_wp2_with (go_at_call 30; refine (cov_any _ _ _).mono ?_; rintro e w' ⟨rfl, hb'⟩; replace hbw := hbw.trans (hb'.mono hbw.size); clear hb')
        go_roundw
        case rel => exact ⟨7, by omega, rfl, HM.out, by first | assumption | skip⟩
        case measure => simp [intOf]
    · have fin := Lib.hid (first_end hno)
      clear hno
      go_wp2
      go_ret
      exact ⟨congrArg (fun x => Ending.returned (.int .i64 x)) fin.out.symm, hbw⟩

set_option maxHeartbeats 3200000 in
theorem join_00 (w : World) : Calls Try.prog 31 #[.int .i64 0, .int .i64 0] w fun e w' => e = .returned (.int .i64 (firstB 0 0)) ∧ Below w.heap.size w w' := by
  have hr : rightB 0 = false := rfl
  go_enter Try.func31, Try.ntmps31
  go_wp2_with (go_at_call 45; refine (right_any _ _).mono ?_; rintro e w' ⟨rfl, rfl⟩)
  go_loopw [24] (fun i wr => ∃ k : Nat, k ≤ 7 ∧ i = .int .i64 k ∧ Below w.heap.size w wr) (fun i _ => 7 - (intOf i).toNat)
  case atStart => exact ⟨0, by omega, rfl, Below.refl _ _⟩
  case round =>
    obtain ⟨k, hk, rfl, hbw⟩ := hrel
    have hks : k = 0 ∨ k = 1 ∨ k = 2 ∨ k = 3 ∨ k = 4 ∨ k = 5 ∨ k = 6 ∨ k = 7 := by omega
    rcases hks with rfl | rfl | rfl | rfl | rfl | rfl | rfl | rfl
    · have hj := jdx0
      have ca : covB 2 0 = false := rfl
      go_wp2_with (go_at_call 30; refine (cov_any _ _ _).mono ?_; rintro e w' ⟨rfl, hb'⟩; replace hbw := hbw.trans (hb'.mono hbw.size); clear hb')
      go_roundw
      case rel => exact ⟨1, by omega, rfl, hbw⟩
      case measure => simp [intOf]
    · have hj := jdx1
      have ca : covB 1 0 = false := rfl
      go_wp2_with (go_at_call 30; refine (cov_any _ _ _).mono ?_; rintro e w' ⟨rfl, hb'⟩; replace hbw := hbw.trans (hb'.mono hbw.size); clear hb')
      go_roundw
      case rel => exact ⟨2, by omega, rfl, hbw⟩
      case measure => simp [intOf]
    · have hj := jdx2
      have ca : covB 3 0 = false := rfl
      go_wp2_with (go_at_call 30; refine (cov_any _ _ _).mono ?_; rintro e w' ⟨rfl, hb'⟩; replace hbw := hbw.trans (hb'.mono hbw.size); clear hb')
      go_roundw
      case rel => exact ⟨3, by omega, rfl, hbw⟩
      case measure => simp [intOf]
    · have hj := jdx3
      have ca : covB 4 0 = false := rfl
      go_wp2_with (go_at_call 30; refine (cov_any _ _ _).mono ?_; rintro e w' ⟨rfl, hb'⟩; replace hbw := hbw.trans (hb'.mono hbw.size); clear hb')
      go_roundw
      case rel => exact ⟨4, by omega, rfl, hbw⟩
      case measure => simp [intOf]
    · have hj := jdx4
      have ca : covB 5 0 = false := rfl
      go_wp2_with (go_at_call 30; refine (cov_any _ _ _).mono ?_; rintro e w' ⟨rfl, hb'⟩; replace hbw := hbw.trans (hb'.mono hbw.size); clear hb')
      go_roundw
      case rel => exact ⟨5, by omega, rfl, hbw⟩
      case measure => simp [intOf]
    · have hj := jdx5
      have ca : covB 6 0 = false := rfl
      go_wp2_with (go_at_call 30; refine (cov_any _ _ _).mono ?_; rintro e w' ⟨rfl, hb'⟩; replace hbw := hbw.trans (hb'.mono hbw.size); clear hb')
      go_roundw
      case rel => exact ⟨6, by omega, rfl, hbw⟩
      case measure => simp [intOf]
    · have hj := jdx6
      have ca : covB 7 0 = false := rfl
      go_wp2_with (go_at_call 30; refine (cov_any _ _ _).mono ?_; rintro e w' ⟨rfl, hb'⟩; replace hbw := hbw.trans (hb'.mono hbw.size); clear hb')
      go_roundw
      case rel => exact ⟨7, by omega, rfl, hbw⟩
      case measure => simp [intOf]
    · go_wp2
      go_ret
      exact ⟨rfl, hbw⟩


theorem join_any (a b : Int) (w : World) : Calls Try.prog 31 #[.int .i64 a, .int .i64 b] w fun e w' => e = .returned (.int .i64 (joinI a b)) ∧ Below w.heap.size w w' := by
  by_cases ha : a = 0
  · subst ha
    by_cases hb : b = 0
    · subst hb; exact join_00 w
    · by_cases hr : rightB b = true
      · have e : joinI 0 b = b := by simp [joinI, hr]
        rw [e]; clear e hb
        go_enter Try.func31, Try.ntmps31
        go_wp2_with (go_at_call 45; refine (right_any _ _).mono ?_; rintro e w' ⟨rfl, rfl⟩)
        go_ret
        exact ⟨rfl, Below.refl _ _⟩
      · have e : joinI 0 b = firstB 0 b := by simp [joinI, hr, hb]
        rw [e]; exact join_0b b w (by simpa using hb) (by simpa using hr)
  · by_cases hb : b = 0
    · subst hb
      by_cases hr : rightB a = true
      · have e : joinI a 0 = a := by simp [joinI, hr, ha]
        rw [e]; clear e
        have ha' : (a == 0) = false := by simpa using ha
        clear ha
        go_enter Try.func31, Try.ntmps31
        go_wp2_with (go_at_call 45; refine (right_any _ _).mono ?_; rintro e w' ⟨rfl, rfl⟩)
        go_ret
        exact ⟨rfl, Below.refl _ _⟩
      · have e : joinI a 0 = firstB a 0 := by simp [joinI, hr, ha]
        rw [e]; exact join_a0 a w (by simpa using ha) (by simpa using hr)
    · have e : joinI a b = firstB a b := by simp [joinI, ha, hb]
      rw [e]; exact join_aa a b w (by simpa using ha) (by simpa using hb)

end Go.Proofs.Ytamjopgpmeeheaa
