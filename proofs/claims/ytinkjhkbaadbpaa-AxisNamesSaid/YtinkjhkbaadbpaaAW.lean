/- The walk of AxisNames (6). -/
import Derived.Test.YtinkjhkbaadbpaaWA
namespace Go.Proofs.Ytinkjhkbaadbpaa
open Go.RowKit
set_option linter.unusedVariables false

set_option maxRecDepth 100000 in
set_option maxHeartbeats 4000000 in
theorem axisNames_walk (a : Int) (s : ByteArray) (w : World) : Calls Try.prog 6 #[.int .i64 a, .string s] w fun e w' => e = .returned (.bool true) ∧ Below w.heap.size w w' := by
  obtain ⟨q, hq⟩ : ∃ q, axOf s = q := ⟨_, rfl⟩
  have hcs := axOf_cases s
  have hof := of_name_any s w
  rw [hq] at hcs hof
  have HCS := Lib.hid hcs
  have HOF := Lib.hid hof
  clear hcs hof hq
  go_enter Try.func6, Try.ntmps6
  go_upto_region 2 with (go_at_call 31; refine HOF.out.mono ?_; rintro e w1 ⟨rfl, rfl⟩)
  go_cut [36] (fun c wx => c = .bool false ∧ Below w.heap.size w wx)
  case first =>
    obtain ⟨nm, hnm⟩ : ∃ nm, axName a = nm := ⟨_, rfl⟩
    have hN := fun w => name_any a w
    have hR := fun w => refName_any a w
    have hV := fun w => reverse_any a w
    rw [hnm] at hN hR
    have HN := Lib.hid hN
    have HR := Lib.hid hR
    have hne : (nm.toList != nm.toList) = false := by simp
    have hcases : a = 3 ∨ a = 4 ∨ a = 6 ∨ a = 8 ∨ a = 12 ∨ (a ≠ 3 ∧ a ≠ 4 ∧ a ≠ 6 ∧ a ≠ 8 ∧ a ≠ 12) := by omega
    clear hN hR hnm
    rcases hcases with rfl | rfl | rfl | rfl | rfl | ⟨g3, g4, g6, g8, g12⟩
    · have HV := Lib.hid (show ∀ w, Calls Try.prog 34 #[.int .i64 3] w fun e w' => e = .returned (.bool true) ∧ w = w' from hV)
      clear hV
      go_wp2_with (first
        | (go_at_call 33; refine (HR.out _).mono ?_; rintro e w2 ⟨rfl, hb2⟩)
        | (go_at_call 34; refine (HV.out _).mono ?_; rintro e w3 ⟨rfl, rfl⟩)
        | (go_at_call 32; refine (HN.out _).mono ?_; rintro e w4 ⟨rfl, rfl⟩))
      go_meet
      exact ⟨rfl, hb2⟩
    · have HV := Lib.hid (show ∀ w, Calls Try.prog 34 #[.int .i64 4] w fun e w' => e = .returned (.bool true) ∧ w = w' from hV)
      clear hV
      go_wp2_with (first
        | (go_at_call 33; refine (HR.out _).mono ?_; rintro e w2 ⟨rfl, hb2⟩)
        | (go_at_call 34; refine (HV.out _).mono ?_; rintro e w3 ⟨rfl, rfl⟩)
        | (go_at_call 32; refine (HN.out _).mono ?_; rintro e w4 ⟨rfl, rfl⟩))
      go_meet
      exact ⟨rfl, hb2⟩
    · have HV := Lib.hid (show ∀ w, Calls Try.prog 34 #[.int .i64 6] w fun e w' => e = .returned (.bool true) ∧ w = w' from hV)
      clear hV
      go_wp2_with (first
        | (go_at_call 33; refine (HR.out _).mono ?_; rintro e w2 ⟨rfl, hb2⟩)
        | (go_at_call 34; refine (HV.out _).mono ?_; rintro e w3 ⟨rfl, rfl⟩)
        | (go_at_call 32; refine (HN.out _).mono ?_; rintro e w4 ⟨rfl, rfl⟩))
      go_meet
      exact ⟨rfl, hb2⟩
    · have HV := Lib.hid (show ∀ w, Calls Try.prog 34 #[.int .i64 8] w fun e w' => e = .returned (.bool true) ∧ w = w' from hV)
      clear hV
      go_wp2_with (first
        | (go_at_call 33; refine (HR.out _).mono ?_; rintro e w2 ⟨rfl, hb2⟩)
        | (go_at_call 34; refine (HV.out _).mono ?_; rintro e w3 ⟨rfl, rfl⟩)
        | (go_at_call 32; refine (HN.out _).mono ?_; rintro e w4 ⟨rfl, rfl⟩))
      go_meet
      exact ⟨rfl, hb2⟩
    · have HV := Lib.hid (show ∀ w, Calls Try.prog 34 #[.int .i64 12] w fun e w' => e = .returned (.bool true) ∧ w = w' from hV)
      clear hV
      go_wp2_with (first
        | (go_at_call 33; refine (HR.out _).mono ?_; rintro e w2 ⟨rfl, hb2⟩)
        | (go_at_call 34; refine (HV.out _).mono ?_; rintro e w3 ⟨rfl, rfl⟩)
        | (go_at_call 32; refine (HN.out _).mono ?_; rintro e w4 ⟨rfl, rfl⟩))
      go_meet
      exact ⟨rfl, hb2⟩
    · have hf : axRev a = false := by simp [axRev, g3, g4, g6, g8, g12]
      rw [hf] at hV
      have HV := Lib.hid hV
      clear hV hf
      go_wp2_with (first
        | (go_at_call 33; refine (HR.out _).mono ?_; rintro e w2 ⟨rfl, hb2⟩)
        | (go_at_call 34; refine (HV.out _).mono ?_; rintro e w3 ⟨rfl, rfl⟩)
        | (go_at_call 32; refine (HN.out _).mono ?_; rintro e w4 ⟨rfl, rfl⟩))
      go_meet
      exact ⟨by simp [g3, g4, g6, g8, g12], hb2⟩
  case rest =>
  obtain ⟨rfl, hbc⟩ := hcut
  obtain ⟨W1, rfl⟩ : ∃ W1, W1 = wc := ⟨_, rfl⟩
  have HBC := Lib.hid hbc
  clear hbc
  go_upto_region 4 with fail
  go_cut [44] (fun c wx => c = .bool false ∧ Below w.heap.size w wx)
  case first =>
    rcases HCS.out with ⟨rfl, -⟩ | ⟨h1, h2, h3⟩
    · go_wp2
      go_meet
      exact ⟨rfl, HBC.out⟩
    · have hne : ¬ q = 0 := by omega
      have hR := fun w => refName_any q w
      rw [h3] at hR
      have HR := Lib.hid hR
      have hss : (s.toList != s.toList) = false := by simp
      clear hR h3
      go_wp2_with (go_at_call 33; refine (HR.out _).mono ?_; rintro e w2 ⟨rfl, hb2⟩)
      go_meet
      exact ⟨rfl, HBC.out.trans (hb2.mono HBC.out.size)⟩
  case rest =>
  obtain ⟨rfl, hbc⟩ := hcut
  obtain ⟨W2, rfl⟩ : ∃ W2, W2 = wc := ⟨_, rfl⟩
  have HBD := Lib.hid hbc
  clear hbc
  go_wp2_with fail
  go_loopw [6] (fun i wr => ∃ k : Nat, k ≤ 12 ∧ i = .int .i64 ((k : Int) + 1) ∧ Below w.heap.size w wr) (fun i _ => 13 - (intOf i).toNat)
  case atStart => exact ⟨0, by omega, rfl, HBD.out⟩
  case round =>
    obtain ⟨k, hk, rfl, hbr⟩ := hrel
    have HBR := Lib.hid hbr
    clear hbr
    by_cases hlt : k < 12
    · have h1 : (1 : Int) ≤ (k : Int) + 1 := by omega
      have h2 : (k : Int) + 1 ≤ 12 := by omega
      obtain ⟨nm, hnm⟩ : ∃ nm, axName ((k : Int) + 1) = nm := ⟨_, rfl⟩
      have hR := fun w => refName_any ((k : Int) + 1) w
      have hO := fun w => of_name_any nm w
      have hon : axOf nm = (k : Int) + 1 := by rw [← hnm]; exact axOf_name h1 h2
      rw [hnm] at hR
      rw [hon] at hO
      have HR := Lib.hid hR
      have HO := Lib.hid hO
      have hkk : ((k : Int) + 1 != (k : Int) + 1) = false := by simp
      rcases HCS.out with ⟨rfl, hno⟩ | ⟨g1, g2, -⟩
      · have hne := hno ((k : Int) + 1) h1 h2
        rw [hnm] at hne
        have hbe := str_beq nm s
        rw [decide_eq_false hne] at hbe
        clear hR hO hon hnm hno hne
        go_wp2_with (first
          | (go_at_call 31; refine (HO.out _).mono ?_; rintro e w2 ⟨rfl, rfl⟩)
          | (go_at_call 33; refine (HR.out _).mono ?_; rintro e w3 ⟨rfl, hb3⟩; have HBR := Lib.hid (HBR.out.trans (hb3.mono HBR.out.size)); clear hb3))
        go_roundw
        case rel => exact ⟨k + 1, by omega, by go_num, HBR.out⟩
        case measure => simp [intOf]; omega
      · have hq0 : ¬ q = 0 := by omega
        clear hR hO hon hnm
        go_wp2_with (first
          | (go_at_call 31; refine (HO.out _).mono ?_; rintro e w2 ⟨rfl, rfl⟩)
          | (go_at_call 33; refine (HR.out _).mono ?_; rintro e w3 ⟨rfl, hb3⟩; have HBR := Lib.hid (HBR.out.trans (hb3.mono HBR.out.size)); clear hb3))
        go_roundw
        case rel => exact ⟨k + 1, by omega, by go_num, HBR.out⟩
        case measure => simp [intOf]; omega
    · have h2 : ¬ (k : Int) + 1 ≤ 12 := by omega
      go_wp2_with (go_at_call 19; refine (aworks_any _).mono ?_; rintro e w5 ⟨rfl, hb5⟩)
      go_ret
      exact ⟨rfl, HBR.out.trans (hb5.mono HBR.out.size)⟩
end Go.Proofs.Ytinkjhkbaadbpaa
