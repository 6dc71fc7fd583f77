/- ModeDoes: what modes do tells whether they go together. -/
import Derived.Test.YtenllaeempeggaaF
namespace Go.Proofs.Ytenllaeempeggaa.modeDoes
open Go.ChangeShapes Go.WideShapes Go.ChangeAt Go.RowKit


theorem name_two (m : Int) (h : rightB m = true) : ∃ c d : UInt8, nameS m = ⟨#[c, d]⟩ := by
  have hm : m = 1 ∨ m = 2 ∨ m = 3 ∨ m = 4 ∨ m = 5 ∨ m = 6 ∨ m = 7 := by simp [rightB] at h; omega
  rcases hm with rfl | rfl | rfl | rfl | rfl | rfl | rfl <;> exact ⟨_, _, rfl⟩
theorem name_none (m : Int) (h : rightB m = false) : nameS m = ⟨#[]⟩ := by simp [nameS, h]

def at3 (t : Int × Int × Int) : Nat → Int | 0 => t.1 | 1 => t.2.1 | _ => t.2.2
/-- do the first k places go together? -/
def tog (t0 : Bool) (p q : Int × Int × Int) : Nat → Bool | 0 => t0 | k + 1 => tog t0 p q k && !clashB (at3 p k) (at3 q k)
theorem tog3 (a b : Int) : tog (rightB a && rightB b) (does a) (does b) 3 = compB a b := by
  simp [tog, at3, compB, eachB, Bool.and_assoc]

/-- The cells of the two variables. -/
def Held (B : Nat) (p q : Int × Int × Int) (W : World) : Prop := ∀ k, k < 3 → W.cell? ⟨B, k, none⟩ = some (.int .i64 (at3 p k)) ∧ W.cell? ⟨B + 1, k, none⟩ = some (.int .i64 (at3 q k))
theorem held_start (w : World) (p q : Int × Int × Int) : Held w.heap.size p q ((w.alloc (.cells #[.int .i64 p.1, .int .i64 p.2.1, .int .i64 p.2.2] 27)).alloc (.cells #[.int .i64 q.1, .int .i64 q.2.1, .int .i64 q.2.2] 27)) := by
  intro k hk
  have h : k = 0 ∨ k = 1 ∨ k = 2 := by omega
  rcases h with rfl | rfl | rfl <;> simp [at3, go_sem]
theorem Held.below {B : Nat} {p q : Int × Int × Int} {W W' : World} (h : Held B p q W) (hb : Below W.heap.size W W') (hB : B + 1 < W.heap.size) : Held B p q W' :=
  fun k hk => ⟨(hb.cell (p := ⟨B, k, none⟩) (by show B < _; omega)).trans (h k hk).1, (hb.cell (p := ⟨B + 1, k, none⟩) hB).trans (h k hk).2⟩
theorem Held.drewN {B : Nat} {p q : Int × Int × Int} {W : World} (h : Held B p q W) (n : Nat) : Held B p q (W.drewN n) := h
theorem at3_bd (m : Int) (k : Nat) : 0 ≤ at3 (does m) k ∧ at3 (does m) k ≤ 5 := by
  obtain ⟨h0, h1, h2⟩ := does_bd m
  match k with
  | 0 => exact h0
  | 1 => exact h1
  | _ + 2 => exact h2


set_option maxHeartbeats 3200000 in
theorem walk_yy (a0 a1 : Int) (w : World) (ha : rightB a0 = true) (hb : rightB a1 = true) :
    Calls Try.prog 5 #[.int .i64 a0, .int .i64 a1] w fun e w' => e = .returned (.bool true) ∧ Below w.heap.size w w' := by
  have hbw := Below.refl w.heap.size w
  have hB : w.heap.size ≤ w.heap.size := Nat.le_refl _
  have hend : tog true (does a0) (does a1) 3 = compB a0 a1 := by rw [← tog3, ha, hb]; rfl
  obtain ⟨c, d, hna⟩ := name_two a0 ha
  obtain ⟨c', d', hnb⟩ := name_two a1 hb
  have ba := at3_bd a0
  have bb := at3_bd a1
  have HE := Lib.hid hend
  have HNA := Lib.hid hna
  have HNB := Lib.hid hnb
  have BA := Lib.hid ba
  have BB := Lib.hid bb
  clear hend hna hnb ba bb ha hb
  go_enter Try.func5, Try.ntmps5
  go_wp2_with fail
  refine (does_any _ _).mono ?_; rintro e w1 ⟨rfl, hn⟩; obtain ⟨hbw, hB⟩ := below_step hbw hn hB; clear hn
  go_wp2_with fail
  refine (does_any _ _).mono ?_; rintro e w2 ⟨rfl, hn⟩; obtain ⟨hbw, hB⟩ := below_step hbw hn hB; clear hn
  generalize does a0 = p at *
  generalize does a1 = q at *
  go_wp2_with fail
  have hh := held_start w2 p q
  obtain ⟨hbw, hB⟩ : Below w.heap.size w ((w2.alloc (.cells #[.int .i64 p.1, .int .i64 p.2.1, .int .i64 p.2.2] 27)).alloc (.cells #[.int .i64 q.1, .int .i64 q.2.1, .int .i64 q.2.2] 27)) ∧
      w2.heap.size + 1 < ((w2.alloc (.cells #[.int .i64 p.1, .int .i64 p.2.1, .int .i64 p.2.2] 27)).alloc (.cells #[.int .i64 q.1, .int .i64 q.2.1, .int .i64 q.2.2] 27)).heap.size :=
    ⟨(hbw.alloc hB _).alloc (by simp; omega) _, by simp⟩
  have hBB : w.heap.size ≤ w2.heap.size := by have := hbw.size; omega
  generalize (w2.alloc (.cells #[.int .i64 p.1, .int .i64 p.2.1, .int .i64 p.2.2] 27)).alloc (.cells #[.int .i64 q.1, .int .i64 q.2.1, .int .i64 q.2.2] 27) = W at *
  generalize w2.heap.size = B at *
  refine (name_any _ _).mono ?_; rw [HNA.out]; rintro e w3 ⟨rfl, hn⟩
  replace hh := hh.below hn hB
  replace hbw := hbw.trans (hn.mono (by have := hbw.size; omega))
  replace hB := Nat.lt_of_lt_of_le hB hn.size
  clear hn
  go_wp2_with fail
  refine (name_any _ _).mono ?_; rw [HNB.out]; rintro e w4 ⟨rfl, hn⟩
  replace hh := hh.below hn hB
  replace hbw := hbw.trans (hn.mono (by have := hbw.size; omega))
  replace hB := Nat.lt_of_lt_of_le hB hn.size
  clear hn
  go_wp2_with fail
  have HH := Lib.hid hh
  clear hh
  go_loopw [7, 8] (fun t i wr => ∃ k : Nat, k ≤ 3 ∧ i = .int .i64 k ∧ t = .bool (tog true p q k) ∧ Below w.heap.size w wr ∧ B + 1 < wr.heap.size ∧ Hid (Held B p q wr)) (fun _ i _ => 3 - (intOf i).toNat)
  case atStart => exact ⟨0, by omega, rfl, rfl, hbw, hB, HH⟩
  case round =>
    clear hbw hB HH
    obtain ⟨k, hk, rfl, rfl, hbw, hB, HH⟩ := hrel
    by_cases hlt : k < 3
    · obtain ⟨c0, c1⟩ := HH.out k hlt
      have x0 := BA.out k
      have x1 := BB.out k
      have ht : tog true p q (k + 1) = (tog true p q k && !clashB (at3 p k) (at3 q k)) := rfl
      generalize at3 p k = x at *
      generalize at3 q k = y at *
      have h1 : x = 0 ∨ x = 1 ∨ x = 2 ∨ x = 3 ∨ x = 4 ∨ x = 5 := by omega
      have h2 : y = 0 ∨ y = 1 ∨ y = 2 ∨ y = 3 ∨ y = 4 ∨ y = 5 := by omega
      have HT := Lib.hid ht
      clear ht x0 x1
      have k0 : (0 : Int) ≤ (k : Int) := by omega
      have k1 : (k : Int) < 3 := by omega
      rcases h1 with rfl | rfl | rfl | rfl | rfl | rfl <;> rcases h2 with rfl | rfl | rfl | rfl | rfl | rfl
      all_goals
        go_wp2_with fail
        go_quiet (fail)
        go_wp2_with fail
        go_roundw
        case rel => exact ⟨k + 1, by omega, by go_num, congrArg Value.bool (by rw [HT.out]; simp [clashB]), below_drewN hbw _, hB, HH⟩
        case measure => simp [intOf]; omega
    · obtain rfl : k = 3 := by omega
      have he := HE.out
      rw [he]
      go_wp2_with fail
      refine (comp_any _ _ _).mono ?_; rintro e w5 ⟨rfl, hn⟩
      replace hbw := hbw.trans (hn.mono hbw.size)
      clear hn
      go_wp2_with fail
      refine (works_any _).mono ?_; rintro e w6 ⟨rfl, hn⟩
      replace hbw := hbw.trans (hn.mono hbw.size)
      go_wp2_with fail
      go_ret
      exact ⟨rfl, hbw⟩


set_option maxHeartbeats 3200000 in
theorem walk_yn (a0 a1 : Int) (w : World) (ha : rightB a0 = true) (hb : rightB a1 = false) :
    Calls Try.prog 5 #[.int .i64 a0, .int .i64 a1] w fun e w' => e = .returned (.bool true) ∧ Below w.heap.size w w' := by
  have hbw := Below.refl w.heap.size w
  have hB : w.heap.size ≤ w.heap.size := Nat.le_refl _
  have hend : tog false (does a0) (does a1) 3 = compB a0 a1 := by rw [← tog3, ha, hb]; rfl
  obtain ⟨c, d, hna⟩ := name_two a0 ha
  have hnb := name_none a1 hb
  have ba := at3_bd a0
  have bb := at3_bd a1
  have HE := Lib.hid hend
  have HNA := Lib.hid hna
  have HNB := Lib.hid hnb
  have BA := Lib.hid ba
  have BB := Lib.hid bb
  clear hend hna hnb ba bb ha hb
  go_enter Try.func5, Try.ntmps5
  go_wp2_with fail
  refine (does_any _ _).mono ?_; rintro e w1 ⟨rfl, hn⟩; obtain ⟨hbw, hB⟩ := below_step hbw hn hB; clear hn
  go_wp2_with fail
  refine (does_any _ _).mono ?_; rintro e w2 ⟨rfl, hn⟩; obtain ⟨hbw, hB⟩ := below_step hbw hn hB; clear hn
  generalize does a0 = p at *
  generalize does a1 = q at *
  go_wp2_with fail
  have hh := held_start w2 p q
  obtain ⟨hbw, hB⟩ : Below w.heap.size w ((w2.alloc (.cells #[.int .i64 p.1, .int .i64 p.2.1, .int .i64 p.2.2] 27)).alloc (.cells #[.int .i64 q.1, .int .i64 q.2.1, .int .i64 q.2.2] 27)) ∧
      w2.heap.size + 1 < ((w2.alloc (.cells #[.int .i64 p.1, .int .i64 p.2.1, .int .i64 p.2.2] 27)).alloc (.cells #[.int .i64 q.1, .int .i64 q.2.1, .int .i64 q.2.2] 27)).heap.size :=
    ⟨(hbw.alloc hB _).alloc (by simp; omega) _, by simp⟩
  have hBB : w.heap.size ≤ w2.heap.size := by have := hbw.size; omega
  generalize (w2.alloc (.cells #[.int .i64 p.1, .int .i64 p.2.1, .int .i64 p.2.2] 27)).alloc (.cells #[.int .i64 q.1, .int .i64 q.2.1, .int .i64 q.2.2] 27) = W at *
  generalize w2.heap.size = B at *
  refine (name_any _ _).mono ?_; rw [HNA.out]; rintro e w3 ⟨rfl, hn⟩
  replace hh := hh.below hn hB
  replace hbw := hbw.trans (hn.mono (by have := hbw.size; omega))
  replace hB := Nat.lt_of_lt_of_le hB hn.size
  clear hn
  go_wp2_with fail
  refine (name_any _ _).mono ?_; rw [HNB.out]; rintro e w4 ⟨rfl, hn⟩
  replace hh := hh.below hn hB
  replace hbw := hbw.trans (hn.mono (by have := hbw.size; omega))
  replace hB := Nat.lt_of_lt_of_le hB hn.size
  clear hn
  go_wp2_with fail
  have HH := Lib.hid hh
  clear hh
  go_loopw [7, 8] (fun t i wr => ∃ k : Nat, k ≤ 3 ∧ i = .int .i64 k ∧ t = .bool (tog false p q k) ∧ Below w.heap.size w wr ∧ B + 1 < wr.heap.size ∧ Hid (Held B p q wr)) (fun _ i _ => 3 - (intOf i).toNat)
  case atStart => exact ⟨0, by omega, rfl, rfl, hbw, hB, HH⟩
  case round =>
    clear hbw hB HH
    obtain ⟨k, hk, rfl, rfl, hbw, hB, HH⟩ := hrel
    by_cases hlt : k < 3
    · obtain ⟨c0, c1⟩ := HH.out k hlt
      have x0 := BA.out k
      have x1 := BB.out k
      have ht : tog false p q (k + 1) = (tog false p q k && !clashB (at3 p k) (at3 q k)) := rfl
      generalize at3 p k = x at *
      generalize at3 q k = y at *
      have h1 : x = 0 ∨ x = 1 ∨ x = 2 ∨ x = 3 ∨ x = 4 ∨ x = 5 := by omega
      have h2 : y = 0 ∨ y = 1 ∨ y = 2 ∨ y = 3 ∨ y = 4 ∨ y = 5 := by omega
      have HT := Lib.hid ht
      clear ht x0 x1
      have k0 : (0 : Int) ≤ (k : Int) := by omega
      have k1 : (k : Int) < 3 := by omega
      rcases h1 with rfl | rfl | rfl | rfl | rfl | rfl <;> rcases h2 with rfl | rfl | rfl | rfl | rfl | rfl
      all_goals
        go_wp2_with fail
        go_quiet (fail)
        go_wp2_with fail
        go_roundw
        case rel => exact ⟨k + 1, by omega, by go_num, congrArg Value.bool (by rw [HT.out]; simp [clashB]), below_drewN hbw _, hB, HH⟩
        case measure => simp [intOf]; omega
    · obtain rfl : k = 3 := by omega
      have he := HE.out
      rw [he]
      go_wp2_with fail
      refine (comp_any _ _ _).mono ?_; rintro e w5 ⟨rfl, hn⟩
      replace hbw := hbw.trans (hn.mono hbw.size)
      clear hn
      go_wp2_with fail
      refine (works_any _).mono ?_; rintro e w6 ⟨rfl, hn⟩
      replace hbw := hbw.trans (hn.mono hbw.size)
      go_wp2_with fail
      go_ret
      exact ⟨rfl, hbw⟩


set_option maxHeartbeats 3200000 in
theorem walk_nx (a0 a1 : Int) (w : World) (ha : rightB a0 = false) :
    Calls Try.prog 5 #[.int .i64 a0, .int .i64 a1] w fun e w' => e = .returned (.bool true) ∧ Below w.heap.size w w' := by
  have hbw := Below.refl w.heap.size w
  have hB : w.heap.size ≤ w.heap.size := Nat.le_refl _
  have hend : tog false (does a0) (does a1) 3 = compB a0 a1 := by rw [← tog3, ha]; rfl
  have hna := name_none a0 ha
  have hnb := trivial
  have ba := at3_bd a0
  have bb := at3_bd a1
  have HE := Lib.hid hend
  have HNA := Lib.hid hna
  have HNB := Lib.hid hnb
  have BA := Lib.hid ba
  have BB := Lib.hid bb
  clear hend hna hnb ba bb ha
  go_enter Try.func5, Try.ntmps5
  go_wp2_with fail
  refine (does_any _ _).mono ?_; rintro e w1 ⟨rfl, hn⟩; obtain ⟨hbw, hB⟩ := below_step hbw hn hB; clear hn
  go_wp2_with fail
  refine (does_any _ _).mono ?_; rintro e w2 ⟨rfl, hn⟩; obtain ⟨hbw, hB⟩ := below_step hbw hn hB; clear hn
  generalize does a0 = p at *
  generalize does a1 = q at *
  go_wp2_with fail
  have hh := held_start w2 p q
  obtain ⟨hbw, hB⟩ : Below w.heap.size w ((w2.alloc (.cells #[.int .i64 p.1, .int .i64 p.2.1, .int .i64 p.2.2] 27)).alloc (.cells #[.int .i64 q.1, .int .i64 q.2.1, .int .i64 q.2.2] 27)) ∧
      w2.heap.size + 1 < ((w2.alloc (.cells #[.int .i64 p.1, .int .i64 p.2.1, .int .i64 p.2.2] 27)).alloc (.cells #[.int .i64 q.1, .int .i64 q.2.1, .int .i64 q.2.2] 27)).heap.size :=
    ⟨(hbw.alloc hB _).alloc (by simp; omega) _, by simp⟩
  have hBB : w.heap.size ≤ w2.heap.size := by have := hbw.size; omega
  generalize (w2.alloc (.cells #[.int .i64 p.1, .int .i64 p.2.1, .int .i64 p.2.2] 27)).alloc (.cells #[.int .i64 q.1, .int .i64 q.2.1, .int .i64 q.2.2] 27) = W at *
  generalize w2.heap.size = B at *
  refine (name_any _ _).mono ?_; rw [HNA.out]; rintro e w3 ⟨rfl, hn⟩
  replace hh := hh.below hn hB
  replace hbw := hbw.trans (hn.mono (by have := hbw.size; omega))
  replace hB := Nat.lt_of_lt_of_le hB hn.size
  clear hn
  go_wp2_with fail
  have HH := Lib.hid hh
  clear hh
  go_loopw [7, 8] (fun t i wr => ∃ k : Nat, k ≤ 3 ∧ i = .int .i64 k ∧ t = .bool (tog false p q k) ∧ Below w.heap.size w wr ∧ B + 1 < wr.heap.size ∧ Hid (Held B p q wr)) (fun _ i _ => 3 - (intOf i).toNat)
  case atStart => exact ⟨0, by omega, rfl, rfl, hbw, hB, HH⟩
  case round =>
    clear hbw hB HH
    obtain ⟨k, hk, rfl, rfl, hbw, hB, HH⟩ := hrel
    by_cases hlt : k < 3
    · obtain ⟨c0, c1⟩ := HH.out k hlt
      have x0 := BA.out k
      have x1 := BB.out k
      have ht : tog false p q (k + 1) = (tog false p q k && !clashB (at3 p k) (at3 q k)) := rfl
      generalize at3 p k = x at *
      generalize at3 q k = y at *
      have h1 : x = 0 ∨ x = 1 ∨ x = 2 ∨ x = 3 ∨ x = 4 ∨ x = 5 := by omega
      have h2 : y = 0 ∨ y = 1 ∨ y = 2 ∨ y = 3 ∨ y = 4 ∨ y = 5 := by omega
      have HT := Lib.hid ht
      clear ht x0 x1
      have k0 : (0 : Int) ≤ (k : Int) := by omega
      have k1 : (k : Int) < 3 := by omega
      rcases h1 with rfl | rfl | rfl | rfl | rfl | rfl <;> rcases h2 with rfl | rfl | rfl | rfl | rfl | rfl
      all_goals
        go_wp2_with fail
        go_quiet (fail)
        go_wp2_with fail
        go_roundw
        case rel => exact ⟨k + 1, by omega, by go_num, congrArg Value.bool (by rw [HT.out]; simp [clashB]), below_drewN hbw _, hB, HH⟩
        case measure => simp [intOf]; omega
    · obtain rfl : k = 3 := by omega
      have he := HE.out
      rw [he]
      go_wp2_with fail
      refine (comp_any _ _ _).mono ?_; rintro e w5 ⟨rfl, hn⟩
      replace hbw := hbw.trans (hn.mono hbw.size)
      clear hn
      go_wp2_with fail
      refine (works_any _).mono ?_; rintro e w6 ⟨rfl, hn⟩
      replace hbw := hbw.trans (hn.mono hbw.size)
      go_wp2_with fail
      go_ret
      exact ⟨rfl, hbw⟩

end Go.Proofs.Ytenllaeempeggaa.modeDoes
