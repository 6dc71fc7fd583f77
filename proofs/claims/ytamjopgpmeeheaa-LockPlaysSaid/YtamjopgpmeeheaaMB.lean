/- Contracts of mode.each, Compatible, Covers. -/
import Derived.Test.YtamjopgpmeeheaaMA
namespace Go.Proofs.Ytamjopgpmeeheaa
open Go.RowKit

theorem does_bd (m : Int) : (0 ≤ (does m).1 ∧ (does m).1 ≤ 5) ∧ (0 ≤ (does m).2.1 ∧ (does m).2.1 ≤ 5) ∧ (0 ≤ (does m).2.2 ∧ (does m).2.2 ≤ 5) := by
  unfold does
  split
  · rename_i h
    have hm : m = 1 ∨ m = 2 ∨ m = 3 ∨ m = 4 ∨ m = 5 ∨ m = 6 ∨ m = 7 := by simp [rightB] at h; omega
    rcases hm with rfl | rfl | rfl | rfl | rfl | rfl | rfl <;> decide
  · decide

theorem drew6 {W w : World} {p0 p1 p2 q0 q1 q2 : Value} {a0 a1 a2 a3 a4 a5 : Addr} (n : Nat) (c0 : W.cell? a0 = some p0) (c1 : W.cell? a1 = some p1) (c2 : W.cell? a2 = some p2)
    (c3 : W.cell? a3 = some q0) (c4 : W.cell? a4 = some q1) (c5 : W.cell? a5 = some q2) (hb : Below w.heap.size w W) :
    (W.drewN n).cell? a0 = some p0 ∧ (W.drewN n).cell? a1 = some p1 ∧ (W.drewN n).cell? a2 = some p2 ∧ (W.drewN n).cell? a3 = some q0 ∧ (W.drewN n).cell? a4 = some q1 ∧ (W.drewN n).cell? a5 = some q2 ∧
    Below w.heap.size w (W.drewN n) := ⟨c0, c1, c2, c3, c4, c5, below_drewN hb n⟩

def nclashB (x y : Int) : Bool := !clashB x y
theorem ncl_any (a b : Int) (w : World) (ha : 0 ≤ a ∧ a ≤ 5) (hb : 0 ≤ b ∧ b ≤ 5) : Calls Try.prog 62 #[.int .i64 a, .int .i64 b] w fun e w' => e = .returned (.bool (nclashB a b)) ∧ w = w' := comp1_any a b w ha hb

set_option maxHeartbeats 1600000 in
theorem each_cov_yes (a b : Int) (w : World) (ha : rightB a = true) (hb : rightB b = true) : Calls Try.prog 46 #[.int .i64 a, .int .i64 b, .func (.func 47) #[] #[]] w fun e w' => e = .returned (.bool (eachB holdsB a b)) ∧ Below w.heap.size w w' := by
  obtain ⟨d0, d1, d2⟩ := does_bd a
  obtain ⟨e0, e1, e2⟩ := does_bd b
  have hx : eachB holdsB a b = (holdsB (does a).1 (does b).1 && holdsB (does a).2.1 (does b).2.1 && holdsB (does a).2.2 (does b).2.2) := by simp [eachB, ha, hb]
  rw [hx]; clear hx
  generalize hda : does a = p at *
  generalize hdb : does b = q at *
  obtain ⟨p0, p1, p2⟩ := p
  obtain ⟨q0, q1, q2⟩ := q
  simp only at *
  have DA : Hid (does a = (p0, p1, p2)) := hda
  have DB : Hid (does b = (q0, q1, q2)) := hdb
  clear hda hdb
  go_enter Try.func46, Try.ntmps46
  go_wp2_with (go_at_call 45; refine (right_any _ _).mono ?_; rintro e w' ⟨rfl, rfl⟩)
  refine (does_any _ _).mono ?_; rw [DA.out]; rintro e w1 ⟨rfl, hb1⟩
  go_wp2_with fail
  refine (does_any _ _).mono ?_; rw [DB.out]; rintro e w2 ⟨rfl, hb2⟩
  go_wp2_with fail
  have hbB : Below w.heap.size w ((w2.alloc (Obj.cells #[Value.int IntKind.i64 p0, Value.int IntKind.i64 p1, Value.int IntKind.i64 p2] 95)).alloc (Obj.cells #[Value.int IntKind.i64 q0, Value.int IntKind.i64 q1, Value.int IntKind.i64 q2] 95)) :=
    ((hb1.trans (hb2.mono hb1.size)).alloc (Nat.le_trans hb1.size hb2.size) _).alloc (by simp; have := hb1.size; have := hb2.size; omega) _
  generalize hW : (w2.alloc (Obj.cells #[Value.int IntKind.i64 p0, Value.int IntKind.i64 p1, Value.int IntKind.i64 p2] 95)).alloc (Obj.cells #[Value.int IntKind.i64 q0, Value.int IntKind.i64 q1, Value.int IntKind.i64 q2] 95) = W at *
  have c0 : W.cell? ⟨w2.heap.size, 0, none⟩ = some (.int .i64 p0) := by subst hW; simp [go_sem]
  have c1 : W.cell? ⟨w2.heap.size, 1, none⟩ = some (.int .i64 p1) := by subst hW; simp [go_sem]
  have c2 : W.cell? ⟨w2.heap.size, 2, none⟩ = some (.int .i64 p2) := by subst hW; simp [go_sem]
  have c3 : W.cell? ⟨w2.heap.size + 1, 0, none⟩ = some (.int .i64 q0) := by subst hW; simp [go_sem]
  have c4 : W.cell? ⟨w2.heap.size + 1, 1, none⟩ = some (.int .i64 q1) := by subst hW; simp [go_sem]
  have c5 : W.cell? ⟨w2.heap.size + 1, 2, none⟩ = some (.int .i64 q2) := by subst hW; simp [go_sem]
  clear hW hb1 hb2 DA DB
  refine wp_loop_rounds 4 ?_
  rw [rounds_succ]
  by_cases f0 : holdsB p0 q0 = true
  case neg =>
    have f0 : holdsB p0 q0 = false := by simpa using f0
    go_wp2_with fail
    go_quiet ((go_at_call 47; exact Calls.quiet_of_same ((holds_any _ _ _ d0 e0).mono fun e w' h => ⟨h.1, h.2.symm⟩)))
    go_wp2_with fail
    go_ret
    exact ⟨congrArg (fun x => Ending.returned (.bool x)) (by simp [f0]), below_drewN hbB _⟩
  go_wp2_with fail
  go_quiet ((go_at_call 47; exact Calls.quiet_of_same ((holds_any _ _ _ d0 e0).mono fun e w' h => ⟨h.1, h.2.symm⟩)))
  obtain ⟨c0, c1, c2, c3, c4, c5, hbB⟩ := drew6 nq c0 c1 c2 c3 c4 c5 hbB
  generalize W.drewN nq = W at *
  go_wp2_with fail
  rw [rounds_succ]
  by_cases f1 : holdsB p1 q1 = true
  case neg =>
    have f1 : holdsB p1 q1 = false := by simpa using f1
    go_wp2_with fail
    go_quiet ((go_at_call 47; exact Calls.quiet_of_same ((holds_any _ _ _ d1 e1).mono fun e w' h => ⟨h.1, h.2.symm⟩)))
    go_wp2_with fail
    go_ret
    exact ⟨congrArg (fun x => Ending.returned (.bool x)) (by simp [f0, f1]), below_drewN hbB _⟩
  go_wp2_with fail
  go_quiet ((go_at_call 47; exact Calls.quiet_of_same ((holds_any _ _ _ d1 e1).mono fun e w' h => ⟨h.1, h.2.symm⟩)))
  obtain ⟨c0, c1, c2, c3, c4, c5, hbB⟩ := drew6 nq c0 c1 c2 c3 c4 c5 hbB
  generalize W.drewN nq = W at *
  go_wp2_with fail
  rw [rounds_succ]
  by_cases f2 : holdsB p2 q2 = true
  case neg =>
    have f2 : holdsB p2 q2 = false := by simpa using f2
    go_wp2_with fail
    go_quiet ((go_at_call 47; exact Calls.quiet_of_same ((holds_any _ _ _ d2 e2).mono fun e w' h => ⟨h.1, h.2.symm⟩)))
    go_wp2_with fail
    go_ret
    exact ⟨congrArg (fun x => Ending.returned (.bool x)) (by simp [f0, f1, f2]), below_drewN hbB _⟩
  go_wp2_with fail
  go_quiet ((go_at_call 47; exact Calls.quiet_of_same ((holds_any _ _ _ d2 e2).mono fun e w' h => ⟨h.1, h.2.symm⟩)))
  obtain ⟨c0, c1, c2, c3, c4, c5, hbB⟩ := drew6 nq c0 c1 c2 c3 c4 c5 hbB
  generalize W.drewN nq = W at *
  go_wp2_with fail
  rw [rounds_succ]
  go_wp2_with fail
  go_ret
  exact ⟨congrArg (fun x => Ending.returned (.bool x)) (by simp [f0, f1, f2]), hbB⟩

theorem each_cov_any (a b : Int) (w : World) : Calls Try.prog 46 #[.int .i64 a, .int .i64 b, .func (.func 47) #[] #[]] w fun e w' => e = .returned (.bool (eachB holdsB a b)) ∧ Below w.heap.size w w' := by
  by_cases ha : rightB a = true
  · by_cases hb : rightB b = true
    · exact each_cov_yes a b w ha hb
    · have hb : rightB b = false := by simpa using hb
      have hx : eachB holdsB a b = false := by simp [eachB, hb]
      rw [hx]; clear hx
      go_enter Try.func46, Try.ntmps46
      go_wp2_with (go_at_call 45; refine (right_any _ _).mono ?_; rintro e w' ⟨rfl, rfl⟩)
      go_ret
      exact ⟨rfl, Below.refl _ _⟩
  · have ha : rightB a = false := by simpa using ha
    have hx : eachB holdsB a b = false := by simp [eachB, ha]
    rw [hx]; clear hx
    go_enter Try.func46, Try.ntmps46
    go_wp2_with (go_at_call 45; refine (right_any _ _).mono ?_; rintro e w' ⟨rfl, rfl⟩)
    go_ret
    exact ⟨rfl, Below.refl _ _⟩

set_option maxHeartbeats 1600000 in
theorem each_ncl_yes (a b : Int) (w : World) (ha : rightB a = true) (hb : rightB b = true) : Calls Try.prog 46 #[.int .i64 a, .int .i64 b, .func (.func 62) #[] #[]] w fun e w' => e = .returned (.bool (eachB nclashB a b)) ∧ Below w.heap.size w w' := by
  obtain ⟨d0, d1, d2⟩ := does_bd a
  obtain ⟨e0, e1, e2⟩ := does_bd b
  have hx : eachB nclashB a b = (nclashB (does a).1 (does b).1 && nclashB (does a).2.1 (does b).2.1 && nclashB (does a).2.2 (does b).2.2) := by simp [eachB, ha, hb]
  rw [hx]; clear hx
  generalize hda : does a = p at *
  generalize hdb : does b = q at *
  obtain ⟨p0, p1, p2⟩ := p
  obtain ⟨q0, q1, q2⟩ := q
  simp only at *
  have DA : Hid (does a = (p0, p1, p2)) := hda
  have DB : Hid (does b = (q0, q1, q2)) := hdb
  clear hda hdb
  go_enter Try.func46, Try.ntmps46
  go_wp2_with (go_at_call 45; refine (right_any _ _).mono ?_; rintro e w' ⟨rfl, rfl⟩)
  refine (does_any _ _).mono ?_; rw [DA.out]; rintro e w1 ⟨rfl, hb1⟩
  go_wp2_with fail
  refine (does_any _ _).mono ?_; rw [DB.out]; rintro e w2 ⟨rfl, hb2⟩
  go_wp2_with fail
  have hbB : Below w.heap.size w ((w2.alloc (Obj.cells #[Value.int IntKind.i64 p0, Value.int IntKind.i64 p1, Value.int IntKind.i64 p2] 95)).alloc (Obj.cells #[Value.int IntKind.i64 q0, Value.int IntKind.i64 q1, Value.int IntKind.i64 q2] 95)) :=
    ((hb1.trans (hb2.mono hb1.size)).alloc (Nat.le_trans hb1.size hb2.size) _).alloc (by simp; have := hb1.size; have := hb2.size; omega) _
  generalize hW : (w2.alloc (Obj.cells #[Value.int IntKind.i64 p0, Value.int IntKind.i64 p1, Value.int IntKind.i64 p2] 95)).alloc (Obj.cells #[Value.int IntKind.i64 q0, Value.int IntKind.i64 q1, Value.int IntKind.i64 q2] 95) = W at *
  have c0 : W.cell? ⟨w2.heap.size, 0, none⟩ = some (.int .i64 p0) := by subst hW; simp [go_sem]
  have c1 : W.cell? ⟨w2.heap.size, 1, none⟩ = some (.int .i64 p1) := by subst hW; simp [go_sem]
  have c2 : W.cell? ⟨w2.heap.size, 2, none⟩ = some (.int .i64 p2) := by subst hW; simp [go_sem]
  have c3 : W.cell? ⟨w2.heap.size + 1, 0, none⟩ = some (.int .i64 q0) := by subst hW; simp [go_sem]
  have c4 : W.cell? ⟨w2.heap.size + 1, 1, none⟩ = some (.int .i64 q1) := by subst hW; simp [go_sem]
  have c5 : W.cell? ⟨w2.heap.size + 1, 2, none⟩ = some (.int .i64 q2) := by subst hW; simp [go_sem]
  clear hW hb1 hb2 DA DB
  refine wp_loop_rounds 4 ?_
  rw [rounds_succ]
  by_cases f0 : nclashB p0 q0 = true
  case neg =>
    have f0 : nclashB p0 q0 = false := by simpa using f0
    go_wp2_with fail
    go_quiet ((go_at_call 62; exact Calls.quiet_of_same ((ncl_any _ _ _ d0 e0).mono fun e w' h => ⟨h.1, h.2.symm⟩)))
    go_wp2_with fail
    go_ret
    exact ⟨congrArg (fun x => Ending.returned (.bool x)) (by simp [f0]), below_drewN hbB _⟩
  go_wp2_with fail
  go_quiet ((go_at_call 62; exact Calls.quiet_of_same ((ncl_any _ _ _ d0 e0).mono fun e w' h => ⟨h.1, h.2.symm⟩)))
  obtain ⟨c0, c1, c2, c3, c4, c5, hbB⟩ := drew6 nq c0 c1 c2 c3 c4 c5 hbB
  generalize W.drewN nq = W at *
  go_wp2_with fail
  rw [rounds_succ]
  by_cases f1 : nclashB p1 q1 = true
  case neg =>
    have f1 : nclashB p1 q1 = false := by simpa using f1
    go_wp2_with fail
    go_quiet ((go_at_call 62; exact Calls.quiet_of_same ((ncl_any _ _ _ d1 e1).mono fun e w' h => ⟨h.1, h.2.symm⟩)))
    go_wp2_with fail
    go_ret
    exact ⟨congrArg (fun x => Ending.returned (.bool x)) (by simp [f0, f1]), below_drewN hbB _⟩
  go_wp2_with fail
  go_quiet ((go_at_call 62; exact Calls.quiet_of_same ((ncl_any _ _ _ d1 e1).mono fun e w' h => ⟨h.1, h.2.symm⟩)))
  obtain ⟨c0, c1, c2, c3, c4, c5, hbB⟩ := drew6 nq c0 c1 c2 c3 c4 c5 hbB
  generalize W.drewN nq = W at *
  go_wp2_with fail
  rw [rounds_succ]
  by_cases f2 : nclashB p2 q2 = true
  case neg =>
    have f2 : nclashB p2 q2 = false := by simpa using f2
    go_wp2_with fail
    go_quiet ((go_at_call 62; exact Calls.quiet_of_same ((ncl_any _ _ _ d2 e2).mono fun e w' h => ⟨h.1, h.2.symm⟩)))
    go_wp2_with fail
    go_ret
    exact ⟨congrArg (fun x => Ending.returned (.bool x)) (by simp [f0, f1, f2]), below_drewN hbB _⟩
  go_wp2_with fail
  go_quiet ((go_at_call 62; exact Calls.quiet_of_same ((ncl_any _ _ _ d2 e2).mono fun e w' h => ⟨h.1, h.2.symm⟩)))
  obtain ⟨c0, c1, c2, c3, c4, c5, hbB⟩ := drew6 nq c0 c1 c2 c3 c4 c5 hbB
  generalize W.drewN nq = W at *
  go_wp2_with fail
  rw [rounds_succ]
  go_wp2_with fail
  go_ret
  exact ⟨congrArg (fun x => Ending.returned (.bool x)) (by simp [f0, f1, f2]), hbB⟩

theorem each_ncl_any (a b : Int) (w : World) : Calls Try.prog 46 #[.int .i64 a, .int .i64 b, .func (.func 62) #[] #[]] w fun e w' => e = .returned (.bool (eachB nclashB a b)) ∧ Below w.heap.size w w' := by
  by_cases ha : rightB a = true
  · by_cases hb : rightB b = true
    · exact each_ncl_yes a b w ha hb
    · have hb : rightB b = false := by simpa using hb
      have hx : eachB nclashB a b = false := by simp [eachB, hb]
      rw [hx]; clear hx
      go_enter Try.func46, Try.ntmps46
      go_wp2_with (go_at_call 45; refine (right_any _ _).mono ?_; rintro e w' ⟨rfl, rfl⟩)
      go_ret
      exact ⟨rfl, Below.refl _ _⟩
  · have ha : rightB a = false := by simpa using ha
    have hx : eachB nclashB a b = false := by simp [eachB, ha]
    rw [hx]; clear hx
    go_enter Try.func46, Try.ntmps46
    go_wp2_with (go_at_call 45; refine (right_any _ _).mono ?_; rintro e w' ⟨rfl, rfl⟩)
    go_ret
    exact ⟨rfl, Below.refl _ _⟩

theorem comp_any (a b : Int) (w : World) : Calls Try.prog 42 #[.int .i64 a, .int .i64 b] w fun e w' => e = .returned (.bool (compB a b)) ∧ Below w.heap.size w w' := by
  go_enter Try.func42, Try.ntmps42
  go_wp2_with (go_at_call 46; refine (each_ncl_any _ _ _).mono ?_; rintro e w' ⟨rfl, hb⟩)
  go_ret
  exact ⟨rfl, hb⟩

theorem cov_any (a b : Int) (w : World) : Calls Try.prog 30 #[.int .i64 a, .int .i64 b] w fun e w' => e = .returned (.bool (covB a b)) ∧ Below w.heap.size w w' := by
  go_enter Try.func30, Try.ntmps30
  go_wp2_with (go_at_call 46; refine (each_cov_any _ _ _).mono ?_; rintro e w' ⟨rfl, hb⟩)
  go_ret
  exact ⟨rfl, hb⟩
end Go.Proofs.Ytamjopgpmeeheaa

