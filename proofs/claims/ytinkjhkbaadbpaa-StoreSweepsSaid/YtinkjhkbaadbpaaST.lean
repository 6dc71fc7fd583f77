/- A step of both stores. -/
import Derived.Test.YtinkjhkbaadbpaaBO
namespace Go.Proofs.Ytinkjhkbaadbpaa
open Go.RowKit
set_option linter.unusedVariables false

theorem Both.chgBelow {n0 : Nat} {R D Rd : Nat → Prop} {w w' : World} {p q : Value} {S : Store} {d : Doc} (h : Both n0 R D Rd w p q S d) (hc : Chg (fun k => R k ∨ Rd k) w w') : Below n0 w w' :=
  ⟨hc.os, hc.tape, hc.output, hc.size, fun k hk => hc.block k (Nat.lt_of_lt_of_le hk h.le) (fun hr => by
    rcases hr with hr | hr
    · have := h.rn k hr; omega
    · have := (h.rdn k hr).1; omega)⟩
/-- what a step leaves -/
def StepDone (n0 : Nat) (w : World) (p q : Value) (j : Nat) (e : Ending) (w' : World) : Prop :=
  e = .returned (.bool true) ∧ Below n0 w w' ∧ ∃ R' D' Rd' S' d', Both n0 R' D' Rd' w' p q S' d' ∧ Few S' d' j

section
variable {n0 j : Nat} {R D Rd : Nat → Prop} {w : World} {p q : Value} {S : Store} {d : Doc}

set_option maxRecDepth 100000 in
set_option maxHeartbeats 4000000 in
theorem step_fresh (h : Both n0 R D Rd w p q S d) (hf : Few S d j) (hj : j + 1 ≤ 90) (id : Int) (T : Nat) (a : Option Addr) (n cap : Nat) :
    Calls Try.prog 41 #[p, q, .agg #[.int .i64 0, .int .i64 id, .int .u64 T, .slice a n cap]] w fun e w' => StepDone n0 w p q (j + 1) e w' := by
  have hb1 : ∀ o, Below w.heap.size w (w.alloc o) := fun o => (Below.refl _ _).alloc (Nat.le_refl _) _
  have HP := Lib.hid (fun o => pair_fresh (h.below (hb1 o)) hf hj)
  have HC := Lib.hid (fun o w' hc => (hb1 o).mono h.le |>.trans ((h.below (hb1 o)).chgBelow (w' := w') hc))
  clear h hf
  go_enter Try.func41, Try.ntmps41
  obtain ⟨r, P1, H1, H2⟩ := HP.out (.cells #[.int .i64 0, .int .i64 id, .int .u64 T, .slice a n cap] 74)
  have HC2 := Lib.hid (HC.out (.cells #[.int .i64 0, .int .i64 id, .int .u64 T, .slice a n cap] 74))
  have G1 := Lib.hid H1
  have G2 := Lib.hid H2
  clear H1 H2 HP HC
  go_wp2_with (first
    | (go_at_call 54; refine G1.out.mono ?_; rintro e w2 ⟨rfl, hp1⟩; have HP1 := Lib.hid hp1; clear hp1)
    | (go_at_call 88; refine (G2.out _ HP1.out).2.mono ?_; rintro e w3 ⟨rfl, hdone⟩; have HD := Lib.hid hdone; clear hdone))
  go_ret
  exact ⟨rfl, HC2.out _ HD.out.1, HD.out.2⟩

set_option maxRecDepth 100000 in
set_option maxHeartbeats 4000000 in
theorem step_install (h : Both n0 R D Rd w p q S d) (hf : Few S d j) (hj : j + 1 ≤ 90) (id : Int) (T : Nat) (a : Option Addr) (n cap : Nat) (cs : List Chn) (hv : ChnsIn (Old n0) w (.slice a n cap) cs) (hok : ∀ c ∈ cs, RecOk c.r) :
    Calls Try.prog 41 #[p, q, .agg #[.int .i64 1, .int .i64 id, .int .u64 T, .slice a n cap]] w fun e w' => StepDone n0 w p q (j + 1) e w' := by
  have hb1 : ∀ o, Below w.heap.size w (w.alloc o).drew := fun o => ((Below.refl _ _).alloc (Nat.le_refl _) _).drew
  have HP := Lib.hid (fun o => pair_install (h.below (hb1 o)) hf hj T (.slice a n cap) cs (hv.keep ((keeps_below (hb1 o)).mono (fun k hk => Nat.lt_of_lt_of_le hk h.le))) hok)
  have HC := Lib.hid (fun o w' hc => (hb1 o).mono h.le |>.trans ((h.below (hb1 o)).chgBelow (w' := w') hc))
  have hbx : ¬ (R w.heap.size ∨ Rd w.heap.size) := fun hr => by
    rcases hr with hr | hr
    · have := h.st.rlt _ hr; omega
    · have := (h.rdn _ hr).2; omega
  have hss : ∀ w' : World, Chg (fun k => R k ∨ Rd k) (w.alloc (.cells #[.int .i64 1, .int .i64 id, .int .u64 T, .slice a n cap] 74)).drew w' → (w'.cell? ⟨w.heap.size, 2, none⟩ = some (.int .u64 T) ∧ w'.cell? ⟨w.heap.size, 3, none⟩ = some (.slice a n cap)) := fun w' hc => by
    have e := (hc.block w.heap.size (by simp [World.drew]) hbx).trans (Go.heap_alloc_new w _)
    simp [World.cell?, e]
  have HSS := Lib.hid hss
  clear h hf hv hbx hss
  go_enter Try.func41, Try.ntmps41
  obtain ⟨r, P1, H1, H2⟩ := HP.out (.cells #[.int .i64 1, .int .i64 id, .int .u64 T, .slice a n cap] 74)
  have HC2 := Lib.hid (HC.out (.cells #[.int .i64 1, .int .i64 id, .int .u64 T, .slice a n cap] 74))
  have G1 := Lib.hid H1
  have G2 := Lib.hid H2
  clear H1 H2 HP HC
  go_wp2_with fail
  have hcur := Chg.refl (fun k => R k ∨ Rd k) (w.alloc (.cells #[.int .i64 1, .int .i64 id, .int .u64 T, .slice a n cap] 74)).drew
  go_region_held3 (fun w' => w'.cell? ⟨w.heap.size, 2, none⟩ = some (.int .u64 T) ∧ w'.cell? ⟨w.heap.size, 3, none⟩ = some (.slice a n cap))
    (exact HSS.out _ hcur)
    (first
      | (go_at_call 42; refine G1.out.mono ?_; rintro e w2 ⟨rfl, hp1⟩; have hcur := (G2.out _ hp1).1; have HP1 := Lib.hid hp1; clear hp1)
      | (go_at_call 43; refine (G2.out _ HP1.out).2.mono ?_; rintro e w3 ⟨rfl, hdone⟩; have hcur := hdone.1; have HD := Lib.hid hdone; clear hdone))
  all_goals
    go_wp2_with fail
    go_ret
    exact ⟨rfl, HC2.out _ HD.out.1, HD.out.2⟩

set_option maxRecDepth 100000 in
set_option maxHeartbeats 4000000 in
theorem step_sweep (h : Both n0 R D Rd w p q S d) (hf : Few S d j) (hj : j + 1 ≤ 90) (id : Int) (T : Nat) (a : Option Addr) (n cap : Nat) :
    Calls Try.prog 41 #[p, q, .agg #[.int .i64 2, .int .i64 id, .int .u64 T, .slice a n cap]] w fun e w' => StepDone n0 w p q (j + 1) e w' := by
  have hb1 : ∀ o, Below w.heap.size w (w.alloc o).drew := fun o => ((Below.refl _ _).alloc (Nat.le_refl _) _).drew
  have HP := Lib.hid (fun o => pair_sweep (h.below (hb1 o)) hf hj T)
  have HC := Lib.hid (fun o w' hc => (hb1 o).mono h.le |>.trans ((h.below (hb1 o)).chgBelow (w' := w') hc))
  have hbx : ¬ (R w.heap.size ∨ Rd w.heap.size) := fun hr => by
    rcases hr with hr | hr
    · have := h.st.rlt _ hr; omega
    · have := (h.rdn _ hr).2; omega
  have hss : ∀ w' : World, Chg (fun k => R k ∨ Rd k) (w.alloc (.cells #[.int .i64 2, .int .i64 id, .int .u64 T, .slice a n cap] 74)).drew w' → (w'.cell? ⟨w.heap.size, 2, none⟩ = some (.int .u64 T)) := fun w' hc => by
    have e := (hc.block w.heap.size (by simp [World.drew]) hbx).trans (Go.heap_alloc_new w _)
    simp [World.cell?, e]
  have HSS := Lib.hid hss
  clear h hf hbx hss
  go_enter Try.func41, Try.ntmps41
  obtain ⟨r, P1, H1, H2⟩ := HP.out (.cells #[.int .i64 2, .int .i64 id, .int .u64 T, .slice a n cap] 74)
  have HC2 := Lib.hid (HC.out (.cells #[.int .i64 2, .int .i64 id, .int .u64 T, .slice a n cap] 74))
  have G1 := Lib.hid H1
  have G2 := Lib.hid H2
  clear H1 H2 HP HC
  go_wp2_with fail
  have hcur := Chg.refl (fun k => R k ∨ Rd k) (w.alloc (.cells #[.int .i64 2, .int .i64 id, .int .u64 T, .slice a n cap] 74)).drew
  go_region_held3 (fun w' => w'.cell? ⟨w.heap.size, 2, none⟩ = some (.int .u64 T))
    (exact HSS.out _ hcur)
    (first
      | (go_at_call 52; refine G1.out.mono ?_; rintro e w2 ⟨rfl, hp1⟩; have hcur := (G2.out _ hp1).1; have HP1 := Lib.hid hp1; clear hp1)
      | (go_at_call 89; refine (G2.out _ HP1.out).2.mono ?_; rintro e w3 ⟨rfl, hdone⟩; have hcur := hdone.1; have HD := Lib.hid hdone; clear hdone))
  all_goals
    go_wp2_with fail
    go_ret
    exact ⟨rfl, HC2.out _ HD.out.1, HD.out.2⟩
end
end Go.Proofs.Ytinkjhkbaadbpaa
