/- Contract of the document's Join. -/
import Derived.Test.YtamjopgpmeeheaaMC
import Derived.Lib.Hide
namespace Go.Proofs.Ytamjopgpmeeheaa
open Go.RowKit
def OrdAt (B : Nat) (w : World) : Prop := ∀ j, j < 7 → w.cell? ⟨B, j, none⟩ = some (.int .i64 (ord j))
theorem cells_keep {B : Nat} {w w' : World} (hb : Below w.heap.size w w') (hB : B < w.heap.size) (h : OrdAt B w) : OrdAt B w' := fun j hj => (hb.cell (p := ⟨B, j, none⟩) hB).trans (h j hj)
theorem ordAt_start (w : World) : OrdAt w.heap.size (w.alloc (.cells #[.int .i64 2, .int .i64 1, .int .i64 3, .int .i64 4, .int .i64 5, .int .i64 6, .int .i64 7] 3)) := by
  intro j hj
  have h : j = 0 ∨ j = 1 ∨ j = 2 ∨ j = 3 ∨ j = 4 ∨ j = 5 ∨ j = 6 := by omega
  rcases h with rfl | rfl | rfl | rfl | rfl | rfl | rfl <;> simp [ord, go_sem]

theorem OrdAt.out0 {B : Nat} {w : World} (h : OrdAt B w) : w.cell? ⟨B, 0, none⟩ = some (.int .i64 2) := h 0 (by omega)
theorem OrdAt.out1 {B : Nat} {w : World} (h : OrdAt B w) : w.cell? ⟨B, 1, none⟩ = some (.int .i64 1) := h 1 (by omega)
theorem OrdAt.out2 {B : Nat} {w : World} (h : OrdAt B w) : w.cell? ⟨B, 2, none⟩ = some (.int .i64 3) := h 2 (by omega)
theorem OrdAt.out3 {B : Nat} {w : World} (h : OrdAt B w) : w.cell? ⟨B, 3, none⟩ = some (.int .i64 4) := h 3 (by omega)
theorem OrdAt.out4 {B : Nat} {w : World} (h : OrdAt B w) : w.cell? ⟨B, 4, none⟩ = some (.int .i64 5) := h 4 (by omega)
theorem OrdAt.out5 {B : Nat} {w : World} (h : OrdAt B w) : w.cell? ⟨B, 5, none⟩ = some (.int .i64 6) := h 5 (by omega)
theorem OrdAt.out6 {B : Nat} {w : World} (h : OrdAt B w) : w.cell? ⟨B, 6, none⟩ = some (.int .i64 7) := h 6 (by omega)
set_option maxHeartbeats 3200000 in
theorem rjoin_aa (a b : Int) (w : World) (ha : (a == 0) = false) (hb : (b == 0) = false) : Calls Try.prog 53 #[.int .i64 a, .int .i64 b] w fun e w' => e = .returned (.int .i64 (firstB a b)) ∧ Below w.heap.size w w' := by
  go_enter Try.func53, Try.ntmps53
  go_wp2_with fail
  go_loopw [6] (fun i wr => ∃ k : Nat, k ≤ 7 ∧ i = .int .i64 k ∧ (∀ j, j < k → both a b j = false) ∧ Below w.heap.size w wr ∧ w.heap.size < wr.heap.size ∧ OrdAt w.heap.size wr) (fun i _ => 7 - (intOf i).toNat)
  case atStart => exact ⟨0, by omega, rfl, fun j hj => by omega, (Below.refl _ _).alloc (Nat.le_refl _) _, by simp, ordAt_start w⟩
  case round =>
    obtain ⟨k, hk, rfl, hno, hbw, hlt, hcells⟩ := hrel
    have hks : k = 0 ∨ k = 1 ∨ k = 2 ∨ k = 3 ∨ k = 4 ∨ k = 5 ∨ k = 6 ∨ k = 7 := by omega
    rcases hks with rfl | rfl | rfl | rfl | rfl | rfl | rfl | rfl
    · have HN := Lib.hid hno
      have hck := hcells.out0
      clear hno
      by_cases ca : covB 2 a = true
      · by_cases cb : covB 2 b = true
        · have fin := Lib.hid (first_0 HN.out ca cb)
          go_wp2_with (go_at_call 52; refine (rcov_any _ _ _).mono ?_; rintro e w' ⟨rfl, hb'⟩; have hc2 := (hb'.cell (p := ⟨w.heap.size, 0, none⟩) hlt).trans hck; replace hcells := cells_keep hb' hlt hcells; replace hbw := hbw.trans (hb'.mono hbw.size); replace hlt := Nat.lt_of_lt_of_le hlt hb'.size; clear hb' hck; have hck := hc2; clear hc2)
          go_ret
          exact ⟨congrArg (fun x => Ending.returned (.int .i64 x)) fin.out.symm, hbw⟩
        · have cb : covB 2 b = false := by simpa using cb
          have HM := Lib.hid (more HN.out (not_r (k := 0) (a := a) rfl cb))
          go_wp2_with (go_at_call 52; refine (rcov_any _ _ _).mono ?_; rintro e w' ⟨rfl, hb'⟩; have hc2 := (hb'.cell (p := ⟨w.heap.size, 0, none⟩) hlt).trans hck; replace hcells := cells_keep hb' hlt hcells; replace hbw := hbw.trans (hb'.mono hbw.size); replace hlt := Nat.lt_of_lt_of_le hlt hb'.size; clear hb' hck; have hck := hc2; clear hc2)
          go_roundw
          case rel => exact ⟨1, by omega, rfl, HM.out, hbw, hlt, hcells⟩
          case measure => simp [intOf]
      · have ca : covB 2 a = false := by simpa using ca
        have HM := Lib.hid (more HN.out (not_l (k := 0) (b := b) rfl ca))
        go_wp2_with (go_at_call 52; refine (rcov_any _ _ _).mono ?_; rintro e w' ⟨rfl, hb'⟩; have hc2 := (hb'.cell (p := ⟨w.heap.size, 0, none⟩) hlt).trans hck; replace hcells := cells_keep hb' hlt hcells; replace hbw := hbw.trans (hb'.mono hbw.size); replace hlt := Nat.lt_of_lt_of_le hlt hb'.size; clear hb' hck; have hck := hc2; clear hc2)
        go_roundw
        case rel => exact ⟨1, by omega, rfl, HM.out, hbw, hlt, hcells⟩
        case measure => simp [intOf]
    · have HN := Lib.hid hno
      have hck := hcells.out1
      clear hno
      by_cases ca : covB 1 a = true
      · by_cases cb : covB 1 b = true
        · have fin := Lib.hid (first_1 HN.out ca cb)
          go_wp2_with (go_at_call 52; refine (rcov_any _ _ _).mono ?_; rintro e w' ⟨rfl, hb'⟩; have hc2 := (hb'.cell (p := ⟨w.heap.size, 1, none⟩) hlt).trans hck; replace hcells := cells_keep hb' hlt hcells; replace hbw := hbw.trans (hb'.mono hbw.size); replace hlt := Nat.lt_of_lt_of_le hlt hb'.size; clear hb' hck; have hck := hc2; clear hc2)
          go_ret
          exact ⟨congrArg (fun x => Ending.returned (.int .i64 x)) fin.out.symm, hbw⟩
        · have cb : covB 1 b = false := by simpa using cb
          have HM := Lib.hid (more HN.out (not_r (k := 1) (a := a) rfl cb))
          go_wp2_with (go_at_call 52; refine (rcov_any _ _ _).mono ?_; rintro e w' ⟨rfl, hb'⟩; have hc2 := (hb'.cell (p := ⟨w.heap.size, 1, none⟩) hlt).trans hck; replace hcells := cells_keep hb' hlt hcells; replace hbw := hbw.trans (hb'.mono hbw.size); replace hlt := Nat.lt_of_lt_of_le hlt hb'.size; clear hb' hck; have hck := hc2; clear hc2)
          go_roundw
          case rel => exact ⟨2, by omega, rfl, HM.out, hbw, hlt, hcells⟩
          case measure => simp [intOf]
      · have ca : covB 1 a = false := by simpa using ca
        have HM := Lib.hid (more HN.out (not_l (k := 1) (b := b) rfl ca))
        go_wp2_with (go_at_call 52; refine (rcov_any _ _ _).mono ?_; rintro e w' ⟨rfl, hb'⟩; have hc2 := (hb'.cell (p := ⟨w.heap.size, 1, none⟩) hlt).trans hck; replace hcells := cells_keep hb' hlt hcells; replace hbw := hbw.trans (hb'.mono hbw.size); replace hlt := Nat.lt_of_lt_of_le hlt hb'.size; clear hb' hck; have hck := hc2; clear hc2)
        go_roundw
        case rel => exact ⟨2, by omega, rfl, HM.out, hbw, hlt, hcells⟩
        case measure => simp [intOf]
    · have HN := Lib.hid hno
      have hck := hcells.out2
      clear hno
      by_cases ca : covB 3 a = true
      · by_cases cb : covB 3 b = true
        · have fin := Lib.hid (first_2 HN.out ca cb)
          go_wp2_with (go_at_call 52; refine (rcov_any _ _ _).mono ?_; rintro e w' ⟨rfl, hb'⟩; have hc2 := (hb'.cell (p := ⟨w.heap.size, 2, none⟩) hlt).trans hck; replace hcells := cells_keep hb' hlt hcells; replace hbw := hbw.trans (hb'.mono hbw.size); replace hlt := Nat.lt_of_lt_of_le hlt hb'.size; clear hb' hck; have hck := hc2; clear hc2)
          go_ret
          exact ⟨congrArg (fun x => Ending.returned (.int .i64 x)) fin.out.symm, hbw⟩
        · have cb : covB 3 b = false := by simpa using cb
          have HM := Lib.hid (more HN.out (not_r (k := 2) (a := a) rfl cb))
          go_wp2_with (go_at_call 52; refine (rcov_any _ _ _).mono ?_; rintro e w' ⟨rfl, hb'⟩; have hc2 := (hb'.cell (p := ⟨w.heap.size, 2, none⟩) hlt).trans hck; replace hcells := cells_keep hb' hlt hcells; replace hbw := hbw.trans (hb'.mono hbw.size); replace hlt := Nat.lt_of_lt_of_le hlt hb'.size; clear hb' hck; have hck := hc2; clear hc2)
          go_roundw
          case rel => exact ⟨3, by omega, rfl, HM.out, hbw, hlt, hcells⟩
          case measure => simp [intOf]
      · have ca : covB 3 a = false := by simpa using ca
        have HM := Lib.hid (more HN.out (not_l (k := 2) (b := b) rfl ca))
        go_wp2_with (go_at_call 52; refine (rcov_any _ _ _).mono ?_; rintro e w' ⟨rfl, hb'⟩; have hc2 := (hb'.cell (p := ⟨w.heap.size, 2, none⟩) hlt).trans hck; replace hcells := cells_keep hb' hlt hcells; replace hbw := hbw.trans (hb'.mono hbw.size); replace hlt := Nat.lt_of_lt_of_le hlt hb'.size; clear hb' hck; have hck := hc2; clear hc2)
        go_roundw
        case rel => exact ⟨3, by omega, rfl, HM.out, hbw, hlt, hcells⟩
        case measure => simp [intOf]
    · have HN := Lib.hid hno
      have hck := hcells.out3
      clear hno
      by_cases ca : covB 4 a = true
      · by_cases cb : covB 4 b = true
        · have fin := Lib.hid (first_3 HN.out ca cb)
          go_wp2_with (go_at_call 52; refine (rcov_any _ _ _).mono ?_; rintro e w' ⟨rfl, hb'⟩; have hc2 := (hb'.cell (p := ⟨w.heap.size, 3, none⟩) hlt).trans hck; replace hcells := cells_keep hb' hlt hcells; replace hbw := hbw.trans (hb'.mono hbw.size); replace hlt := Nat.lt_of_lt_of_le hlt hb'.size; clear hb' hck; have hck := hc2; clear hc2)
          go_ret
          exact ⟨congrArg (fun x => Ending.returned (.int .i64 x)) fin.out.symm, hbw⟩
        · have cb : covB 4 b = false := by simpa using cb
          have HM := Lib.hid (more HN.out (not_r (k := 3) (a := a) rfl cb))
          go_wp2_with (go_at_call 52; refine (rcov_any _ _ _).mono ?_; rintro e w' ⟨rfl, hb'⟩; have hc2 := (hb'.cell (p := ⟨w.heap.size, 3, none⟩) hlt).trans hck; replace hcells := cells_keep hb' hlt hcells; replace hbw := hbw.trans (hb'.mono hbw.size); replace hlt := Nat.lt_of_lt_of_le hlt hb'.size; clear hb' hck; have hck := hc2; clear hc2)
          go_roundw
          case rel => exact ⟨4, by omega, rfl, HM.out, hbw, hlt, hcells⟩
          case measure => simp [intOf]
      · have ca : covB 4 a = false := by simpa using ca
        have HM := Lib.hid (more HN.out (not_l (k := 3) (b := b) rfl ca))
        go_wp2_with (go_at_call 52; refine (rcov_any _ _ _).mono ?_; rintro e w' ⟨rfl, hb'⟩; have hc2 := (hb'.cell (p := ⟨w.heap.size, 3, none⟩) hlt).trans hck; replace hcells := cells_keep hb' hlt hcells; replace hbw := hbw.trans (hb'.mono hbw.size); replace hlt := Nat.lt_of_lt_of_le hlt hb'.size; clear hb' hck; have hck := hc2; clear hc2)
        go_roundw
        case rel => exact ⟨4, by omega, rfl, HM.out, hbw, hlt, hcells⟩
        case measure => simp [intOf]
    · have HN := Lib.hid hno
      have hck := hcells.out4
      clear hno
      by_cases ca : covB 5 a = true
      · by_cases cb : covB 5 b = true
        · have fin := Lib.hid (first_4 HN.out ca cb)
          go_wp2_with (go_at_call 52; refine (rcov_any _ _ _).mono ?_; rintro e w' ⟨rfl, hb'⟩; have hc2 := (hb'.cell (p := ⟨w.heap.size, 4, none⟩) hlt).trans hck; replace hcells := cells_keep hb' hlt hcells; replace hbw := hbw.trans (hb'.mono hbw.size); replace hlt := Nat.lt_of_lt_of_le hlt hb'.size; clear hb' hck; have hck := hc2; clear hc2)
          go_ret
          exact ⟨congrArg (fun x => Ending.returned (.int .i64 x)) fin.out.symm, hbw⟩
        · have cb : covB 5 b = false := by simpa using cb
          have HM := Lib.hid (more HN.out (not_r (k := 4) (a := a) rfl cb))
          go_wp2_with (go_at_call 52; refine (rcov_any _ _ _).mono ?_; rintro e w' ⟨rfl, hb'⟩; have hc2 := (hb'.cell (p := ⟨w.heap.size, 4, none⟩) hlt).trans hck; replace hcells := cells_keep hb' hlt hcells; replace hbw := hbw.trans (hb'.mono hbw.size); replace hlt := Nat.lt_of_lt_of_le hlt hb'.size; clear hb' hck; have hck := hc2; clear hc2)
          go_roundw
          case rel => exact ⟨5, by omega, rfl, HM.out, hbw, hlt, hcells⟩
          case measure => simp [intOf]
      · have ca : covB 5 a = false := by simpa using ca
        have HM := Lib.hid (more HN.out (not_l (k := 4) (b := b) rfl ca))
        go_wp2_with (go_at_call 52; refine (rcov_any _ _ _).mono ?_; rintro e w' ⟨rfl, hb'⟩; have hc2 := (hb'.cell (p := ⟨w.heap.size, 4, none⟩) hlt).trans hck; replace hcells := cells_keep hb' hlt hcells; replace hbw := hbw.trans (hb'.mono hbw.size); replace hlt := Nat.lt_of_lt_of_le hlt hb'.size; clear hb' hck; have hck := hc2; clear hc2)
        go_roundw
        case rel => exact ⟨5, by omega, rfl, HM.out, hbw, hlt, hcells⟩
        case measure => simp [intOf]
    · have HN := Lib.hid hno
      have hck := hcells.out5
      clear hno
      by_cases ca : covB 6 a = true
      · by_cases cb : covB 6 b = true
        · have fin := Lib.hid (first_5 HN.out ca cb)
          go_wp2_with (go_at_call 52; refine (rcov_any _ _ _).mono ?_; rintro e w' ⟨rfl, hb'⟩; have hc2 := (hb'.cell (p := ⟨w.heap.size, 5, none⟩) hlt).trans hck; replace hcells := cells_keep hb' hlt hcells; replace hbw := hbw.trans (hb'.mono hbw.size); replace hlt := Nat.lt_of_lt_of_le hlt hb'.size; clear hb' hck; have hck := hc2; clear hc2)
          go_ret
          exact ⟨congrArg (fun x => Ending.returned (.int .i64 x)) fin.out.symm, hbw⟩
        · have cb : covB 6 b = false := by simpa using cb
          have HM := Lib.hid (more HN.out (not_r (k := 5) (a := a) rfl cb))
          go_wp2_with (go_at_call 52; refine (rcov_any _ _ _).mono ?_; rintro e w' ⟨rfl, hb'⟩; have hc2 := (hb'.cell (p := ⟨w.heap.size, 5, none⟩) hlt).trans hck; replace hcells := cells_keep hb' hlt hcells; replace hbw := hbw.trans (hb'.mono hbw.size); replace hlt := Nat.lt_of_lt_of_le hlt hb'.size; clear hb' hck; have hck := hc2; clear hc2)
          go_roundw
          case rel => exact ⟨6, by omega, rfl, HM.out, hbw, hlt, hcells⟩
          case measure => simp [intOf]
      · have ca : covB 6 a = false := by simpa using ca
        have HM := Lib.hid (more HN.out (not_l (k := 5) (b := b) rfl ca))
        go_wp2_with (go_at_call 52; refine (rcov_any _ _ _).mono ?_; rintro e w' ⟨rfl, hb'⟩; have hc2 := (hb'.cell (p := ⟨w.heap.size, 5, none⟩) hlt).trans hck; replace hcells := cells_keep hb' hlt hcells; replace hbw := hbw.trans (hb'.mono hbw.size); replace hlt := Nat.lt_of_lt_of_le hlt hb'.size; clear hb' hck; have hck := hc2; clear hc2)
        go_roundw
        case rel => exact ⟨6, by omega, rfl, HM.out, hbw, hlt, hcells⟩
        case measure => simp [intOf]
    · have HN := Lib.hid hno
      have hck := hcells.out6
      clear hno
      by_cases ca : covB 7 a = true
      · by_cases cb : covB 7 b = true
        · have fin := Lib.hid (first_6 HN.out ca cb)
          go_wp2_with (go_at_call 52; refine (rcov_any _ _ _).mono ?_; rintro e w' ⟨rfl, hb'⟩; have hc2 := (hb'.cell (p := ⟨w.heap.size, 6, none⟩) hlt).trans hck; replace hcells := cells_keep hb' hlt hcells; replace hbw := hbw.trans (hb'.mono hbw.size); replace hlt := Nat.lt_of_lt_of_le hlt hb'.size; clear hb' hck; have hck := hc2; clear hc2)
          go_ret
          exact ⟨congrArg (fun x => Ending.returned (.int .i64 x)) fin.out.symm, hbw⟩
        · have cb : covB 7 b = false := by simpa using cb
          have HM := Lib.hid (more HN.out (not_r (k := 6) (a := a) rfl cb))
          go_wp2_with (go_at_call 52; refine (rcov_any _ _ _).mono ?_; rintro e w' ⟨rfl, hb'⟩; have hc2 := (hb'.cell (p := ⟨w.heap.size, 6, none⟩) hlt).trans hck; replace hcells := cells_keep hb' hlt hcells; replace hbw := hbw.trans (hb'.mono hbw.size); replace hlt := Nat.lt_of_lt_of_le hlt hb'.size; clear hb' hck; have hck := hc2; clear hc2)
          go_roundw
          case rel => exact ⟨7, by omega, rfl, HM.out, hbw, hlt, hcells⟩
          case measure => simp [intOf]
      · have ca : covB 7 a = false := by simpa using ca
        have HM := Lib.hid (more HN.out (not_l (k := 6) (b := b) rfl ca))
        go_wp2_with (go_at_call 52; refine (rcov_any _ _ _).mono ?_; rintro e w' ⟨rfl, hb'⟩; have hc2 := (hb'.cell (p := ⟨w.heap.size, 6, none⟩) hlt).trans hck; replace hcells := cells_keep hb' hlt hcells; replace hbw := hbw.trans (hb'.mono hbw.size); replace hlt := Nat.lt_of_lt_of_le hlt hb'.size; clear hb' hck; have hck := hc2; clear hc2)
        go_roundw
        case rel => exact ⟨7, by omega, rfl, HM.out, hbw, hlt, hcells⟩
        case measure => simp [intOf]
    · have fin := Lib.hid (first_end hno)
      clear hno
      go_wp2
      go_ret
      exact ⟨congrArg (fun x => Ending.returned (.int .i64 x)) fin.out.symm, hbw⟩

set_option maxHeartbeats 3200000 in
theorem rjoin_0lo (b : Int) (w : World) (hb : (b == 0) = false) (h1 : b < 1) : Calls Try.prog 53 #[.int .i64 0, .int .i64 b] w fun e w' => e = .returned (.int .i64 (firstB 0 b)) ∧ Below w.heap.size w w' := by
  go_enter Try.func53, Try.ntmps53
  go_wp2_with fail
  go_loopw [6] (fun i wr => ∃ k : Nat, k ≤ 7 ∧ i = .int .i64 k ∧ (∀ j, j < k → both 0 b j = false) ∧ Below w.heap.size w wr ∧ w.heap.size < wr.heap.size ∧ OrdAt w.heap.size wr) (fun i _ => 7 - (intOf i).toNat)
  case atStart => exact ⟨0, by omega, rfl, fun j hj => by omega, (Below.refl _ _).alloc (Nat.le_refl _) _, by simp, ordAt_start w⟩
  case round =>
    obtain ⟨k, hk, rfl, hno, hbw, hlt, hcells⟩ := hrel
    have hks : k = 0 ∨ k = 1 ∨ k = 2 ∨ k = 3 ∨ k = 4 ∨ k = 5 ∨ k = 6 ∨ k = 7 := by omega
    rcases hks with rfl | rfl | rfl | rfl | rfl | rfl | rfl | rfl
    · have HN := Lib.hid hno
      have hck := hcells.out0
      clear hno
      by_cases ca : covB 2 0 = true
      · by_cases cb : covB 2 b = true
        · have fin := Lib.hid (first_0 HN.out ca cb)
          go_wp2_with (go_at_call 52; refine (rcov_any _ _ _).mono ?_; rintro e w' ⟨rfl, hb'⟩; have hc2 := (hb'.cell (p := ⟨w.heap.size, 0, none⟩) hlt).trans hck; replace hcells := cells_keep hb' hlt hcells; replace hbw := hbw.trans (hb'.mono hbw.size); replace hlt := Nat.lt_of_lt_of_le hlt hb'.size; clear hb' hck; have hck := hc2; clear hc2)
          go_ret
          exact ⟨congrArg (fun x => Ending.returned (.int .i64 x)) fin.out.symm, hbw⟩
        · have cb : covB 2 b = false := by simpa using cb
          have HM := Lib.hid (more HN.out (not_r (k := 0) (a := 0) rfl cb))
          go_wp2_with (go_at_call 52; refine (rcov_any _ _ _).mono ?_; rintro e w' ⟨rfl, hb'⟩; have hc2 := (hb'.cell (p := ⟨w.heap.size, 0, none⟩) hlt).trans hck; replace hcells := cells_keep hb' hlt hcells; replace hbw := hbw.trans (hb'.mono hbw.size); replace hlt := Nat.lt_of_lt_of_le hlt hb'.size; clear hb' hck; have hck := hc2; clear hc2)
          go_roundw
          case rel => exact ⟨1, by omega, rfl, HM.out, hbw, hlt, hcells⟩
          case measure => simp [intOf]
      · have ca : covB 2 0 = false := by simpa using ca
        have HM := Lib.hid (more HN.out (not_l (k := 0) (b := b) rfl ca))
        go_wp2_with (go_at_call 52; refine (rcov_any _ _ _).mono ?_; rintro e w' ⟨rfl, hb'⟩; have hc2 := (hb'.cell (p := ⟨w.heap.size, 0, none⟩) hlt).trans hck; replace hcells := cells_keep hb' hlt hcells; replace hbw := hbw.trans (hb'.mono hbw.size); replace hlt := Nat.lt_of_lt_of_le hlt hb'.size; clear hb' hck; have hck := hc2; clear hc2)
        go_roundw
        case rel => exact ⟨1, by omega, rfl, HM.out, hbw, hlt, hcells⟩
        case measure => simp [intOf]
    · have HN := Lib.hid hno
      have hck := hcells.out1
      clear hno
      by_cases ca : covB 1 0 = true
      · by_cases cb : covB 1 b = true
        · have fin := Lib.hid (first_1 HN.out ca cb)
          go_wp2_with (go_at_call 52; refine (rcov_any _ _ _).mono ?_; rintro e w' ⟨rfl, hb'⟩; have hc2 := (hb'.cell (p := ⟨w.heap.size, 1, none⟩) hlt).trans hck; replace hcells := cells_keep hb' hlt hcells; replace hbw := hbw.trans (hb'.mono hbw.size); replace hlt := Nat.lt_of_lt_of_le hlt hb'.size; clear hb' hck; have hck := hc2; clear hc2)
          go_ret
          exact ⟨congrArg (fun x => Ending.returned (.int .i64 x)) fin.out.symm, hbw⟩
        · have cb : covB 1 b = false := by simpa using cb
          have HM := Lib.hid (more HN.out (not_r (k := 1) (a := 0) rfl cb))
          go_wp2_with (go_at_call 52; refine (rcov_any _ _ _).mono ?_; rintro e w' ⟨rfl, hb'⟩; have hc2 := (hb'.cell (p := ⟨w.heap.size, 1, none⟩) hlt).trans hck; replace hcells := cells_keep hb' hlt hcells; replace hbw := hbw.trans (hb'.mono hbw.size); replace hlt := Nat.lt_of_lt_of_le hlt hb'.size; clear hb' hck; have hck := hc2; clear hc2)
          go_roundw
          case rel => exact ⟨2, by omega, rfl, HM.out, hbw, hlt, hcells⟩
          case measure => simp [intOf]
      · have ca : covB 1 0 = false := by simpa using ca
        have HM := Lib.hid (more HN.out (not_l (k := 1) (b := b) rfl ca))
        go_wp2_with (go_at_call 52; refine (rcov_any _ _ _).mono ?_; rintro e w' ⟨rfl, hb'⟩; have hc2 := (hb'.cell (p := ⟨w.heap.size, 1, none⟩) hlt).trans hck; replace hcells := cells_keep hb' hlt hcells; replace hbw := hbw.trans (hb'.mono hbw.size); replace hlt := Nat.lt_of_lt_of_le hlt hb'.size; clear hb' hck; have hck := hc2; clear hc2)
        go_roundw
        case rel => exact ⟨2, by omega, rfl, HM.out, hbw, hlt, hcells⟩
        case measure => simp [intOf]
    · have HN := Lib.hid hno
      have hck := hcells.out2
      clear hno
      by_cases ca : covB 3 0 = true
      · by_cases cb : covB 3 b = true
        · have fin := Lib.hid (first_2 HN.out ca cb)
          go_wp2_with (go_at_call 52; refine (rcov_any _ _ _).mono ?_; rintro e w' ⟨rfl, hb'⟩; have hc2 := (hb'.cell (p := ⟨w.heap.size, 2, none⟩) hlt).trans hck; replace hcells := cells_keep hb' hlt hcells; replace hbw := hbw.trans (hb'.mono hbw.size); replace hlt := Nat.lt_of_lt_of_le hlt hb'.size; clear hb' hck; have hck := hc2; clear hc2)
          go_ret
          exact ⟨congrArg (fun x => Ending.returned (.int .i64 x)) fin.out.symm, hbw⟩
        · have cb : covB 3 b = false := by simpa using cb
          have HM := Lib.hid (more HN.out (not_r (k := 2) (a := 0) rfl cb))
          go_wp2_with (go_at_call 52; refine (rcov_any _ _ _).mono ?_; rintro e w' ⟨rfl, hb'⟩; have hc2 := (hb'.cell (p := ⟨w.heap.size, 2, none⟩) hlt).trans hck; replace hcells := cells_keep hb' hlt hcells; replace hbw := hbw.trans (hb'.mono hbw.size); replace hlt := Nat.lt_of_lt_of_le hlt hb'.size; clear hb' hck; have hck := hc2; clear hc2)
          go_roundw
          case rel => exact ⟨3, by omega, rfl, HM.out, hbw, hlt, hcells⟩
          case measure => simp [intOf]
      · have ca : covB 3 0 = false := by simpa using ca
        have HM := Lib.hid (more HN.out (not_l (k := 2) (b := b) rfl ca))
        go_wp2_with (go_at_call 52; refine (rcov_any _ _ _).mono ?_; rintro e w' ⟨rfl, hb'⟩; have hc2 := (hb'.cell (p := ⟨w.heap.size, 2, none⟩) hlt).trans hck; replace hcells := cells_keep hb' hlt hcells; replace hbw := hbw.trans (hb'.mono hbw.size); replace hlt := Nat.lt_of_lt_of_le hlt hb'.size; clear hb' hck; have hck := hc2; clear hc2)
        go_roundw
        case rel => exact ⟨3, by omega, rfl, HM.out, hbw, hlt, hcells⟩
        case measure => simp [intOf]
    · have HN := Lib.hid hno
      have hck := hcells.out3
      clear hno
      by_cases ca : covB 4 0 = true
      · by_cases cb : covB 4 b = true
        · have fin := Lib.hid (first_3 HN.out ca cb)
          go_wp2_with (go_at_call 52; refine (rcov_any _ _ _).mono ?_; rintro e w' ⟨rfl, hb'⟩; have hc2 := (hb'.cell (p := ⟨w.heap.size, 3, none⟩) hlt).trans hck; replace hcells := cells_keep hb' hlt hcells; replace hbw := hbw.trans (hb'.mono hbw.size); replace hlt := Nat.lt_of_lt_of_le hlt hb'.size; clear hb' hck; have hck := hc2; clear hc2)
          go_ret
          exact ⟨congrArg (fun x => Ending.returned (.int .i64 x)) fin.out.symm, hbw⟩
        · have cb : covB 4 b = false := by simpa using cb
          have HM := Lib.hid (more HN.out (not_r (k := 3) (a := 0) rfl cb))
          go_wp2_with (go_at_call 52; refine (rcov_any _ _ _).mono ?_; rintro e w' ⟨rfl, hb'⟩; have hc2 := (hb'.cell (p := ⟨w.heap.size, 3, none⟩) hlt).trans hck; replace hcells := cells_keep hb' hlt hcells; replace hbw := hbw.trans (hb'.mono hbw.size); replace hlt := Nat.lt_of_lt_of_le hlt hb'.size; clear hb' hck; have hck := hc2; clear hc2)
          go_roundw
          case rel => exact ⟨4, by omega, rfl, HM.out, hbw, hlt, hcells⟩
          case measure => simp [intOf]
      · have ca : covB 4 0 = false := by simpa using ca
        have HM := Lib.hid (more HN.out (not_l (k := 3) (b := b) rfl ca))
        go_wp2_with (go_at_call 52; refine (rcov_any _ _ _).mono ?_; rintro e w' ⟨rfl, hb'⟩; have hc2 := (hb'.cell (p := ⟨w.heap.size, 3, none⟩) hlt).trans hck; replace hcells := cells_keep hb' hlt hcells; replace hbw := hbw.trans (hb'.mono hbw.size); replace hlt := Nat.lt_of_lt_of_le hlt hb'.size; clear hb' hck; have hck := hc2; clear hc2)
        go_roundw
        case rel => exact ⟨4, by omega, rfl, HM.out, hbw, hlt, hcells⟩
        case measure => simp [intOf]
    · have HN := Lib.hid hno
      have hck := hcells.out4
      clear hno
      by_cases ca : covB 5 0 = true
      · by_cases cb : covB 5 b = true
        · have fin := Lib.hid (first_4 HN.out ca cb)
          go_wp2_with (go_at_call 52; refine (rcov_any _ _ _).mono ?_; rintro e w' ⟨rfl, hb'⟩; have hc2 := (hb'.cell (p := ⟨w.heap.size, 4, none⟩) hlt).trans hck; replace hcells := cells_keep hb' hlt hcells; replace hbw := hbw.trans (hb'.mono hbw.size); replace hlt := Nat.lt_of_lt_of_le hlt hb'.size; clear hb' hck; have hck := hc2; clear hc2)
          go_ret
          exact ⟨congrArg (fun x => Ending.returned (.int .i64 x)) fin.out.symm, hbw⟩
        · have cb : covB 5 b = false := by simpa using cb
          have HM := Lib.hid (more HN.out (not_r (k := 4) (a := 0) rfl cb))
          go_wp2_with (go_at_call 52; refine (rcov_any _ _ _).mono ?_; rintro e w' ⟨rfl, hb'⟩; have hc2 := (hb'.cell (p := ⟨w.heap.size, 4, none⟩) hlt).trans hck; replace hcells := cells_keep hb' hlt hcells; replace hbw := hbw.trans (hb'.mono hbw.size); replace hlt := Nat.lt_of_lt_of_le hlt hb'.size; clear hb' hck; have hck := hc2; clear hc2)
          go_roundw
          case rel => exact ⟨5, by omega, rfl, HM.out, hbw, hlt, hcells⟩
          case measure => simp [intOf]
      · have ca : covB 5 0 = false := by simpa using ca
        have HM := Lib.hid (more HN.out (not_l (k := 4) (b := b) rfl ca))
        go_wp2_with (go_at_call 52; refine (rcov_any _ _ _).mono ?_; rintro e w' ⟨rfl, hb'⟩; have hc2 := (hb'.cell (p := ⟨w.heap.size, 4, none⟩) hlt).trans hck; replace hcells := cells_keep hb' hlt hcells; replace hbw := hbw.trans (hb'.mono hbw.size); replace hlt := Nat.lt_of_lt_of_le hlt hb'.size; clear hb' hck; have hck := hc2; clear hc2)
        go_roundw
        case rel => exact ⟨5, by omega, rfl, HM.out, hbw, hlt, hcells⟩
        case measure => simp [intOf]
    · have HN := Lib.hid hno
      have hck := hcells.out5
      clear hno
      by_cases ca : covB 6 0 = true
      · by_cases cb : covB 6 b = true
        · have fin := Lib.hid (first_5 HN.out ca cb)
          go_wp2_with (go_at_call 52; refine (rcov_any _ _ _).mono ?_; rintro e w' ⟨rfl, hb'⟩; have hc2 := (hb'.cell (p := ⟨w.heap.size, 5, none⟩) hlt).trans hck; replace hcells := cells_keep hb' hlt hcells; replace hbw := hbw.trans (hb'.mono hbw.size); replace hlt := Nat.lt_of_lt_of_le hlt hb'.size; clear hb' hck; have hck := hc2; clear hc2)
          go_ret
          exact ⟨congrArg (fun x => Ending.returned (.int .i64 x)) fin.out.symm, hbw⟩
        · have cb : covB 6 b = false := by simpa using cb
          have HM := Lib.hid (more HN.out (not_r (k := 5) (a := 0) rfl cb))
          go_wp2_with (go_at_call 52; refine (rcov_any _ _ _).mono ?_; rintro e w' ⟨rfl, hb'⟩; have hc2 := (hb'.cell (p := ⟨w.heap.size, 5, none⟩) hlt).trans hck; replace hcells := cells_keep hb' hlt hcells; replace hbw := hbw.trans (hb'.mono hbw.size); replace hlt := Nat.lt_of_lt_of_le hlt hb'.size; clear hb' hck; have hck := hc2; clear hc2)
          go_roundw
          case rel => exact ⟨6, by omega, rfl, HM.out, hbw, hlt, hcells⟩
          case measure => simp [intOf]
      · have ca : covB 6 0 = false := by simpa using ca
        have HM := Lib.hid (more HN.out (not_l (k := 5) (b := b) rfl ca))
        go_wp2_with (go_at_call 52; refine (rcov_any _ _ _).mono ?_; rintro e w' ⟨rfl, hb'⟩; have hc2 := (hb'.cell (p := ⟨w.heap.size, 5, none⟩) hlt).trans hck; replace hcells := cells_keep hb' hlt hcells; replace hbw := hbw.trans (hb'.mono hbw.size); replace hlt := Nat.lt_of_lt_of_le hlt hb'.size; clear hb' hck; have hck := hc2; clear hc2)
        go_roundw
        case rel => exact ⟨6, by omega, rfl, HM.out, hbw, hlt, hcells⟩
        case measure => simp [intOf]
    · have HN := Lib.hid hno
      have hck := hcells.out6
      clear hno
      by_cases ca : covB 7 0 = true
      · by_cases cb : covB 7 b = true
        · have fin := Lib.hid (first_6 HN.out ca cb)
          go_wp2_with (go_at_call 52; refine (rcov_any _ _ _).mono ?_; rintro e w' ⟨rfl, hb'⟩; have hc2 := (hb'.cell (p := ⟨w.heap.size, 6, none⟩) hlt).trans hck; replace hcells := cells_keep hb' hlt hcells; replace hbw := hbw.trans (hb'.mono hbw.size); replace hlt := Nat.lt_of_lt_of_le hlt hb'.size; clear hb' hck; have hck := hc2; clear hc2)
          go_ret
          exact ⟨congrArg (fun x => Ending.returned (.int .i64 x)) fin.out.symm, hbw⟩
        · have cb : covB 7 b = false := by simpa using cb
          have HM := Lib.hid (more HN.out (not_r (k := 6) (a := 0) rfl cb))
          go_wp2_with (go_at_call 52; refine (rcov_any _ _ _).mono ?_; rintro e w' ⟨rfl, hb'⟩; have hc2 := (hb'.cell (p := ⟨w.heap.size, 6, none⟩) hlt).trans hck; replace hcells := cells_keep hb' hlt hcells; replace hbw := hbw.trans (hb'.mono hbw.size); replace hlt := Nat.lt_of_lt_of_le hlt hb'.size; clear hb' hck; have hck := hc2; clear hc2)
          go_roundw
          case rel => exact ⟨7, by omega, rfl, HM.out, hbw, hlt, hcells⟩
          case measure => simp [intOf]
      · have ca : covB 7 0 = false := by simpa using ca
        have HM := Lib.hid (more HN.out (not_l (k := 6) (b := b) rfl ca))
        go_wp2_with (go_at_call 52; refine (rcov_any _ _ _).mono ?_; rintro e w' ⟨rfl, hb'⟩; have hc2 := (hb'.cell (p := ⟨w.heap.size, 6, none⟩) hlt).trans hck; replace hcells := cells_keep hb' hlt hcells; replace hbw := hbw.trans (hb'.mono hbw.size); replace hlt := Nat.lt_of_lt_of_le hlt hb'.size; clear hb' hck; have hck := hc2; clear hc2)
        go_roundw
        case rel => exact ⟨7, by omega, rfl, HM.out, hbw, hlt, hcells⟩
        case measure => simp [intOf]
    · have fin := Lib.hid (first_end hno)
      clear hno
      go_wp2
      go_ret
      exact ⟨congrArg (fun x => Ending.returned (.int .i64 x)) fin.out.symm, hbw⟩

set_option maxHeartbeats 3200000 in
theorem rjoin_0hi (b : Int) (w : World) (hb : (b == 0) = false) (h1 : 1 ≤ b) (h7 : 7 < b) : Calls Try.prog 53 #[.int .i64 0, .int .i64 b] w fun e w' => e = .returned (.int .i64 (firstB 0 b)) ∧ Below w.heap.size w w' := by
  go_enter Try.func53, Try.ntmps53
  go_wp2_with fail
  go_loopw [6] (fun i wr => ∃ k : Nat, k ≤ 7 ∧ i = .int .i64 k ∧ (∀ j, j < k → both 0 b j = false) ∧ Below w.heap.size w wr ∧ w.heap.size < wr.heap.size ∧ OrdAt w.heap.size wr) (fun i _ => 7 - (intOf i).toNat)
  case atStart => exact ⟨0, by omega, rfl, fun j hj => by omega, (Below.refl _ _).alloc (Nat.le_refl _) _, by simp, ordAt_start w⟩
  case round =>
    obtain ⟨k, hk, rfl, hno, hbw, hlt, hcells⟩ := hrel
    have hks : k = 0 ∨ k = 1 ∨ k = 2 ∨ k = 3 ∨ k = 4 ∨ k = 5 ∨ k = 6 ∨ k = 7 := by omega
    rcases hks with rfl | rfl | rfl | rfl | rfl | rfl | rfl | rfl
    · have HN := Lib.hid hno
      have hck := hcells.out0
      clear hno
      by_cases ca : covB 2 0 = true
      · by_cases cb : covB 2 b = true
        · have fin := Lib.hid (first_0 HN.out ca cb)
          go_wp2_with (go_at_call 52; refine (rcov_any _ _ _).mono ?_; rintro e w' ⟨rfl, hb'⟩; have hc2 := (hb'.cell (p := ⟨w.heap.size, 0, none⟩) hlt).trans hck; replace hcells := cells_keep hb' hlt hcells; replace hbw := hbw.trans (hb'.mono hbw.size); replace hlt := Nat.lt_of_lt_of_le hlt hb'.size; clear hb' hck; have hck := hc2; clear hc2)
          go_ret
          exact ⟨congrArg (fun x => Ending.returned (.int .i64 x)) fin.out.symm, hbw⟩
        · have cb : covB 2 b = false := by simpa using cb
          have HM := Lib.hid (more HN.out (not_r (k := 0) (a := 0) rfl cb))
          go_wp2_with (go_at_call 52; refine (rcov_any _ _ _).mono ?_; rintro e w' ⟨rfl, hb'⟩; have hc2 := (hb'.cell (p := ⟨w.heap.size, 0, none⟩) hlt).trans hck; replace hcells := cells_keep hb' hlt hcells; replace hbw := hbw.trans (hb'.mono hbw.size); replace hlt := Nat.lt_of_lt_of_le hlt hb'.size; clear hb' hck; have hck := hc2; clear hc2)
          go_roundw
          case rel => exact ⟨1, by omega, rfl, HM.out, hbw, hlt, hcells⟩
          case measure => simp [intOf]
      · have ca : covB 2 0 = false := by simpa using ca
        have HM := Lib.hid (more HN.out (not_l (k := 0) (b := b) rfl ca))
        go_wp2_with (go_at_call 52; refine (rcov_any _ _ _).mono ?_; rintro e w' ⟨rfl, hb'⟩; have hc2 := (hb'.cell (p := ⟨w.heap.size, 0, none⟩) hlt).trans hck; replace hcells := cells_keep hb' hlt hcells; replace hbw := hbw.trans (hb'.mono hbw.size); replace hlt := Nat.lt_of_lt_of_le hlt hb'.size; clear hb' hck; have hck := hc2; clear hc2)
        go_roundw
        case rel => exact ⟨1, by omega, rfl, HM.out, hbw, hlt, hcells⟩
        case measure => simp [intOf]
    · have HN := Lib.hid hno
      have hck := hcells.out1
      clear hno
      by_cases ca : covB 1 0 = true
      · by_cases cb : covB 1 b = true
        · have fin := Lib.hid (first_1 HN.out ca cb)
          go_wp2_with (go_at_call 52; refine (rcov_any _ _ _).mono ?_; rintro e w' ⟨rfl, hb'⟩; have hc2 := (hb'.cell (p := ⟨w.heap.size, 1, none⟩) hlt).trans hck; replace hcells := cells_keep hb' hlt hcells; replace hbw := hbw.trans (hb'.mono hbw.size); replace hlt := Nat.lt_of_lt_of_le hlt hb'.size; clear hb' hck; have hck := hc2; clear hc2)
          go_ret
          exact ⟨congrArg (fun x => Ending.returned (.int .i64 x)) fin.out.symm, hbw⟩
        · have cb : covB 1 b = false := by simpa using cb
          have HM := Lib.hid (more HN.out (not_r (k := 1) (a := 0) rfl cb))
          go_wp2_with (go_at_call 52; refine (rcov_any _ _ _).mono ?_; rintro e w' ⟨rfl, hb'⟩; have hc2 := (hb'.cell (p := ⟨w.heap.size, 1, none⟩) hlt).trans hck; replace hcells := cells_keep hb' hlt hcells; replace hbw := hbw.trans (hb'.mono hbw.size); replace hlt := Nat.lt_of_lt_of_le hlt hb'.size; clear hb' hck; have hck := hc2; clear hc2)
          go_roundw
          case rel => exact ⟨2, by omega, rfl, HM.out, hbw, hlt, hcells⟩
          case measure => simp [intOf]
      · have ca : covB 1 0 = false := by simpa using ca
        have HM := Lib.hid (more HN.out (not_l (k := 1) (b := b) rfl ca))
        go_wp2_with (go_at_call 52; refine (rcov_any _ _ _).mono ?_; rintro e w' ⟨rfl, hb'⟩; have hc2 := (hb'.cell (p := ⟨w.heap.size, 1, none⟩) hlt).trans hck; replace hcells := cells_keep hb' hlt hcells; replace hbw := hbw.trans (hb'.mono hbw.size); replace hlt := Nat.lt_of_lt_of_le hlt hb'.size; clear hb' hck; have hck := hc2; clear hc2)
        go_roundw
        case rel => exact ⟨2, by omega, rfl, HM.out, hbw, hlt, hcells⟩
        case measure => simp [intOf]
    · have HN := Lib.hid hno
      have hck := hcells.out2
      clear hno
      by_cases ca : covB 3 0 = true
      · by_cases cb : covB 3 b = true
        · have fin := Lib.hid (first_2 HN.out ca cb)
          go_wp2_with (go_at_call 52; refine (rcov_any _ _ _).mono ?_; rintro e w' ⟨rfl, hb'⟩; have hc2 := (hb'.cell (p := ⟨w.heap.size, 2, none⟩) hlt).trans hck; replace hcells := cells_keep hb' hlt hcells; replace hbw := hbw.trans (hb'.mono hbw.size); replace hlt := Nat.lt_of_lt_of_le hlt hb'.size; clear hb' hck; have hck := hc2; clear hc2)
          go_ret
          exact ⟨congrArg (fun x => Ending.returned (.int .i64 x)) fin.out.symm, hbw⟩
        · have cb : covB 3 b = false := by simpa using cb
          have HM := Lib.hid (more HN.out (not_r (k := 2) (a := 0) rfl cb))
          go_wp2_with (go_at_call 52; refine (rcov_any _ _ _).mono ?_; rintro e w' ⟨rfl, hb'⟩; have hc2 := (hb'.cell (p := ⟨w.heap.size, 2, none⟩) hlt).trans hck; replace hcells := cells_keep hb' hlt hcells; replace hbw := hbw.trans (hb'.mono hbw.size); replace hlt := Nat.lt_of_lt_of_le hlt hb'.size; clear hb' hck; have hck := hc2; clear hc2)
          go_roundw
          case rel => exact ⟨3, by omega, rfl, HM.out, hbw, hlt, hcells⟩
          case measure => simp [intOf]
      · have ca : covB 3 0 = false := by simpa using ca
        have HM := Lib.hid (more HN.out (not_l (k := 2) (b := b) rfl ca))
        go_wp2_with (go_at_call 52; refine (rcov_any _ _ _).mono ?_; rintro e w' ⟨rfl, hb'⟩; have hc2 := (hb'.cell (p := ⟨w.heap.size, 2, none⟩) hlt).trans hck; replace hcells := cells_keep hb' hlt hcells; replace hbw := hbw.trans (hb'.mono hbw.size); replace hlt := Nat.lt_of_lt_of_le hlt hb'.size; clear hb' hck; have hck := hc2; clear hc2)
        go_roundw
        case rel => exact ⟨3, by omega, rfl, HM.out, hbw, hlt, hcells⟩
        case measure => simp [intOf]
    · have HN := Lib.hid hno
      have hck := hcells.out3
      clear hno
      by_cases ca : covB 4 0 = true
      · by_cases cb : covB 4 b = true
        · have fin := Lib.hid (first_3 HN.out ca cb)
          go_wp2_with (go_at_call 52; refine (rcov_any _ _ _).mono ?_; rintro e w' ⟨rfl, hb'⟩; have hc2 := (hb'.cell (p := ⟨w.heap.size, 3, none⟩) hlt).trans hck; replace hcells := cells_keep hb' hlt hcells; replace hbw := hbw.trans (hb'.mono hbw.size); replace hlt := Nat.lt_of_lt_of_le hlt hb'.size; clear hb' hck; have hck := hc2; clear hc2)
          go_ret
          exact ⟨congrArg (fun x => Ending.returned (.int .i64 x)) fin.out.symm, hbw⟩
        · have cb : covB 4 b = false := by simpa using cb
          have HM := Lib.hid (more HN.out (not_r (k := 3) (a := 0) rfl cb))
          go_wp2_with (go_at_call 52; refine (rcov_any _ _ _).mono ?_; rintro e w' ⟨rfl, hb'⟩; have hc2 := (hb'.cell (p := ⟨w.heap.size, 3, none⟩) hlt).trans hck; replace hcells := cells_keep hb' hlt hcells; replace hbw := hbw.trans (hb'.mono hbw.size); replace hlt := Nat.lt_of_lt_of_le hlt hb'.size; clear hb' hck; have hck := hc2; clear hc2)
          go_roundw
          case rel => exact ⟨4, by omega, rfl, HM.out, hbw, hlt, hcells⟩
          case measure => simp [intOf]
      · have ca : covB 4 0 = false := by simpa using ca
        have HM := Lib.hid (more HN.out (not_l (k := 3) (b := b) rfl ca))
        go_wp2_with (go_at_call 52; refine (rcov_any _ _ _).mono ?_; rintro e w' ⟨rfl, hb'⟩; have hc2 := (hb'.cell (p := ⟨w.heap.size, 3, none⟩) hlt).trans hck; replace hcells := cells_keep hb' hlt hcells; replace hbw := hbw.trans (hb'.mono hbw.size); replace hlt := Nat.lt_of_lt_of_le hlt hb'.size; clear hb' hck; have hck := hc2; clear hc2)
        go_roundw
        case rel => exact ⟨4, by omega, rfl, HM.out, hbw, hlt, hcells⟩
        case measure => simp [intOf]
    · have HN := Lib.hid hno
      have hck := hcells.out4
      clear hno
      by_cases ca : covB 5 0 = true
      · by_cases cb : covB 5 b = true
        · have fin := Lib.hid (first_4 HN.out ca cb)
          go_wp2_with (go_at_call 52; refine (rcov_any _ _ _).mono ?_; rintro e w' ⟨rfl, hb'⟩; have hc2 := (hb'.cell (p := ⟨w.heap.size, 4, none⟩) hlt).trans hck; replace hcells := cells_keep hb' hlt hcells; replace hbw := hbw.trans (hb'.mono hbw.size); replace hlt := Nat.lt_of_lt_of_le hlt hb'.size; clear hb' hck; have hck := hc2; clear hc2)
          go_ret
          exact ⟨congrArg (fun x => Ending.returned (.int .i64 x)) fin.out.symm, hbw⟩
        · have cb : covB 5 b = false := by simpa using cb
          have HM := Lib.hid (more HN.out (not_r (k := 4) (a := 0) rfl cb))
          go_wp2_with (go_at_call 52; refine (rcov_any _ _ _).mono ?_; rintro e w' ⟨rfl, hb'⟩; have hc2 := (hb'.cell (p := ⟨w.heap.size, 4, none⟩) hlt).trans hck; replace hcells := cells_keep hb' hlt hcells; replace hbw := hbw.trans (hb'.mono hbw.size); replace hlt := Nat.lt_of_lt_of_le hlt hb'.size; clear hb' hck; have hck := hc2; clear hc2)
          go_roundw
          case rel => exact ⟨5, by omega, rfl, HM.out, hbw, hlt, hcells⟩
          case measure => simp [intOf]
      · have ca : covB 5 0 = false := by simpa using ca
        have HM := Lib.hid (more HN.out (not_l (k := 4) (b := b) rfl ca))
        go_wp2_with (go_at_call 52; refine (rcov_any _ _ _).mono ?_; rintro e w' ⟨rfl, hb'⟩; have hc2 := (hb'.cell (p := ⟨w.heap.size, 4, none⟩) hlt).trans hck; replace hcells := cells_keep hb' hlt hcells; replace hbw := hbw.trans (hb'.mono hbw.size); replace hlt := Nat.lt_of_lt_of_le hlt hb'.size; clear hb' hck; have hck := hc2; clear hc2)
        go_roundw
        case rel => exact ⟨5, by omega, rfl, HM.out, hbw, hlt, hcells⟩
        case measure => simp [intOf]
    · have HN := Lib.hid hno
      have hck := hcells.out5
      clear hno
      by_cases ca : covB 6 0 = true
      · by_cases cb : covB 6 b = true
        · have fin := Lib.hid (first_5 HN.out ca cb)
          go_wp2_with (go_at_call 52; refine (rcov_any _ _ _).mono ?_; rintro e w' ⟨rfl, hb'⟩; have hc2 := (hb'.cell (p := ⟨w.heap.size, 5, none⟩) hlt).trans hck; replace hcells := cells_keep hb' hlt hcells; replace hbw := hbw.trans (hb'.mono hbw.size); replace hlt := Nat.lt_of_lt_of_le hlt hb'.size; clear hb' hck; have hck := hc2; clear hc2)
          go_ret
          exact ⟨congrArg (fun x => Ending.returned (.int .i64 x)) fin.out.symm, hbw⟩
        · have cb : covB 6 b = false := by simpa using cb
          have HM := Lib.hid (more HN.out (not_r (k := 5) (a := 0) rfl cb))
          go_wp2_with (go_at_call 52; refine (rcov_any _ _ _).mono ?_; rintro e w' ⟨rfl, hb'⟩; have hc2 := (hb'.cell (p := ⟨w.heap.size, 5, none⟩) hlt).trans hck; replace hcells := cells_keep hb' hlt hcells; replace hbw := hbw.trans (hb'.mono hbw.size); replace hlt := Nat.lt_of_lt_of_le hlt hb'.size; clear hb' hck; have hck := hc2; clear hc2)
          go_roundw
          case rel => exact ⟨6, by omega, rfl, HM.out, hbw, hlt, hcells⟩
          case measure => simp [intOf]
      · have ca : covB 6 0 = false := by simpa using ca
        have HM := Lib.hid (more HN.out (not_l (k := 5) (b := b) rfl ca))
        go_wp2_with (go_at_call 52; refine (rcov_any _ _ _).mono ?_; rintro e w' ⟨rfl, hb'⟩; have hc2 := (hb'.cell (p := ⟨w.heap.size, 5, none⟩) hlt).trans hck; replace hcells := cells_keep hb' hlt hcells; replace hbw := hbw.trans (hb'.mono hbw.size); replace hlt := Nat.lt_of_lt_of_le hlt hb'.size; clear hb' hck; have hck := hc2; clear hc2)
        go_roundw
        case rel => exact ⟨6, by omega, rfl, HM.out, hbw, hlt, hcells⟩
        case measure => simp [intOf]
    · have HN := Lib.hid hno
      have hck := hcells.out6
      clear hno
      by_cases ca : covB 7 0 = true
      · by_cases cb : covB 7 b = true
        · have fin := Lib.hid (first_6 HN.out ca cb)
          go_wp2_with (go_at_call 52; refine (rcov_any _ _ _).mono ?_; rintro e w' ⟨rfl, hb'⟩; have hc2 := (hb'.cell (p := ⟨w.heap.size, 6, none⟩) hlt).trans hck; replace hcells := cells_keep hb' hlt hcells; replace hbw := hbw.trans (hb'.mono hbw.size); replace hlt := Nat.lt_of_lt_of_le hlt hb'.size; clear hb' hck; have hck := hc2; clear hc2)
          go_ret
          exact ⟨congrArg (fun x => Ending.returned (.int .i64 x)) fin.out.symm, hbw⟩
        · have cb : covB 7 b = false := by simpa using cb
          have HM := Lib.hid (more HN.out (not_r (k := 6) (a := 0) rfl cb))
          go_wp2_with (go_at_call 52; refine (rcov_any _ _ _).mono ?_; rintro e w' ⟨rfl, hb'⟩; have hc2 := (hb'.cell (p := ⟨w.heap.size, 6, none⟩) hlt).trans hck; replace hcells := cells_keep hb' hlt hcells; replace hbw := hbw.trans (hb'.mono hbw.size); replace hlt := Nat.lt_of_lt_of_le hlt hb'.size; clear hb' hck; have hck := hc2; clear hc2)
          go_roundw
          case rel => exact ⟨7, by omega, rfl, HM.out, hbw, hlt, hcells⟩
          case measure => simp [intOf]
      · have ca : covB 7 0 = false := by simpa using ca
        have HM := Lib.hid (more HN.out (not_l (k := 6) (b := b) rfl ca))
        go_wp2_with (go_at_call 52; refine (rcov_any _ _ _).mono ?_; rintro e w' ⟨rfl, hb'⟩; have hc2 := (hb'.cell (p := ⟨w.heap.size, 6, none⟩) hlt).trans hck; replace hcells := cells_keep hb' hlt hcells; replace hbw := hbw.trans (hb'.mono hbw.size); replace hlt := Nat.lt_of_lt_of_le hlt hb'.size; clear hb' hck; have hck := hc2; clear hc2)
        go_roundw
        case rel => exact ⟨7, by omega, rfl, HM.out, hbw, hlt, hcells⟩
        case measure => simp [intOf]
    · have fin := Lib.hid (first_end hno)
      clear hno
      go_wp2
      go_ret
      exact ⟨congrArg (fun x => Ending.returned (.int .i64 x)) fin.out.symm, hbw⟩

set_option maxHeartbeats 3200000 in
theorem rjoin_lo0 (a : Int) (w : World) (ha : (a == 0) = false) (h1 : a < 1) : Calls Try.prog 53 #[.int .i64 a, .int .i64 0] w fun e w' => e = .returned (.int .i64 (firstB a 0)) ∧ Below w.heap.size w w' := by
  go_enter Try.func53, Try.ntmps53
  go_wp2_with fail
  go_loopw [6] (fun i wr => ∃ k : Nat, k ≤ 7 ∧ i = .int .i64 k ∧ (∀ j, j < k → both a 0 j = false) ∧ Below w.heap.size w wr ∧ w.heap.size < wr.heap.size ∧ OrdAt w.heap.size wr) (fun i _ => 7 - (intOf i).toNat)
  case atStart => exact ⟨0, by omega, rfl, fun j hj => by omega, (Below.refl _ _).alloc (Nat.le_refl _) _, by simp, ordAt_start w⟩
  case round =>
    obtain ⟨k, hk, rfl, hno, hbw, hlt, hcells⟩ := hrel
    have hks : k = 0 ∨ k = 1 ∨ k = 2 ∨ k = 3 ∨ k = 4 ∨ k = 5 ∨ k = 6 ∨ k = 7 := by omega
    rcases hks with rfl | rfl | rfl | rfl | rfl | rfl | rfl | rfl
    · have HN := Lib.hid hno
      have hck := hcells.out0
      clear hno
      by_cases ca : covB 2 a = true
      · by_cases cb : covB 2 0 = true
        · have fin := Lib.hid (first_0 HN.out ca cb)
          go_wp2_with (go_at_call 52; refine (rcov_any _ _ _).mono ?_; rintro e w' ⟨rfl, hb'⟩; have hc2 := (hb'.cell (p := ⟨w.heap.size, 0, none⟩) hlt).trans hck; replace hcells := cells_keep hb' hlt hcells; replace hbw := hbw.trans (hb'.mono hbw.size); replace hlt := Nat.lt_of_lt_of_le hlt hb'.size; clear hb' hck; have hck := hc2; clear hc2)
          go_ret
          exact ⟨congrArg (fun x => Ending.returned (.int .i64 x)) fin.out.symm, hbw⟩
        · have cb : covB 2 0 = false := by simpa using cb
          have HM := Lib.hid (more HN.out (not_r (k := 0) (a := a) rfl cb))
          go_wp2_with (go_at_call 52; refine (rcov_any _ _ _).mono ?_; rintro e w' ⟨rfl, hb'⟩; have hc2 := (hb'.cell (p := ⟨w.heap.size, 0, none⟩) hlt).trans hck; replace hcells := cells_keep hb' hlt hcells; replace hbw := hbw.trans (hb'.mono hbw.size); replace hlt := Nat.lt_of_lt_of_le hlt hb'.size; clear hb' hck; have hck := hc2; clear hc2)
          go_roundw
          case rel => exact ⟨1, by omega, rfl, HM.out, hbw, hlt, hcells⟩
          case measure => simp [intOf]
      · have ca : covB 2 a = false := by simpa using ca
        have HM := Lib.hid (more HN.out (not_l (k := 0) (b := 0) rfl ca))
        go_wp2_with (go_at_call 52; refine (rcov_any _ _ _).mono ?_; rintro e w' ⟨rfl, hb'⟩; have hc2 := (hb'.cell (p := ⟨w.heap.size, 0, none⟩) hlt).trans hck; replace hcells := cells_keep hb' hlt hcells; replace hbw := hbw.trans (hb'.mono hbw.size); replace hlt := Nat.lt_of_lt_of_le hlt hb'.size; clear hb' hck; have hck := hc2; clear hc2)
        go_roundw
        case rel => exact ⟨1, by omega, rfl, HM.out, hbw, hlt, hcells⟩
        case measure => simp [intOf]
    · have HN := Lib.hid hno
      have hck := hcells.out1
      clear hno
      by_cases ca : covB 1 a = true
      · by_cases cb : covB 1 0 = true
        · have fin := Lib.hid (first_1 HN.out ca cb)
          go_wp2_with (go_at_call 52; refine (rcov_any _ _ _).mono ?_; rintro e w' ⟨rfl, hb'⟩; have hc2 := (hb'.cell (p := ⟨w.heap.size, 1, none⟩) hlt).trans hck; replace hcells := cells_keep hb' hlt hcells; replace hbw := hbw.trans (hb'.mono hbw.size); replace hlt := Nat.lt_of_lt_of_le hlt hb'.size; clear hb' hck; have hck := hc2; clear hc2)
          go_ret
          exact ⟨congrArg (fun x => Ending.returned (.int .i64 x)) fin.out.symm, hbw⟩
        · have cb : covB 1 0 = false := by simpa using cb
          have HM := Lib.hid (more HN.out (not_r (k := 1) (a := a) rfl cb))
          go_wp2_with (go_at_call 52; refine (rcov_any _ _ _).mono ?_; rintro e w' ⟨rfl, hb'⟩; have hc2 := (hb'.cell (p := ⟨w.heap.size, 1, none⟩) hlt).trans hck; replace hcells := cells_keep hb' hlt hcells; replace hbw := hbw.trans (hb'.mono hbw.size); replace hlt := Nat.lt_of_lt_of_le hlt hb'.size; clear hb' hck; have hck := hc2; clear hc2)
          go_roundw
          case rel => exact ⟨2, by omega, rfl, HM.out, hbw, hlt, hcells⟩
          case measure => simp [intOf]
      · have ca : covB 1 a = false := by simpa using ca
        have HM := Lib.hid (more HN.out (not_l (k := 1) (b := 0) rfl ca))
        go_wp2_with (go_at_call 52; refine (rcov_any _ _ _).mono ?_; rintro e w' ⟨rfl, hb'⟩; have hc2 := (hb'.cell (p := ⟨w.heap.size, 1, none⟩) hlt).trans hck; replace hcells := cells_keep hb' hlt hcells; replace hbw := hbw.trans (hb'.mono hbw.size); replace hlt := Nat.lt_of_lt_of_le hlt hb'.size; clear hb' hck; have hck := hc2; clear hc2)
        go_roundw
        case rel => exact ⟨2, by omega, rfl, HM.out, hbw, hlt, hcells⟩
        case measure => simp [intOf]
    · have HN := Lib.hid hno
      have hck := hcells.out2
      clear hno
      by_cases ca : covB 3 a = true
      · by_cases cb : covB 3 0 = true
        · have fin := Lib.hid (first_2 HN.out ca cb)
          go_wp2_with (go_at_call 52; refine (rcov_any _ _ _).mono ?_; rintro e w' ⟨rfl, hb'⟩; have hc2 := (hb'.cell (p := ⟨w.heap.size, 2, none⟩) hlt).trans hck; replace hcells := cells_keep hb' hlt hcells; replace hbw := hbw.trans (hb'.mono hbw.size); replace hlt := Nat.lt_of_lt_of_le hlt hb'.size; clear hb' hck; have hck := hc2; clear hc2)
          go_ret
          exact ⟨congrArg (fun x => Ending.returned (.int .i64 x)) fin.out.symm, hbw⟩
        · have cb : covB 3 0 = false := by simpa using cb
          have HM := Lib.hid (more HN.out (not_r (k := 2) (a := a) rfl cb))
          go_wp2_with (go_at_call 52; refine (rcov_any _ _ _).mono ?_; rintro e w' ⟨rfl, hb'⟩; have hc2 := (hb'.cell (p := ⟨w.heap.size, 2, none⟩) hlt).trans hck; replace hcells := cells_keep hb' hlt hcells; replace hbw := hbw.trans (hb'.mono hbw.size); replace hlt := Nat.lt_of_lt_of_le hlt hb'.size; clear hb' hck; have hck := hc2; clear hc2)
          go_roundw
          case rel => exact ⟨3, by omega, rfl, HM.out, hbw, hlt, hcells⟩
          case measure => simp [intOf]
      · have ca : covB 3 a = false := by simpa using ca
        have HM := Lib.hid (more HN.out (not_l (k := 2) (b := 0) rfl ca))
        go_wp2_with (go_at_call 52; refine (rcov_any _ _ _).mono ?_; rintro e w' ⟨rfl, hb'⟩; have hc2 := (hb'.cell (p := ⟨w.heap.size, 2, none⟩) hlt).trans hck; replace hcells := cells_keep hb' hlt hcells; replace hbw := hbw.trans (hb'.mono hbw.size); replace hlt := Nat.lt_of_lt_of_le hlt hb'.size; clear hb' hck; have hck := hc2; clear hc2)
        go_roundw
        case rel => exact ⟨3, by omega, rfl, HM.out, hbw, hlt, hcells⟩
        case measure => simp [intOf]
    · have HN := Lib.hid hno
      have hck := hcells.out3
      clear hno
      by_cases ca : covB 4 a = true
      · by_cases cb : covB 4 0 = true
        · have fin := Lib.hid (first_3 HN.out ca cb)
          go_wp2_with (go_at_call 52; refine (rcov_any _ _ _).mono ?_; rintro e w' ⟨rfl, hb'⟩; have hc2 := (hb'.cell (p := ⟨w.heap.size, 3, none⟩) hlt).trans hck; replace hcells := cells_keep hb' hlt hcells; replace hbw := hbw.trans (hb'.mono hbw.size); replace hlt := Nat.lt_of_lt_of_le hlt hb'.size; clear hb' hck; have hck := hc2; clear hc2)
          go_ret
          exact ⟨congrArg (fun x => Ending.returned (.int .i64 x)) fin.out.symm, hbw⟩
        · have cb : covB 4 0 = false := by simpa using cb
          have HM := Lib.hid (more HN.out (not_r (k := 3) (a := a) rfl cb))
          go_wp2_with (go_at_call 52; refine (rcov_any _ _ _).mono ?_; rintro e w' ⟨rfl, hb'⟩; have hc2 := (hb'.cell (p := ⟨w.heap.size, 3, none⟩) hlt).trans hck; replace hcells := cells_keep hb' hlt hcells; replace hbw := hbw.trans (hb'.mono hbw.size); replace hlt := Nat.lt_of_lt_of_le hlt hb'.size; clear hb' hck; have hck := hc2; clear hc2)
          go_roundw
          case rel => exact ⟨4, by omega, rfl, HM.out, hbw, hlt, hcells⟩
          case measure => simp [intOf]
      · have ca : covB 4 a = false := by simpa using ca
        have HM := Lib.hid (more HN.out (not_l (k := 3) (b := 0) rfl ca))
        go_wp2_with (go_at_call 52; refine (rcov_any _ _ _).mono ?_; rintro e w' ⟨rfl, hb'⟩; have hc2 := (hb'.cell (p := ⟨w.heap.size, 3, none⟩) hlt).trans hck; replace hcells := cells_keep hb' hlt hcells; replace hbw := hbw.trans (hb'.mono hbw.size); replace hlt := Nat.lt_of_lt_of_le hlt hb'.size; clear hb' hck; have hck := hc2; clear hc2)
        go_roundw
        case rel => exact ⟨4, by omega, rfl, HM.out, hbw, hlt, hcells⟩
        case measure => simp [intOf]
    · have HN := Lib.hid hno
      have hck := hcells.out4
      clear hno
      by_cases ca : covB 5 a = true
      · by_cases cb : covB 5 0 = true
        · have fin := Lib.hid (first_4 HN.out ca cb)
          go_wp2_with (go_at_call 52; refine (rcov_any _ _ _).mono ?_; rintro e w' ⟨rfl, hb'⟩; have hc2 := (hb'.cell (p := ⟨w.heap.size, 4, none⟩) hlt).trans hck; replace hcells := cells_keep hb' hlt hcells; replace hbw := hbw.trans (hb'.mono hbw.size); replace hlt := Nat.lt_of_lt_of_le hlt hb'.size; clear hb' hck; have hck := hc2; clear hc2)
          go_ret
          exact ⟨congrArg (fun x => Ending.returned (.int .i64 x)) fin.out.symm, hbw⟩
        · have cb : covB 5 0 = false := by simpa using cb
          have HM := Lib.hid (more HN.out (not_r (k := 4) (a := a) rfl cb))
          go_wp2_with (go_at_call 52; refine (rcov_any _ _ _).mono ?_; rintro e w' ⟨rfl, hb'⟩; have hc2 := (hb'.cell (p := ⟨w.heap.size, 4, none⟩) hlt).trans hck; replace hcells := cells_keep hb' hlt hcells; replace hbw := hbw.trans (hb'.mono hbw.size); replace hlt := Nat.lt_of_lt_of_le hlt hb'.size; clear hb' hck; have hck := hc2; clear hc2)
          go_roundw
          case rel => exact ⟨5, by omega, rfl, HM.out, hbw, hlt, hcells⟩
          case measure => simp [intOf]
      · have ca : covB 5 a = false := by simpa using ca
        have HM := Lib.hid (more HN.out (not_l (k := 4) (b := 0) rfl ca))
        go_wp2_with (go_at_call 52; refine (rcov_any _ _ _).mono ?_; rintro e w' ⟨rfl, hb'⟩; have hc2 := (hb'.cell (p := ⟨w.heap.size, 4, none⟩) hlt).trans hck; replace hcells := cells_keep hb' hlt hcells; replace hbw := hbw.trans (hb'.mono hbw.size); replace hlt := Nat.lt_of_lt_of_le hlt hb'.size; clear hb' hck; have hck := hc2; clear hc2)
        go_roundw
        case rel => exact ⟨5, by omega, rfl, HM.out, hbw, hlt, hcells⟩
        case measure => simp [intOf]
    · have HN := Lib.hid hno
      have hck := hcells.out5
      clear hno
      by_cases ca : covB 6 a = true
      · by_cases cb : covB 6 0 = true
        · have fin := Lib.hid (first_5 HN.out ca cb)
          go_wp2_with (go_at_call 52; refine (rcov_any _ _ _).mono ?_; rintro e w' ⟨rfl, hb'⟩; have hc2 := (hb'.cell (p := ⟨w.heap.size, 5, none⟩) hlt).trans hck; replace hcells := cells_keep hb' hlt hcells; replace hbw := hbw.trans (hb'.mono hbw.size); replace hlt := Nat.lt_of_lt_of_le hlt hb'.size; clear hb' hck; have hck := hc2; clear hc2)
          go_ret
          exact ⟨congrArg (fun x => Ending.returned (.int .i64 x)) fin.out.symm, hbw⟩
        · have cb : covB 6 0 = false := by simpa using cb
          have HM := Lib.hid (more HN.out (not_r (k := 5) (a := a) rfl cb))
          go_wp2_with (go_at_call 52; refine (rcov_any _ _ _).mono ?_; rintro e w' ⟨rfl, hb'⟩; have hc2 := (hb'.cell (p := ⟨w.heap.size, 5, none⟩) hlt).trans hck; replace hcells := cells_keep hb' hlt hcells; replace hbw := hbw.trans (hb'.mono hbw.size); replace hlt := Nat.lt_of_lt_of_le hlt hb'.size; clear hb' hck; have hck := hc2; clear hc2)
          go_roundw
          case rel => exact ⟨6, by omega, rfl, HM.out, hbw, hlt, hcells⟩
          case measure => simp [intOf]
      · have ca : covB 6 a = false := by simpa using ca
        have HM := Lib.hid (more HN.out (not_l (k := 5) (b := 0) rfl ca))
        go_wp2_with (go_at_call 52; refine (rcov_any _ _ _).mono ?_; rintro e w' ⟨rfl, hb'⟩; have hc2 := (hb'.cell (p := ⟨w.heap.size, 5, none⟩) hlt).trans hck; replace hcells := cells_keep hb' hlt hcells; replace hbw := hbw.trans (hb'.mono hbw.size); replace hlt := Nat.lt_of_lt_of_le hlt hb'.size; clear hb' hck; have hck := hc2; clear hc2)
        go_roundw
        case rel => exact ⟨6, by omega, rfl, HM.out, hbw, hlt, hcells⟩
        case measure => simp [intOf]
    · have HN := Lib.hid hno
      have hck := hcells.out6
      clear hno
      by_cases ca : covB 7 a = true
      · by_cases cb : covB 7 0 = true
        · have fin := Lib.hid (first_6 HN.out ca cb)
          go_wp2_with (go_at_call 52; refine (rcov_any _ _ _).mono ?_; rintro e w' ⟨rfl, hb'⟩; have hc2 := (hb'.cell (p := ⟨w.heap.size, 6, none⟩) hlt).trans hck; replace hcells := cells_keep hb' hlt hcells; replace hbw := hbw.trans (hb'.mono hbw.size); replace hlt := Nat.lt_of_lt_of_le hlt hb'.size; clear hb' hck; have hck := hc2; clear hc2)
          go_ret
          exact ⟨congrArg (fun x => Ending.returned (.int .i64 x)) fin.out.symm, hbw⟩
        · have cb : covB 7 0 = false := by simpa using cb
          have HM := Lib.hid (more HN.out (not_r (k := 6) (a := a) rfl cb))
          go_wp2_with (go_at_call 52; refine (rcov_any _ _ _).mono ?_; rintro e w' ⟨rfl, hb'⟩; have hc2 := (hb'.cell (p := ⟨w.heap.size, 6, none⟩) hlt).trans hck; replace hcells := cells_keep hb' hlt hcells; replace hbw := hbw.trans (hb'.mono hbw.size); replace hlt := Nat.lt_of_lt_of_le hlt hb'.size; clear hb' hck; have hck := hc2; clear hc2)
          go_roundw
          case rel => exact ⟨7, by omega, rfl, HM.out, hbw, hlt, hcells⟩
          case measure => simp [intOf]
      · have ca : covB 7 a = false := by simpa using ca
        have HM := Lib.hid (more HN.out (not_l (k := 6) (b := 0) rfl ca))
        go_wp2_with (go_at_call 52; refine (rcov_any _ _ _).mono ?_; rintro e w' ⟨rfl, hb'⟩; have hc2 := (hb'.cell (p := ⟨w.heap.size, 6, none⟩) hlt).trans hck; replace hcells := cells_keep hb' hlt hcells; replace hbw := hbw.trans (hb'.mono hbw.size); replace hlt := Nat.lt_of_lt_of_le hlt hb'.size; clear hb' hck; have hck := hc2; clear hc2)
        go_roundw
        case rel => exact ⟨7, by omega, rfl, HM.out, hbw, hlt, hcells⟩
        case measure => simp [intOf]
    · have fin := Lib.hid (first_end hno)
      clear hno
      go_wp2
      go_ret
      exact ⟨congrArg (fun x => Ending.returned (.int .i64 x)) fin.out.symm, hbw⟩

set_option maxHeartbeats 3200000 in
theorem rjoin_hi0 (a : Int) (w : World) (ha : (a == 0) = false) (h1 : 1 ≤ a) (h7 : 7 < a) : Calls Try.prog 53 #[.int .i64 a, .int .i64 0] w fun e w' => e = .returned (.int .i64 (firstB a 0)) ∧ Below w.heap.size w w' := by
  go_enter Try.func53, Try.ntmps53
  go_wp2_with fail
  go_loopw [6] (fun i wr => ∃ k : Nat, k ≤ 7 ∧ i = .int .i64 k ∧ (∀ j, j < k → both a 0 j = false) ∧ Below w.heap.size w wr ∧ w.heap.size < wr.heap.size ∧ OrdAt w.heap.size wr) (fun i _ => 7 - (intOf i).toNat)
  case atStart => exact ⟨0, by omega, rfl, fun j hj => by omega, (Below.refl _ _).alloc (Nat.le_refl _) _, by simp, ordAt_start w⟩
  case round =>
    obtain ⟨k, hk, rfl, hno, hbw, hlt, hcells⟩ := hrel
    have hks : k = 0 ∨ k = 1 ∨ k = 2 ∨ k = 3 ∨ k = 4 ∨ k = 5 ∨ k = 6 ∨ k = 7 := by omega
    rcases hks with rfl | rfl | rfl | rfl | rfl | rfl | rfl | rfl
    · have HN := Lib.hid hno
      have hck := hcells.out0
      clear hno
      by_cases ca : covB 2 a = true
      · by_cases cb : covB 2 0 = true
        · have fin := Lib.hid (first_0 HN.out ca cb)
          go_wp2_with (go_at_call 52; refine (rcov_any _ _ _).mono ?_; rintro e w' ⟨rfl, hb'⟩; have hc2 := (hb'.cell (p := ⟨w.heap.size, 0, none⟩) hlt).trans hck; replace hcells := cells_keep hb' hlt hcells; replace hbw := hbw.trans (hb'.mono hbw.size); replace hlt := Nat.lt_of_lt_of_le hlt hb'.size; clear hb' hck; have hck := hc2; clear hc2)
          go_ret
          exact ⟨congrArg (fun x => Ending.returned (.int .i64 x)) fin.out.symm, hbw⟩
        · have cb : covB 2 0 = false := by simpa using cb
          have HM := Lib.hid (more HN.out (not_r (k := 0) (a := a) rfl cb))
          go_wp2_with (go_at_call 52; refine (rcov_any _ _ _).mono ?_; rintro e w' ⟨rfl, hb'⟩; have hc2 := (hb'.cell (p := ⟨w.heap.size, 0, none⟩) hlt).trans hck; replace hcells := cells_keep hb' hlt hcells; replace hbw := hbw.trans (hb'.mono hbw.size); replace hlt := Nat.lt_of_lt_of_le hlt hb'.size; clear hb' hck; have hck := hc2; clear hc2)
          go_roundw
          case rel => exact ⟨1, by omega, rfl, HM.out, hbw, hlt, hcells⟩
          case measure => simp [intOf]
      · have ca : covB 2 a = false := by simpa using ca
        have HM := Lib.hid (more HN.out (not_l (k := 0) (b := 0) rfl ca))
        go_wp2_with (go_at_call 52; refine (rcov_any _ _ _).mono ?_; rintro e w' ⟨rfl, hb'⟩; have hc2 := (hb'.cell (p := ⟨w.heap.size, 0, none⟩) hlt).trans hck; replace hcells := cells_keep hb' hlt hcells; replace hbw := hbw.trans (hb'.mono hbw.size); replace hlt := Nat.lt_of_lt_of_le hlt hb'.size; clear hb' hck; have hck := hc2; clear hc2)
        go_roundw
        case rel => exact ⟨1, by omega, rfl, HM.out, hbw, hlt, hcells⟩
        case measure => simp [intOf]
    · have HN := Lib.hid hno
      have hck := hcells.out1
      clear hno
      by_cases ca : covB 1 a = true
      · by_cases cb : covB 1 0 = true
        · have fin := Lib.hid (first_1 HN.out ca cb)
          go_wp2_with (go_at_call 52; refine (rcov_any _ _ _).mono ?_; rintro e w' ⟨rfl, hb'⟩; have hc2 := (hb'.cell (p := ⟨w.heap.size, 1, none⟩) hlt).trans hck; replace hcells := cells_keep hb' hlt hcells; replace hbw := hbw.trans (hb'.mono hbw.size); replace hlt := Nat.lt_of_lt_of_le hlt hb'.size; clear hb' hck; have hck := hc2; clear hc2)
          go_ret
          exact ⟨congrArg (fun x => Ending.returned (.int .i64 x)) fin.out.symm, hbw⟩
        · have cb : covB 1 0 = false := by simpa using cb
          have HM := Lib.hid (more HN.out (not_r (k := 1) (a := a) rfl cb))
          go_wp2_with (go_at_call 52; refine (rcov_any _ _ _).mono ?_; rintro e w' ⟨rfl, hb'⟩; have hc2 := (hb'.cell (p := ⟨w.heap.size, 1, none⟩) hlt).trans hck; replace hcells := cells_keep hb' hlt hcells; replace hbw := hbw.trans (hb'.mono hbw.size); replace hlt := Nat.lt_of_lt_of_le hlt hb'.size; clear hb' hck; have hck := hc2; clear hc2)
          go_roundw
          case rel => exact ⟨2, by omega, rfl, HM.out, hbw, hlt, hcells⟩
          case measure => simp [intOf]
      · have ca : covB 1 a = false := by simpa using ca
        have HM := Lib.hid (more HN.out (not_l (k := 1) (b := 0) rfl ca))
        go_wp2_with (go_at_call 52; refine (rcov_any _ _ _).mono ?_; rintro e w' ⟨rfl, hb'⟩; have hc2 := (hb'.cell (p := ⟨w.heap.size, 1, none⟩) hlt).trans hck; replace hcells := cells_keep hb' hlt hcells; replace hbw := hbw.trans (hb'.mono hbw.size); replace hlt := Nat.lt_of_lt_of_le hlt hb'.size; clear hb' hck; have hck := hc2; clear hc2)
        go_roundw
        case rel => exact ⟨2, by omega, rfl, HM.out, hbw, hlt, hcells⟩
        case measure => simp [intOf]
    · have HN := Lib.hid hno
      have hck := hcells.out2
      clear hno
      by_cases ca : covB 3 a = true
      · by_cases cb : covB 3 0 = true
        · have fin := Lib.hid (first_2 HN.out ca cb)
          go_wp2_with (go_at_call 52; refine (rcov_any _ _ _).mono ?_; rintro e w' ⟨rfl, hb'⟩; have hc2 := (hb'.cell (p := ⟨w.heap.size, 2, none⟩) hlt).trans hck; replace hcells := cells_keep hb' hlt hcells; replace hbw := hbw.trans (hb'.mono hbw.size); replace hlt := Nat.lt_of_lt_of_le hlt hb'.size; clear hb' hck; have hck := hc2; clear hc2)
          go_ret
          exact ⟨congrArg (fun x => Ending.returned (.int .i64 x)) fin.out.symm, hbw⟩
        · have cb : covB 3 0 = false := by simpa using cb
          have HM := Lib.hid (more HN.out (not_r (k := 2) (a := a) rfl cb))
          go_wp2_with (go_at_call 52; refine (rcov_any _ _ _).mono ?_; rintro e w' ⟨rfl, hb'⟩; have hc2 := (hb'.cell (p := ⟨w.heap.size, 2, none⟩) hlt).trans hck; replace hcells := cells_keep hb' hlt hcells; replace hbw := hbw.trans (hb'.mono hbw.size); replace hlt := Nat.lt_of_lt_of_le hlt hb'.size; clear hb' hck; have hck := hc2; clear hc2)
          go_roundw
          case rel => exact ⟨3, by omega, rfl, HM.out, hbw, hlt, hcells⟩
          case measure => simp [intOf]
      · have ca : covB 3 a = false := by simpa using ca
        have HM := Lib.hid (more HN.out (not_l (k := 2) (b := 0) rfl ca))
        go_wp2_with (go_at_call 52; refine (rcov_any _ _ _).mono ?_; rintro e w' ⟨rfl, hb'⟩; have hc2 := (hb'.cell (p := ⟨w.heap.size, 2, none⟩) hlt).trans hck; replace hcells := cells_keep hb' hlt hcells; replace hbw := hbw.trans (hb'.mono hbw.size); replace hlt := Nat.lt_of_lt_of_le hlt hb'.size; clear hb' hck; have hck := hc2; clear hc2)
        go_roundw
        case rel => exact ⟨3, by omega, rfl, HM.out, hbw, hlt, hcells⟩
        case measure => simp [intOf]
    · have HN := Lib.hid hno
      have hck := hcells.out3
      clear hno
      by_cases ca : covB 4 a = true
      · by_cases cb : covB 4 0 = true
        · have fin := Lib.hid (first_3 HN.out ca cb)
          go_wp2_with (go_at_call 52; refine (rcov_any _ _ _).mono ?_; rintro e w' ⟨rfl, hb'⟩; have hc2 := (hb'.cell (p := ⟨w.heap.size, 3, none⟩) hlt).trans hck; replace hcells := cells_keep hb' hlt hcells; replace hbw := hbw.trans (hb'.mono hbw.size); replace hlt := Nat.lt_of_lt_of_le hlt hb'.size; clear hb' hck; have hck := hc2; clear hc2)
          go_ret
          exact ⟨congrArg (fun x => Ending.returned (.int .i64 x)) fin.out.symm, hbw⟩
        · have cb : covB 4 0 = false := by simpa using cb
          have HM := Lib.hid (more HN.out (not_r (k := 3) (a := a) rfl cb))
          go_wp2_with (go_at_call 52; refine (rcov_any _ _ _).mono ?_; rintro e w' ⟨rfl, hb'⟩; have hc2 := (hb'.cell (p := ⟨w.heap.size, 3, none⟩) hlt).trans hck; replace hcells := cells_keep hb' hlt hcells; replace hbw := hbw.trans (hb'.mono hbw.size); replace hlt := Nat.lt_of_lt_of_le hlt hb'.size; clear hb' hck; have hck := hc2; clear hc2)
          go_roundw
          case rel => exact ⟨4, by omega, rfl, HM.out, hbw, hlt, hcells⟩
          case measure => simp [intOf]
      · have ca : covB 4 a = false := by simpa using ca
        have HM := Lib.hid (more HN.out (not_l (k := 3) (b := 0) rfl ca))
        go_wp2_with (go_at_call 52; refine (rcov_any _ _ _).mono ?_; rintro e w' ⟨rfl, hb'⟩; have hc2 := (hb'.cell (p := ⟨w.heap.size, 3, none⟩) hlt).trans hck; replace hcells := cells_keep hb' hlt hcells; replace hbw := hbw.trans (hb'.mono hbw.size); replace hlt := Nat.lt_of_lt_of_le hlt hb'.size; clear hb' hck; have hck := hc2; clear hc2)
        go_roundw
        case rel => exact ⟨4, by omega, rfl, HM.out, hbw, hlt, hcells⟩
        case measure => simp [intOf]
    · have HN := Lib.hid hno
      have hck := hcells.out4
      clear hno
      by_cases ca : covB 5 a = true
      · by_cases cb : covB 5 0 = true
        · have fin := Lib.hid (first_4 HN.out ca cb)
          go_wp2_with (go_at_call 52; refine (rcov_any _ _ _).mono ?_; rintro e w' ⟨rfl, hb'⟩; have hc2 := (hb'.cell (p := ⟨w.heap.size, 4, none⟩) hlt).trans hck; replace hcells := cells_keep hb' hlt hcells; replace hbw := hbw.trans (hb'.mono hbw.size); replace hlt := Nat.lt_of_lt_of_le hlt hb'.size; clear hb' hck; have hck := hc2; clear hc2)
          go_ret
          exact ⟨congrArg (fun x => Ending.returned (.int .i64 x)) fin.out.symm, hbw⟩
        · have cb : covB 5 0 = false := by simpa using cb
          have HM := Lib.hid (more HN.out (not_r (k := 4) (a := a) rfl cb))
          go_wp2_with (go_at_call 52; refine (rcov_any _ _ _).mono ?_; rintro e w' ⟨rfl, hb'⟩; have hc2 := (hb'.cell (p := ⟨w.heap.size, 4, none⟩) hlt).trans hck; replace hcells := cells_keep hb' hlt hcells; replace hbw := hbw.trans (hb'.mono hbw.size); replace hlt := Nat.lt_of_lt_of_le hlt hb'.size; clear hb' hck; have hck := hc2; clear hc2)
          go_roundw
          case rel => exact ⟨5, by omega, rfl, HM.out, hbw, hlt, hcells⟩
          case measure => simp [intOf]
      · have ca : covB 5 a = false := by simpa using ca
        have HM := Lib.hid (more HN.out (not_l (k := 4) (b := 0) rfl ca))
        go_wp2_with (go_at_call 52; refine (rcov_any _ _ _).mono ?_; rintro e w' ⟨rfl, hb'⟩; have hc2 := (hb'.cell (p := ⟨w.heap.size, 4, none⟩) hlt).trans hck; replace hcells := cells_keep hb' hlt hcells; replace hbw := hbw.trans (hb'.mono hbw.size); replace hlt := Nat.lt_of_lt_of_le hlt hb'.size; clear hb' hck; have hck := hc2; clear hc2)
        go_roundw
        case rel => exact ⟨5, by omega, rfl, HM.out, hbw, hlt, hcells⟩
        case measure => simp [intOf]
    · have HN := Lib.hid hno
      have hck := hcells.out5
      clear hno
      by_cases ca : covB 6 a = true
      · by_cases cb : covB 6 0 = true
        · have fin := Lib.hid (first_5 HN.out ca cb)
          go_wp2_with (go_at_call 52; refine (rcov_any _ _ _).mono ?_; rintro e w' ⟨rfl, hb'⟩; have hc2 := (hb'.cell (p := ⟨w.heap.size, 5, none⟩) hlt).trans hck; replace hcells := cells_keep hb' hlt hcells; replace hbw := hbw.trans (hb'.mono hbw.size); replace hlt := Nat.lt_of_lt_of_le hlt hb'.size; clear hb' hck; have hck := hc2; clear hc2)
          go_ret
          exact ⟨congrArg (fun x => Ending.returned (.int .i64 x)) fin.out.symm, hbw⟩
        · have cb : covB 6 0 = false := by simpa using cb
          have HM := Lib.hid (more HN.out (not_r (k := 5) (a := a) rfl cb))
          go_wp2_with (go_at_call 52; refine (rcov_any _ _ _).mono ?_; rintro e w' ⟨rfl, hb'⟩; have hc2 := (hb'.cell (p := ⟨w.heap.size, 5, none⟩) hlt).trans hck; replace hcells := cells_keep hb' hlt hcells; replace hbw := hbw.trans (hb'.mono hbw.size); replace hlt := Nat.lt_of_lt_of_le hlt hb'.size; clear hb' hck; have hck := hc2; clear hc2)
          go_roundw
          case rel => exact ⟨6, by omega, rfl, HM.out, hbw, hlt, hcells⟩
          case measure => simp [intOf]
      · have ca : covB 6 a = false := by simpa using ca
        have HM := Lib.hid (more HN.out (not_l (k := 5) (b := 0) rfl ca))
        go_wp2_with (go_at_call 52; refine (rcov_any _ _ _).mono ?_; rintro e w' ⟨rfl, hb'⟩; have hc2 := (hb'.cell (p := ⟨w.heap.size, 5, none⟩) hlt).trans hck; replace hcells := cells_keep hb' hlt hcells; replace hbw := hbw.trans (hb'.mono hbw.size); replace hlt := Nat.lt_of_lt_of_le hlt hb'.size; clear hb' hck; have hck := hc2; clear hc2)
        go_roundw
        case rel => exact ⟨6, by omega, rfl, HM.out, hbw, hlt, hcells⟩
        case measure => simp [intOf]
    · have HN := Lib.hid hno
      have hck := hcells.out6
      clear hno
      by_cases ca : covB 7 a = true
      · by_cases cb : covB 7 0 = true
        · have fin := Lib.hid (first_6 HN.out ca cb)
          go_wp2_with (go_at_call 52; refine (rcov_any _ _ _).mono ?_; rintro e w' ⟨rfl, hb'⟩; have hc2 := (hb'.cell (p := ⟨w.heap.size, 6, none⟩) hlt).trans hck; replace hcells := cells_keep hb' hlt hcells; replace hbw := hbw.trans (hb'.mono hbw.size); replace hlt := Nat.lt_of_lt_of_le hlt hb'.size; clear hb' hck; have hck := hc2; clear hc2)
          go_ret
          exact ⟨congrArg (fun x => Ending.returned (.int .i64 x)) fin.out.symm, hbw⟩
        · have cb : covB 7 0 = false := by simpa using cb
          have HM := Lib.hid (more HN.out (not_r (k := 6) (a := a) rfl cb))
          go_wp2_with (go_at_call 52; refine (rcov_any _ _ _).mono ?_; rintro e w' ⟨rfl, hb'⟩; have hc2 := (hb'.cell (p := ⟨w.heap.size, 6, none⟩) hlt).trans hck; replace hcells := cells_keep hb' hlt hcells; replace hbw := hbw.trans (hb'.mono hbw.size); replace hlt := Nat.lt_of_lt_of_le hlt hb'.size; clear hb' hck; have hck := hc2; clear hc2)
          go_roundw
          case rel => exact ⟨7, by omega, rfl, HM.out, hbw, hlt, hcells⟩
          case measure => simp [intOf]
      · have ca : covB 7 a = false := by simpa using ca
        have HM := Lib.hid (more HN.out (not_l (k := 6) (b := 0) rfl ca))
        go_wp2_with (go_at_call 52; refine (rcov_any _ _ _).mono ?_; rintro e w' ⟨rfl, hb'⟩; have hc2 := (hb'.cell (p := ⟨w.heap.size, 6, none⟩) hlt).trans hck; replace hcells := cells_keep hb' hlt hcells; replace hbw := hbw.trans (hb'.mono hbw.size); replace hlt := Nat.lt_of_lt_of_le hlt hb'.size; clear hb' hck; have hck := hc2; clear hc2)
        go_roundw
        case rel => exact ⟨7, by omega, rfl, HM.out, hbw, hlt, hcells⟩
        case measure => simp [intOf]
    · have fin := Lib.hid (first_end hno)
      clear hno
      go_wp2
      go_ret
      exact ⟨congrArg (fun x => Ending.returned (.int .i64 x)) fin.out.symm, hbw⟩

set_option maxHeartbeats 3200000 in
theorem rjoin_00 (w : World) : Calls Try.prog 53 #[.int .i64 0, .int .i64 0] w fun e w' => e = .returned (.int .i64 (firstB 0 0)) ∧ Below w.heap.size w w' := by
  go_enter Try.func53, Try.ntmps53
  go_wp2_with fail
  go_loopw [6] (fun i wr => ∃ k : Nat, k ≤ 7 ∧ i = .int .i64 k ∧ Below w.heap.size w wr ∧ w.heap.size < wr.heap.size ∧ OrdAt w.heap.size wr) (fun i _ => 7 - (intOf i).toNat)
  case atStart => exact ⟨0, by omega, rfl, (Below.refl _ _).alloc (Nat.le_refl _) _, by simp, ordAt_start w⟩
  case round =>
    obtain ⟨k, hk, rfl, hbw, hlt, hcells⟩ := hrel
    have hks : k = 0 ∨ k = 1 ∨ k = 2 ∨ k = 3 ∨ k = 4 ∨ k = 5 ∨ k = 6 ∨ k = 7 := by omega
    rcases hks with rfl | rfl | rfl | rfl | rfl | rfl | rfl | rfl
    · have hck := hcells.out0
      have ca : covB 2 0 = false := rfl
      go_wp2_with (go_at_call 52; refine (rcov_any _ _ _).mono ?_; rintro e w' ⟨rfl, hb'⟩; have hc2 := (hb'.cell (p := ⟨w.heap.size, 0, none⟩) hlt).trans hck; replace hcells := cells_keep hb' hlt hcells; replace hbw := hbw.trans (hb'.mono hbw.size); replace hlt := Nat.lt_of_lt_of_le hlt hb'.size; clear hb' hck; have hck := hc2; clear hc2)
      go_roundw
      case rel => exact ⟨1, by omega, rfl, hbw, hlt, hcells⟩
      case measure => simp [intOf]
    · have hck := hcells.out1
      have ca : covB 1 0 = false := rfl
      go_wp2_with (go_at_call 52; refine (rcov_any _ _ _).mono ?_; rintro e w' ⟨rfl, hb'⟩; have hc2 := (hb'.cell (p := ⟨w.heap.size, 1, none⟩) hlt).trans hck; replace hcells := cells_keep hb' hlt hcells; replace hbw := hbw.trans (hb'.mono hbw.size); replace hlt := Nat.lt_of_lt_of_le hlt hb'.size; clear hb' hck; have hck := hc2; clear hc2)
      go_roundw
      case rel => exact ⟨2, by omega, rfl, hbw, hlt, hcells⟩
      case measure => simp [intOf]
    · have hck := hcells.out2
      have ca : covB 3 0 = false := rfl
      go_wp2_with (go_at_call 52; refine (rcov_any _ _ _).mono ?_; rintro e w' ⟨rfl, hb'⟩; have hc2 := (hb'.cell (p := ⟨w.heap.size, 2, none⟩) hlt).trans hck; replace hcells := cells_keep hb' hlt hcells; replace hbw := hbw.trans (hb'.mono hbw.size); replace hlt := Nat.lt_of_lt_of_le hlt hb'.size; clear hb' hck; have hck := hc2; clear hc2)
      go_roundw
      case rel => exact ⟨3, by omega, rfl, hbw, hlt, hcells⟩
      case measure => simp [intOf]
    · have hck := hcells.out3
      have ca : covB 4 0 = false := rfl
      go_wp2_with (go_at_call 52; refine (rcov_any _ _ _).mono ?_; rintro e w' ⟨rfl, hb'⟩; have hc2 := (hb'.cell (p := ⟨w.heap.size, 3, none⟩) hlt).trans hck; replace hcells := cells_keep hb' hlt hcells; replace hbw := hbw.trans (hb'.mono hbw.size); replace hlt := Nat.lt_of_lt_of_le hlt hb'.size; clear hb' hck; have hck := hc2; clear hc2)
      go_roundw
      case rel => exact ⟨4, by omega, rfl, hbw, hlt, hcells⟩
      case measure => simp [intOf]
    · have hck := hcells.out4
      have ca : covB 5 0 = false := rfl
      go_wp2_with (go_at_call 52; refine (rcov_any _ _ _).mono ?_; rintro e w' ⟨rfl, hb'⟩; have hc2 := (hb'.cell (p := ⟨w.heap.size, 4, none⟩) hlt).trans hck; replace hcells := cells_keep hb' hlt hcells; replace hbw := hbw.trans (hb'.mono hbw.size); replace hlt := Nat.lt_of_lt_of_le hlt hb'.size; clear hb' hck; have hck := hc2; clear hc2)
      go_roundw
      case rel => exact ⟨5, by omega, rfl, hbw, hlt, hcells⟩
      case measure => simp [intOf]
    · have hck := hcells.out5
      have ca : covB 6 0 = false := rfl
      go_wp2_with (go_at_call 52; refine (rcov_any _ _ _).mono ?_; rintro e w' ⟨rfl, hb'⟩; have hc2 := (hb'.cell (p := ⟨w.heap.size, 5, none⟩) hlt).trans hck; replace hcells := cells_keep hb' hlt hcells; replace hbw := hbw.trans (hb'.mono hbw.size); replace hlt := Nat.lt_of_lt_of_le hlt hb'.size; clear hb' hck; have hck := hc2; clear hc2)
      go_roundw
      case rel => exact ⟨6, by omega, rfl, hbw, hlt, hcells⟩
      case measure => simp [intOf]
    · have hck := hcells.out6
      have ca : covB 7 0 = false := rfl
      go_wp2_with (go_at_call 52; refine (rcov_any _ _ _).mono ?_; rintro e w' ⟨rfl, hb'⟩; have hc2 := (hb'.cell (p := ⟨w.heap.size, 6, none⟩) hlt).trans hck; replace hcells := cells_keep hb' hlt hcells; replace hbw := hbw.trans (hb'.mono hbw.size); replace hlt := Nat.lt_of_lt_of_le hlt hb'.size; clear hb' hck; have hck := hc2; clear hc2)
      go_roundw
      case rel => exact ⟨7, by omega, rfl, hbw, hlt, hcells⟩
      case measure => simp [intOf]
    · go_wp2
      go_ret
      exact ⟨rfl, hbw⟩


theorem rjoin_any (a b : Int) (w : World) : Calls Try.prog 53 #[.int .i64 a, .int .i64 b] w fun e w' => e = .returned (.int .i64 (joinI a b)) ∧ Below w.heap.size w w' := by
  by_cases ha : a = 0
  · subst ha
    by_cases hb : b = 0
    · subst hb; exact rjoin_00 w
    · by_cases hr : rightB b = true
      · have e : joinI 0 b = b := by simp [joinI, hr]
        rw [e]; clear e
        have h1 : 1 ≤ b := by simp [rightB] at hr; omega
        have h7 : b ≤ 7 := by simp [rightB] at hr; omega
        clear hb hr
        go_enter Try.func53, Try.ntmps53
        go_wp2
        go_ret
        exact ⟨rfl, Below.refl _ _⟩
      · have e : joinI 0 b = firstB 0 b := by simp [joinI, hr, hb]
        rw [e]
        by_cases h1 : b < 1
        · exact rjoin_0lo b w (by simpa using hb) h1
        · exact rjoin_0hi b w (by simpa using hb) (by omega) (by simp [rightB] at hr; omega)
  · by_cases hb : b = 0
    · subst hb
      by_cases hr : rightB a = true
      · have e : joinI a 0 = a := by simp [joinI, hr, ha]
        rw [e]; clear e
        have ha' : (a == 0) = false := by simpa using ha
        have h1 : 1 ≤ a := by simp [rightB] at hr; omega
        have h7 : a ≤ 7 := by simp [rightB] at hr; omega
        clear ha hr
        go_enter Try.func53, Try.ntmps53
        go_wp2
        go_ret
        exact ⟨rfl, Below.refl _ _⟩
      · have e : joinI a 0 = firstB a 0 := by simp [joinI, hr, ha]
        rw [e]
        by_cases h1 : a < 1
        · exact rjoin_lo0 a w (by simpa using ha) h1
        · exact rjoin_hi0 a w (by simpa using ha) (by omega) (by simp [rightB] at hr; omega)
    · have e : joinI a b = firstB a b := by simp [joinI, ha, hb]
      rw [e]; exact rjoin_aa a b w (by simpa using ha) (by simpa using hb)
end Go.Proofs.Ytamjopgpmeeheaa

