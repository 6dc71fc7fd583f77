/- The walk of LockNone (7). -/
import Derived.Test.YtamjopgpmeeheaaWK
import Derived.Test.YtamjopgpmeeheaaNN
import Derived.Deep.RegionHeld3
namespace Go.Proofs.Ytamjopgpmeeheaa
open Go.RowKit
open Go.ChangeMaps (setBlock)
set_option linter.unusedVariables false

theorem neq_000 (w : World) : (binOp .neq 34 (.agg #[.int .i64 0, .int .i64 0, .int .i64 0]) (.agg #[.int .i64 0, .int .i64 0, .int .i64 0])).run Try.prog w = .ok (.bool false) w := by kernel_rfl

set_option maxRecDepth 100000 in
set_option maxHeartbeats 8000000 in
theorem lockNone_any (w : World) (kd t id mo : Int) : Calls Try.prog 7 #[.agg #[iv kd, iv t, iv id, iv mo]] w fun e w' => e = .returned (.bool true) ∧ Below w.heap.size w w' := by
  have heq := neq_000
  go_enter Try.func7, Try.ntmps7
  go_wp2_with fail
  obtain ⟨w0, hw0⟩ : ∃ w0, ((w.alloc (.cells #[iv kd, iv t, iv id, iv mo] 30)).alloc (.cells #[.map none] 51)).alloc (.cells #[.pointer none, .pointer (some ⟨w.heap.size + 1, 0, none⟩)] 23) = w0 := ⟨_, rfl⟩
  have hs0 : w0.heap.size = w.heap.size + 3 := by rw [← hw0]; simp
  have hb0 : Below w.heap.size w w0 := by rw [← hw0]; exact (((Below.refl _ w).alloc (Nat.le_refl _) _).alloc (by simp) _).alloc (by simp; omega) _
  have h0 : w0.heap[w.heap.size]? = some (.cells #[iv kd, iv t, iv id, iv mo] 30) := by
    rw [← hw0]; exact (Go.heap_alloc_old _ _ (by simp; omega)).trans ((Go.heap_alloc_old _ _ (by simp)).trans (Go.heap_alloc_new w _))
  have h1 : w0.heap[w.heap.size + 1]? = some (.cells #[.map none] 51) := by
    rw [← hw0]
    have := Go.heap_alloc_new (w.alloc (.cells #[iv kd, iv t, iv id, iv mo] 30)) (.cells #[.map none] 51)
    rw [World.size_alloc] at this
    exact (Go.heap_alloc_old _ _ (by simp)).trans this
  have h2 : w0.heap[w.heap.size + 1 + 1]? = some (.cells #[.pointer none, .pointer (some ⟨w.heap.size + 1, 0, none⟩)] 23) := by
    rw [← hw0]
    have := Go.heap_alloc_new ((w.alloc (.cells #[iv kd, iv t, iv id, iv mo] 30)).alloc (.cells #[.map none] 51)) (.cells #[.pointer none, .pointer (some ⟨w.heap.size + 1, 0, none⟩)] 23)
    rw [World.size_alloc, World.size_alloc] at this
    exact this
  have hp : ∀ k : Nat, k < 2 → ∃ p, w0.cell? ⟨w.heap.size + 1 + 1, k, none⟩ = some p ∧ NoneAt w0 p := fun k hk => by
    match k, hk with
    | 0, _ => exact ⟨.pointer none, by simp [World.cell?, h2], none_nil w0⟩
    | 1, _ => exact ⟨.pointer (some ⟨w.heap.size + 1, 0, none⟩), by simp [World.cell?, h2], none_zero (by simp [World.cell?, h1]) (by omega)⟩
  have HP := Lib.hid hp
  have H0 := Lib.hid h0
  have HB0 := Lib.hid hb0
  rw [hw0]
  clear hw0 hb0 h0 h1 h2 hp
  go_loopw [5] (fun i wr => ∃ k : Nat, k ≤ 2 ∧ i = .int .i64 k ∧ Below w0.heap.size w0 wr) (fun i _ => 2 - (Lib.intOf i).toNat)
  case atStart => exact ⟨0, by omega, rfl, Below.refl _ _⟩
  case round =>
    obtain ⟨k, hk, rfl, hbr⟩ := hrel
    have HBR := Lib.hid hbr
    have hsr := hbr.size
    clear hbr
    by_cases hlt : k < 2
    · obtain ⟨p, hcell, hnone⟩ := HP.out k hlt
      have x0 := (HBR.out.cell (p := ⟨w.heap.size + 1 + 1, k, none⟩) (by simp; omega)).trans hcell
      have hblk := (HBR.out.block w.heap.size (by omega)).trans H0.out
      have y0 : wr.cell? ⟨w.heap.size, 0, none⟩ = some (iv kd) := by simp [World.cell?, hblk]
      have y1 : wr.cell? ⟨w.heap.size, 1, none⟩ = some (iv t) := by simp [World.cell?, hblk]
      have y2 : wr.cell? ⟨w.heap.size, 2, none⟩ = some (iv id) := by simp [World.cell?, hblk]
      have y3 : wr.cell? ⟨w.heap.size, 3, none⟩ = some (iv mo) := by simp [World.cell?, hblk]
      have hnr : NoneAt wr p := hnone.below HBR.out
      have HNR := Lib.hid hnr
      have k0 : (0 : Int) ≤ (k : Int) := by omega
      have k1 : (k : Int) < 2 := by omega
      clear hcell hnone hblk hnr
      go_wp2_with (first
        | (go_at_call 14; refine (wants_none HNR.out t).mono ?_; rintro e w5 ⟨rfl, hb5⟩)
        | (go_at_call 26; refine (cancel_none HNR.out t).mono ?_; rintro e w' ⟨rfl, rfl⟩)
        | (go_at_call 9; refine (ask_none HNR.out t id mo).mono ?_; rintro e w' ⟨rfl, rfl⟩))
      have hs5 := hb5.size
      have hwr : w.heap.size < wr.heap.size := by omega
      obtain ⟨W, hW⟩ : ∃ W, w5.alloc (.cells #[.int .i64 0, .int .i64 0, .int .i64 0] 34) = W := ⟨_, rfl⟩
      have hbW : Below wr.heap.size wr W := by rw [← hW]; exact hb5.alloc hb5.size _
      have hn := Go.heap_alloc_new w5 (.cells #[.int .i64 0, .int .i64 0, .int .i64 0] 34)
      rw [hW] at hn
      have hsW : W.heap.size = w5.heap.size + 1 := by rw [← hW]; simp
      have hss : ∀ w', Below W.heap.size W w' → w'.cell? ⟨w.heap.size, 1, none⟩ = some (iv t) ∧ w'.cell? ⟨w.heap.size, 2, none⟩ = some (iv id) ∧ w'.cell? ⟨w5.heap.size, 0, none⟩ = some (.int .i64 0) ∧ w'.cell? ⟨w5.heap.size, 1, none⟩ = some (.int .i64 0) ∧ w'.cell? ⟨w5.heap.size, 2, none⟩ = some (.int .i64 0) := fun w' h =>
        ⟨(h.cell (p := ⟨w.heap.size, 1, none⟩) (by simp; omega)).trans ((hbW.cell (p := ⟨w.heap.size, 1, none⟩) hwr).trans y1), (h.cell (p := ⟨w.heap.size, 2, none⟩) (by simp; omega)).trans ((hbW.cell (p := ⟨w.heap.size, 2, none⟩) hwr).trans y2),
         (h.cell (p := ⟨w5.heap.size, 0, none⟩) (by simp; omega)).trans (by simp [World.cell?, hn]), (h.cell (p := ⟨w5.heap.size, 1, none⟩) (by simp; omega)).trans (by simp [World.cell?, hn]), (h.cell (p := ⟨w5.heap.size, 2, none⟩) (by simp; omega)).trans (by simp [World.cell?, hn])⟩
      have HSS := Lib.hid hss
      have HNW := Lib.hid (HNR.out.below hbW)
      have HBW := Lib.hid hbW
      rw [hW]
      have hcur : Below W.heap.size W W.drew := below_drewN (Below.refl _ W) 1
      clear hb5 hW hbW hn hss x0 y0 y1 y2 y3
      go_region_held3 (fun w' => w'.cell? ⟨w.heap.size, 1, none⟩ = some (iv t) ∧ w'.cell? ⟨w.heap.size, 2, none⟩ = some (iv id) ∧ w'.cell? ⟨w5.heap.size, 0, none⟩ = some (.int .i64 0) ∧ w'.cell? ⟨w5.heap.size, 1, none⟩ = some (.int .i64 0) ∧ w'.cell? ⟨w5.heap.size, 2, none⟩ = some (.int .i64 0))
        (exact HSS.out _ hcur)
        (first
          | (go_at_call 13; refine (release_none (HNW.out.below hcur) t).mono ?_; rintro e w' ⟨rfl, rfl⟩)
          | (go_at_call 15; refine (holders_none (HNW.out.below hcur) id).mono ?_; rintro e w' ⟨rfl, rfl⟩)
          | (go_at_call 11; refine (queue_none (HNW.out.below hcur) id).mono ?_; rintro e w' ⟨rfl, rfl⟩)
          | (go_at_call 18; refine (held_none (HNW.out.below hcur) t id).mono ?_; rintro e w' ⟨rfl, rfl⟩)
          | (go_at_call 17; refine (waits_none (HNW.out.below hcur) t).mono ?_; rintro e w9 ⟨rfl, hb9⟩; have hcur := hcur.trans (hb9.mono hcur.size); clear hb9))
      have HCUR := Lib.hid hcur
      have hs9 := hcur.size
      clear hcur
      go_wp2
      go_roundw
      case rel => exact ⟨k + 1, by omega, by go_num, HBR.out.trans ((HBW.out.trans (HCUR.out.mono HBW.out.size)).mono hsr)⟩
      case measure => simp [Lib.intOf]; omega
    · have kk : k = 2 := by omega
      subst kk
      go_wp2_with (go_at_call 10; refine (works_any _).mono ?_; rintro e w5 ⟨rfl, hb5⟩)
      go_ret
      exact ⟨rfl, (HB0.out.trans (HBR.out.mono (by omega))).trans (hb5.mono (by omega))⟩
end Go.Proofs.Ytamjopgpmeeheaa
