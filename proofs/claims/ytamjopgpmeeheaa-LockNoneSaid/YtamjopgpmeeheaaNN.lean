/- A table that is not there, and one that no call made: nothing (27, 9, 26, 14, 13, 17, 15, 11, 18). -/
import Derived.Test.YtamjopgpmeeheaaLW
namespace Go.Proofs.Ytamjopgpmeeheaa
open Go.RowKit
open Go.ChangeMaps (setBlock)
set_option linter.unusedVariables false

/-- there is no table -/
def NoneAt (w : World) (p : Value) : Prop := ∀ w', Below w.heap.size w w' → Calls Try.prog 27 #[p] w' fun e w'' => e = .returned (.bool true) ∧ w' = w''
theorem NoneAt.below {w w' : World} {p : Value} (h : NoneAt w p) (hb : Below w.heap.size w w') : NoneAt w' p := fun w2 h2 => h w2 (hb.trans (h2.mono hb.size))
theorem none_nil (w : World) : NoneAt w (.pointer none) := fun w' _ => by
  go_enter Try.func27, Try.ntmps27
  go_wp2
  go_ret
  exact ⟨rfl, rfl⟩
theorem none_zero {w : World} {s : Nat} (h : w.cell? ⟨s, 0, none⟩ = some (.map none)) (hs : s < w.heap.size) : NoneAt w (.pointer (some ⟨s, 0, none⟩)) := fun w' hb => by
  have hq := fun w => run_eql_map_nil (P := Try.prog) w 49 3 60 none Try.underlying49
  have h' := (hb.cell (p := ⟨s, 0, none⟩) hs).trans h
  clear h hb
  go_enter Try.func27, Try.ntmps27
  go_wp2
  go_ret
  exact ⟨rfl, rfl⟩
theorem ask_none {w : World} {p : Value} (h : NoneAt w p) (t id m : Int) : Calls Try.prog 9 #[p, iv t, iv id, iv m] w fun e w' => e = .returned (.tuple #[.bool false, .int .i64 1]) ∧ w = w' := by
  have H := Lib.hid (h w (Below.refl _ _))
  clear h
  go_enter Try.func9, Try.ntmps9
  go_wp2_with (go_at_call 27; refine H.out.mono ?_; rintro e w' ⟨rfl, rfl⟩)
  exact bodyPost_ret (results_tmp2 rfl _ _ _) rfl ⟨rfl, rfl⟩
theorem cancel_none {w : World} {p : Value} (h : NoneAt w p) (t : Int) : Calls Try.prog 26 #[p, iv t] w fun e w' => e = .returned (.tuple #[.slice none 0 0, .bool false]) ∧ w = w' := by
  have H := Lib.hid (h w (Below.refl _ _))
  clear h
  go_enter Try.func26, Try.ntmps26
  go_wp2_with (go_at_call 27; refine H.out.mono ?_; rintro e w' ⟨rfl, rfl⟩)
  exact bodyPost_ret (results_tmp2 rfl _ _ _) rfl ⟨rfl, rfl⟩
theorem release_none {w : World} {p : Value} (h : NoneAt w p) (t : Int) : Calls Try.prog 13 #[p, iv t] w fun e w' => e = .returned (.slice none 0 0) ∧ w = w' := by
  have H := Lib.hid (h w (Below.refl _ _))
  clear h
  go_enter Try.func13, Try.ntmps13
  go_wp2_with (go_at_call 27; refine H.out.mono ?_; rintro e w' ⟨rfl, rfl⟩)
  go_ret
  exact ⟨rfl, rfl⟩
theorem holders_none {w : World} {p : Value} (h : NoneAt w p) (t : Int) : Calls Try.prog 15 #[p, iv t] w fun e w' => e = .returned (.slice none 0 0) ∧ w = w' := by
  have H := Lib.hid (h w (Below.refl _ _))
  clear h
  go_enter Try.func15, Try.ntmps15
  go_wp2_with (go_at_call 27; refine H.out.mono ?_; rintro e w' ⟨rfl, rfl⟩)
  go_ret
  exact ⟨rfl, rfl⟩
theorem queue_none {w : World} {p : Value} (h : NoneAt w p) (t : Int) : Calls Try.prog 11 #[p, iv t] w fun e w' => e = .returned (.slice none 0 0) ∧ w = w' := by
  have H := Lib.hid (h w (Below.refl _ _))
  clear h
  go_enter Try.func11, Try.ntmps11
  go_wp2_with (go_at_call 27; refine H.out.mono ?_; rintro e w' ⟨rfl, rfl⟩)
  go_ret
  exact ⟨rfl, rfl⟩
theorem held_none {w : World} {p : Value} (h : NoneAt w p) (t id : Int) : Calls Try.prog 18 #[p, iv t, iv id] w fun e w' => e = .returned (.int .i64 0) ∧ w = w' := by
  have H := Lib.hid (h w (Below.refl _ _))
  clear h
  go_enter Try.func18, Try.ntmps18
  go_wp2_with (go_at_call 27; refine H.out.mono ?_; rintro e w' ⟨rfl, rfl⟩)
  go_ret
  exact ⟨rfl, rfl⟩
theorem wants_none {w : World} {p : Value} (h : NoneAt w p) (t : Int) : Calls Try.prog 14 #[p, iv t] w fun e w' => e = .returned (.tuple #[.agg #[iv 0, iv 0, iv 0], .bool false]) ∧ Below w.heap.size w w' := by
  have H := Lib.hid (h _ ((Below.refl _ w).alloc (Nat.le_refl _) (.cells #[iv 0, iv 0, iv 0] 34)))
  have hn := Go.heap_alloc_new w (.cells #[.int .i64 0, .int .i64 0, .int .i64 0] 34)
  clear h
  go_enter Try.func14, Try.ntmps14
  go_wp2_with (go_at_call 27; refine H.out.mono ?_; rintro e w' ⟨rfl, rfl⟩)
  have r0 : (w.alloc (.cells #[.int .i64 0, .int .i64 0, .int .i64 0] 34)).cell? ⟨w.heap.size, 0, none⟩ = some (.int .i64 0) := by simp only [World.cell?, hn]; rfl
  have r1 : (w.alloc (.cells #[.int .i64 0, .int .i64 0, .int .i64 0] 34)).cell? ⟨w.heap.size, 1, none⟩ = some (.int .i64 0) := by simp only [World.cell?, hn]; rfl
  have r2 : (w.alloc (.cells #[.int .i64 0, .int .i64 0, .int .i64 0] 34)).cell? ⟨w.heap.size, 2, none⟩ = some (.int .i64 0) := by simp only [World.cell?, hn]; rfl
  exact bodyPost_ret (v := .tuple #[.agg #[iv 0, iv 0, iv 0], .bool false]) (by simp [results, Try.results14, go_sem, r0, r1, r2]) rfl ⟨rfl, (Below.refl _ _).alloc (Nat.le_refl _) _⟩
theorem waits_none {w : World} {p : Value} (h : NoneAt w p) (t : Int) : Calls Try.prog 17 #[p, iv t] w fun e w' => e = .returned (.slice none 0 0) ∧ Below w.heap.size w w' := by
  have H := Lib.hid (wants_none h t)
  clear h
  go_enter Try.func17, Try.ntmps17
  go_wp2_with (go_at_call 14; refine H.out.mono ?_; rintro e w' ⟨rfl, hb⟩)
  go_ret
  exact ⟨rfl, hb.alloc hb.size _⟩
end Go.Proofs.Ytamjopgpmeeheaa
