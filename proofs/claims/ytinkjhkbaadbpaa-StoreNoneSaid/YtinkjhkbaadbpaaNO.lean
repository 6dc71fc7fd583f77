/- A store that is not there, or that no call made. -/
import Derived.Test.YtinkjhkbaadbpaaSR
namespace Go.Proofs.Ytinkjhkbaadbpaa
open Go.RowKit
set_option linter.unusedVariables false

/-- p leads to no store, or to one without a map. -/
def NoStore (w : World) (p : Value) : Prop := p = .pointer none ∨ ∃ s, p = .pointer (some ⟨s, 0, none⟩) ∧ s < w.heap.size ∧ w.cell? ⟨s, 0, none⟩ = some (.map none)

theorem none_yes {w : World} {p : Value} (h : NoStore w p) : Calls Try.prog 91 #[p] w fun e w' => e = .returned (.bool true) ∧ w = w' := by
  have hq := fun w => run_eql_map_nil (P := Try.prog) w 96 3 79 none Try.underlying96
  rcases h with rfl | ⟨s, rfl, -, h⟩
  · go_enter Try.func91, Try.ntmps91
    go_wp2
    go_ret
    exact ⟨rfl, rfl⟩
  · go_enter Try.func91, Try.ntmps91
    go_wp2
    go_ret
    exact ⟨rfl, rfl⟩
theorem NoStore.alloc {w : World} {p : Value} (h : NoStore w p) (o : Obj) : NoStore (w.alloc o) p := by
  rcases h with rfl | ⟨s, rfl, hs, h⟩
  · exact .inl rfl
  · exact .inr ⟨s, rfl, by simp; omega, (World.cell?_of_block (Go.heap_alloc_old w o hs)).trans h⟩
theorem NoStore.below {w w' : World} {p : Value} (h : NoStore w p) (hb : Below w.heap.size w w') : NoStore w' p := by
  rcases h with rfl | ⟨s, rfl, hs, h⟩
  · exact .inl rfl
  · exact .inr ⟨s, rfl, Nat.lt_of_lt_of_le hs hb.size, (hb.cell (p := ⟨s, 0, none⟩) hs).trans h⟩

theorem no_last {w : World} {p : Value} (h : NoStore w p) : Calls Try.prog 48 #[p] w fun e w' => e = .returned (.int .u64 0) ∧ w = w' := by
  go_enter Try.func48, Try.ntmps48
  go_wp2_with (go_at_call 91; refine (none_yes h).mono ?_; rintro e w' ⟨rfl, rfl⟩)
  go_ret
  exact ⟨rfl, rfl⟩
theorem no_fresh {w : World} {p : Value} (h : NoStore w p) : Calls Try.prog 54 #[p] w fun e w' => e = .returned (.int .i64 0) ∧ w = w' := by
  go_enter Try.func54, Try.ntmps54
  go_wp2_with (go_at_call 91; refine (none_yes h).mono ?_; rintro e w' ⟨rfl, rfl⟩)
  go_ret
  exact ⟨rfl, rfl⟩
theorem no_install {w : World} {p : Value} (h : NoStore w p) (T : Int) (v : Value) : Calls Try.prog 42 #[p, .int .u64 T, v] w fun e w' => e = .returned (.int .i64 1) ∧ w = w' := by
  go_enter Try.func42, Try.ntmps42
  go_wp2_with (go_at_call 91; refine (none_yes h).mono ?_; rintro e w' ⟨rfl, rfl⟩)
  go_ret
  exact ⟨rfl, rfl⟩
theorem no_versions {w : World} {p : Value} (h : NoStore w p) (id : Int) : Calls Try.prog 46 #[p, .int .i64 id] w fun e w' => e = .returned (.slice none 0 0) ∧ w = w' := by
  go_enter Try.func46, Try.ntmps46
  go_wp2_with (go_at_call 91; refine (none_yes h).mono ?_; rintro e w' ⟨rfl, rfl⟩)
  go_ret
  exact ⟨rfl, rfl⟩
theorem no_ids {w : World} {p : Value} (h : NoStore w p) : Calls Try.prog 50 #[p] w fun e w' => e = .returned (.slice none 0 0) ∧ w = w' := by
  go_enter Try.func50, Try.ntmps50
  go_wp2_with (go_at_call 91; refine (none_yes h).mono ?_; rintro e w' ⟨rfl, rfl⟩)
  go_ret
  exact ⟨rfl, rfl⟩
set_option maxRecDepth 100000 in
theorem no_sweep {w : World} {p : Value} (h : NoStore w p) (T : Int) : Calls Try.prog 52 #[p, .int .u64 T] w fun e w' => e = .returned (.int .i64 0) ∧ Below w.heap.size w w' := by
  have hp : ∃ a, p = .pointer a := by rcases h with rfl | ⟨s, rfl, _⟩ <;> exact ⟨_, rfl⟩
  obtain ⟨a, rfl⟩ := hp
  refine (callsIn_wide (n := 10)).1 ?_
  refine callsIn_of_wp_marks Try.func52 rfl trivial ?_ rfl
  simp only [Try.ntmps52, List.size_toArray, List.length_cons, List.length_nil, Nat.reduceAdd, Nat.reduceSub, Array.replicate_succ, Array.replicate_zero, List.push_toArray, List.append_toArray, List.nil_append, List.cons_append]
  gi_wp2_with (first
    | (refine ⟨trivial, ?_⟩; gi_at_call 91; refine (callsIn_wide.2 (none_yes ((h.alloc _).alloc _))).mono ?_; rintro e w' ⟨rfl, rfl⟩)
    | (gi_at_call 91; refine (callsIn_wide.2 (none_yes ((h.alloc _).alloc _))).mono ?_; rintro e w' ⟨rfl, rfl⟩))
  exact ⟨_, results_tmp rfl _ _ _, rfl, ((Below.refl _ w).alloc (Nat.le_refl _) _).alloc (by simp) _⟩
theorem no_count {w : World} {p : Value} (h : NoStore w p) : Calls Try.prog 49 #[p] w fun e w' => e = .returned (.int .i64 0) ∧ Below w.heap.size w w' := by
  have hp : ∃ a, p = .pointer a := by rcases h with rfl | ⟨s, rfl, _⟩ <;> exact ⟨_, rfl⟩
  obtain ⟨a, rfl⟩ := hp
  refine (callsIn_wide (n := 10)).1 ?_
  refine callsIn_of_wp_marks Try.func49 rfl trivial ?_ rfl
  simp only [Try.ntmps49, List.size_toArray, List.length_cons, List.length_nil, Nat.reduceAdd, Nat.reduceSub, Array.replicate_succ, Array.replicate_zero, List.push_toArray, List.append_toArray, List.nil_append, List.cons_append]
  gi_wp2_with (first
    | (refine ⟨trivial, ?_⟩; gi_at_call 91; refine (callsIn_wide.2 (none_yes (h.alloc _))).mono ?_; rintro e w' ⟨rfl, rfl⟩)
    | (gi_at_call 91; refine (callsIn_wide.2 (none_yes (h.alloc _))).mono ?_; rintro e w' ⟨rfl, rfl⟩))
  exact ⟨_, results_tmp rfl _ _ _, rfl, (Below.refl _ w).alloc (Nat.le_refl _) _⟩
set_option maxRecDepth 100000 in
theorem no_at {w : World} {p : Value} (h : NoStore w p) (id T : Int) : Calls Try.prog 51 #[p, .int .i64 id, .int .u64 T] w fun e w' => e = .returned (.tuple #[recV Rec.zero (.slice none 0 0) (.slice none 0 0), .bool false]) ∧ Below w.heap.size w w' := by
  go_enter Try.func51, Try.ntmps51
  go_wp2_with (go_at_call 91; refine (none_yes (h.alloc _)).mono ?_; rintro e w' ⟨rfl, rfl⟩)
  refine bodyPost_ret (v := .tuple #[recV Rec.zero (.slice none 0 0) (.slice none 0 0), .bool false]) (by simp [results, Try.results51, go_sem, Rec.zero, *]) rfl ⟨rfl, ?_⟩
  exact (Below.refl _ w).alloc (Nat.le_refl _) _

theorem ints_nil (w : World) : Calls Try.prog 21 #[.slice none 0 0, .slice none 0 0] w fun e w' => e = .returned (.bool true) ∧ w = w' := by
  go_enter Try.func21, Try.ntmps21
  go_wp2
  refine wp_loop_rounds 1 ?_
  rw [rounds_succ]
  go_wp2
  go_ret
  exact ⟨rfl, rfl⟩
set_option maxRecDepth 100000 in
theorem same_zero (w : World) : Calls Try.prog 53 #[recV Rec.zero (.slice none 0 0) (.slice none 0 0), recV Rec.zero (.slice none 0 0) (.slice none 0 0)] w fun e w' => e = .returned (.bool true) ∧ Below w.heap.size w w' := by
  simp only [Rec.zero, recV]
  go_enter Try.func53, Try.ntmps53
  go_wp2_with (go_at_call 21; refine (ints_nil _).mono ?_; rintro e w' ⟨rfl, rfl⟩)
  go_ret
  exact ⟨rfl, ((Below.refl _ w).alloc (Nat.le_refl _) _).alloc (by simp) _⟩

set_option maxRecDepth 100000 in
set_option maxHeartbeats 4000000 in
theorem storeNone_walk (k id T : Int) (a : Option Addr) (n cap : Nat) (w : World) :
    Calls Try.prog 12 #[.agg #[.int .i64 k, .int .i64 id, .int .u64 T, .slice a n cap]] w fun e w' => e = .returned (.bool true) ∧ Below w.heap.size w w' := by
  go_enter Try.func12, Try.ntmps12
  go_wp2
  obtain ⟨W, hW⟩ : ∃ W, ((w.alloc (.cells #[.int .i64 k, .int .i64 id, .int .u64 T, .slice a n cap] 74)).alloc (.cells #[.map none, .int .i64 0, .int .u64 0] 98)).alloc (.cells #[.pointer none, .pointer (some ⟨w.heap.size + 1, 0, none⟩)] 68) = W := ⟨_, rfl⟩
  have hbW : Below w.heap.size w (((w.alloc (.cells #[.int .i64 k, .int .i64 id, .int .u64 T, .slice a n cap] 74)).alloc (.cells #[.map none, .int .i64 0, .int .u64 0] 98)).alloc (.cells #[.pointer none, .pointer (some ⟨w.heap.size + 1, 0, none⟩)] 68)) := (((Below.refl _ w).alloc (Nat.le_refl _) _).alloc (by simp) _).alloc (by simp; omega) _
  have k0 : (((w.alloc (.cells #[.int .i64 k, .int .i64 id, .int .u64 T, .slice a n cap] 74)).alloc (.cells #[.map none, .int .i64 0, .int .u64 0] 98)).alloc (.cells #[.pointer none, .pointer (some ⟨w.heap.size + 1, 0, none⟩)] 68)).heap[w.heap.size]? = some (.cells #[.int .i64 k, .int .i64 id, .int .u64 T, .slice a n cap] 74 (0, 0)) := (Go.heap_alloc_old _ _ (by simp; omega)).trans ((Go.heap_alloc_old _ _ (by simp)).trans (Go.heap_alloc_new w _))
  have k1 : (((w.alloc (.cells #[.int .i64 k, .int .i64 id, .int .u64 T, .slice a n cap] 74)).alloc (.cells #[.map none, .int .i64 0, .int .u64 0] 98)).alloc (.cells #[.pointer none, .pointer (some ⟨w.heap.size + 1, 0, none⟩)] 68)).heap[w.heap.size + 1]? = some (.cells #[.map none, .int .i64 0, .int .u64 0] 98 (0, 0)) := (Go.heap_alloc_old _ _ (by simp)).trans (by simpa using Go.heap_alloc_new (w.alloc (.cells #[.int .i64 k, .int .i64 id, .int .u64 T, .slice a n cap] 74)) (.cells #[.map none, .int .i64 0, .int .u64 0] 98))
  have k2 : (((w.alloc (.cells #[.int .i64 k, .int .i64 id, .int .u64 T, .slice a n cap] 74)).alloc (.cells #[.map none, .int .i64 0, .int .u64 0] 98)).alloc (.cells #[.pointer none, .pointer (some ⟨w.heap.size + 1, 0, none⟩)] 68)).heap[w.heap.size + 1 + 1]? = some (.cells #[.pointer none, .pointer (some ⟨w.heap.size + 1, 0, none⟩)] 68 (0, 0)) := by simpa using Go.heap_alloc_new ((w.alloc (.cells #[.int .i64 k, .int .i64 id, .int .u64 T, .slice a n cap] 74)).alloc (.cells #[.map none, .int .i64 0, .int .u64 0] 98)) (.cells #[.pointer none, .pointer (some ⟨w.heap.size + 1, 0, none⟩)] 68)
  rw [hW] at hbW k0 k1 k2 ⊢
  clear hW
  have hl0 := (Array.getElem?_eq_some_iff.1 k0).1
  have hl1 := (Array.getElem?_eq_some_iff.1 k1).1
  have hl2 := (Array.getElem?_eq_some_iff.1 k2).1
  go_loopw [5] (fun i wr => ∃ j : Nat, j ≤ 2 ∧ i = .int .i64 j ∧ Below W.heap.size W wr) (fun i _ => 2 - (Lib.intOf i).toNat)
  case atStart => exact ⟨0, by omega, rfl, Below.refl _ _⟩
  case round =>
    obtain ⟨j, hj, rfl, hbr⟩ := hrel
    have b0 := (hbr.block _ hl0).trans k0
    have b1 := (hbr.block _ hl1).trans k1
    have b2 := (hbr.block _ hl2).trans k2
    have g1 : wr.cell? ⟨w.heap.size, 1, none⟩ = some (.int .i64 id) := by simp [World.cell?, b0]
    have g2 : wr.cell? ⟨w.heap.size, 2, none⟩ = some (.int .u64 T) := by simp [World.cell?, b0]
    have g3 : wr.cell? ⟨w.heap.size, 3, none⟩ = some (.slice a n cap) := by simp [World.cell?, b0]
    have p0 : wr.cell? ⟨w.heap.size + 1 + 1, 0, none⟩ = some (.pointer none) := by simp [World.cell?, b2]
    have p1 : wr.cell? ⟨w.heap.size + 1 + 1, 1, none⟩ = some (.pointer (some ⟨w.heap.size + 1, 0, none⟩)) := by simp [World.cell?, b2]
    have hl : w.heap.size < wr.heap.size := Nat.lt_of_lt_of_le hl0 hbr.size
    have hn0 : NoStore wr (.pointer none) := .inl rfl
    have hn1 : NoStore wr (.pointer (some ⟨w.heap.size + 1, 0, none⟩)) := .inr ⟨_, rfl, Nat.lt_of_lt_of_le hl1 hbr.size, by simp [World.cell?, b1]⟩
    clear b0 b1 b2
    obtain rfl | rfl | rfl : j = 0 ∨ j = 1 ∨ j = 2 := by omega
    · have HN := Lib.hid hn0
      clear hn0 hn1
      go_wp2_with fail
      refine (no_at HN.out id T).mono ?_
      rintro e w1 ⟨rfl, hb1⟩
      simp only [recV, Rec.zero]
      go_wp2_with fail
      have hb2 : Below wr.heap.size wr (w1.alloc (.cells #[.int .i64 0, .string ⟨#[]⟩, .string ⟨#[]⟩, .int .i64 0, .slice none 0 0, .slice none 0 0, .bool false] 52)) := hb1.alloc hb1.size _
      have hz := Go.heap_alloc_new w1 (.cells #[.int .i64 0, .string ⟨#[]⟩, .string ⟨#[]⟩, .int .i64 0, .slice none 0 0, .slice none 0 0, .bool false] 52)
      generalize w1.alloc (.cells #[.int .i64 0, .string ⟨#[]⟩, .string ⟨#[]⟩, .int .i64 0, .slice none 0 0, .slice none 0 0, .bool false] 52) = W2 at *
      obtain ⟨z0, z1, z2, z3, z4, z5, z6⟩ := cells7 hz
      have g1 := (hb2.cell (p := ⟨w.heap.size, 1, none⟩) hl).trans g1
      have g2 := (hb2.cell (p := ⟨w.heap.size, 2, none⟩) hl).trans g2
      have g3 := (hb2.cell (p := ⟨w.heap.size, 3, none⟩) hl).trans g3
      have hl := Nat.lt_of_lt_of_le hl hb2.size
      have hns := HN.out.below hb2
      have HN := Lib.hid hns
      have HB := Lib.hid hb2
      clear hz hb1 hb2 hns p0 p1
      go_wp2_with (first
        | (go_at_call 54; refine (no_fresh HN.out).mono ?_; rintro e w' ⟨rfl, rfl⟩)
        | (go_at_call 48; refine (no_last HN.out).mono ?_; rintro e w' ⟨rfl, rfl⟩)
        | (go_at_call 53; refine (same_zero _).mono ?_; rintro e w3 ⟨rfl, hb3⟩; have g1 := (hb3.cell (p := ⟨w.heap.size, 1, none⟩) hl).trans g1; have g2 := (hb3.cell (p := ⟨w.heap.size, 2, none⟩) hl).trans g2; have g3 := (hb3.cell (p := ⟨w.heap.size, 3, none⟩) hl).trans g3; have hl := Nat.lt_of_lt_of_le hl hb3.size; have HN := Lib.hid (HN.out.below hb3); have HB := Lib.hid (HB.out.trans (hb3.mono HB.out.size)); clear hb3)
        | (go_at_call 42; refine (no_install HN.out _ _).mono ?_; rintro e w' ⟨rfl, rfl⟩)
        | (go_at_call 52; refine (no_sweep HN.out _).mono ?_; rintro e w3 ⟨rfl, hb3⟩; have g1 := (hb3.cell (p := ⟨w.heap.size, 1, none⟩) hl).trans g1; have hl := Nat.lt_of_lt_of_le hl hb3.size; have HN := Lib.hid (HN.out.below hb3); have HB := Lib.hid (HB.out.trans (hb3.mono HB.out.size)); clear hb3)
        | (go_at_call 46; refine (no_versions HN.out _).mono ?_; rintro e w' ⟨rfl, rfl⟩)
        | (go_at_call 49; refine (no_count HN.out).mono ?_; rintro e w3 ⟨rfl, hb3⟩; have HN := Lib.hid (HN.out.below hb3); have HB := Lib.hid (HB.out.trans (hb3.mono HB.out.size)); clear hb3)
        | (go_at_call 50; refine (no_ids HN.out).mono ?_; rintro e w' ⟨rfl, rfl⟩))
      go_roundw
      case rel => exact ⟨1, by omega, by go_num, hbr.trans (HB.out.mono hbr.size)⟩
      case measure => simp [Lib.intOf]
    · have HN := Lib.hid hn1
      clear hn0 hn1
      go_wp2_with fail
      refine (no_at HN.out id T).mono ?_
      rintro e w1 ⟨rfl, hb1⟩
      simp only [recV, Rec.zero]
      go_wp2_with fail
      have hb2 : Below wr.heap.size wr (w1.alloc (.cells #[.int .i64 0, .string ⟨#[]⟩, .string ⟨#[]⟩, .int .i64 0, .slice none 0 0, .slice none 0 0, .bool false] 52)) := hb1.alloc hb1.size _
      have hz := Go.heap_alloc_new w1 (.cells #[.int .i64 0, .string ⟨#[]⟩, .string ⟨#[]⟩, .int .i64 0, .slice none 0 0, .slice none 0 0, .bool false] 52)
      generalize w1.alloc (.cells #[.int .i64 0, .string ⟨#[]⟩, .string ⟨#[]⟩, .int .i64 0, .slice none 0 0, .slice none 0 0, .bool false] 52) = W2 at *
      obtain ⟨z0, z1, z2, z3, z4, z5, z6⟩ := cells7 hz
      have g1 := (hb2.cell (p := ⟨w.heap.size, 1, none⟩) hl).trans g1
      have g2 := (hb2.cell (p := ⟨w.heap.size, 2, none⟩) hl).trans g2
      have g3 := (hb2.cell (p := ⟨w.heap.size, 3, none⟩) hl).trans g3
      have hl := Nat.lt_of_lt_of_le hl hb2.size
      have hns := HN.out.below hb2
      have HN := Lib.hid hns
      have HB := Lib.hid hb2
      clear hz hb1 hb2 hns p0 p1
      go_wp2_with (first
        | (go_at_call 54; refine (no_fresh HN.out).mono ?_; rintro e w' ⟨rfl, rfl⟩)
        | (go_at_call 48; refine (no_last HN.out).mono ?_; rintro e w' ⟨rfl, rfl⟩)
        | (go_at_call 53; refine (same_zero _).mono ?_; rintro e w3 ⟨rfl, hb3⟩; have g1 := (hb3.cell (p := ⟨w.heap.size, 1, none⟩) hl).trans g1; have g2 := (hb3.cell (p := ⟨w.heap.size, 2, none⟩) hl).trans g2; have g3 := (hb3.cell (p := ⟨w.heap.size, 3, none⟩) hl).trans g3; have hl := Nat.lt_of_lt_of_le hl hb3.size; have HN := Lib.hid (HN.out.below hb3); have HB := Lib.hid (HB.out.trans (hb3.mono HB.out.size)); clear hb3)
        | (go_at_call 42; refine (no_install HN.out _ _).mono ?_; rintro e w' ⟨rfl, rfl⟩)
        | (go_at_call 52; refine (no_sweep HN.out _).mono ?_; rintro e w3 ⟨rfl, hb3⟩; have g1 := (hb3.cell (p := ⟨w.heap.size, 1, none⟩) hl).trans g1; have hl := Nat.lt_of_lt_of_le hl hb3.size; have HN := Lib.hid (HN.out.below hb3); have HB := Lib.hid (HB.out.trans (hb3.mono HB.out.size)); clear hb3)
        | (go_at_call 46; refine (no_versions HN.out _).mono ?_; rintro e w' ⟨rfl, rfl⟩)
        | (go_at_call 49; refine (no_count HN.out).mono ?_; rintro e w3 ⟨rfl, hb3⟩; have HN := Lib.hid (HN.out.below hb3); have HB := Lib.hid (HB.out.trans (hb3.mono HB.out.size)); clear hb3)
        | (go_at_call 50; refine (no_ids HN.out).mono ?_; rintro e w' ⟨rfl, rfl⟩))
      go_roundw
      case rel => exact ⟨2, by omega, by go_num, hbr.trans (HB.out.mono hbr.size)⟩
      case measure => simp [Lib.intOf]
    · go_wp2_with (go_at_call 38; refine (works_any _).mono ?_; rintro e w1 ⟨rfl, hb1⟩)
      go_ret
      exact ⟨rfl, (hbW.trans (hbr.mono hbW.size)).trans (hb1.mono (Nat.le_trans hbW.size hbr.size))⟩
end Go.Proofs.Ytinkjhkbaadbpaa
