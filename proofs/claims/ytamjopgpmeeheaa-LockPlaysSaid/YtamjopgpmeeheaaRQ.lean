/- The reference's Queue (22), Holders (21). -/
import Derived.Test.YtamjopgpmeeheaaRW
namespace Go.Proofs.Ytamjopgpmeeheaa
open Go.RowKit
set_option linter.unusedVariables false

def atG (l : List G3) (nd : Int) : List G3 := l.filter (fun g => g.2.1 == nd)

set_option maxRecDepth 100000 in
set_option maxHeartbeats 4000000 in
theorem rqueue_any {F : Nat → Prop} {w : World} {s : Nat} {hd wt : List G3} (h : RTab F w s hd wt) (hF : ∀ k, F k → k < w.heap.size) (hl : wt.length ≤ 1000000) (nd : Int) :
    Calls Try.prog 22 #[.pointer (some ⟨s, 0, none⟩), iv nd] w fun e w' => (∃ v', e = .returned v' ∧ TrisIn (fun k => w.heap.size ≤ k ∧ k < w'.heap.size) w' v' (atG wt nd)) ∧ Below w.heap.size w w' := by
  obtain ⟨i0, hi, hz0, hz1, hz2⟩ := info_parts Try.info34
  obtain ⟨v1, v2, hcell, ht1, ht2⟩ := h
  obtain ⟨a, c, rfl, hl1, hl2, hc⟩ := ht2
  obtain ⟨ao, co, rfl, -, -, -⟩ := ht1
  have hsl : s < w.heap.size := (Array.getElem?_eq_some_iff.1 hcell).1
  have c0 : w.cell? ⟨s, 1, none⟩ = some (.slice a wt.length c) := by simp [World.cell?, hcell]
  have HC := Lib.hid hc
  have HC0 := Lib.hid c0
  clear hc hcell c0
  go_enter Try.func22, Try.ntmps22
  go_wp2_with fail
  go_loopw [5, 6] (fun v i wr => ∃ k : Nat, k ≤ wt.length ∧ i = .int .i64 k ∧ wr.ownsRow w.heap.size 34 3 v (atG (wt.take k) nd).length (flat3 (atG (wt.take k) nd)) ∧ Below w.heap.size w wr) (fun v i _ => wt.length - (Lib.intOf i).toNat)
  case atStart => exact ⟨0, Nat.zero_le _, rfl, World.ownsRow_nil _ _ _ _, Below.refl _ _⟩
  case round =>
    obtain ⟨k, hk, rfl, hown, hbr⟩ := hrel
    have HBR := Lib.hid hbr
    have hsr := hbr.size
    obtain ⟨av, cv, rfl⟩ := own_form hown
    have HOWN := Lib.hid hown
    have hle : (atG (wt.take k) nd).length ≤ 1000000 := Nat.le_trans (List.length_filter_le ..) (by simp; omega)
    have x9 := (hbr.cell (p := ⟨s, 1, none⟩) hsl).trans HC0.out
    clear hbr hown
    by_cases hlt : k < wt.length
    · obtain ⟨⟨x0, x1, x2⟩, hx⟩ : ∃ x, wt[k]? = some x := ⟨_, List.getElem?_eq_getElem hlt⟩
      rcases HC.out with h | ⟨g, off, rfl, hg, hcl⟩
      · rw [h] at hlt; simp at hlt
      have hgl := hF g hg
      obtain ⟨a0, a1, a2⟩ := hcl k _ hx
      have d0 := (HBR.out.cell (p := ⟨g, off + k * 3, none⟩) hgl).trans a0
      have d1 := (HBR.out.cell (p := ⟨g, off + k * 3 + 1, none⟩) hgl).trans a1
      have d2 := (HBR.out.cell (p := ⟨g, off + k * 3 + 2, none⟩) hgl).trans a2
      simp only at d0 d1 d2
      have k0 : (0 : Int) ≤ (k : Int) := by omega
      have k1 : (k : Int) < (wt.length : Int) := by omega
      have HX := Lib.hid hx
      clear a0 a1 a2 hcl hx
      by_cases ht : x1 = nd
      · have hb1 : (x1 == nd) = true := by simp [ht]
        have hout : atG (wt.take (k + 1)) nd = atG (wt.take k) nd ++ [(x0, x1, x2)] := by
          rw [List.take_add_one, HX.out]; unfold atG; rw [List.filter_append]; simp [ht]
        have HOUT := Lib.hid hout
        clear hout ht
        obtain ⟨n, hn⟩ : ∃ n, (atG (wt.take k) nd).length = n := ⟨_, rfl⟩
        rw [hn] at HOWN hle ⊢
        have HNN := Lib.hid hn
        clear hn
        go_wp2_with (at_builtin; refine wpList_append_own_at _ rfl _ _ 31 rfl w.heap.size 34 i0 (.agg #[.int .i64 0, .int .i64 0, .int .i64 0]) 3 24 Try.underlying31 hi hz0 hz1 hz2 rfl (by decide) _ _ _ rfl (ownsRow_alloc HOWN.out _) ⟨wr.heap.size, 0, none⟩ 1 1 [iv x0, iv x1, iv x2] rfl rfl (cells_new2 (xs := [iv x0, iv x1, iv x2])) (by simp [Value.oneCell']) (by unfold maxLen; omega) (by omega) (by simp; omega) ?_; intro v' w7 hown7 hgrow hnil hloc; obtain ⟨a7, n7, c7, rfl⟩ := slice_form hown7)
        go_roundw
        case rel =>
          refine ⟨k + 1, by omega, by go_num, ?_, ?_⟩
          · rw [HOUT.out, flat3_snoc, List.length_append, HNN.out]
            exact hown7
          · exact (HBR.out.alloc (by omega) _).trans ⟨hgrow.os, hgrow.tape, hgrow.output, hgrow.size, fun j hj => hgrow.block j (by simp; omega) (fun e => by have := (ownsRow_base HOWN.out e.symm).1; omega)⟩
        case measure => simp [Lib.intOf]; omega
      · have hb1 : (x1 == nd) = false := by simp [ht]
        have hout : atG (wt.take (k + 1)) nd = atG (wt.take k) nd := by
          rw [List.take_add_one, HX.out]; unfold atG; rw [List.filter_append]; simp [ht]
        have HOUT := Lib.hid hout
        clear ht hout
        go_wp2
        go_roundw
        case rel => exact ⟨k + 1, by omega, by go_num, by rw [HOUT.out]; exact HOWN.out, HBR.out⟩
        case measure => simp [Lib.intOf]; omega
    · obtain rfl : k = wt.length := by omega
      go_wp2
      go_ret
      have h := HOWN.out
      rw [List.take_length] at h
      exact ⟨⟨_, by rw [List.take_length]; rfl, trisIn_row h⟩, HBR.out⟩

set_option maxRecDepth 100000 in
set_option maxHeartbeats 4000000 in
theorem rholders_any {F : Nat → Prop} {w : World} {s : Nat} {hd wt : List G3} (h : RTab F w s hd wt) (hF : ∀ k, F k → k < w.heap.size) (hl : hd.length ≤ 1000000) (nd : Int) :
    Calls Try.prog 21 #[.pointer (some ⟨s, 0, none⟩), iv nd] w fun e w' => (∃ v', e = .returned v' ∧ TrisIn (fun k => w.heap.size ≤ k ∧ k < w'.heap.size) w' v' (atG hd nd)) ∧ Below w.heap.size w w' := by
  obtain ⟨i0, hi, hz0, hz1, hz2⟩ := info_parts Try.info34
  obtain ⟨v1, v2, hcell, ht1, ht2⟩ := h
  obtain ⟨a, c, rfl, hl1, hl2, hc⟩ := ht1
  obtain ⟨ao, co, rfl, -, -, -⟩ := ht2
  have hsl : s < w.heap.size := (Array.getElem?_eq_some_iff.1 hcell).1
  have c0 : w.cell? ⟨s, 0, none⟩ = some (.slice a hd.length c) := by simp [World.cell?, hcell]
  have HC := Lib.hid hc
  have HC0 := Lib.hid c0
  clear hc hcell c0
  go_enter Try.func21, Try.ntmps21
  go_wp2_with fail
  go_loopw [5, 6] (fun v i wr => ∃ k : Nat, k ≤ hd.length ∧ i = .int .i64 k ∧ wr.ownsRow w.heap.size 34 3 v (atG (hd.take k) nd).length (flat3 (atG (hd.take k) nd)) ∧ Below w.heap.size w wr) (fun v i _ => hd.length - (Lib.intOf i).toNat)
  case atStart => exact ⟨0, Nat.zero_le _, rfl, World.ownsRow_nil _ _ _ _, Below.refl _ _⟩
  case round =>
    obtain ⟨k, hk, rfl, hown, hbr⟩ := hrel
    have HBR := Lib.hid hbr
    have hsr := hbr.size
    obtain ⟨av, cv, rfl⟩ := own_form hown
    have HOWN := Lib.hid hown
    have hle : (atG (hd.take k) nd).length ≤ 1000000 := Nat.le_trans (List.length_filter_le ..) (by simp; omega)
    have x9 := (hbr.cell (p := ⟨s, 0, none⟩) hsl).trans HC0.out
    clear hbr hown
    by_cases hlt : k < hd.length
    · obtain ⟨⟨x0, x1, x2⟩, hx⟩ : ∃ x, hd[k]? = some x := ⟨_, List.getElem?_eq_getElem hlt⟩
      rcases HC.out with h | ⟨g, off, rfl, hg, hcl⟩
      · rw [h] at hlt; simp at hlt
      have hgl := hF g hg
      obtain ⟨a0, a1, a2⟩ := hcl k _ hx
      have d0 := (HBR.out.cell (p := ⟨g, off + k * 3, none⟩) hgl).trans a0
      have d1 := (HBR.out.cell (p := ⟨g, off + k * 3 + 1, none⟩) hgl).trans a1
      have d2 := (HBR.out.cell (p := ⟨g, off + k * 3 + 2, none⟩) hgl).trans a2
      simp only at d0 d1 d2
      have k0 : (0 : Int) ≤ (k : Int) := by omega
      have k1 : (k : Int) < (hd.length : Int) := by omega
      have HX := Lib.hid hx
      clear a0 a1 a2 hcl hx
      by_cases ht : x1 = nd
      · have hb1 : (x1 == nd) = true := by simp [ht]
        have hout : atG (hd.take (k + 1)) nd = atG (hd.take k) nd ++ [(x0, x1, x2)] := by
          rw [List.take_add_one, HX.out]; unfold atG; rw [List.filter_append]; simp [ht]
        have HOUT := Lib.hid hout
        clear hout ht
        obtain ⟨n, hn⟩ : ∃ n, (atG (hd.take k) nd).length = n := ⟨_, rfl⟩
        rw [hn] at HOWN hle ⊢
        have HNN := Lib.hid hn
        clear hn
        go_wp2_with (at_builtin; refine wpList_append_own_at _ rfl _ _ 31 rfl w.heap.size 34 i0 (.agg #[.int .i64 0, .int .i64 0, .int .i64 0]) 3 24 Try.underlying31 hi hz0 hz1 hz2 rfl (by decide) _ _ _ rfl (ownsRow_alloc HOWN.out _) ⟨wr.heap.size, 0, none⟩ 1 1 [iv x0, iv x1, iv x2] rfl rfl (cells_new2 (xs := [iv x0, iv x1, iv x2])) (by simp [Value.oneCell']) (by unfold maxLen; omega) (by omega) (by simp; omega) ?_; intro v' w7 hown7 hgrow hnil hloc; obtain ⟨a7, n7, c7, rfl⟩ := slice_form hown7)
        go_roundw
        case rel =>
          refine ⟨k + 1, by omega, by go_num, ?_, ?_⟩
          · rw [HOUT.out, flat3_snoc, List.length_append, HNN.out]
            exact hown7
          · exact (HBR.out.alloc (by omega) _).trans ⟨hgrow.os, hgrow.tape, hgrow.output, hgrow.size, fun j hj => hgrow.block j (by simp; omega) (fun e => by have := (ownsRow_base HOWN.out e.symm).1; omega)⟩
        case measure => simp [Lib.intOf]; omega
      · have hb1 : (x1 == nd) = false := by simp [ht]
        have hout : atG (hd.take (k + 1)) nd = atG (hd.take k) nd := by
          rw [List.take_add_one, HX.out]; unfold atG; rw [List.filter_append]; simp [ht]
        have HOUT := Lib.hid hout
        clear ht hout
        go_wp2
        go_roundw
        case rel => exact ⟨k + 1, by omega, by go_num, by rw [HOUT.out]; exact HOWN.out, HBR.out⟩
        case measure => simp [Lib.intOf]; omega
    · obtain rfl : k = hd.length := by omega
      go_wp2
      go_ret
      have h := HOWN.out
      rw [List.take_length] at h
      exact ⟨⟨_, by rw [List.take_length]; rfl, trisIn_row h⟩, HBR.out⟩
end Go.Proofs.Ytamjopgpmeeheaa
