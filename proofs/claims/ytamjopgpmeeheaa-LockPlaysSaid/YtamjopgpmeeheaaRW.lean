/- The reference's table; without (50), Has (19). -/
import Derived.Test.YtamjopgpmeeheaaSM
namespace Go.Proofs.Ytamjopgpmeeheaa
open Go.RowKit
set_option linter.unusedVariables false

/-- the reference's table in memory -/
def RTab (F : Nat → Prop) (w : World) (s : Nat) (hd wt : List G3) : Prop := ∃ v1 v2, w.heap[s]? = some (.cells #[v1, v2] 39 (0, 0)) ∧ TrisIn F w v1 hd ∧ TrisIn F w v2 wt
theorem RTab.keep {F : Nat → Prop} {w w' : World} {s : Nat} {hd wt : List G3} (h : RTab F w s hd wt) (hs : w'.heap[s]? = w.heap[s]?) (hk : Keeps F w w') : RTab F w' s hd wt := by
  obtain ⟨v1, v2, h1, h2, h3⟩ := h
  exact ⟨v1, v2, hs.trans h1, h2.keep hk, h3.keep hk⟩

def outG (l : List G3) (t : Int) : List G3 := l.filter (fun g => g.1 != t)
set_option maxRecDepth 100000 in
set_option maxHeartbeats 4000000 in
theorem without_any {F : Nat → Prop} {w : World} {v : Value} {l : List G3} (h : TrisIn F w v l) (hF : ∀ k, F k → k < w.heap.size) (hl : l.length ≤ 1000000) (t : Int) :
    Calls Try.prog 50 #[v, iv t] w fun e w' => (∃ v', e = .returned v' ∧ TrisIn (fun k => w.heap.size ≤ k ∧ k < w'.heap.size) w' v' (outG l t)) ∧ Below w.heap.size w w' := by
  obtain ⟨i0, hi, hz0, hz1, hz2⟩ := info_parts Try.info34
  obtain ⟨a, c, rfl, hl1, hl2, hc⟩ := h
  have HC := Lib.hid hc
  clear hc
  go_enter Try.func50, Try.ntmps50
  go_wp2_with fail
  go_loopw [5, 6] (fun v i wr => ∃ k : Nat, k ≤ l.length ∧ i = .int .i64 k ∧ wr.ownsRow w.heap.size 34 3 v (outG (l.take k) t).length (flat3 (outG (l.take k) t)) ∧ Below w.heap.size w wr) (fun v i _ => l.length - (Lib.intOf i).toNat)
  case atStart => exact ⟨0, Nat.zero_le _, rfl, World.ownsRow_nil _ _ _ _, Below.refl _ _⟩
  case round =>
    obtain ⟨k, hk, rfl, hown, hbr⟩ := hrel
    have HBR := Lib.hid hbr
    have hsr := hbr.size
    obtain ⟨av, cv, rfl⟩ := own_form hown
    have HOWN := Lib.hid hown
    have hle : (outG (l.take k) t).length ≤ 1000000 := Nat.le_trans (List.length_filter_le ..) (by simp; omega)
    clear hbr hown
    by_cases hlt : k < l.length
    · obtain ⟨⟨x0, x1, x2⟩, hx⟩ : ∃ x, l[k]? = some x := ⟨_, List.getElem?_eq_getElem hlt⟩
      rcases HC.out with h | ⟨g, off, rfl, hg, hcl⟩
      · rw [h] at hlt; simp at hlt
      have hgl := hF g hg
      obtain ⟨a0, a1, a2⟩ := hcl k _ hx
      have d0 := (HBR.out.cell (p := ⟨g, off + k * 3, none⟩) hgl).trans a0
      have d1 := (HBR.out.cell (p := ⟨g, off + k * 3 + 1, none⟩) hgl).trans a1
      have d2 := (HBR.out.cell (p := ⟨g, off + k * 3 + 2, none⟩) hgl).trans a2
      simp only at d0 d1 d2
      have k0 : (0 : Int) ≤ (k : Int) := by omega
      have k1 : (k : Int) < (l.length : Int) := by omega
      have HX := Lib.hid hx
      clear a0 a1 a2 hcl hx
      by_cases ht : x0 = t
      · have hb1 : (x0 != t) = false := by simp [ht]
        have hout : outG (l.take (k + 1)) t = outG (l.take k) t := by
          rw [List.take_add_one, HX.out]; unfold outG; rw [List.filter_append]; simp [ht]
        have HOUT := Lib.hid hout
        clear ht hout
        go_wp2
        go_roundw
        case rel => exact ⟨k + 1, by omega, by go_num, by rw [HOUT.out]; exact HOWN.out, HBR.out⟩
        case measure => simp [Lib.intOf]; omega
      · have hb1 : (x0 != t) = true := by simp [ht]
        have hout : outG (l.take (k + 1)) t = outG (l.take k) t ++ [(x0, x1, x2)] := by
          rw [List.take_add_one, HX.out]; unfold outG; rw [List.filter_append]; simp [ht]
        have HOUT := Lib.hid hout
        clear hout
        obtain ⟨n, hn⟩ : ∃ n, (outG (l.take k) t).length = n := ⟨_, rfl⟩
        rw [hn] at HOWN hle ⊢
        have HNN := Lib.hid hn
        clear hn
        go_wp2_with (at_builtin; refine wpList_append_own_at _ rfl _ _ 31 rfl w.heap.size 34 i0 (.agg #[.int .i64 0, .int .i64 0, .int .i64 0]) 3 24 Try.underlying31 hi hz0 hz1 hz2 rfl (by decide) _ _ _ rfl (ownsRow_alloc HOWN.out _) ⟨wr.heap.size, 0, none⟩ 1 1 [iv x0, iv x1, iv x2] rfl rfl (cells_new2 (xs := [iv x0, iv x1, iv x2])) (by simp [Value.oneCell']) (by unfold maxLen; omega) (by omega) (by simp; omega) ?_; intro v' w7 hown7 hgrow hnil hloc; obtain ⟨a7, n7, c7, rfl⟩ := slice_form hown7)
        go_roundw
        case rel =>
          refine ⟨k + 1, by omega, by go_num, ?_, ?_⟩
          · rw [HOUT.out, flat3_snoc, List.length_append, HNN.out]
            exact hown7
          · exact (HBR.out.alloc (by omega) _).trans ⟨hgrow.os, hgrow.tape, hgrow.output, hgrow.size, fun j hj => hgrow.block j (by simp; omega) (fun e => by have := (ownsRow_base HOWN.out e.symm).1; omega)⟩
        case measure => simp [Lib.intOf]; omega
    · obtain rfl : k = l.length := by omega
      go_wp2
      go_ret
      have h := HOWN.out
      rw [List.take_length] at h
      exact ⟨⟨_, by rw [List.take_length]; rfl, trisIn_row h⟩, HBR.out⟩
end Go.Proofs.Ytamjopgpmeeheaa
