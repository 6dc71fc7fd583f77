/- Find (9), slices.Max (20). -/
import Derived.Test.YtkfmgeddckcnkaaFI
namespace Go.Proofs.Ytkfmgeddckcnkaa
open Go.RowKit
open Go.ChangeMaps (setBlock)
set_option linter.unusedVariables false

theorem cycleFind_any {F : Nat → Prop} {w : World} {v : Value} {l : List Edge} (h : EdgesIn F w v l) (hF : ∀ k, F k → k < w.heap.size) (t : Int) :
    Calls Try.prog 9 #[v, .int .i64 t] w fun e w' => (∃ r, e = .returned r ∧ IntsIn (fun k => w.heap.size ≤ k ∧ k < w'.heap.size) w' r (findOf (edgesOf l) t)) ∧ Below w.heap.size w w' := by
  have HO := Lib.hid (of_any h hF)
  clear h
  go_enter Try.func9, Try.ntmps9
  go_wp2_with (first
    | (go_at_call 14; refine HO.out.mono ?_; rintro e w1 ⟨rfl, hg, hlt, hb1⟩; have HB1 := Lib.hid hb1; have HFI := Lib.hid (find_any hg (fine_edgesOf l) t); have hle := hb1.size; clear hg hb1)
    | (go_at_call 15; refine HFI.out.mono ?_; rintro e w2 ⟨⟨r, rfl, hi⟩, hb2⟩; have HI := Lib.hid hi; have HB2 := Lib.hid hb2; clear hi hb2))
  go_ret
  exact ⟨⟨_, rfl, HI.out.mono (fun k hk => ⟨Nat.le_trans hle hk.1, hk.2⟩)⟩, HB1.out.trans (HB2.out.mono hle)⟩

def maxFrom (x : Int) (xs : List Int) : Int := xs.foldl max x
theorem maxFrom_mem : ∀ (xs : List Int) (x : Int), maxFrom x xs ∈ x :: xs
  | [], x => by simp [maxFrom]
  | y :: ys, x => by
    have h := maxFrom_mem ys (max x y)
    have e : maxFrom x (y :: ys) = maxFrom (max x y) ys := rfl
    rw [e]
    rcases List.mem_cons.1 h with h | h
    · rw [h]
      rcases Int.le_total x y with hxy | hxy
      · rw [Int.max_eq_right hxy]; simp
      · rw [Int.max_eq_left hxy]; simp
    · simp [h]
theorem maxFrom_le : ∀ (xs : List Int) (x : Int), ∀ y ∈ x :: xs, y ≤ maxFrom x xs
  | [], x, y, h => by simp at h; subst h; exact Int.le_refl _
  | z :: zs, x, y, h => by
    have e : maxFrom x (z :: zs) = maxFrom (max x z) zs := rfl
    rw [e]
    have hb := maxFrom_le zs (max x z)
    rcases List.mem_cons.1 h with rfl | h
    · exact Int.le_trans (Int.le_max_left _ z) (hb _ (by simp))
    · rcases List.mem_cons.1 h with rfl | h
      · exact Int.le_trans (Int.le_max_right x _) (hb _ (by simp))
      · exact hb _ (by simp [h])

set_option maxRecDepth 100000 in
set_option maxHeartbeats 4000000 in
theorem max_any {F : Nat → Prop} {w : World} {v : Value} {x : Int} {xs : List Int} (h : IntsIn F w v (x :: xs)) :
    Calls Try.prog 20 #[v] w fun e w' => e = .returned (.int .i64 (maxFrom x xs)) ∧ w = w' := by
  have hl := h.len
  obtain ⟨a, c, rfl, -, -, hx⟩ := h
  rcases hx with hx | ⟨g, off, rfl, -, hc⟩
  · cases hx
  have hc0 := hc 0 x rfl
  obtain ⟨ys, hys⟩ : ∃ ys, x :: xs = ys := ⟨_, rfl⟩
  have hyl : ys.length = xs.length + 1 := by rw [← hys]; rfl
  have HYL := Lib.hid hyl
  rw [hys] at hc hl ⊢
  have HYS := Lib.hid hys
  have hn1 : ¬ ((ys.length : Int) < 1) := by omega
  have hn0 : (0 : Int) < (ys.length : Int) := by omega
  simp only [Nat.add_zero] at hc0
  clear hys hyl
  go_enter Try.func20, Try.ntmps20
  go_wp2
  go_loopw [3, 4] (fun b i wx => ∃ k : Nat, k ≤ xs.length ∧ i = .int .i64 ((k : Int) + 1) ∧ b = .int .i64 (maxFrom x (xs.take k)) ∧ w = wx) (fun _ i _ => ys.length - (Lib.intOf i).toNat)
  case atStart => exact ⟨0, Nat.zero_le _, rfl, rfl, rfl⟩
  case round =>
    obtain ⟨k, hk, rfl, rfl, rfl⟩ := hrel
    have hyl := HYL.out
    by_cases hlt : k < xs.length
    · obtain ⟨y, hyk⟩ : ∃ y, xs[k]? = some y := ⟨_, List.getElem?_eq_getElem hlt⟩
      have hcy := hc (k + 1) y (by rw [← HYS.out]; simpa using hyk)
      have hst : maxFrom x (xs.take (k + 1)) = max (maxFrom x (xs.take k)) y := by
        unfold maxFrom
        rw [List.take_add_one, hyk]; simp
      have HST := Lib.hid hst
      have q0 : (0 : Int) ≤ (k : Int) + 1 := by omega
      have q1 : (k : Int) + 1 < (ys.length : Int) := by omega
      obtain ⟨b, hb⟩ : ∃ b, maxFrom x (xs.take k) = b := ⟨_, rfl⟩
      rw [hb] at HST ⊢
      have e1 : ((k : Int) + 1).toNat = k + 1 := by omega
      clear hst hyk hb hyl
      go_wp2
      go_roundw
      case rel => exact ⟨k + 1, by omega, by go_num, by rw [HST.out], trivial⟩
      case measure => have := HYL.out; simp [Lib.intOf]; omega
    · obtain rfl : k = xs.length := by omega
      have q1 : ¬ ((xs.length : Int) + 1 < (ys.length : Int)) := by omega
      rw [List.take_length]
      clear hyl
      go_wp2
      go_ret
      exact ⟨rfl, rfl⟩
end Go.Proofs.Ytkfmgeddckcnkaa
