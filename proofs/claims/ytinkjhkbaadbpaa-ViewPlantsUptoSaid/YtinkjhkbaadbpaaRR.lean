/- The document's Right. -/
import Derived.Test.YtinkjhkbaadbpaaR
import Derived.Deep.RegionWith
namespace Go.Proofs.Ytinkjhkbaadbpaa
open Go.RowKit
set_option linter.unusedVariables false

theorem allPos_false {xs : List Int} {k : Nat} {x : Int} (h : xs[k]? = some x) (hx : x < 1) : allPos xs = false := by
  unfold allPos
  rw [List.all_eq_false]
  exact ⟨x, List.mem_of_getElem? h, by simpa using hx⟩
theorem allPos_true {xs : List Int} (h : ∀ j y, j < xs.length → xs[j]? = some y → 1 ≤ y) : allPos xs = true := by
  unfold allPos
  rw [List.all_eq_true]
  intro x hx
  obtain ⟨j, hj⟩ := List.mem_iff_getElem?.1 hx
  simpa using h j x (List.getElem?_eq_some_iff.1 hj).1 hj

theorem low_any (xs : List Int) (F : Nat → Prop) (v : Value) (w : World) (h : IntsIn F w v xs) :
    Calls Try.prog 87 #[v] w fun e w' => e = .returned (.bool (!allPos xs)) ∧ w = w' := by
  have hl := h.len
  obtain ⟨a, cap, rfl, -, -, hx⟩ := h
  go_enter Try.func87, Try.ntmps87
  go_wp2
  go_loop [3] (fun i => ∃ k : Nat, k ≤ xs.length ∧ i = .int .i64 k ∧ ∀ j y, j < k → xs[j]? = some y → 1 ≤ y) (fun i => xs.length - (intOf i).toNat)
  case atStart => exact ⟨0, Nat.zero_le _, rfl, fun j y hj => by omega⟩
  case round =>
    obtain ⟨k, hk, rfl, hno⟩ := hrel
    have HN := Lib.hid hno
    clear hno
    by_cases hlt : k < xs.length
    · rcases hx with rfl | ⟨g, off, rfl, -, hc⟩
      · simp at hlt
      · obtain ⟨x, hxk⟩ : ∃ x, xs[k]? = some x := ⟨_, List.getElem?_eq_getElem hlt⟩
        have hck := hc k x hxk
        have HX := Lib.hid hxk
        clear hxk hc
        by_cases h1 : x < 1
        · have fin := Lib.hid (allPos_false HX.out h1)
          go_wp2
          go_ret
          exact ⟨ret_eq (by rw [fin.out]; rfl), rfl⟩
        · go_wp2
          go_round
          case rel => exact ⟨k + 1, by omega, by go_num, fun j y hj hy => by
            by_cases e : j = k
            · subst e; have := HX.out; rw [this] at hy; cases hy; omega
            · exact HN.out j y (by omega) hy⟩
          case measure => simp [intOf]; omega
    · have fin := Lib.hid (allPos_true (fun j y hj hy => HN.out j y (by omega) hy))
      go_wp2
      go_ret
      exact ⟨ret_eq (by rw [fin.out]; rfl), rfl⟩

set_option maxRecDepth 100000 in
set_option maxHeartbeats 2000000 in
theorem refRight_any (r : Rec) (kv av : Value) (F : Nat → Prop) (w : World) (hk : IntsIn F w kv r.kids) (ha : IntsIn F w av r.attrs) (hF : ∀ k, F k → k < w.heap.size) :
    Calls Try.prog 37 #[recV r kv av] w fun e w' => e = .returned (.bool (rightR r)) ∧ Below w.heap.size w w' := by
  have hk2 := hk
  have ha2 := ha
  obtain ⟨ka, kc, rfl, -, -, -⟩ := hk2
  obtain ⟨aa, ac, rfl, -, -, -⟩ := ha2
  obtain ⟨kind, name, text, parent, kids, attrs, gone⟩ := r
  simp only at *
  have HK : ∀ w' : World, Below w.heap.size w w' → IntsIn F w' (.slice ka kids.length kc) kids := fun w' hb => hk.keep ((keeps_below hb).mono hF)
  have HA : ∀ w' : World, Below w.heap.size w w' → IntsIn F w' (.slice aa attrs.length ac) attrs := fun w' hb => ha.keep ((keeps_below hb).mono hF)
  have HK := Lib.hid HK
  have HA := Lib.hid HA
  clear hk ha hF
  have hb1 : ∀ o, Below w.heap.size w (w.alloc o) := fun o => (Below.refl _ _).alloc (Nat.le_refl _) o
  have HB := Lib.hid hb1
  clear hb1
  cases gone
  · go_enter Try.func37, Try.ntmps37
    go_wp2_with (first | (go_at_call_of 87 (Value.slice ka kids.length kc); refine (low_any kids F _ _ (HK.out _ (HB.out _))).mono ?_; rintro e w' ⟨rfl, rfl⟩) | (go_at_call 87; refine (low_any attrs F _ _ (HA.out _ (HB.out _))).mono ?_; rintro e w' ⟨rfl, rfl⟩))
    all_goals (go_ret; refine ⟨ret_b ?_, HB.out _⟩; simp [rightR, *] <;> (intros; first | omega | (simp_all; done)))
  · go_enter Try.func37, Try.ntmps37
    go_wp2_with fail
    all_goals (go_ret; refine ⟨ret_b ?_, HB.out _⟩; simp [rightR, emptyB, len0, *] <;> (intros; first | omega | (simp_all; done)))
end Go.Proofs.Ytinkjhkbaadbpaa
