/- Plain law of CycleIs. -/
import Derived.Test.YtkfmgeddckcnkaaPL
namespace Go.Proofs.Ytkfmgeddckcnkaa
set_option linter.unusedVariables false

theorem path_get {G : List Edge} : ∀ (l : List Int) (x : Int), Path G x l → ∀ (i : Nat) (a y : Int), (x :: l)[i]? = some a → l[i]? = some y → (a, y) ∈ G
  | [], x, _, i, a, y, _, h => by simp at h
  | z :: l, x, h, 0, a, y, ha, hy => by simp at ha hy; subst ha hy; exact h.1
  | z :: l, x, h, i + 1, a, y, ha, hy => path_get l z h.2 i a y (by simpa using ha) (by simpa using hy)
theorem cycle_ok {G : List Edge} (hG : Fine G) (t : Int) (c : List Int) (hc : findOf G t = c) (k : Nat) (hk : k < c.length) :
    ∃ x y, c[k]? = some x ∧ c[(k + 1) % c.length]? = some y ∧ (x, y) ∈ G ∧ (∀ j, j < k → c[j]? ≠ some x) ∧ c[0]? = some t ∧ 2 ≤ c.length := by
  rcases find_spec hG t with ⟨h, _⟩ | ⟨b, l, h, hb, hl, hp, hd⟩
  · rw [← hc, h] at hk; simp at hk
  rw [hc] at h
  subst h
  have hlen : (t :: l).length = b + 1 := by simp [hl]
  rw [hlen] at hk ⊢
  obtain ⟨x, hx⟩ : ∃ x, (t :: l)[k]? = some x := ⟨_, List.getElem?_eq_getElem (by simp [hl]; omega)⟩
  have hdist : ∀ i a, (t :: l)[i]? = some a → farOf G t a = some (if i = 0 then 0 else b + 1 - i) := by
    intro i a ha
    cases i with
    | zero => simp at ha; subst ha; simpa using far_self G t
    | succ i =>
      have := hd i a (by simpa using ha)
      rw [this, if_neg (by omega), show b + 1 - (i + 1) = b - i by omega]
  have hne : ∀ j, j < k → (t :: l)[j]? ≠ some x := by
    intro j hj he
    have h1 := hdist k x hx
    have h2 := hdist j x he
    rw [h1, if_neg (by omega)] at h2
    split at h2
    · simp at h2; omega
    · simp at h2; omega
  by_cases hkb : k < b
  · obtain ⟨y, hy⟩ : ∃ y, l[k]? = some y := ⟨_, List.getElem?_eq_getElem (by omega)⟩
    exact ⟨x, y, hx, by rw [Nat.mod_eq_of_lt (by omega)]; simpa using hy, path_get l t hp k x y hx hy, hne, rfl, by omega⟩
  · obtain rfl : k = b := by omega
    have h1 := hdist k x hx
    rw [if_neg (by omega), show k + 1 - k = 0 + 1 by omega] at h1
    obtain ⟨y, hy, hf⟩ := far_step h1
    obtain rfl := far_zero hf
    exact ⟨x, y, hx, by rw [Nat.mod_self]; rfl, hy, hne, rfl, by omega⟩
end Go.Proofs.Ytkfmgeddckcnkaa
