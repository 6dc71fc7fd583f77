/- Plain laws: what find gives is a cycle through t. -/
import Derived.Test.YtkfmgeddckcnkaaVC
namespace Go.Proofs.Ytkfmgeddckcnkaa
set_option linter.unusedVariables false

theorem farS_back {G : List Edge} {t : Int} : ∀ {n : Nat} {x : Int} {d : Nat}, farS G t n x = some d → farS G t d x = some d
  | 0, x, d, h => by
    have hd := farS_le h
    obtain rfl : d = 0 := by omega
    exact h
  | n + 1, x, d, h => by
    by_cases hd : d = n + 1
    · subst hd; exact h
    · rw [farS_succ] at h
      split at h
      · cases h; exact absurd rfl hd
      · exact farS_back h
theorem farS_up {G : List Edge} {t : Int} {x : Int} {d : Nat} {n : Nat} (h : farS G t n x = some d) : ∀ m, farS G t (n + m) x = some d
  | 0 => h
  | m + 1 => farS_mono (farS_up h m)
theorem far_back {G : List Edge} {t x : Int} {d : Nat} (h : farOf G t x = some d) : farS G t d x = some d := farS_back h
theorem far_of {G : List Edge} {t x : Int} {d : Nat} (hd : d ≤ 201) (h : farS G t d x = some d) : farOf G t x = some d := by
  have := farS_up h (201 - d)
  rw [show d + (201 - d) = 201 by omega] at this
  exact this
theorem far_step {G : List Edge} {t x : Int} {d : Nat} (h : farOf G t x = some (d + 1)) : ∃ y, (x, y) ∈ G ∧ farOf G t y = some d := by
  have hle := farOf_le h
  obtain ⟨_, e, he, h1, h2⟩ := farS_new.1 (far_back h)
  obtain ⟨a, b⟩ := e
  obtain rfl : a = x := h1
  exact ⟨b, he, far_of (by omega) h2⟩
theorem far_zero {G : List Edge} {t x : Int} (h : farOf G t x = some 0) : x = t := by
  have := far_back h
  unfold farS at this
  split at this
  · assumption
  · cases this
theorem far_self (G : List Edge) (t : Int) : farOf G t t = some 0 := far_of (by omega) (by simp [farS])

/-- each is followed by the next -/
def Path (G : List Edge) : Int → List Int → Prop
  | _, [] => True
  | x, y :: l => (x, y) ∈ G ∧ Path G y l
theorem walk_path {G : List Edge} (hG : Fine G) (t : Int) : ∀ (b : Nat) (x : Int), (b = 0 ∨ ∃ n, (x, n) ∈ G ∧ farOf G t n = some b) →
    (walkF G t b x).length = b ∧ Path G x (walkF G t b x) ∧ ∀ i y, (walkF G t b x)[i]? = some y → farOf G t y = some (b - i)
  | 0, x, _ => by rw [walkF_zero]; exact ⟨rfl, trivial, by simp⟩
  | b + 1, x, h => by
    obtain ⟨n0, hn0, hf0⟩ : ∃ n, (x, n) ∈ G ∧ farOf G t n = some (b + 1) := by
      rcases h with h | h
      · omega
      · exact h
    cases hf : (nextOf G x).find? (fun n => decide (farOf G t n = some (b + 1))) with
    | none =>
      have := List.find?_eq_none.1 hf n0 ((mem_nextOf hG).2 hn0)
      simp [hf0] at this
    | some n =>
      rw [walkF_some hf]
      have hn := (mem_nextOf hG).1 (List.mem_of_find?_eq_some hf)
      have hfn : farOf G t n = some (b + 1) := by simpa using List.find?_some hf
      obtain ⟨h1, h2, h3⟩ := walk_path hG t b n (by
        cases b with
        | zero => exact .inl rfl
        | succ b => exact .inr (far_step hfn))
      refine ⟨by simp [h1], ⟨hn, h2⟩, fun i y hy => ?_⟩
      cases i with
      | zero => simp at hy; subst hy; simpa using hfn
      | succ i =>
        have := h3 i y (by simpa using hy)
        rw [this, show b + 1 - (i + 1) = b - i by omega]
theorem best_min {G : List Edge} (t : Int) (f : Int → Option Nat) : ∀ (l : List Int) (b : Nat), (∀ x ∈ l, f x ≠ some 0) →
    (l.foldl (bestStep f) b = 0 ↔ b = 0 ∧ ∀ x ∈ l, f x = none) ∧ (l.foldl (bestStep f) b = b ∨ ∃ x ∈ l, f x = some (l.foldl (bestStep f) b))
  | [], b, _ => by simp
  | x :: l, b, h => by
    have ih := best_min (G := G) t f l (bestStep f b x) (fun y hy => h y (by simp [hy]))
    rw [List.foldl_cons]
    have hx := h x (by simp)
    cases e : f x with
    | none =>
      have eb : bestStep f b x = b := by unfold bestStep; rw [e]
      rw [eb] at ih ⊢
      refine ⟨ih.1.trans (by simp [e]), ih.2.imp id (fun ⟨y, hy, he⟩ => ⟨y, by simp [hy], he⟩)⟩
    | some d =>
      have hd : d ≠ 0 := fun h0 => hx (by rw [e, h0])
      have eb : bestStep f b x = if b = 0 ∨ d < b then d else b := by unfold bestStep; rw [e]
      have hne : bestStep f b x ≠ 0 := by rw [eb]; split <;> omega
      refine ⟨⟨fun h0 => absurd (ih.1.1 h0).1 hne, fun h0 => absurd (h0.2 x (by simp)) (by rw [e]; simp)⟩, ?_⟩
      rcases ih.2 with h1 | ⟨y, hy, he⟩
      · rw [h1, eb]
        split
        · exact .inr ⟨x, by simp, e⟩
        · exact .inl rfl
      · exact .inr ⟨y, by simp [hy], he⟩
theorem findOf_some {G : List Edge} {t : Int} (h : ¬ bestOf G t = 0) : findOf G t = t :: walkF G t (bestOf G t) t := if_neg h
set_option maxRecDepth 20000 in
/-- what find gives is nothing, or t and a path from it whose numbers come nearer by one at each step -/
theorem find_spec {G : List Edge} (hG : Fine G) (t : Int) :
    (findOf G t = [] ∧ ∀ n, (t, n) ∈ G → farOf G t n = none) ∨
    ∃ b l, findOf G t = t :: l ∧ 1 ≤ b ∧ l.length = b ∧ Path G t l ∧ ∀ i y, l[i]? = some y → farOf G t y = some (b - i) := by
  have h0 : ∀ x ∈ nextOf G t, farOf G t x ≠ some 0 := fun x hx h => by
    have h1 := (mem_nextOf hG).1 hx
    exact (hG.range h1).2.2 (far_zero h).symm
  have hb := best_min (G := G) t (farOf G t) (nextOf G t) 0 h0
  by_cases h : bestOf G t = 0
  · refine .inl ⟨by unfold findOf; rw [if_pos h], fun n hn => (hb.1.1 h).2 n ((mem_nextOf hG).2 hn)⟩
  · have hx : ∃ x ∈ nextOf G t, farOf G t x = some (bestOf G t) := hb.2.resolve_left h
    obtain ⟨x, hx, hf⟩ := hx
    obtain ⟨h1, h2, h3⟩ := walk_path hG t (bestOf G t) t (.inr ⟨x, (mem_nextOf hG).1 hx, hf⟩)
    have e := findOf_some h
    exact .inr ⟨bestOf G t, walkF G t (bestOf G t) t, e, Nat.pos_of_ne_zero h, h1, h2, h3⟩
end Go.Proofs.Ytkfmgeddckcnkaa
