/- works: what its three calls give. -/
import Derived.Test.YtkfmgeddckcnkaaVC
namespace Go.Proofs.Ytkfmgeddckcnkaa
set_option linter.unusedVariables false

abbrev three : List Edge := [(1, 2), (2, 3), (3, 1)]
abbrev two : List Edge := [(1, 2), (2, 3)]
theorem edges_three : edgesOf three = three := by decide
theorem edges_two : edgesOf two = two := by decide
theorem fine_three : Fine three := by have := fine_edgesOf three; rw [edges_three] at this; exact this
theorem fine_two : Fine two := by have := fine_edgesOf two; rw [edges_two] at this; exact this
theorem far_at {G : List Edge} (hG : Fine G) (t x : Int) {k : Nat} (hk : G.length < k) (hk2 : k ≤ 201) : farOf G t x = farS G t k x :=
  farOf_still hG hk2 (fun y h => by have := level_bound ⟨y, h⟩; omega) x
theorem next_of {G : List Edge} (hG : Fine G) {n : Int} {l : List Int} (hl : l.Pairwise (· < ·)) (h : ∀ z, z ∈ l ↔ (n, z) ∈ G) : nextOf G n = l :=
  rising_same (nextOf_rise G n) hl (fun z => (mem_nextOf hG).trans (h z).symm)
theorem f3 : findOf (edgesOf three) 1 = [1, 2, 3] := by
  rw [edges_three]
  have n1 : nextOf three 1 = [2] := next_of fine_three (by simp) (by simp)
  have n2 : nextOf three 2 = [3] := next_of fine_three (by simp) (by simp)
  have a2 : farOf three 1 2 = some 2 := (far_at fine_three 1 2 (k := 4) (by decide) (by decide)).trans (by decide)
  have a3 : farOf three 1 3 = some 1 := (far_at fine_three 1 3 (k := 4) (by decide) (by decide)).trans (by decide)
  have b : bestOf three 1 = 2 := by unfold bestOf; rw [n1]; simp [bestStep, a2]
  unfold findOf
  rw [b, if_neg (by decide), walkF_some (n := 2) (by rw [n1]; simp [a2]), walkF_some (n := 3) (by rw [n2]; simp [a3]), walkF_zero]
theorem none_of {G : List Edge} (hG : Fine G) {k : Nat} (hk : G.length < k) (hk2 : k ≤ 201) {t : Int} {l : List Int} (hn : nextOf G t = l) (h : ∀ x ∈ l, farS G t k x = none) : findOf G t = [] := by
  have b : ∀ (l : List Int), (∀ x ∈ l, farS G t k x = none) → l.foldl (bestStep (farOf G t)) 0 = 0 := by
    intro l
    induction l with
    | nil => intro _; rfl
    | cons x l ih =>
      intro h
      have e : bestStep (farOf G t) 0 x = 0 := by unfold bestStep; rw [far_at hG t x hk hk2, h x (by simp)]
      rw [List.foldl_cons, e]
      exact ih (fun y hy => h y (by simp [hy]))
  unfold findOf bestOf
  rw [hn, b l h, if_pos rfl]
theorem f2 : findOf (edgesOf two) 1 = [] := by
  rw [edges_two]
  exact none_of fine_two (k := 3) (by decide) (by decide) (next_of fine_two (l := [2]) (by simp) (by simp)) (by decide)
theorem v3 : victF 1 200 (edgesOf three) = [3] := by
  have e := f3
  rw [edges_three] at e ⊢
  have w : without 3 three = [(1, 2)] := by decide
  have f : Fine [((1 : Int), (2 : Int))] := by rw [← w]; exact fine_without fine_three 3
  rw [victF_cons e]
  show 3 :: victF 1 199 (without 3 three) = _
  rw [w, victF_nil (none_of f (k := 2) (by decide) (by decide) (next_of f (l := [2]) (by simp) (by simp)) (by decide))]
end Go.Proofs.Ytkfmgeddckcnkaa
