/- What is above a node, and what is gone through from one: plain words. -/
import Derived.Test.YtinkjhkbaadbpaaNC
namespace Go.Proofs.Ytinkjhkbaadbpaa
open Go.RowKit
set_option linter.unusedVariables false

/-- all that is there has its number among keys -/
def KeysOf (g : Int → Option Rec) (keys : List Int) : Prop := ∀ id, g id ≠ none → id ∈ keys
theorem nodup_len {l m : List Int} (hn : l.Nodup) (h : ∀ x ∈ l, x ∈ m) : l.length ≤ m.length := by
  induction l generalizing m with
  | nil => simp
  | cons a l ih =>
    obtain ⟨h1, h2⟩ := List.nodup_cons.1 hn
    have ha : a ∈ m := h a (by simp)
    have := ih (m := m.erase a) h2 (fun x hx => (List.mem_erase_of_ne (by rintro rfl; exact h1 hx)).2 (h x (by simp [hx])))
    rw [List.length_erase_of_mem ha] at this
    have hp : 0 < m.length := List.length_pos_of_mem ha
    simp only [List.length_cons]
    omega
/-- what a number leads up to: l is what was met, p comes next -/
def upS (g : Int → Option Rec) : Nat → Int → List Int → Int → List Int
  | 0, _, l, _ => l
  | n + 1, id, l, p => match g p with
    | none => l
    | some r => if p = id ∨ p ∈ l then l else upS g n id (l ++ [p]) r.parent
def upF (g : Int → Option Rec) (K : Nat) (id : Int) : List Int := match g id with
  | none => []
  | some r => upS g K id [] r.parent
/-- what is gone through from a node on -/
def goS (g : Int → Option Rec) : Nat → Int → Bool → List (Int × Bool) → List (Int × Bool)
  | 0, _, _, acc => acc
  | n + 1, id, attr, acc => match g id with
    | none => acc
    | some r => if id ∈ acc.map (·.1) then acc else
      r.kids.foldl (fun a x => goS g n x attr a) (r.attrs.foldl (fun a x => goS g n x true a) (acc ++ [(id, attr)]))
def goF (g : Int → Option Rec) (K : Nat) (id : Int) : List (Int × Bool) := goS g K id false []
theorem prefix_fold {β : Type} (f : List (Int × Bool) → β → List (Int × Bool)) (h : ∀ a x, a <+: f a x) : ∀ (xs : List β) (a : List (Int × Bool)), a <+: xs.foldl f a
  | [], a => List.prefix_refl a
  | x :: xs, a => (h a x).trans (prefix_fold f h xs (f a x))
theorem goS_prefix (g : Int → Option Rec) : ∀ (n : Nat) (id : Int) (attr : Bool) (acc : List (Int × Bool)), acc <+: goS g n id attr acc
  | 0, id, attr, acc => List.prefix_refl _
  | n + 1, id, attr, acc => by
    rw [goS]
    split
    · exact List.prefix_refl _
    · split
      · exact List.prefix_refl _
      · exact ((List.prefix_append acc _).trans (prefix_fold _ (fun a x => goS_prefix g n x true a) _ _)).trans (prefix_fold _ (fun a x => goS_prefix g n x attr a) _ _)
/-- each number once, and all of them there -/
def GoInv (keys : List Int) (acc : List (Int × Bool)) : Prop := (acc.map (·.1)).Nodup ∧ ∀ x ∈ acc.map (·.1), x ∈ keys
theorem GoInv.len {keys : List Int} {acc : List (Int × Bool)} (h : GoInv keys acc) : acc.length ≤ keys.length := by
  have := nodup_len h.1 h.2
  simpa using this
theorem GoInv.nil (keys : List Int) : GoInv keys [] := ⟨by simp, by simp⟩
theorem GoInv.snoc {keys : List Int} {acc : List (Int × Bool)} (h : GoInv keys acc) {id : Int} (attr : Bool) (h1 : id ∉ acc.map (·.1)) (h2 : id ∈ keys) : GoInv keys (acc ++ [(id, attr)]) := by
  refine ⟨?_, fun x hx => ?_⟩
  · rw [List.map_append, List.nodup_append]
    refine ⟨h.1, by simp, ?_⟩
    rintro a ha b hb rfl
    simp at hb
    subst hb
    exact h1 ha
  · rw [List.map_append, List.mem_append] at hx
    rcases hx with hx | hx
    · exact h.2 x hx
    · simp at hx; rw [hx]; exact h2
theorem inv_fold {keys : List Int} (f : List (Int × Bool) → Int → List (Int × Bool)) (h : ∀ a x, GoInv keys a → GoInv keys (f a x)) : ∀ (xs : List Int) (a : List (Int × Bool)), GoInv keys a → GoInv keys (xs.foldl f a)
  | [], a, ha => ha
  | x :: xs, a, ha => inv_fold f h xs _ (h a x ha)
theorem goS_inv {g : Int → Option Rec} {keys : List Int} (hk : KeysOf g keys) : ∀ (n : Nat) (id : Int) (attr : Bool) (acc : List (Int × Bool)), GoInv keys acc → GoInv keys (goS g n id attr acc)
  | 0, id, attr, acc, h => h
  | n + 1, id, attr, acc, h => by
    rw [goS]
    split
    · exact h
    · rename_i r hr
      split
      · exact h
      · rename_i hno
        exact inv_fold _ (fun a x ha => goS_inv hk n x attr a ha) _ _ (inv_fold _ (fun a x ha => goS_inv hk n x true a ha) _ _ (h.snoc attr hno (hk id (by rw [hr]; simp))))
theorem upS_nodup {g : Int → Option Rec} {keys : List Int} (hk : KeysOf g keys) : ∀ (n : Nat) (id : Int) (l : List Int) (p : Int), (l.Nodup ∧ id ∉ l ∧ ∀ x ∈ l, x ∈ keys) → ((upS g n id l p).Nodup ∧ id ∉ upS g n id l p ∧ ∀ x ∈ upS g n id l p, x ∈ keys)
  | 0, id, l, p, h => h
  | n + 1, id, l, p, h => by
    rw [upS]
    split
    · exact h
    · rename_i r hr
      split
      · exact h
      · rename_i hno
        refine upS_nodup hk n id (l ++ [p]) r.parent ⟨?_, ?_, ?_⟩
        · rw [List.nodup_append]
          refine ⟨h.1, by simp, ?_⟩
          rintro a ha b hb rfl
          simp at hb; subst hb
          exact hno (.inr ha)
        · simp only [List.mem_append, List.mem_singleton, not_or]
          exact ⟨h.2.1, fun e => hno (.inl e.symm)⟩
        · intro x hx
          rcases List.mem_append.1 hx with hx | hx
          · exact h.2.2 x hx
          · simp at hx; rw [hx]; exact hk p (by rw [hr]; simp)
end Go.Proofs.Ytinkjhkbaadbpaa
