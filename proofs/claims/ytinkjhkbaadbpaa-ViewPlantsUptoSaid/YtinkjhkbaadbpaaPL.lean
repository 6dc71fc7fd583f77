/- Planting in plain words: two stores' worth of changes side by side; what Lay does to a list, by its look-ups. -/
import Derived.Test.YtinkjhkbaadbpaaPT
namespace Go.Proofs.Ytinkjhkbaadbpaa
open Go.RowKit
set_option linter.unusedVariables false

section
variable {α β : Type} (pa : Int → Rec → α → α) (pb : Int → Rec → β → β) (ρ : α → β → Prop)
theorem plantAs_sim (h : ∀ id r a b, ρ a b → ρ (pa id r a) (pb id r b)) (id : Int) : ∀ (al : List (ByteArray × ByteArray)) (g : Int) (ns : List Int) (a : α) (b : β), ρ a b →
    (plantAs pa id al (g, a, ns)).1 = (plantAs pb id al (g, b, ns)).1 ∧ (plantAs pa id al (g, a, ns)).2.2 = (plantAs pb id al (g, b, ns)).2.2 ∧ ρ (plantAs pa id al (g, a, ns)).2.1 (plantAs pb id al (g, b, ns)).2.1
  | [], g, ns, a, b, hr => ⟨rfl, rfl, hr⟩
  | p :: ps, g, ns, a, b, hr => by
    simp only [plantAs]
    exact plantAs_sim h id ps _ _ _ _ (h _ _ _ _ hr)
mutual
theorem plantT_sim (h : ∀ id r a b, ρ a b → ρ (pa id r a) (pb id r b)) : ∀ (t : Tr) (parent g : Int) (a : α) (b : β), ρ a b →
    (plantT pa t parent (g, a)).1 = (plantT pb t parent (g, b)).1 ∧ (plantT pa t parent (g, a)).2.1 = (plantT pb t parent (g, b)).2.1 ∧ ρ (plantT pa t parent (g, a)).2.2 (plantT pb t parent (g, b)).2.2
  | .mk kind name text attrs kids, parent, g, a, b, hr => by
    rw [plantT_eq, plantT_eq]
    split
    · obtain ⟨e1, e2, e3⟩ := plantAs_sim pa pb ρ h (g + 1) attrs (g + 1) [] a b hr
      obtain ⟨f1, f2, f3⟩ := plantKs_sim h kids (g + 1) (plantAs pa (g + 1) attrs (g + 1, a, [])).1 [] _ _ e3
      simp only [plK, plA]
      rw [← e1, ← e2, ← f1, ← f2]
      exact ⟨trivial, rfl, h _ _ _ _ f3⟩
    · exact ⟨rfl, rfl, hr⟩
theorem plantKs_sim (h : ∀ id r a b, ρ a b → ρ (pa id r a) (pb id r b)) : ∀ (ts : List Tr) (id g : Int) (ns : List Int) (a : α) (b : β), ρ a b →
    (plantKs pa ts id (g, a, ns)).1 = (plantKs pb ts id (g, b, ns)).1 ∧ (plantKs pa ts id (g, a, ns)).2.2 = (plantKs pb ts id (g, b, ns)).2.2 ∧ ρ (plantKs pa ts id (g, a, ns)).2.1 (plantKs pb ts id (g, b, ns)).2.1
  | [], id, g, ns, a, b, hr => by simp only [plantKs]; exact ⟨trivial, trivial, hr⟩
  | t :: ts, id, g, ns, a, b, hr => by
    obtain ⟨e1, e2, e3⟩ := plantT_sim h t id g a b hr
    rw [plantKs_cons, plantKs_cons]
    simp only [plantK]
    rw [← e1, ← e2]
    exact plantKs_sim h ts id _ _ _ _ e3
end
end
/-- what is put grows by one a number -/
theorem plantAs_mu {α : Type} (put : Int → Rec → α → α) (μ : α → Nat) (h : ∀ id r a, μ (put id r a) ≤ μ a + 1) (id : Int) : ∀ (al : List (ByteArray × ByteArray)) (st : Int × α × List Int),
    ((μ (plantAs put id al st).2.1 : Nat) : Int) - (plantAs put id al st).1 ≤ (μ st.2.1 : Int) - st.1
  | [], st => by simp [plantAs]
  | p :: ps, (g, s, ns) => by
    simp only [plantAs]
    have h1 := plantAs_mu put μ h id ps (g + 1, put (g + 1) ⟨3, p.1, p.2, id, [], [], false⟩ s, ns ++ [g + 1])
    have h2 := h (g + 1) ⟨3, p.1, p.2, id, [], [], false⟩ s
    simp only at h1 ⊢
    omega
mutual
theorem plantT_mu {α : Type} (put : Int → Rec → α → α) (μ : α → Nat) (h : ∀ id r a, μ (put id r a) ≤ μ a + 1) : ∀ (t : Tr) (parent : Int) (st : Int × α),
    ((μ (plantT put t parent st).2.2 : Nat) : Int) - (plantT put t parent st).2.1 ≤ (μ st.2 : Int) - st.1
  | .mk kind name text attrs kids, parent, (g, s) => by
    rw [plantT_eq]
    split
    · have h1 := plantAs_mu put μ h (g + 1) attrs (g + 1, s, [])
      have h2 := plantKs_mu put μ h kids (g + 1) ((plA put g attrs s).1, (plA put g attrs s).2.1, [])
      have h3 := h (g + 1) ⟨kind, name, text, max parent 0, (plK put g kids (plA put g attrs s)).2.2, (plA put g attrs s).2.2, false⟩ (plK put g kids (plA put g attrs s)).2.1
      simp only [plK, plA] at h1 h2 h3 ⊢
      omega
    · exact Int.le_refl _
theorem plantKs_mu {α : Type} (put : Int → Rec → α → α) (μ : α → Nat) (h : ∀ id r a, μ (put id r a) ≤ μ a + 1) : ∀ (ts : List Tr) (id : Int) (st : Int × α × List Int),
    ((μ (plantKs put ts id st).2.1 : Nat) : Int) - (plantKs put ts id st).1 ≤ (μ st.2.1 : Int) - st.1
  | [], id, st => by simp [plantKs]
  | t :: ts, id, st => by
    rw [plantKs_cons]
    have h1 := plantT_mu put μ h t id (st.1, st.2.1)
    have h2 := plantKs_mu put μ h ts id (plantK put id st t)
    simp only [plantK] at h1 h2 ⊢
    omega
end

/-! ### Lay -/
def insL (id : Int) (r : Rec) : List Own → List Own
  | [] => [(id, r)]
  | e :: es => if id ≤ e.1 then (id, r) :: (e :: es).filter (fun x => decide (x.1 ≠ id)) else e :: insL id r es
theorem lay_true (id : Int) (r : Rec) : ∀ (L acc : List Own), L.foldl (laySt id r) (acc, true) = (acc ++ L.filter (fun x => decide (x.1 ≠ id)), true)
  | [], acc => by simp
  | e :: es, acc => by
    rw [List.foldl_cons]
    have h : laySt id r (acc, true) e = (acc ++ (if e.1 = id then [] else [e]), true) := by simp [laySt]
    rw [h, lay_true id r es]
    by_cases he : e.1 = id <;> simp [he]
def layFin (id : Int) (r : Rec) (p : List Own × Bool) : List Own := if p.2 then p.1 else p.1 ++ [(id, r)]
theorem lay_false (id : Int) (r : Rec) : ∀ (L acc : List Own), layFin id r (L.foldl (laySt id r) (acc, false)) = acc ++ insL id r L
  | [], acc => by simp [layFin, insL]
  | e :: es, acc => by
    rw [List.foldl_cons]
    by_cases hle : id ≤ e.1
    · have h : laySt id r (acc, false) e = (acc ++ [(id, r)] ++ (if e.1 = id then [] else [e]), true) := by simp [laySt, hle]
      rw [h, lay_true id r es]
      by_cases he : e.1 = id
      · simp [layFin, insL, he]
      · simp [layFin, insL, hle, he]
    · have he : e.1 ≠ id := by omega
      have h : laySt id r (acc, false) e = (acc ++ [e], false) := by simp [laySt, hle, he]
      rw [h, lay_false id r es]
      simp [insL, hle]
theorem layL_eq (id : Int) (r : Rec) (L : List Own) : layL id r L = insL id r L := by
  have h := lay_false id r L []
  unfold layL layP
  rw [List.take_length]
  unfold layFin at h
  simpa using h
theorem insL_len (id : Int) (r : Rec) : ∀ (L : List Own), (insL id r L).length ≤ L.length + 1
  | [] => by simp [insL]
  | e :: es => by
    have := insL_len id r es
    have h2 := List.length_filter_le (fun x : Own => decide (x.1 ≠ id)) (e :: es)
    simp only [insL]
    split
    · simp only [List.length_cons] at h2 ⊢; omega
    · simp only [List.length_cons]; omega
theorem layL_len (id : Int) (r : Rec) (L : List Own) : (layL id r L).length ≤ L.length + 1 := by rw [layL_eq]; exact insL_len id r L
/-- what a list of changes says of a number: its first -/
def ownOf (L : List Own) (id : Int) : Option Rec := (L.find? (fun e => decide (e.1 = id))).map (·.2)
theorem ownOf_cons (e : Own) (es : List Own) (j : Int) : ownOf (e :: es) j = if e.1 = j then some e.2 else ownOf es j := by
  unfold ownOf
  rw [List.find?_cons]
  by_cases h : e.1 = j <;> simp [h]
theorem ownOf_drop (id j : Int) (h : j ≠ id) : ∀ (L : List Own), ownOf (L.filter (fun x => decide (x.1 ≠ id))) j = ownOf L j
  | [] => rfl
  | e :: es => by
    rw [List.filter_cons]
    by_cases he : e.1 = id
    · have : ¬ e.1 = j := by omega
      rw [if_neg (by simp [he]), ownOf_drop id j h es, ownOf_cons, if_neg this]
    · rw [if_pos (by simp [he]), ownOf_cons, ownOf_cons, ownOf_drop id j h es]
theorem ownOf_insL (id : Int) (r : Rec) (j : Int) : ∀ (L : List Own), ownOf (insL id r L) j = if j = id then some r else ownOf L j
  | [] => by
    rw [insL, ownOf_cons]
    by_cases h : j = id
    · simp [h]
    · simp [h, Ne.symm h]
  | e :: es => by
    rw [insL]
    split
    · rw [ownOf_cons]
      by_cases h : j = id
      · simp [h]
      · simp only [h, Ne.symm h, if_false]
        rw [ownOf_drop id j h]
    · rename_i hle
      rw [ownOf_cons, ownOf_insL id r j es, ownOf_cons]
      by_cases h : j = id
      · have : ¬ e.1 = j := by omega
        simp [h]
        omega
      · simp [h]
theorem ownOf_layL (id : Int) (r : Rec) (L : List Own) : ownOf (layL id r L) = putO id r (ownOf L) := by
  funext j
  rw [layL_eq, ownOf_insL]
  rfl
/-- both plant alike -/
theorem plant_both (t : Tr) (parent g : Int) (L : List Own) :
    (plantT layL t parent (g, L)).1 = (plantT putO t parent (g, ownOf L)).1 ∧ (plantT layL t parent (g, L)).2.1 = (plantT putO t parent (g, ownOf L)).2.1 ∧ ownOf (plantT layL t parent (g, L)).2.2 = (plantT putO t parent (g, ownOf L)).2.2 :=
  plantT_sim layL putO (fun L o => ownOf L = o) (fun id r a b h => by rw [ownOf_layL, h]) t parent g L (ownOf L) rfl
theorem plantL_len (t : Tr) (parent g : Int) (L : List Own) : (plantT layL t parent (g, L)).2.2.length ≤ L.length + t.size := by
  have h1 := plantT_mu layL List.length (fun id r L => layL_len id r L) t parent (g, L)
  have h2 := (plantT_g layL t parent (g, L)).2
  simp only at h1 h2
  omega
end Go.Proofs.Ytinkjhkbaadbpaa
