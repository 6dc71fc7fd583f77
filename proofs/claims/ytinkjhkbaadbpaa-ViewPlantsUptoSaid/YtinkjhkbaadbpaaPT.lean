/- Plant (62): a tree is planted into a view. -/
import Derived.Test.YtinkjhkbaadbpaaVS
namespace Go.Proofs.Ytinkjhkbaadbpaa
open Go.RowKit
open Go.ChangeMaps (setBlock)
set_option linter.unusedVariables false

abbrev Owns := Int → Option Rec
def putO (id : Int) (r : Rec) (o : Owns) : Owns := fun j => if j = id then some r else o j
theorem setV_putO (V : Vw) (id : Int) (r : Rec) : setV V id r = ⟨putO id r V.own, V.time⟩ := rfl
section
variable {α : Type} (put : Int → Rec → α → α)
theorem plantAs_snoc (id : Int) : ∀ (al : List (ByteArray × ByteArray)) (p : ByteArray × ByteArray) (st : Int × α × List Int),
    plantAs put id (al ++ [p]) st = ((plantAs put id al st).1 + 1, put ((plantAs put id al st).1 + 1) ⟨3, p.1, p.2, id, [], [], false⟩ (plantAs put id al st).2.1, (plantAs put id al st).2.2 ++ [(plantAs put id al st).1 + 1])
  | [], p, (g, s, ns) => rfl
  | a :: al, p, (g, s, ns) => by
    simp only [List.cons_append, plantAs]
    exact plantAs_snoc id al p _
theorem plantAs_g (id : Int) : ∀ (al : List (ByteArray × ByteArray)) (st : Int × α × List Int), (plantAs put id al st).1 = st.1 + al.length ∧ (plantAs put id al st).2.2.length = st.2.2.length + al.length
  | [], st => by simp [plantAs]
  | a :: al, (g, s, ns) => by
    have := plantAs_g id al (g + 1, put (g + 1) ⟨3, a.1, a.2, id, [], [], false⟩ s, ns ++ [g + 1])
    simp only [plantAs, List.length_cons]
    simp only [List.length_append, List.length_singleton] at this
    constructor <;> omega
/-- one kid -/
def plantK (id : Int) (st : Int × α × List Int) (t : Tr) : Int × α × List Int :=
  ((plantT put t id (st.1, st.2.1)).2.1, (plantT put t id (st.1, st.2.1)).2.2, if 0 < (plantT put t id (st.1, st.2.1)).1 then st.2.2 ++ [(plantT put t id (st.1, st.2.1)).1] else st.2.2)
theorem plantKs_cons (t : Tr) (ts : List Tr) (id : Int) (st : Int × α × List Int) : plantKs put (t :: ts) id st = plantKs put ts id (plantK put id st t) := by
  obtain ⟨g, s, ns⟩ := st
  simp only [plantKs, plantK]
theorem plantKs_snoc (id : Int) : ∀ (ts : List Tr) (t : Tr) (st : Int × α × List Int), plantKs put (ts ++ [t]) id st = plantK put id (plantKs put ts id st) t
  | [], t, st => by rw [List.nil_append, plantKs_cons]; simp [plantKs]
  | t0 :: ts, t, st => by rw [List.cons_append, plantKs_cons, plantKs_cons]; exact plantKs_snoc id ts t _
/-- the attributes' part, the kids' part -/
def plA (g : Int) (al : List (ByteArray × ByteArray)) (s : α) : Int × α × List Int := plantAs put (g + 1) al (g + 1, s, [])
def plK (g : Int) (ts : List Tr) (st : Int × α × List Int) : Int × α × List Int := plantKs put ts (g + 1) (st.1, st.2.1, [])
theorem plantT_eq (kind : Int) (name text : ByteArray) (al : List (ByteArray × ByteArray)) (ts : List Tr) (parent g : Int) (s : α) : plantT put (.mk kind name text al ts) parent (g, s) =
    if plants kind then (g + 1, (plK put g ts (plA put g al s)).1, put (g + 1) ⟨kind, name, text, max parent 0, (plK put g ts (plA put g al s)).2.2, (plA put g al s).2.2, false⟩ (plK put g ts (plA put g al s)).2.1) else (0, g, s) := by
  rw [plantT]
  rfl
mutual
theorem plantT_g : ∀ (t : Tr) (parent : Int) (st : Int × α), st.1 ≤ (plantT put t parent st).2.1 ∧ (plantT put t parent st).2.1 ≤ st.1 + t.size
  | .mk kind name text attrs kids, parent, (g, s) => by
    rw [plantT_eq]
    split
    · have h1 := (plantAs_g put (g + 1) attrs (g + 1, s, [])).1
      have h2 := plantKs_g kids (g + 1) ((plantAs put (g + 1) attrs (g + 1, s, [])).1, (plantAs put (g + 1) attrs (g + 1, s, [])).2.1, [])
      simp only [Tr.size, plK, plA] at h1 h2 ⊢
      constructor <;> omega
    · simp only [Tr.size]; constructor <;> omega
theorem plantKs_g : ∀ (ts : List Tr) (id : Int) (st : Int × α × List Int), st.1 ≤ (plantKs put ts id st).1 ∧ (plantKs put ts id st).1 ≤ st.1 + Tr.sizes ts
  | [], id, st => by simp [plantKs, Tr.sizes]
  | t :: ts, id, st => by
    rw [plantKs_cons]
    have h1 := plantT_g t id (st.1, st.2.1)
    have h2 := plantKs_g ts id (plantK put id st t)
    simp only [plantK, Tr.sizes] at h1 h2 ⊢
    constructor <;> omega
end
end
theorem plantKs_len {α : Type} (put : Int → Rec → α → α) (id : Int) : ∀ (ts : List Tr) (st : Int × α × List Int), (plantKs put ts id st).2.2.length ≤ st.2.2.length + ts.length
  | [], st => by simp [plantKs]
  | t :: ts, st => by
    rw [plantKs_cons]
    have h := plantKs_len put id ts (plantK put id st t)
    have h2 : (plantK put id st t).2.2.length ≤ st.2.2.length + 1 := by
      simp only [plantK]
      split <;> simp
    simp only [List.length_cons]
    omega
theorem size_pos : ∀ (t : Tr), 1 ≤ t.size
  | .mk _ _ _ al ts => by simp only [Tr.size]; omega
theorem sizes_len : ∀ (ts : List Tr), ts.length ≤ Tr.sizes ts
  | [] => by simp [Tr.sizes]
  | t :: ts => by
    have := sizes_len ts
    have := size_pos t
    simp only [Tr.sizes, List.length_cons]
    omega
def PlantPost (R Ds D : Nat → Prop) (w : World) (v m : Nat) (sp : Value) (T : Nat) (S : Store) (res : Int × Int × Owns) (e : Ending) (w' : World) : Prop :=
  e = .returned (.int .i64 res.1) ∧ (∃ D', VS R Ds D' w' v m sp ⟨res.2.2, T⟩ { S with given := res.2.1 } ∧ ∀ k, D' k → D k ∨ (w.heap.size ≤ k ∧ k < w'.heap.size)) ∧ Chg (fun k => k = m ∨ R k) w w'
end Go.Proofs.Ytinkjhkbaadbpaa
