/- The fresh stores say the same; bounds of what a store reads. -/
import Derived.Test.YtinkjhkbaadbpaaDV
import Derived.Test.YtinkjhkbaadbpaaVP
namespace Go.Proofs.Ytinkjhkbaadbpaa
open Go.RowKit
set_option linter.unusedVariables false

theorem storeIn_bound {R D : Nat → Prop} {w : World} {p : Value} {S : Store} (h : StoreIn R D w p S) : StoreIn (fun k => R k ∧ k < w.heap.size) D w p S := by
  obtain ⟨s, m, f, rfl, hs, hm, hb, hf, h1, h2, h3⟩ := h
  refine ⟨s, m, f, rfl, ⟨hs, (Array.getElem?_eq_some_iff.1 hb).1⟩, ⟨hm, hf.lt⟩, hb, hf, fun id v e => ?_, h2, h3⟩
  obtain ⟨hne, g, cap, xs, rfl, hg, ho, hv⟩ := h1 id v e
  exact ⟨hne, g, cap, xs, rfl, ⟨hg, (ownsRow_base ho rfl).2⟩, ho, hv⟩
theorem docIn_bound {R D : Nat → Prop} {w : World} {q : Value} {d : Doc} (h : DocIn R D w q d) : DocIn (fun k => R k ∧ k < w.heap.size) D w q d := by
  obtain ⟨s, v, xs, rfl, hs, hb, ho, he, hr⟩ := h
  exact ⟨s, v, xs, rfl, ⟨hs, (Array.getElem?_eq_some_iff.1 hb).1⟩, hb, ho, he, fun g hg => ⟨hr g hg, (ownsRow_base ho hg).2⟩⟩
theorem look_versY {id : Int} {T : Nat} : ∀ (L : List Ent) (o : Option Rec), L.foldl (pickE id T) o = match ((versOf id L).filter (fun v => decide (v.time ≤ T))).getLast? with | some v => some v.r | none => o
  | [], o => by simp [versOf]
  | e :: L, o => by
    rw [List.foldl_cons, look_versY L]
    by_cases h1 : e.id = id
    · by_cases h2 : e.v.time ≤ T
      · have e1 : (versOf id (e :: L)).filter (fun v => decide (v.time ≤ T)) = e.v :: (versOf id L).filter (fun v => decide (v.time ≤ T)) := by simp [versOf, h1, h2]
        rw [e1]
        simp only [pickE, h1, h2, and_self, if_true]
        cases hf : (versOf id L).filter (fun v => decide (v.time ≤ T)) with
        | nil => simp
        | cons a l =>
          rw [List.getLast?_cons_cons]
          cases hg : (a :: l).getLast? with
          | none => simp at hg
          | some u => rfl
      · have e1 : (versOf id (e :: L)).filter (fun v => decide (v.time ≤ T)) = (versOf id L).filter (fun v => decide (v.time ≤ T)) := by simp [versOf, h1, h2]
        rw [e1]
        simp [pickE, h2]
    · have e1 : versOf id (e :: L) = versOf id L := by simp [versOf, h1]
      rw [e1]
      simp [pickE, h1]
theorem at_same {S : Store} {d : Doc} (hN : ∀ id, S.N id = versOf id d.L) (id : Int) (T : Nat) : d.at id T = S.at id T := by
  unfold Doc.at Store.at Doc.look
  rw [List.take_length, look_versY, hN id]
  cases ((versOf id d.L).filter (fun v => decide (v.time ≤ T))).getLast? <;> rfl
theorem fresh_N (id : Int) : Store.fresh.N id = versOf id Doc.fresh.L := by
  by_cases h : id = 1
  · subst h; simp [Store.fresh, Doc.fresh, versOf]
  · have : ¬ (1 = id) := fun e => h e.symm
    simp [Store.fresh, Doc.fresh, versOf, h, this]
end Go.Proofs.Ytinkjhkbaadbpaa
