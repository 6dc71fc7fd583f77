/- Both stores, made. -/
import Derived.Test.YtinkjhkbaadbpaaAR
import Derived.Test.YtinkjhkbaadbpaaSR
namespace Go.Proofs.Ytinkjhkbaadbpaa
open Go.RowKit
set_option linter.unusedVariables false

theorem DocIn.bound {R D : Nat → Prop} {w : World} {q : Value} {d : Doc} (h : DocIn R D w q d) : DocIn (fun k => R k ∧ k < w.heap.size) D w q d := by
  obtain ⟨s, v, xs, rfl, hs, hb, ho, he, hr⟩ := h
  exact ⟨s, v, xs, rfl, ⟨hs, (Array.getElem?_eq_some_iff.1 hb).1⟩, hb, ho, he, fun g hg => ⟨hr g hg, (ownsRow_base ho hg).2⟩⟩
theorem few_fresh : Few Store.fresh Doc.fresh 0 := ⟨by omega, by decide, by decide, fun id => by unfold Store.fresh; simp only; split <;> simp, by decide⟩
theorem fresh_keys : Store.fresh.Keys := by
  intro id h
  by_cases e : id = 1
  · subst e; exact ⟨by omega, by decide⟩
  · simp [Store.fresh, e] at h
/-- Both, made one behind the other. -/
theorem both_fresh {n0 : Nat} {w w1 w2 : World} {p q : Value} (hn : n0 ≤ w.heap.size) (hp : StoreIn (New w.heap.size) (fun _ => False) w1 p Store.fresh) (hb1 : Below w.heap.size w w1) (hq : DocIn (New w1.heap.size) (Old n0) w2 q Doc.fresh) (hb2 : Below w1.heap.size w1 w2) :
    ∃ R D Rd, Both n0 R D Rd w2 p q Store.fresh Doc.fresh := by
  have hp1 := hp.bound
  refine ⟨_, fun _ => False, _, ⟨⟨hp1.keep (fun k hk => hb2.block k hk.2) (fun k hk => hk.elim), fun k hk => Nat.lt_of_lt_of_le hk.2 hb2.size, fun k hk => hk.elim, fun k _ hd => hd⟩, hq.bound, fun k hk => Nat.le_trans hn hk.1, fun k hk => hk.elim, fun k hk => ⟨Nat.le_trans hn (Nat.le_trans hb1.size hk.1), hk.2⟩, fun k hk => ⟨fun hr => ?_, fun hd => hd⟩, Nat.le_trans hn (Nat.le_trans hb1.size hb2.size), says_fresh, Store.fresh_wf, fresh_keys⟩⟩
  have h1 : w1.heap.size ≤ k := hk.1
  have h2 : k < w1.heap.size := hr.2
  omega
theorem stepCells {w w' : World} {g off k : Nat} {x : Stp} {u : Value} (hc : ∀ j y, (stL x u)[j]? = some y → w.cell? ⟨g, off + k * 4 + j, none⟩ = some y) (hk : w'.heap[g]? = w.heap[g]?) :
    w'.cell? ⟨g, off + k * 4, none⟩ = some (.int .i64 x.kd) ∧ w'.cell? ⟨g, off + k * 4 + 1, none⟩ = some (.int .i64 x.id) ∧ w'.cell? ⟨g, off + k * 4 + 2, none⟩ = some (.int .u64 x.T) ∧ w'.cell? ⟨g, off + k * 4 + 3, none⟩ = some u := by
  have h := fun (j : Nat) (y : Value) (hx : (stL x u)[j]? = some y) => (World.cell?_of_block (w := w) (w' := w') (a := ⟨g, off + k * 4 + j, none⟩) hk).trans (hc j y hx)
  exact ⟨h 0 _ rfl, h 1 _ rfl, h 2 _ rfl, h 3 _ rfl⟩

end Go.Proofs.Ytinkjhkbaadbpaa
