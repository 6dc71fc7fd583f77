/- A store is made. -/
import Derived.Test.YtinkjhkbaadbpaaS1
namespace Go.Proofs.Ytinkjhkbaadbpaa
open Go.RowKit
open Go.ChangeMaps (setBlock)

theorem below_of_chg {w w' : World} (h : Chg (New w.heap.size) w w') : Below w.heap.size w w' := ⟨h.os, h.tape, h.output, h.size, fun k hk => h.block k hk (Nat.not_le_of_lt hk)⟩
def Rec.root : Rec := ⟨1, ⟨#[]⟩, ⟨#[]⟩, 0, [], [], false⟩
def Store.fresh : Store := ⟨fun id => if id = 1 then [⟨0, Rec.root⟩] else [], 1, 0⟩
theorem Store.fresh_wf : Store.fresh.Wf where
  rise id := by unfold Store.fresh; simp only; split <;> simp
  last id v hv := by
    unfold Store.fresh at *; simp only at *
    split at hv
    · simp at hv; simp [hv]
    · simp at hv
  ok id v hv := by
    unfold Store.fresh at *; simp only at *
    split at hv
    · simp at hv; subst hv; exact ⟨by decide, by decide⟩
    · simp at hv
  len id := by unfold Store.fresh; simp only; split <;> simp

set_option maxRecDepth 100000 in
theorem new_any (D : Nat → Prop) (w : World) : Calls Try.prog 39 #[] w fun e w' => (∃ p, e = .returned p ∧ StoreIn (New w.heap.size) D w' p Store.fresh) ∧ Below w.heap.size w w' := by
  have hmm := @run_makeMap Try.prog
  have HM := Lib.hid (fun o => (mapIs_new iv w).keep (w' := (w.alloc (.map #[] 0)).alloc o) (Go.heap_alloc_old _ o (by simp)))
  go_enter Try.func39, Try.ntmps39
  go_wp2_with ((refine wpList_mapInsert rfl _ _ _ 96 rfl key3 Try.underlying96 rfl (HM.out _) (1:Int) rfl _ rfl ?_; intro ob hmap))
  go_ret
  refine ⟨⟨_, rfl, w.heap.size + 1 + 1, w.heap.size, _, rfl, ?_, Nat.le_refl _, ?_, hmap.keep (Go.heap_alloc_old _ _ (by simp; omega)), ?_, ?_, ?_⟩, ?_⟩
  · show w.heap.size ≤ w.heap.size + 1 + 1
    omega
  · have := Go.heap_alloc_new (setBlock ((w.alloc (.map #[] 0)).alloc (.cells #[.int .u64 0, .int .i64 1, .string ⟨#[]⟩, .string ⟨#[]⟩, .int .i64 0, .slice none 0 0, .slice none 0 0, .bool false] 93)) w.heap.size ob) (.cells #[.map (some w.heap.size), .int .i64 1, .int .u64 0] 98)
    simpa [Store.fresh] using this
  · intro id v h
    by_cases e : id = 1
    · subst e
      simp at h
      subst h
      simp only [Store.fresh, if_pos]
      refine ⟨by simp, w.heap.size + 1, 1, verL ⟨0, Rec.root⟩ (.slice none 0 0) (.slice none 0 0), rfl, Nat.le_succ _, ⟨rfl, .inr ⟨w.heap.size + 1, 1, _, rfl, Nat.zero_le _, (Go.heap_alloc_old _ _ (by simp)).trans ((heap_setBlock_other _ (by omega)).trans (by simpa using Go.heap_alloc_new (w.alloc (.map #[] 0)) _)), Nat.le_refl _, by decide, rfl, rfl⟩⟩, ?_⟩
      exact ⟨_, _, [], (List.append_nil _).symm, intsIn_nil _ _, intsIn_nil _ _, rfl⟩
    · simp [upd, e] at h
  · intro id h
    by_cases e : id = 1
    · subst e; simp at h
    · simp [Store.fresh, e]
  · intro id id' v v' h h' _
    have e : id = 1 := by
      by_cases e : id = 1
      · exact e
      · simp [upd, e] at h
    have e' : id' = 1 := by
      by_cases e : id' = 1
      · exact e
      · simp [upd, e] at h'
    rw [e, e']
  · exact below_of_chg ((((chg_alloc w (.map #[] 0)).trans (chg_alloc _ _)).trans (chg_setBlock (Nat.le_refl _) ob)).trans (chg_alloc _ _))
end Go.Proofs.Ytinkjhkbaadbpaa
