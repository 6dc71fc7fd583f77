/- A walk over a map in which entries are set anew. -/
import Derived.Test.YtamjopgpmeeheaaCB
namespace Go.Proofs.Ytamjopgpmeeheaa
open Go.RowKit
open Go.ChangeMaps (setBlock)
set_option linter.unusedVariables false

section
variable {κ : Type} [DecidableEq κ] {P : Program} {k : TypeId} {enc : κ → Value}
theorem store_at {w : World} {b : Nat} {f : κ → Option Value} {es : Array MapEntry} {clock : Nat} (hb : w.heap[b]? = some (.map es clock)) (hv : MapView enc es clock f) (K : MKey P k enc) {t e : TypeId} (ht : P.underlying t = some (.map k e)) (x : κ) {old : Value} (hf : f x = some old) (v : Value) :
    ∃ es', (Instr.mapUpdate t (.map (some b)) (enc x) v).run P w = .ok () (setBlock w b (.map es' clock)) ∧ MapView enc es' clock (upd f x (some v)) ∧
      es'.toList.map (fun a => (a.key, a.born)) = es.toList.map (fun a => (a.key, a.born)) := by
  rcases K.find w x es.toList hv.2.1 with ⟨h1, h2⟩ | ⟨j, e0, h1, h2, h3⟩
  · obtain ⟨a, ha, hk, -⟩ := (hv.2.2 x old).1 hf
    exact absurd hk (h2 a ha)
  · have hj : es[j]? = some e0 := by simpa using h2
    have hjl : j < es.toList.length := (List.getElem?_eq_some_iff.1 h2).1
    have hm0 : e0 ∈ es.toList := List.mem_of_getElem? h2
    have hlist : (es.modify j (fun e' => { e' with key := enc x, val := v })).toList = es.toList.set j { e0 with key := enc x, val := v } := by rw [Array.toList_modify, ChangeMaps.modify_eq_set _ _ _ _ h2]
    have hmem : ∀ a, a ∈ es.toList.set j { e0 with key := enc x, val := v } ↔ a = { e0 with key := enc x, val := v } ∨ (a ∈ es.toList ∧ a.key ≠ enc x) := by
      intro a
      constructor
      · intro ha
        obtain ⟨i, hi, ex⟩ := List.getElem_of_mem ha
        rw [List.getElem_set] at ex
        split at ex
        · exact Or.inl ex.symm
        · rename_i hne
          have hi' : i < es.toList.length := by simpa using hi
          refine Or.inr ⟨ex ▸ List.getElem_mem hi', fun hk => hne ?_⟩
          exact (keys_apart hv.1.2.2 (List.getElem?_eq_getElem hi') h2 (by rw [ex, hk, h3])).symm
      · rintro (rfl | ⟨ha, hk⟩)
        · exact List.mem_iff_getElem.2 ⟨j, by simpa using hjl, by simp⟩
        · obtain ⟨i, hi, rfl⟩ := List.getElem_of_mem ha
          have hne : j ≠ i := by
            rintro rfl
            rw [List.getElem?_eq_getElem hi] at h2
            cases h2
            exact hk h3
          exact List.mem_iff_getElem.2 ⟨i, by simpa using hi, by rw [List.getElem_set_ne hne]⟩
    refine ⟨es.modify j (fun e' => { e' with key := enc x, val := v }), ?_, ⟨MapKept.stamped_modify hv.1 _ _ (fun _ _ => rfl) (fun e' _ he' => by rw [hj] at he'; cases he'; exact h3.symm), ?_, ?_⟩, ?_⟩
    · simp [Instr.mapUpdate, run_underlying ht, MapKept.run_getObj_map hb, K.check w, h1, hj, h3, K.stays w, MapKept.run_setObj_map _ hb, Result.andThen, setBlock]
    · intro e he
      rw [hlist] at he
      rcases (hmem e).1 he with rfl | ⟨ha, _⟩
      · exact ⟨x, rfl⟩
      · exact hv.2.1 e ha
    · intro y u
      rw [hlist]
      by_cases hy : y = x
      · subst hy
        rw [upd_same]
        constructor
        · rintro ⟨⟩; exact ⟨_, (hmem _).2 (Or.inl rfl), rfl, rfl⟩
        · rintro ⟨e', he', hk', hu⟩
          rcases (hmem e').1 he' with rfl | ⟨_, hne⟩
          · rw [← hu]
          · exact absurd hk' hne
      · rw [upd_other _ _ hy, hv.2.2]
        constructor
        · rintro ⟨e', he', hk', hu⟩
          exact ⟨e', (hmem e').2 (Or.inr ⟨he', fun h => hy (K.inj (hk'.symm.trans h))⟩), hk', hu⟩
        · rintro ⟨e', he', hk', hu⟩
          rcases (hmem e').1 he' with rfl | ⟨ha, _⟩
          · exact absurd (K.inj hk').symm hy
          · exact ⟨e', ha, hk', hu⟩
    · rw [hlist, List.map_set]
      refine List.ext_getElem? (fun i => ?_)
      rw [List.getElem?_set]
      split
      · rename_i e1
        subst e1
        rw [if_pos (by simpa using hjl), List.getElem?_map, h2]
        simp [h3]
      · rfl
theorem Iter.set {w : World} {r b n : Nat} {f : κ → Option Value} {L : κ → Prop} (h : Iter enc w r b f L n) (K : MKey P k enc) {t e : TypeId} (ht : P.underlying t = some (.map k e)) (x : κ) {old : Value} (hf : f x = some old) (v : Value) :
    ∃ ob, (Instr.mapUpdate t (.map (some b)) (enc x) v).run P w = .ok () (setBlock w b ob) ∧ Iter enc (setBlock w b ob) r b (upd f x (some v)) L n := by
  have hne := h.ne
  have hbl := h.lt.1
  obtain ⟨es, clock, since, seen, last, hb, hr, hv, hold, hcl, hL, hn⟩ := h
  obtain ⟨es', hrun, hv', hmap⟩ := store_at (P := P) hb hv K ht x hf v
  have hmem : ∀ (y : Value) (c : Nat), (∃ a ∈ es'.toList, a.key = y ∧ a.born = c) ↔ ∃ a ∈ es.toList, a.key = y ∧ a.born = c := by
    intro y c
    have := congrArg (fun l => (y, c) ∈ l) hmap
    simp only [List.mem_map, Prod.mk.injEq] at this
    exact this ▸ Iff.rfl
  refine ⟨_, hrun, es', clock, since, seen, last, heap_setBlock_same hbl _, (heap_setBlock_other _ hne).trans hr, hv', fun a ha => ?_, hcl, fun y => ?_, ?_⟩
  · obtain ⟨a', ha', -, hbo⟩ := (hmem a.key a.born).1 ⟨a, ha, rfl, rfl⟩
    rw [← hbo]; exact hold a' ha'
  · rw [hL y]
    constructor
    · rintro ⟨a, ha, hk, hs⟩
      obtain ⟨a', ha', hk', hbo⟩ := (hmem a.key a.born).2 ⟨a, ha, rfl, rfl⟩
      exact ⟨a', ha', hk'.trans hk, by rw [hbo]; exact hs⟩
    · rintro ⟨a, ha, hk, hs⟩
      obtain ⟨a', ha', hk', hbo⟩ := (hmem a.key a.born).1 ⟨a, ha, rfl, rfl⟩
      exact ⟨a', ha', hk'.trans hk, by rw [hbo]; exact hs⟩
  · rw [hn]
    unfold leftOf
    have e1 : ∀ (A : Array MapEntry), (A.filter (fun e => !seen.contains e.born)).size = ((A.toList.map (fun a => (a.key, a.born))).filter (fun p => !seen.contains p.2)).length := fun A => by
      rw [List.filter_map, List.length_map, ← Array.length_toList, Array.toList_filter]
      rfl
    have h1 := e1 es
    have h2 := e1 es'
    rw [hmap] at h2
    exact h1.trans h2.symm
end
end Go.Proofs.Ytamjopgpmeeheaa
