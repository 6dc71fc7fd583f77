/- slices.Compact of numbers; what a sorted and compacted slice holds. -/
import Derived.Test.YtamjopgpmeeheaaCB
import Derived.Shelf.Slices.CompactI
namespace Go.Proofs.Ytamjopgpmeeheaa
open Go.RowKit Go.Shelf Go.Sort
set_option linter.unusedVariables false

def Try.laysNm220_ren : Go.Shelf.Ren := ⟨fun | 20 => 44 | n => n, fun | 22 => 44 | 3 => 3 | 4 => 4 | 0 => 0 | n => n, fun | n => n⟩
theorem Try.laysNm220 : Go.Proofs.Lays2.n20 Try.prog Try.laysNm220_ren := {
  mixed := by kernel_rfl
  f20 := Try.func44.trans (congrArg some (by kernel_rfl))
  t0 := Try.underlying0
  a0 := Try.isAgg0
  z0 := Try.sizeOf0
  v0 := Try.zeroValue0
  t3 := Try.underlying3
  a3 := Try.isAgg3
  z3 := Try.sizeOf3
  v3 := Try.zeroValue3
  t4 := Try.underlying4
  a4 := Try.isAgg4
  z4 := Try.sizeOf4
  v4 := Try.zeroValue4
  t22 := Try.underlying44
  a22 := Try.isAgg44
  z22 := Try.sizeOf44
  v22 := Try.zeroValue44
  i3 := by kernel_rfl }

theorem get_bang (zs : List Int) {j : Nat} {x : Int} (h : zs[j]? = some x) : zs.toArray[j]! = x := by
  obtain ⟨hj, rfl⟩ := List.getElem?_eq_some_iff.1 h
  simp [hj]
theorem bang_get (zs : List Int) {j : Nat} (h : j < zs.length) : zs[j]? = some (zs.toArray[j]!) := by
  simp [h]
/-- a sorted list, compacted, rises, and has just the same numbers -/
theorem compact_spec {zs : List Int} (hs : zs.Pairwise (· ≤ ·)) : (Lib.compact zs).Pairwise (· < ·) ∧ ∀ x, x ∈ Lib.compact zs ↔ x ∈ zs := by
  have hle : ∀ i j, i ≤ j → j < zs.length → zs.toArray[i]! ≤ zs.toArray[j]! := fun i j hij hj => by
    rcases Nat.lt_or_eq_of_le hij with h | h
    · have := List.pairwise_iff_getElem.1 hs i j (by omega) hj h
      simpa [getElem!_pos, hj, (by omega : i < zs.length)] using this
    · subst h; exact Int.le_refl _
  have key : ∀ m, m ≤ zs.length → (Lib.compactUpTo zs.toArray m).Pairwise (· < ·) ∧ (∀ x, x ∈ Lib.compactUpTo zs.toArray m ↔ ∃ j, j < m ∧ zs.toArray[j]! = x) := fun m => by
    induction m with
    | zero =>
      intro _
      refine ⟨by simp [Lib.compactUpTo], fun x => ?_⟩
      simp [Lib.compactUpTo]
    | succ m ih =>
      intro hm
      obtain ⟨i1, i2⟩ := ih (by omega)
      rw [Lib.compactUpTo_succ]
      cases hk : Lib.keeps zs.toArray m with
      | false =>
        have hk' : m ≠ 0 ∧ zs.toArray[m]! = zs.toArray[m - 1]! := by
          have := hk; unfold Lib.keeps at this
          simp only [decide_eq_false_iff_not, not_or, ne_eq, Decidable.not_not] at this
          exact this
        simp only [Bool.false_eq_true, if_false, List.append_nil]
        refine ⟨i1, fun x => (i2 x).trans ⟨fun ⟨j, hj, e⟩ => ⟨j, by omega, e⟩, fun ⟨j, hj, e⟩ => ?_⟩⟩
        by_cases h : j = m
        · subst h; exact ⟨j - 1, by omega, by rw [← hk'.2]; exact e⟩
        · exact ⟨j, by omega, e⟩
      | true =>
        have hk' : m = 0 ∨ zs.toArray[m]! ≠ zs.toArray[m - 1]! := by
          have := hk; unfold Lib.keeps at this
          simpa using this
        simp only [if_true]
        refine ⟨List.pairwise_append.2 ⟨i1, by simp, fun a ha b hb => ?_⟩, fun x => ?_⟩
        · simp only [List.mem_singleton] at hb
          subst hb
          obtain ⟨j, hj, rfl⟩ := (i2 a).1 ha
          have h1 := hle j (m - 1) (by omega) (by omega)
          have h2 := hle (m - 1) m (by omega) (by omega)
          have h3 : zs.toArray[m]! ≠ zs.toArray[m - 1]! := hk'.resolve_left (by omega)
          omega
        · rw [List.mem_append, i2]
          constructor
          · rintro (⟨j, hj, e⟩ | h)
            · exact ⟨j, by omega, e⟩
            · exact ⟨m, by omega, (List.mem_singleton.1 h).symm⟩
          · rintro ⟨j, hj, e⟩
            by_cases h : j = m
            · subst h; exact .inr (List.mem_singleton.2 e.symm)
            · exact .inl ⟨j, by omega, e⟩
  obtain ⟨k1, k2⟩ := key zs.length (Nat.le_refl _)
  refine ⟨k1, fun x => (k2 x).trans ⟨fun ⟨j, hj, e⟩ => ?_, fun hx => ?_⟩⟩
  · have := bang_get zs hj
    rw [e] at this
    exact List.mem_of_getElem? this
  · obtain ⟨j, hj⟩ := List.mem_iff_getElem?.1 hx
    exact ⟨j, (List.getElem?_eq_some_iff.1 hj).1, get_bang zs hj⟩

theorem compact_len (zs : List Int) : (Lib.compact zs).length ≤ zs.length := by
  unfold Lib.compact Lib.compactUpTo
  rw [List.length_map]
  exact Nat.le_trans (List.length_filter_le ..) (by simp)
/-- slices.Sort, said of the row -/
theorem sortH_any (g cap : Nat) (zs : List Int) (cur : Array Value) (w : World) (hg : w.heap[g]? = some (.cells cur 3 (0, 0))) (hlen : zs.length < 4611686018427387904) (hcur : cur.toList.take zs.length = zs.map iv) :
    Calls Try.prog 43 #[.slice (some ⟨g, 0, none⟩) zs.length cap] w fun e w' => e = .returned (.tuple #[]) ∧ Chg (fun k => k = g) w w' ∧ Holds (Value.int .i64) w' g 0 (sorted zs).toArray := by
  have hlt : g < w.heap.size := (Array.getElem?_eq_some_iff.1 hg).1
  have hH : Holds (Value.int .i64) w g 0 zs.toArray := by
    intro j hj
    have hj' : j < zs.length := by simpa using hj
    refine ⟨?_, free_block hg _⟩
    have h1 : (cur.toList.take zs.length)[j]? = some (iv zs[j]) := by rw [hcur]; simp [hj']
    rw [List.getElem?_take_of_lt hj'] at h1
    simp only [World.cell?, hg, Nat.zero_add]
    rw [Array.getElem?_toList] at h1
    simp [h1, hj']
  refine (Any.slices_Sort_int Try.lays189 g 0 cap zs w hH hlt hlen).mono ?_
  rintro e w' ⟨rfl, n, os, rfl⟩
  refine ⟨rfl, ⟨rfl, rfl, rfl, by simp, fun k hk hn => ?_⟩, ?_⟩
  · rw [heap_grow_old _ _ (by simpa using hk)]
    simp only [putRow, mapBlock]
    rw [Array.getElem?_modify, if_neg (fun e => hn e.symm)]
    rfl
  · have hs : (sorted zs).toArray.size = zs.toArray.size := by simp [sorted_length]
    have := holds_putRow (Value.int .i64) (Sort.ahead w n) g 0 zs.toArray (sorted zs).toArray (holds_ahead _ _ n _ _ _ hH) hs
    intro j hj
    have hj' := this j hj
    have hgl : g < (putRow (Value.int .i64) (Sort.ahead w n) g 0 (sorted zs).toArray).heap.size := by simpa using hlt
    refine ⟨?_, ?_⟩
    · rw [cell?_grow _ _ _ (by simpa using hlt)]
      exact hj'.1
    · rw [frozen?_grow _ _ _ (by simpa using hlt)]
      exact hj'.2
theorem compact_any (g cap : Nat) (zs : List Int) (w : World) (hH : Holds (Value.int .i64) w g 0 zs.toArray) (hsz : zs.length ≤ 9223372036854775807) (hcap : zs.length ≤ cap) :
    Calls Try.prog 44 #[.slice (some ⟨g, 0, none⟩) zs.length cap] w fun e w' => e = .returned (.slice (some ⟨g, 0, none⟩) (Lib.compact zs).length cap) ∧ Chg (fun k => k = g) w w' ∧
      ∀ (j : Nat) (x : Int), (Lib.compact zs)[j]? = some x → w'.cell? ⟨g, 0 + j, none⟩ = some (.int .i64 x) := by
  refine (Any.slices_Compact_int Try.laysNm220 g 0 cap zs w hH hsz hcap).mono ?_
  rintro e w' ⟨rfl, q, rfl⟩
  refine ⟨rfl, ⟨rfl, rfl, rfl, by simp, fun k hk hn => ?_⟩, fun j x hj => ?_⟩
  · simp only [putRow, mapBlock]
    rw [Array.getElem?_modify, if_neg (fun e => hn e.symm)]
    rfl
  · have hle : (Lib.compact zs).length ≤ zs.length := by
      unfold Lib.compact Lib.compactUpTo
      rw [List.length_map]
      exact Nat.le_trans (List.length_filter_le ..) (by simp)
    have hjl := (List.getElem?_eq_some_iff.1 hj).1
    have hs : (Lib.compact zs ++ List.replicate (zs.length - (Lib.compact zs).length) 0).toArray.size = zs.toArray.size := by simp; omega
    have := holds_putRow (Value.int .i64) (Sort.ahead w q) g 0 zs.toArray _ (holds_ahead _ _ q _ _ _ hH) hs j (by rw [hs]; simp; omega)
    rw [this.1]
    have hx := get_bang (Lib.compact zs ++ List.replicate (zs.length - (Lib.compact zs).length) 0) (j := j) (x := x) (by rw [List.getElem?_append_left hjl]; exact hj)
    rw [hx]
theorem compact_none (a : Option Addr) (cap : Nat) (w : World) : Calls Try.prog 44 #[.slice a 0 cap] w fun e w' => e = .returned (.slice a 0 cap) ∧ w = w' :=
  (Any.slices_Compact_int_empty Try.laysNm220 a cap w).mono fun _ _ ⟨h, h'⟩ => ⟨h, h'.symm⟩
end Go.Proofs.Ytamjopgpmeeheaa
