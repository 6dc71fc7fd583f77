/- slices.Sort at int, in the words of these texts. -/
import Derived.Shelf.Lay
import Derived.Shelf.Sort.Plain
import Derived.Shelf.Slices.In.SortNone
import Derived.Ground.Names2Prog
import Derived.Test.YtinkjhkbaadbpaaVI
namespace Go.Proofs.Ytinkjhkbaadbpaa
open Go.Shelf Go.Sort Go.RowKit
shelf_lay Lays.n189 Nm 189 at Try as Try.lays189

def sorted (zs : List Int) : List Int := zs.mergeSort fun x y => decide (x ≤ y)
theorem sorted_perm (zs : List Int) : (sorted zs).Perm zs := List.mergeSort_perm _ _
theorem sorted_length (zs : List Int) : (sorted zs).length = zs.length := (sorted_perm zs).length_eq
theorem sorted_rise (zs : List Int) : (sorted zs).Pairwise (· ≤ ·) := by
  have := List.pairwise_mergeSort (le := fun x y : Int => decide (x ≤ y)) (by simp; omega) (by simp; omega) zs
  unfold sorted
  simpa using this

theorem sort_none (a : Option Addr) (cap : Nat) (w : World) : Calls Try.prog 124 #[.slice a 0 cap] w fun e w' => e = .returned (.tuple #[]) ∧ w = w' :=
  (Any.slices_Sort_int_none Try.lays189 a cap w).mono fun _ _ ⟨h, h'⟩ => ⟨h, h'.symm⟩

theorem sort_any (g cap : Nat) (zs : List Int) (cur : Array Value) (w : World) (hg : w.heap[g]? = some (.cells cur 3 (0, 0))) (hlen : zs.length < 4611686018427387904) (hcur : cur.toList.take zs.length = zs.map iv) :
    Calls Try.prog 124 #[.slice (some ⟨g, 0, none⟩) zs.length cap] w fun e w' => e = .returned (.tuple #[]) ∧ Chg (fun k => k = g) w w' ∧
      ∀ (j : Nat) (x : Int), (sorted zs)[j]? = some x → w'.cell? ⟨g, 0 + j, none⟩ = some (.int .i64 x) := by
  have hlt : g < w.heap.size := (Array.getElem?_eq_some_iff.1 hg).1
  have hH : Holds (Value.int .i64) w g 0 zs.toArray := by
    intro j hj
    have hj' : j < zs.length := by simpa using hj
    refine ⟨?_, free_block hg _⟩
    have h1 : (cur.toList.take zs.length)[j]? = some (iv zs[j]) := by rw [hcur]; simp [hj']
    rw [List.getElem?_take_of_lt hj'] at h1
    simp only [World.cell?, hg, Nat.zero_add]
    rw [Array.getElem?_toList] at h1
    simp [h1, hj']
  refine (Any.slices_Sort_int Try.lays189 g 0 cap zs w hH hlt hlen).mono ?_
  rintro e w' ⟨rfl, n, os, rfl⟩
  refine ⟨rfl, ⟨rfl, rfl, rfl, by simp, fun k hk hn => ?_⟩, fun j x hj => ?_⟩
  · rw [heap_grow_old _ _ (by simpa using hk)]
    simp only [putRow, mapBlock]
    rw [Array.getElem?_modify, if_neg (fun e => hn e.symm)]
    rfl
  · have hs : (sorted zs).toArray.size = zs.toArray.size := by simp [sorted_length]
    have hj' : j < (sorted zs).toArray.size := by have := (List.getElem?_eq_some_iff.1 hj).1; simpa using this
    rw [cell?_grow _ _ _ (by simpa using hlt)]
    have := (holds_putRow (Value.int .i64) (Sort.ahead w n) g 0 zs.toArray (sorted zs).toArray (holds_ahead _ _ n _ _ _ hH) hs j hj').1
    rw [sorted] at this
    rw [this]
    have hx : ((sorted zs).toArray)[j]! = x := by
      have hl := (List.getElem?_eq_some_iff.1 hj)
      simp [hj]
    rw [sorted] at hx
    rw [hx]
end Go.Proofs.Ytinkjhkbaadbpaa
