/- slices.Sort at int, in the words of these texts. -/
import Derived.Shelf.Sort.Plain
import Derived.Shelf.Slices.In.SortNone
import Derived.Test.YtinkjhkbaadbpaaVI
namespace Go.Proofs.Ytinkjhkbaadbpaa
open Go.Shelf Go.Sort Go.RowKit
def Try.lays189_ren : Go.Shelf.Ren := ⟨fun | 189 => 124 | 125 => 131 | 257 => 143 | 128 => 157 | 129 => 158 | 294 => 161 | 295 => 162 | 296 => 163 | 297 => 164 | 298 => 165 | 299 => 166 | 216 => 167 | 300 => 168 | 301 => 169 | 328 => 180 | 329 => 176 | 330 => 177 | 331 => 181 | 332 => 182 | 215 => 183 | 343 => 187 | n => n, fun | 28 => 33 | 3 => 3 | 46 => 184 | 0 => 0 | 51 => 203 | 53 => 66 | 4 => 4 | 183 => 196 | 182 => 195 | 131 => 200 | 5 => 5 | 9 => 9 | 218 => 215 | 222 => 127 | 228 => 224 | 229 => 221 | n => n, fun | n => n⟩
theorem Try.lays189 : Go.Proofs.Lays.n189 Try.prog Try.lays189_ren := {
  mixed := by kernel_rfl
  f125 := Try.func131.trans (congrArg some (by kernel_rfl))
  f128 := Try.func157.trans (congrArg some (by kernel_rfl))
  f129 := Try.func158.trans (congrArg some (by kernel_rfl))
  f189 := Try.func124.trans (congrArg some (by kernel_rfl))
  f215 := Try.func183.trans (congrArg some (by kernel_rfl))
  f216 := Try.func167.trans (congrArg some (by kernel_rfl))
  f257 := Try.func143.trans (congrArg some (by kernel_rfl))
  f294 := Try.func161.trans (congrArg some (by kernel_rfl))
  f295 := Try.func162.trans (congrArg some (by kernel_rfl))
  f296 := Try.func163.trans (congrArg some (by kernel_rfl))
  f297 := Try.func164.trans (congrArg some (by kernel_rfl))
  f298 := Try.func165.trans (congrArg some (by kernel_rfl))
  f299 := Try.func166.trans (congrArg some (by kernel_rfl))
  f300 := Try.func168.trans (congrArg some (by kernel_rfl))
  f301 := Try.func169.trans (congrArg some (by kernel_rfl))
  f328 := Try.func180.trans (congrArg some (by kernel_rfl))
  f329 := Try.func176.trans (congrArg some (by kernel_rfl))
  f330 := Try.func177.trans (congrArg some (by kernel_rfl))
  f331 := Try.func181.trans (congrArg some (by kernel_rfl))
  f332 := Try.func182.trans (congrArg some (by kernel_rfl))
  f343 := Try.func187.trans (congrArg some (by kernel_rfl))
  t0 := Try.underlying0
  a0 := Try.isAgg0
  z0 := Try.sizeOf0
  v0 := Try.zeroValue0
  t3 := Try.underlying3
  a3 := Try.isAgg3
  z3 := Try.sizeOf3
  v3 := Try.zeroValue3
  t4 := Try.underlying4
  a4 := Try.isAgg4
  z4 := Try.sizeOf4
  v4 := Try.zeroValue4
  t5 := Try.underlying5
  a5 := Try.isAgg5
  z5 := Try.sizeOf5
  v5 := Try.zeroValue5
  t9 := Try.underlying9
  a9 := Try.isAgg9
  z9 := Try.sizeOf9
  v9 := Try.zeroValue9
  t28 := Try.underlying33
  a28 := Try.isAgg33
  z28 := Try.sizeOf33
  v28 := Try.zeroValue33
  t46 := Try.underlying184
  a46 := Try.isAgg184
  z46 := Try.sizeOf184
  v46 := Try.zeroValue184
  t51 := Try.underlying203
  a51 := Try.isAgg203
  z51 := Try.sizeOf203
  v51 := Try.zeroValue203
  t53 := Try.underlying66
  a53 := Try.isAgg66
  z53 := Try.sizeOf66
  v53 := Try.zeroValue66
  t131 := Try.underlying200
  a131 := Try.isAgg200
  z131 := Try.sizeOf200
  v131 := Try.zeroValue200
  t182 := Try.underlying195
  a182 := Try.isAgg195
  z182 := Try.sizeOf195
  v182 := Try.zeroValue195
  t183 := Try.underlying196
  a183 := Try.isAgg196
  z183 := Try.sizeOf196
  v183 := Try.zeroValue196
  t218 := Try.underlying215
  a218 := Try.isAgg215
  z218 := Try.sizeOf215
  v218 := Try.zeroValue215
  t222 := Try.underlying127
  a222 := Try.isAgg127
  z222 := Try.sizeOf127
  v222 := Try.zeroValue127
  t228 := Try.underlying224
  a228 := Try.isAgg224
  z228 := Try.sizeOf224
  v228 := Try.zeroValue224
  t229 := Try.underlying221
  a229 := Try.isAgg221
  z229 := Try.sizeOf221
  v229 := Try.zeroValue221 }
def sorted (zs : List Int) : List Int := zs.mergeSort fun x y => decide (x ≤ y)
theorem sorted_perm (zs : List Int) : (sorted zs).Perm zs := List.mergeSort_perm _ _
theorem sorted_length (zs : List Int) : (sorted zs).length = zs.length := (sorted_perm zs).length_eq
theorem sorted_rise (zs : List Int) : (sorted zs).Pairwise (· ≤ ·) := by
  have := List.pairwise_mergeSort (le := fun x y : Int => decide (x ≤ y)) (by simp; omega) (by simp; omega) zs
  unfold sorted
  simpa using this

theorem sort_none (a : Option Addr) (cap : Nat) (w : World) : Calls Try.prog 124 #[.slice a 0 cap] w fun e w' => e = .returned (.tuple #[]) ∧ w = w' :=
  (Any.slices_Sort_int_none Try.lays189 a cap w).mono fun _ _ ⟨h, h'⟩ => ⟨h, h'.symm⟩

theorem sort_any (g cap : Nat) (zs : List Int) (cur : Array Value) (w : World) (hg : w.heap[g]? = some (.cells cur 3 (0, 0))) (hlen : zs.length < 4611686018427387904) (hcur : cur.toList.take zs.length = zs.map iv) :
    Calls Try.prog 124 #[.slice (some ⟨g, 0, none⟩) zs.length cap] w fun e w' => e = .returned (.tuple #[]) ∧ Chg (fun k => k = g) w w' ∧
      ∀ (j : Nat) (x : Int), (sorted zs)[j]? = some x → w'.cell? ⟨g, 0 + j, none⟩ = some (.int .i64 x) := by
  have hlt : g < w.heap.size := (Array.getElem?_eq_some_iff.1 hg).1
  have hH : Holds (Value.int .i64) w g 0 zs.toArray := by
    intro j hj
    have hj' : j < zs.length := by simpa using hj
    refine ⟨?_, free_block hg _⟩
    have h1 : (cur.toList.take zs.length)[j]? = some (iv zs[j]) := by rw [hcur]; simp [hj']
    rw [List.getElem?_take_of_lt hj'] at h1
    simp only [World.cell?, hg, Nat.zero_add]
    rw [Array.getElem?_toList] at h1
    simp [h1, hj']
  refine (Any.slices_Sort_int Try.lays189 g 0 cap zs w hH hlt hlen).mono ?_
  rintro e w' ⟨rfl, n, os, rfl⟩
  refine ⟨rfl, ⟨rfl, rfl, rfl, by simp, fun k hk hn => ?_⟩, fun j x hj => ?_⟩
  · rw [heap_grow_old _ _ (by simpa using hk)]
    simp only [putRow, mapBlock]
    rw [Array.getElem?_modify, if_neg (fun e => hn e.symm)]
    rfl
  · have hs : (sorted zs).toArray.size = zs.toArray.size := by simp [sorted_length]
    have hj' : j < (sorted zs).toArray.size := by have := (List.getElem?_eq_some_iff.1 hj).1; simpa using this
    rw [cell?_grow _ _ _ (by simpa using hlt)]
    have := (holds_putRow (Value.int .i64) (Sort.ahead w n) g 0 zs.toArray (sorted zs).toArray (holds_ahead _ _ n _ _ _ hH) hs j hj').1
    rw [sorted] at this
    rw [this]
    have hx : ((sorted zs).toArray)[j]! = x := by
      have hl := (List.getElem?_eq_some_iff.1 hj)
      simp [hj]
    rw [sorted] at hx
    rw [hx]
end Go.Proofs.Ytinkjhkbaadbpaa
