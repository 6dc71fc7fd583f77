/- Slices of ints, worlds that turn but in some blocks, slices.Sort (as in the texts of another seat of mine). -/
import Derived.Test.YtkfmgeddckcnkaaPK
import Derived.Shelf.Sort.Plain
import Derived.Shelf.Slices.In.SortNone
import Derived.Deep.RegionWith
import Derived.Maps.AppendAt
import Derived.Deep.RegionHeld3
import Derived.Lib.SmallJoins
namespace Go.Proofs.Ytkfmgeddckcnkaa
open Go.RowKit Go.Shelf Go.Sort
open Go.ChangeMaps (setBlock)
set_option linter.unusedVariables false

theorem ret_eq {a b : Value} (h : a = b) : Ending.returned a = Ending.returned b := by rw [h]
theorem ret_b {a b : Bool} (h : a = b) : Ending.returned (.bool a) = Ending.returned (.bool b) := by rw [h]
theorem ret_i {k : IntKind} {a b : Int} (h : a = b) : Ending.returned (.int k a) = Ending.returned (.int k b) := by rw [h]

/-- Of what w' holds in blocks of F it holds what w does. -/
def Keeps (F : Nat → Prop) (w w' : World) : Prop := ∀ b, F b → w'.heap[b]? = w.heap[b]?
theorem Keeps.refl (F : Nat → Prop) (w : World) : Keeps F w w := fun _ _ => rfl
theorem Keeps.trans {F : Nat → Prop} {a b c : World} (h : Keeps F a b) (h' : Keeps F b c) : Keeps F a c := fun k hk => (h' k hk).trans (h k hk)
theorem Keeps.mono {F G : Nat → Prop} {a b : World} (h : Keeps G a b) (hf : ∀ k, F k → G k) : Keeps F a b := fun k hk => h k (hf k hk)
theorem Keeps.cell {F : Nat → Prop} {w w' : World} (h : Keeps F w w') {p : Addr} (hp : F p.block) : w'.cell? p = w.cell? p := World.cell?_of_block (h _ hp)
/-- The blocks that lie in a world of n blocks. -/
abbrev Old (n : Nat) : Nat → Prop := fun b => b < n
theorem keeps_below {n : Nat} {w w' : World} (h : Below n w w') : Keeps (Old n) w w' := fun k hk => h.block k hk

/-- A slice of ints in memory, in a block of F. -/
def IntsIn (F : Nat → Prop) (w : World) (v : Value) (xs : List Int) : Prop :=
  ∃ a cap, v = .slice a xs.length cap ∧ xs.length ≤ cap ∧ cap ≤ maxLen ∧ (xs = [] ∨ ∃ g off, a = some ⟨g, off, none⟩ ∧ F g ∧ ∀ j x, xs[j]? = some x → w.cell? ⟨g, off + j, none⟩ = some (.int .i64 x))
theorem IntsIn.keep {F : Nat → Prop} {w w' : World} {v : Value} {xs : List Int} (h : IntsIn F w v xs) (hk : Keeps F w w') : IntsIn F w' v xs := by
  obtain ⟨a, cap, rfl, h1, h2, rfl | ⟨g, off, rfl, hg, hc⟩⟩ := h
  · exact ⟨a, cap, rfl, h1, h2, .inl rfl⟩
  · exact ⟨_, cap, rfl, h1, h2, .inr ⟨g, off, rfl, hg, fun j x hx => (hk.cell (p := ⟨g, off + j, none⟩) hg).trans (hc j x hx)⟩⟩
theorem IntsIn.mono {F G : Nat → Prop} {w : World} {v : Value} {xs : List Int} (h : IntsIn F w v xs) (hf : ∀ k, F k → G k) : IntsIn G w v xs := by
  obtain ⟨a, cap, rfl, h1, h2, rfl | ⟨g, off, rfl, hg, hc⟩⟩ := h
  · exact ⟨a, cap, rfl, h1, h2, .inl rfl⟩
  · exact ⟨_, cap, rfl, h1, h2, .inr ⟨g, off, rfl, hf _ hg, hc⟩⟩
theorem IntsIn.len {F : Nat → Prop} {w : World} {v : Value} {xs : List Int} (h : IntsIn F w v xs) : xs.length ≤ 9223372036854775807 := by
  obtain ⟨a, cap, rfl, h1, h2, _⟩ := h
  unfold maxLen at h2
  omega
theorem intsIn_nil (F : Nat → Prop) (w : World) : IntsIn F w (.slice none 0 0) [] := ⟨none, 0, rfl, by simp, by simp, .inl rfl⟩

abbrev New (n : Nat) : Nat → Prop := fun b => n ≤ b
abbrev iv (n : Int) : Value := .int .i64 n
theorem Try.info3 : (Try.prog.info? 3).map (fun i => (i.zero, i.size, i.bytes)) = some (some (.int .i64 0), 1, 8) := by kernel_rfl
theorem intsIn_row {w : World} {B : Nat} {v : Value} {xs : List Int} (h : w.ownsRow B 3 1 v xs.length (xs.map (Value.int .i64))) : IntsIn (New B) w v xs := by
  obtain ⟨hl, h⟩ := h
  rcases h with ⟨rfl, h0⟩ | ⟨g, cap, cur, rfl, hb, hg, h1, h2, h3, h4⟩
  · obtain rfl : xs = [] := List.eq_nil_of_length_eq_zero h0
    exact intsIn_nil _ _
  · refine ⟨_, cap, rfl, h1, h2, .inr ⟨g, 0, rfl, hb, fun j x hx => ?_⟩⟩
    have hj : j < xs.length := (List.getElem?_eq_some_iff.1 hx).1
    have : cur.toList[j]? = some (.int .i64 x) := by
      have e : (cur.toList.take (xs.length * 1))[j]? = some (.int .i64 x) := by rw [h4]; simp [hx]
      rw [List.getElem?_take_of_lt (by omega)] at e
      exact e
    simpa [World.cell?, hg] using this

theorem IntsIn.bound {F : Nat → Prop} {w : World} {v : Value} {xs : List Int} (h : IntsIn F w v xs) : IntsIn (fun b => F b ∧ b < w.heap.size) w v xs := by
  obtain ⟨a, cap, rfl, h1, h2, hx⟩ := h
  cases xs with
  | nil => exact ⟨a, cap, rfl, h1, h2, .inl rfl⟩
  | cons x xs =>
    rcases hx with hx | ⟨g, off, rfl, hg, hc⟩
    · cases hx
    · exact ⟨_, cap, rfl, h1, h2, .inr ⟨g, off, rfl, ⟨hg, World.block_lt_of_cell? w _ (hc 0 x rfl)⟩, hc⟩⟩
theorem Keeps.setCell {F : Nat → Prop} {w w' : World} (h : Keeps F w w') {a : Addr} (v : Value) (ha : ¬ F a.block) : Keeps F w (w'.setCell a v) :=
  fun k hk => (heap_setCell_other w' a k v (by rintro rfl; exact ha hk)).trans (h k hk)
theorem Keeps.setAt {F : Nat → Prop} {w w' : World} (h : Keeps F w w') {b : Nat} (hb : ¬ F b) (j : Nat) (v : Value) : Keeps F w (w'.setCell ⟨b, j, none⟩ v) := h.setCell v hb
theorem below_setAt {B : Nat} {w w' : World} (h : Below B w w') {b : Nat} (hb : B ≤ b) (j : Nat) (v : Value) : Below B w (w'.setCell ⟨b, j, none⟩ v) := h.setCell (p := ⟨b, j, none⟩) hb v
theorem free_block {w : World} {B T : Nat} {cs : Array Value} (h : w.heap[B]? = some (.cells cs T (0, 0))) (j : Nat) : w.frozen? ⟨B, j, none⟩ = false := by simp [World.frozen?, h]

theorem drewN_drewN (w : World) (a b : Nat) : (w.drewN a).drewN b = w.drewN (a + b) := by simp [World.drewN, Nat.add_assoc]
/-- From w to w' nothing that lay in w turned, but blocks of M. -/
structure Chg (M : Nat → Prop) (w w' : World) : Prop where
  os : w'.os = w.os
  tape : w'.tape = w.tape
  output : w'.output = w.output
  size : w.heap.size ≤ w'.heap.size
  block : ∀ k, k < w.heap.size → ¬ M k → w'.heap[k]? = w.heap[k]?
theorem Chg.refl (M : Nat → Prop) (w : World) : Chg M w w := ⟨rfl, rfl, rfl, Nat.le_refl _, fun _ _ _ => rfl⟩
theorem Chg.andThen {M M' : Nat → Prop} {a b c : World} (h : Chg M a b) (h' : Chg M' b c) (hM : ∀ k, k < a.heap.size → M' k → M k) : Chg M a c :=
  ⟨h'.os.trans h.os, h'.tape.trans h.tape, h'.output.trans h.output, Nat.le_trans h.size h'.size, fun k hk hn => (h'.block k (Nat.lt_of_lt_of_le hk h.size) (fun hm => hn (hM k hk hm))).trans (h.block k hk hn)⟩
theorem Chg.trans {M : Nat → Prop} {a b c : World} (h : Chg M a b) (h' : Chg M b c) : Chg M a c := h.andThen h' (fun _ _ h => h)
theorem Chg.mono {M M' : Nat → Prop} {a b : World} (h : Chg M a b) (hM : ∀ k, M k → M' k) : Chg M' a b := ⟨h.os, h.tape, h.output, h.size, fun k hk hn => h.block k hk (fun hm => hn (hM k hm))⟩
theorem chg_below {B : Nat} {w w' : World} (h : Below B w w') : Chg (fun k => B ≤ k) w w' := ⟨h.os, h.tape, h.output, h.size, fun k _ hn => h.block k (Nat.lt_of_not_le hn)⟩
/-- what only lays blocks turns nothing -/
theorem chg_new {M : Nat → Prop} {w w' : World} (h : Below w.heap.size w w') : Chg M w w' := ⟨h.os, h.tape, h.output, h.size, fun k hk _ => h.block k hk⟩
theorem Chg.new {M : Nat → Prop} {a b c : World} (h : Chg M a b) (h' : Below b.heap.size b c) : Chg M a c := h.trans (chg_new h')
theorem Chg.below {w w' : World} (h : Chg (fun _ => False) w w') : Below w.heap.size w w' := ⟨h.os, h.tape, h.output, h.size, fun k hk => h.block k hk (fun f => f)⟩
theorem Chg.keeps {M F : Nat → Prop} {w w' : World} (h : Chg M w w') (hF : ∀ k, F k → k < w.heap.size ∧ ¬ M k) : Keeps F w w' := fun k hk => h.block k (hF k hk).1 (hF k hk).2
theorem chg_set {M : Nat → Prop} {w : World} {b : Nat} (hb : M b) (j : Nat) (v : Value) : Chg M w (w.setCell ⟨b, j, none⟩ v) :=
  ⟨rfl, rfl, rfl, by simp [World.setCell], fun k _ hn => heap_setCell_other _ _ _ _ (by rintro rfl; exact hn hb)⟩
theorem chg_setBlock {M : Nat → Prop} {w : World} {b : Nat} (hb : M b) (o : Obj) : Chg M w (setBlock w b o) :=
  ⟨rfl, rfl, rfl, by simp, fun k _ hn => heap_setBlock_other _ (by rintro rfl; exact hn hb)⟩
theorem chg_alloc {M : Nat → Prop} (w : World) (o : Obj) : Chg M w (w.alloc o) := chg_new ((Below.refl _ _).alloc (Nat.le_refl _) _)
theorem chg_drewN {M : Nat → Prop} (w : World) (n : Nat) : Chg M w (w.drewN n) := chg_new (below_drewN (Below.refl _ _) n)
theorem chg_grown {M : Nat → Prop} {w w' : World} {row : Option Nat} (h : w.grownBy w' row) (hr : ∀ k, row = some k → M k) : Chg M w w' :=
  ⟨h.os, h.tape, h.output, h.size, fun k hk hn => h.block k hk (fun e => hn (hr k e.symm))⟩

theorem ownsRow_keeps {w w' : World} {B e size n : Nat} {v : Value} {xs : List Value} (h : w.ownsRow B e size v n xs) (hk : ∀ g, v.ownBlock = some g → w'.heap[g]? = w.heap[g]?) : w'.ownsRow B e size v n xs := by
  obtain ⟨hl, h⟩ := h
  rcases h with h | ⟨g, cap, cur, rfl, hb, hg, h1, h2, h3, h4⟩
  · exact ⟨hl, .inl h⟩
  · exact ⟨hl, .inr ⟨g, cap, cur, rfl, hb, (hk g rfl).trans hg, h1, h2, h3, h4⟩⟩
theorem below_of_chg {w w' : World} (h : Chg (New w.heap.size) w w') : Below w.heap.size w w' := ⟨h.os, h.tape, h.output, h.size, fun k hk => h.block k hk (Nat.not_le_of_lt hk)⟩
def Try.lays189_ren : Go.Shelf.Ren := ⟨fun | 189 => 27 | 125 => 30 | 257 => 29 | 128 => 40 | 129 => 41 | 294 => 31 | 295 => 32 | 296 => 33 | 297 => 34 | 298 => 35 | 299 => 36 | 216 => 37 | 300 => 38 | 301 => 39 | 328 => 42 | 329 => 43 | 330 => 44 | 331 => 45 | 332 => 46 | 215 => 47 | 343 => 48 | n => n, fun | 28 => 27 | 3 => 3 | 46 => 51 | 0 => 0 | 51 => 61 | 53 => 63 | 4 => 4 | 183 => 54 | 182 => 53 | 131 => 46 | 5 => 5 | 9 => 9 | 218 => 64 | 222 => 68 | 228 => 70 | 229 => 71 | n => n, fun | n => n⟩
theorem Try.lays189 : Go.Proofs.Lays.n189 Try.prog Try.lays189_ren := {
  mixed := by kernel_rfl
  f125 := Try.func30.trans (congrArg some (by kernel_rfl))
  f128 := Try.func40.trans (congrArg some (by kernel_rfl))
  f129 := Try.func41.trans (congrArg some (by kernel_rfl))
  f189 := Try.func27.trans (congrArg some (by kernel_rfl))
  f215 := Try.func47.trans (congrArg some (by kernel_rfl))
  f216 := Try.func37.trans (congrArg some (by kernel_rfl))
  f257 := Try.func29.trans (congrArg some (by kernel_rfl))
  f294 := Try.func31.trans (congrArg some (by kernel_rfl))
  f295 := Try.func32.trans (congrArg some (by kernel_rfl))
  f296 := Try.func33.trans (congrArg some (by kernel_rfl))
  f297 := Try.func34.trans (congrArg some (by kernel_rfl))
  f298 := Try.func35.trans (congrArg some (by kernel_rfl))
  f299 := Try.func36.trans (congrArg some (by kernel_rfl))
  f300 := Try.func38.trans (congrArg some (by kernel_rfl))
  f301 := Try.func39.trans (congrArg some (by kernel_rfl))
  f328 := Try.func42.trans (congrArg some (by kernel_rfl))
  f329 := Try.func43.trans (congrArg some (by kernel_rfl))
  f330 := Try.func44.trans (congrArg some (by kernel_rfl))
  f331 := Try.func45.trans (congrArg some (by kernel_rfl))
  f332 := Try.func46.trans (congrArg some (by kernel_rfl))
  f343 := Try.func48.trans (congrArg some (by kernel_rfl))
  t0 := Try.underlying0
  a0 := Try.isAgg0
  z0 := Try.sizeOf0
  v0 := Try.zeroValue0
  t3 := Try.underlying3
  a3 := Try.isAgg3
  z3 := Try.sizeOf3
  v3 := Try.zeroValue3
  t4 := Try.underlying4
  a4 := Try.isAgg4
  z4 := Try.sizeOf4
  v4 := Try.zeroValue4
  t5 := Try.underlying5
  a5 := Try.isAgg5
  z5 := Try.sizeOf5
  v5 := Try.zeroValue5
  t9 := Try.underlying9
  a9 := Try.isAgg9
  z9 := Try.sizeOf9
  v9 := Try.zeroValue9
  t28 := Try.underlying27
  a28 := Try.isAgg27
  z28 := Try.sizeOf27
  v28 := Try.zeroValue27
  t46 := Try.underlying51
  a46 := Try.isAgg51
  z46 := Try.sizeOf51
  v46 := Try.zeroValue51
  t51 := Try.underlying61
  a51 := Try.isAgg61
  z51 := Try.sizeOf61
  v51 := Try.zeroValue61
  t53 := Try.underlying63
  a53 := Try.isAgg63
  z53 := Try.sizeOf63
  v53 := Try.zeroValue63
  t131 := Try.underlying46
  a131 := Try.isAgg46
  z131 := Try.sizeOf46
  v131 := Try.zeroValue46
  t182 := Try.underlying53
  a182 := Try.isAgg53
  z182 := Try.sizeOf53
  v182 := Try.zeroValue53
  t183 := Try.underlying54
  a183 := Try.isAgg54
  z183 := Try.sizeOf54
  v183 := Try.zeroValue54
  t218 := Try.underlying64
  a218 := Try.isAgg64
  z218 := Try.sizeOf64
  v218 := Try.zeroValue64
  t222 := Try.underlying68
  a222 := Try.isAgg68
  z222 := Try.sizeOf68
  v222 := Try.zeroValue68
  t228 := Try.underlying70
  a228 := Try.isAgg70
  z228 := Try.sizeOf70
  v228 := Try.zeroValue70
  t229 := Try.underlying71
  a229 := Try.isAgg71
  z229 := Try.sizeOf71
  v229 := Try.zeroValue71 }
def sorted (zs : List Int) : List Int := zs.mergeSort fun x y => decide (x ≤ y)
theorem sorted_perm (zs : List Int) : (sorted zs).Perm zs := List.mergeSort_perm _ _
theorem sorted_length (zs : List Int) : (sorted zs).length = zs.length := (sorted_perm zs).length_eq
theorem sorted_rise (zs : List Int) : (sorted zs).Pairwise (· ≤ ·) := by
  have := List.pairwise_mergeSort (le := fun x y : Int => decide (x ≤ y)) (by simp; omega) (by simp; omega) zs
  unfold sorted
  simpa using this

theorem sort_none (a : Option Addr) (cap : Nat) (w : World) : Calls Try.prog 27 #[.slice a 0 cap] w fun e w' => e = .returned (.tuple #[]) ∧ w = w' :=
  (Any.slices_Sort_int_none Try.lays189 a cap w).mono fun _ _ ⟨h, h'⟩ => ⟨h, h'.symm⟩

theorem sort_any (g cap : Nat) (zs : List Int) (cur : Array Value) (w : World) (hg : w.heap[g]? = some (.cells cur 3 (0, 0))) (hlen : zs.length < 4611686018427387904) (hcur : cur.toList.take zs.length = zs.map iv) :
    Calls Try.prog 27 #[.slice (some ⟨g, 0, none⟩) zs.length cap] w fun e w' => e = .returned (.tuple #[]) ∧ Chg (fun k => k = g) w w' ∧
      ∀ (j : Nat) (x : Int), (sorted zs)[j]? = some x → w'.cell? ⟨g, 0 + j, none⟩ = some (.int .i64 x) := by
  have hlt : g < w.heap.size := (Array.getElem?_eq_some_iff.1 hg).1
  have hH : Holds (Value.int .i64) w g 0 zs.toArray := by
    intro j hj
    have hj' : j < zs.length := by simpa using hj
    refine ⟨?_, free_block hg _⟩
    have h1 : (cur.toList.take zs.length)[j]? = some (iv zs[j]) := by rw [hcur]; simp [hj']
    rw [List.getElem?_take_of_lt hj'] at h1
    simp only [World.cell?, hg, Nat.zero_add]
    rw [Array.getElem?_toList] at h1
    simp [h1, hj']
  refine (Any.slices_Sort_int Try.lays189 g 0 cap zs w hH hlt hlen).mono ?_
  rintro e w' ⟨rfl, n, os, rfl⟩
  refine ⟨rfl, ⟨rfl, rfl, rfl, by simp, fun k hk hn => ?_⟩, fun j x hj => ?_⟩
  · rw [heap_grow_old _ _ (by simpa using hk)]
    simp only [putRow, mapBlock]
    rw [Array.getElem?_modify, if_neg (fun e => hn e.symm)]
    rfl
  · have hs : (sorted zs).toArray.size = zs.toArray.size := by simp [sorted_length]
    have hj' : j < (sorted zs).toArray.size := by have := (List.getElem?_eq_some_iff.1 hj).1; simpa using this
    rw [cell?_grow _ _ _ (by simpa using hlt)]
    have := (holds_putRow (Value.int .i64) (Sort.ahead w n) g 0 zs.toArray (sorted zs).toArray (holds_ahead _ _ n _ _ _ hH) hs j hj').1
    rw [sorted] at this
    rw [this]
    have hx : ((sorted zs).toArray)[j]! = x := by
      have hl := (List.getElem?_eq_some_iff.1 hj)
      simp [hj]
    rw [sorted] at hx
    rw [hx]
theorem sorted_strict {zs : List Int} (h : zs.Nodup) : (sorted zs).Pairwise (· < ·) := by
  have h1 := sorted_rise zs
  have h2 : (sorted zs).Nodup := (sorted_perm zs).nodup_iff.2 h
  refine (h1.and h2).imp ?_
  rintro a b ⟨h, h'⟩
  omega
theorem rising_bound : ∀ {zs : List Int} {a b : Int}, zs.Pairwise (· < ·) → (∀ x ∈ zs, a ≤ x ∧ x ≤ b) → (zs.length : Int) ≤ max 0 (b - a + 1)
  | [], _, _, _, _ => by simp; omega
  | x :: xs, a, b, hp, h => by
    obtain ⟨h1, h2⟩ := List.pairwise_cons.1 hp
    have hx := h x (by simp)
    have := rising_bound (a := x + 1) (b := b) h2 (fun y hy => ⟨by have := h1 y hy; omega, (h y (by simp [hy])).2⟩)
    simp only [List.length_cons]
    omega
theorem nodup_bound {zs : List Int} {g : Int} (hn : zs.Nodup) (hg : 0 ≤ g) (h : ∀ x ∈ zs, 1 ≤ x ∧ x ≤ g) : (zs.length : Int) ≤ g := by
  have := rising_bound (zs := sorted zs) (a := 1) (b := g) (sorted_strict hn) (fun x hx => h x ((sorted_perm zs).mem_iff.1 hx))
  rw [sorted_length] at this
  omega

def iterLeft (r b : Nat) (w : World) : Nat :=
  match w.heap[b]?, w.heap[r]? with
  | some (.map es _), some (.mapIter _ _ seen _) => (leftOf es seen).size
  | _, _ => 0
theorem Iter.left {κ : Type} {enc : κ → Value} {w : World} {r b n : Nat} {f : κ → Option Value} {L : κ → Prop} (h : Iter enc w r b f L n) : iterLeft r b w = n := by
  obtain ⟨es, clock, since, seen, last, hb, hr, _, _, _, _, hn⟩ := h
  simp [iterLeft, hb, hr, hn]

theorem ownsRow_base {w : World} {B e size n : Nat} {v : Value} {xs : List Value} (h : w.ownsRow B e size v n xs) {g : Nat} (hg : v.ownBlock = some g) : B ≤ g ∧ g < w.heap.size := by
  rcases h.2 with ⟨rfl, _⟩ | ⟨g', cap, cur, rfl, hb, hh, _⟩
  · cases hg
  · cases hg; exact ⟨hb, (Array.getElem?_eq_some_iff.1 hh).1⟩
theorem ownsRow_stepped {w w' : World} {r B e size n : Nat} {v : Value} {xs : List Value} (h : w.ownsRow B e size v n xs) (hs : Stepped w w' r) (hr : r < B) : w'.ownsRow B e size v n xs :=
  ownsRow_keeps h (fun g hg => hs.2.2.2.2 g (by have := (ownsRow_base h hg).1; omega))
theorem ownsRow_alloc {w : World} {B e size n : Nat} {v : Value} {xs : List Value} (h : w.ownsRow B e size v n xs) (o : Obj) : (w.alloc o).ownsRow B e size v n xs :=
  ownsRow_keeps h (fun g hg => Go.heap_alloc_old w o (ownsRow_base h hg).2)
theorem below_stepped {B r : Nat} {w w' : World} (hs : Stepped w w' r) (hr : B ≤ r) : Below B w w' := ⟨hs.1, hs.2.1, hs.2.2.1, by rw [hs.2.2.2.1]; exact Nat.le_refl _, fun k hk => hs.2.2.2.2 k (by omega)⟩

/-- behind an append to a row of ours, lists in old blocks lie as they lay -/
theorem keeps_grown {D : Nat → Prop} {w wr W w2 : World} {v : Value} (hD : ∀ k, D k → k < w.heap.size) (hW : Below wr.heap.size wr W) (hbel : Below w.heap.size w wr) (hv : ∀ k, v.ownBlock = some k → w.heap.size ≤ k) (hg : W.grownBy w2 v.ownBlock) :
    Keeps D wr w2 ∧ Below w.heap.size w w2 := by
  have hch : Chg (fun k => w.heap.size ≤ k) W w2 := chg_grown hg hv
  have h1 := hbel.size
  have h2 := hW.size
  refine ⟨fun k hk => ?_, hbel.trans ⟨hch.os.trans hW.os, hch.tape.trans hW.tape, hch.output.trans hW.output, Nat.le_trans h2 hch.size, fun k hk => ?_⟩⟩
  · have := hD k hk
    exact (hch.block k (by omega) (by omega)).trans (hW.block k (by omega))
  · exact (hch.block k (by omega) (by omega)).trans (hW.block k (by omega))

end Go.Proofs.Ytkfmgeddckcnkaa
