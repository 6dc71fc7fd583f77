/- Pairs that came in as arguments, opened. -/
import Derived.Test.YtkfmgeddckcnkaaOF
import Derived.OpenShut
import Derived.SizedLaws
import Derived.ProofKit
namespace Go.Proofs.Ytkfmgeddckcnkaa
open Go.Joins Go.ChangeShapes Go.WideShapes Go.RowKit Go.Deep
set_option linter.unusedVariables false

section
variable {H : Type} {enc : TypeId × Value → H} {P : Program} {w : World} {held : Bool}
theorem weights_mem_all {e : TypeId} : ∀ {ds : List (DataW H)} {d : DataW H}, d ∈ ds → ∀ n ∈ d.weights P e, n ∈ DataW.weightsAll P e ds
  | d0 :: ds, d, hd, n, hn => by
    simp only [DataW.weightsAll, List.mem_append]
    rcases List.mem_cons.1 hd with rfl | hd
    · exact .inl hn
    · exact .inr (weights_mem_all hd n hn)

/-- A slice that came in, and its elements. -/
theorem slice_open {t e : TypeId} {fuel : Nat} {v : Value} {x : DataW H × List MemPlace} {B C : Nat} (ht : P.underlying t = some (.slice e)) (hB : P.bytesOf e = B) (hC : P.cellsOf e = C) (hC0 : 0 < C)
    (h : DataW.trod enc P w 0 (fun _ => true) held fuel t [v] = some x) (hw : ∀ n ∈ x.1.weights P t, n ≤ reachBytes) :
    ∃ a len cap, v = .slice a len cap ∧ len ≤ cap ∧ cap ≤ maxLen ∧ len * B ≤ reachBytes ∧ (len = 0 ∨ ∃ g off, a = some ⟨g, off, none⟩ ∧ g < w.heap.size ∧
      ∀ k, k < len → ∃ (cs : List Value) (y : DataW H × List MemPlace) (n : Nat), DataW.trod enc P w 0 (fun _ => true) held n e cs = some y ∧ cs.length = C ∧ (∀ j, j < C → w.cell? ⟨g, off + k * C + j, none⟩ = cs[j]?) ∧ ∀ m ∈ y.1.weights P e, m ≤ reachBytes) := by
  rcases DataW.trod_slice ht h with ⟨hcs, rfl⟩ | ⟨a, len, cap, elems, rest, n, _, hcs, rfl, hb, hl, hm, hlen, hel, hsp, hns⟩
  · simp at hcs; subst hcs
    exact ⟨none, 0, 0, rfl, by omega, by unfold maxLen; omega, by omega, .inl rfl⟩
  · simp at hcs; subst hcs
    have hbytes : (elems.length + rest.length) * B ≤ reachBytes := by
      have := hw ((elems.length + rest.length) * B) (by simp [DataW.weights, ht, hB])
      exact this
    refine ⟨some a, len, cap, rfl, hl, hm, Nat.le_trans (Nat.mul_le_mul_right _ (by omega)) hbytes, ?_⟩
    by_cases h0 : len = 0
    · exact .inl h0
    · right
      have key : ∀ k, k < len → ∃ (cs : List Value) (y : DataW H × List MemPlace), w.cells? 0 (a.add (k * C)) C = some cs ∧ DataW.trod enc P w 0 (fun _ => true) held n e cs = some y ∧ y ∈ elems := fun k hk => by
        have h1 := hel k hk
        rw [hC, List.getElem?_eq_getElem (by omega), Option.bind_eq_some_iff] at h1
        obtain ⟨cs, h2, h3⟩ := h1
        exact ⟨cs, _, h2, h3, List.getElem_mem _⟩
      obtain ⟨cs0, y0, hc0, -, -⟩ := key 0 (by omega)
      obtain ⟨-, hcl, hce⟩ := World.cells?_some hc0
      have hsome : w.cell? ((a.add (0 * C)).add 0) = some (cs0[0]'(by omega)) := by rw [hce 0 hC0]; exact List.getElem?_eq_getElem (by omega)
      obtain ⟨g, off, sub⟩ := a
      have hsub : sub = none := by
        have h2 : w.cell? ⟨g, off, sub⟩ = some (cs0[0]'(by omega)) := by simpa [Addr.add] using hsome
        simpa using World.cell?_spot h2
      subst hsub
      have hadd : ∀ (b o j : Nat), ((⟨b, o, none⟩ : Addr).add j) = ⟨b, o + j, none⟩ := fun b o j => by cases j <;> simp [Addr.add]
      refine ⟨g, off, rfl, ?_, fun k hk => ?_⟩
      · have h2 : w.cell? ⟨g, off, none⟩ = some (cs0[0]'(by omega)) := by simpa [Addr.add] using hsome
        exact World.block_lt_of_cell? w _ h2
      · obtain ⟨cs, y, hc, ht', hy⟩ := key k hk
        obtain ⟨-, hcl, hce⟩ := World.cells?_some hc
        refine ⟨cs, y, n, ht', hcl, fun j hj => ?_, fun m hm => ?_⟩
        · rw [← hce j hj, hadd, hadd]
        · refine hw m ?_
          simp only [DataW.weights, ht, List.mem_cons, List.mem_append]
          exact .inr (.inl (weights_mem_all (List.mem_map.2 ⟨y, hy, rfl⟩) m hm))
end
theorem Try.bytes31 : Try.prog.bytesOf 31 = 16 := by kernel_rfl
theorem Try.cells31 : Try.prog.cellsOf 31 = 2 := by kernel_rfl
theorem Try.cells3 : Try.prog.cellsOf 3 = 1 := by kernel_rfl
section
variable {H : Type} {enc : TypeId × Value → H} {W : World}
theorem list2 {α : Type} {cs : List α} (h : cs.length = 2) : ∃ c0 c1, cs = [c0, c1] := by
  match cs, h with
  | [c0, c1], _ => exact ⟨c0, c1, rfl⟩
theorem pair_cells_in {n : Nat} {cs : List Value} {x : DataW H × List MemPlace} (h : DataW.trod enc Try.prog W 0 (fun _ => true) true n 31 cs = some x) : ∃ e : Edge, cs = [iv e.1, iv e.2] := by
  obtain ⟨xs, m, _, rfl, hl, hxl, hg⟩ := DataW.trod_array Try.underlying31 h
  rw [Try.cells31] at hl
  obtain ⟨c0, c1, rfl⟩ := list2 hl
  match xs, hxl with
  | [y0, y1], _ =>
    have h0 : DataW.trod enc Try.prog W 0 (fun _ => true) true m 3 [c0] = some y0 := by simpa [Try.cells3] using hg 0 (by omega)
    have h1 : DataW.trod enc Try.prog W 0 (fun _ => true) true m 3 [c1] = some y1 := by simpa [Try.cells3] using hg 1 (by omega)
    obtain ⟨k, e0, -⟩ := DataW.trod_int Try.underlying3 h0
    obtain ⟨l, e1, -⟩ := DataW.trod_int Try.underlying3 h1
    simp at e0 e1
    subst e0 e1
    exact ⟨(k, l), rfl⟩
/-- A slice of pairs that came in. -/
theorem edges_in {n : Nat} {v : Value} {x : DataW H × List MemPlace} (h : DataW.trod enc Try.prog W 0 (fun _ => true) true n 22 [v] = some x) (hw : ∀ m ∈ x.1.weights Try.prog 22, m ≤ reachBytes) :
    ∃ l, EdgesIn (fun k => k < W.heap.size) W v l ∧ l.length * 16 ≤ 140737488351232 := by
  obtain ⟨a, len, cap, rfl, h1, h2, hb, h3⟩ := slice_open Try.underlying22 Try.bytes31 Try.cells31 (by omega) h hw
  unfold reachBytes at hb
  rcases h3 with rfl | ⟨g, off, rfl, hg, hk⟩
  · exact ⟨[], ⟨a, cap, rfl, by simp, h2, .inl rfl⟩, by simp⟩
  · have key : ∀ k : Fin len, ∃ e : Edge, W.cell? ⟨g, off + k * 2, none⟩ = some (iv e.1) ∧ W.cell? ⟨g, off + k * 2 + 1, none⟩ = some (iv e.2) := fun k => by
      obtain ⟨cs, y, m, ht, hl, hc, hm⟩ := hk k k.2
      obtain ⟨e, rfl⟩ := pair_cells_in ht
      exact ⟨e, (hc 0 (by omega)).trans rfl, (hc 1 (by omega)).trans rfl⟩
    refine ⟨List.ofFn (fun k => (key k).choose), ⟨some ⟨g, off, none⟩, cap, by simp, by simpa using h1, h2, .inr ⟨g, off, rfl, hg, fun k e he => ?_⟩⟩, by simpa using hb⟩
    obtain ⟨hk', he'⟩ := List.getElem?_eq_some_iff.1 he
    simp at hk' he'
    have := (key ⟨k, hk'⟩).choose_spec
    rw [he'] at this
    exact this
end
end Go.Proofs.Ytkfmgeddckcnkaa
