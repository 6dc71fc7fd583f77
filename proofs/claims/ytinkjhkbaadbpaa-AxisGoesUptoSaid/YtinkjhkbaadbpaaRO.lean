/- A record that came in as an argument, opened. -/
import Derived.Test.YtinkjhkbaadbpaaWK
import Derived.Test.YtinkjhkbaadbpaaRR
import Derived.Lib.SmallJoins
import Derived.ProofKit
import Derived.OpenShut
namespace Go.Proofs.Ytinkjhkbaadbpaa
open Go.Joins Go.ChangeShapes Go.WideShapes Go.RowKit Go.Deep
set_option linter.unusedVariables false

section
variable {H : Type} {enc : TypeId × Value → H} {P : Program} {w : World} {base : Nat} {spare : Nat → Bool} {held : Bool}
theorem array7 {α : Type} {cs : Array α} (h : cs.size = 7) : ∃ c0 c1 c2 c3 c4 c5 c6, cs = #[c0, c1, c2, c3, c4, c5, c6] := by
  obtain ⟨l⟩ := cs
  match l, h with
  | [c0, c1, c2, c3, c4, c5, c6], _ => exact ⟨c0, c1, c2, c3, c4, c5, c6, rfl⟩
theorem open_agg7 {r : Reach} {b0 : Nat} {t : TypeId} {f0 f1 f2 f3 f4 f5 f6 : Field} {v : Value} {d : DataW H} {p : List MemPlace} (hs : P.underlying t = some (.struct #[f0, f1, f2, f3, f4, f5, f6])) (hone : oneCellFields P #[f0, f1, f2, f3, f4, f5, f6] = true) (hC : P.cellsOf t = 7)
    (hv : Value.okWide P w r b0 t v) (h : DataW.Trod enc P w base spare held t v d p) :
    ∃ (v0 v1 v2 v3 v4 v5 v6 : Value) (y0 y1 y2 y3 y4 y5 y6 : DataW H × List MemPlace) (n : Nat), v = .agg #[v0, v1, v2, v3, v4, v5, v6] ∧ p = y0.2 ++ (y1.2 ++ (y2.2 ++ (y3.2 ++ (y4.2 ++ (y5.2 ++ y6.2))))) ∧
      DataW.trod enc P w base spare held n f0.type [v0] = some y0 ∧ DataW.trod enc P w base spare held n f1.type [v1] = some y1 ∧ DataW.trod enc P w base spare held n f2.type [v2] = some y2 ∧ DataW.trod enc P w base spare held n f3.type [v3] = some y3 ∧ DataW.trod enc P w base spare held n f4.type [v4] = some y4 ∧ DataW.trod enc P w base spare held n f5.type [v5] = some y5 ∧ DataW.trod enc P w base spare held n f6.type [v6] = some y6 := by
  obtain ⟨cs, rfl, hsz⟩ := okWide_struct hs hv
  obtain ⟨c0, c1, c2, c3, c4, c5, c6, rfl⟩ := array7 (hsz.trans hC)
  obtain ⟨fuel, hf⟩ := h
  obtain ⟨xs, n, _, hx, _, hlen, hg⟩ := DataW.trod_struct hs hf
  obtain ⟨o0, k0⟩ := hone_of hone 0 f0 rfl
  obtain ⟨o1, k1⟩ := hone_of hone 1 f1 rfl
  obtain ⟨o2, k2⟩ := hone_of hone 2 f2 rfl
  obtain ⟨o3, k3⟩ := hone_of hone 3 f3 rfl
  obtain ⟨o4, k4⟩ := hone_of hone 4 f4 rfl
  obtain ⟨o5, k5⟩ := hone_of hone 5 f5 rfl
  obtain ⟨o6, k6⟩ := hone_of hone 6 f6 rfl
  match xs, hlen with
  | [y0, y1, y2, y3, y4, y5, y6], _ =>
    simp only [Prod.mk.injEq] at hx
    exact ⟨c0, c1, c2, c3, c4, c5, c6, y0, y1, y2, y3, y4, y5, y6, n, rfl, by simpa using hx.2, by simpa [Value.cells, o0, k0] using hg 0 f0 rfl, by simpa [Value.cells, o1, k1] using hg 1 f1 rfl, by simpa [Value.cells, o2, k2] using hg 2 f2 rfl, by simpa [Value.cells, o3, k3] using hg 3 f3 rfl, by simpa [Value.cells, o4, k4] using hg 4 f4 rfl, by simpa [Value.cells, o5, k5] using hg 5 f5 rfl, by simpa [Value.cells, o6, k6] using hg 6 f6 rfl⟩

/-- A slice of ints that came in. -/
theorem ints_in {t e : TypeId} {fuel : Nat} {v : Value} {x : DataW H × List MemPlace} (ht : P.underlying t = some (.slice e)) (he : P.underlying e = some (.int .i64)) (hc : P.cellsOf e = 1)
    (h : DataW.trod enc P w base (fun _ => true) held fuel t [v] = some x) : ∃ xs, IntsIn (fun k => k < w.heap.size) w v xs := by
  rcases open_ints ht he hc h with ⟨hcs, -⟩ | ⟨a, len, cap, zs, hcs, -, hl, hm, hzl, -, hcell, -⟩
  · simp at hcs
    subst hcs
    exact ⟨[], intsIn_nil _ _⟩
  · simp at hcs
    subst hcs
    simp only [if_true] at hzl
    refine ⟨zs.take len, some a, cap, by rw [List.length_take, Nat.min_eq_left (by omega)], by rw [List.length_take]; omega, hm, ?_⟩
    by_cases h0 : len = 0
    · subst h0; exact .inl (by simp)
    · right
      obtain ⟨b, off, sub⟩ := a
      have hc0 := hcell 0 (by omega)
      have hsub : sub = none := by
        cases sub with
        | none => rfl
        | some s =>
          exfalso
          simp [Addr.add, World.cell?] at hc0
          split at hc0 <;> cases hc0
      subst hsub
      refine ⟨b, off, rfl, ?_, fun j x hj => ?_⟩
      · have := World.block_lt_of_cell? w _ hc0
        simpa [Addr.add] using this
      · have hjl : j < len := by have := (List.getElem?_eq_some_iff.1 hj).1; simp at this; omega
        have h1 := hcell j (by omega)
        rw [List.getElem?_take_of_lt hjl] at hj
        have h2 : zs.getD j 0 = x := by simp [List.getD, hj]
        rw [h2] at h1
        have h3 : ((⟨b, off, none⟩ : Addr).add j) = ⟨b, off + j, none⟩ := by
          cases j <;> simp [Addr.add]
        rw [h3] at h1
        exact h1
end

theorem Try.rec_cells : Try.prog.cellsOf 52 = 7 := by kernel_rfl
theorem Try.int_cells : Try.prog.cellsOf 3 = 1 := by kernel_rfl
set_option maxRecDepth 100000 in
/-- A record that came in as an argument. -/
theorem rec_in {H : Type} {enc : TypeId × Value → H} {W : World} {b0 : Nat} {v : Value} {d : DataW H} {p : List MemPlace}
    (hv : Value.okWide Try.prog W .any b0 52 v) (h : DataW.Trod enc Try.prog W 0 (fun _ => true) true 52 v d p) : ∃ r kv av, v = recV r kv av ∧ IntsIn (fun k => k < W.heap.size) W kv r.kids ∧ IntsIn (fun k => k < W.heap.size) W av r.attrs := by
  obtain ⟨v0, v1, v2, v3, v4, v5, v6, y0, y1, y2, y3, y4, y5, y6, n, rfl, rfl, h0, h1, h2, h3, h4, h5, h6⟩ := open_agg7 Try.underlying52 (by kernel_rfl) Try.rec_cells hv h
  obtain ⟨k, e0, -⟩ := DataW.trod_int Try.underlying3 h0
  obtain ⟨nm, e1, -⟩ := DataW.trod_string Try.underlying9 h1
  obtain ⟨tx, e2, -⟩ := DataW.trod_string Try.underlying9 h2
  obtain ⟨pa, e3, -⟩ := DataW.trod_int Try.underlying3 h3
  obtain ⟨ks, i4⟩ := ints_in Try.underlying33 Try.underlying3 Try.int_cells h4
  obtain ⟨ats, i5⟩ := ints_in Try.underlying33 Try.underlying3 Try.int_cells h5
  obtain ⟨g, e6, -⟩ := DataW.trod_bool Try.underlying4 h6
  simp at e0 e1 e2 e3 e6
  subst e0 e1 e2 e3 e6
  exact ⟨⟨k, nm, tx, pa, ks, ats, g⟩, v4, v5, rfl, i4, i5⟩
end Go.Proofs.Ytinkjhkbaadbpaa
