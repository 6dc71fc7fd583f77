/- The arguments of the statements on axes and views, opened. -/
import Derived.Test.YtinkjhkbaadbpaaAQ
import Derived.Test.YtinkjhkbaadbpaaMT
namespace Go.Proofs.Ytinkjhkbaadbpaa
open Go.Joins Go.ChangeShapes Go.WideShapes Go.RowKit Go.Deep
set_option linter.unusedVariables false

section
variable {H : Type} {enc : TypeId × Value → H} {W : World} {b0 : Nat}
theorem array_list {α : Type} {cs : Array α} {n : Nat} (h : cs.size = n) : ∃ l : List α, cs = l.toArray ∧ l.length = n := by
  obtain ⟨l⟩ := cs
  exact ⟨l, rfl, h⟩
set_option maxRecDepth 100000 in
theorem tree_arg {v : Value} {d : DataW H} {p : List MemPlace} (hv : Value.okWide Try.prog W .any b0 25 v) (h : DataW.Trod enc Try.prog W 0 (fun _ => true) true 25 v d p) :
    ∃ (t : Tr) (av kv : Value), v = trV t av kv ∧ TrIn (Old W.heap.size) W t av kv ∧ t.size ≤ Rows.uptoBulk d := by
  obtain ⟨cs, rfl, hsz⟩ := okWide_struct Try.underlying25 hv
  obtain ⟨l, rfl, hl⟩ := array_list (hsz.trans (by kernel_rfl : Try.prog.cellsOf 25 = 5))
  obtain ⟨c0, c1, c2, c3, c4, rfl⟩ := list5 hl
  obtain ⟨fuel, hf⟩ := h
  have hf' : DataW.trod enc Try.prog W 0 (fun _ => true) true fuel 25 [c0, c1, c2, c3, c4] = some (d, p) := by simpa [Value.cells] using hf
  obtain ⟨t, av, kv, e, h1, h2⟩ := tree_in fuel hf'
  refine ⟨t, av, kv, ?_, h1, h2⟩
  have : (#[c0, c1, c2, c3, c4] : Array Value) = (trL t av kv).toArray := by rw [← e]
  rw [show ([c0, c1, c2, c3, c4] : List Value).toArray = #[c0, c1, c2, c3, c4] from rfl, this]
set_option maxRecDepth 100000 in
theorem ask_arg {v : Value} {d : DataW H} {p : List MemPlace} (hv : Value.okWide Try.prog W .any b0 44 v) (h : DataW.Trod enc Try.prog W 0 (fun _ => true) true 44 v d p) :
    ∃ (id ax : Int) (T : Tst), v = .agg #[iv id, iv ax, .int .i64 T.kind, .string T.name, .bool T.has] := by
  obtain ⟨cs, rfl, hsz⟩ := okWide_struct Try.underlying44 hv
  obtain ⟨l, rfl, hl⟩ := array_list (hsz.trans (by kernel_rfl : Try.prog.cellsOf 44 = 5))
  obtain ⟨c0, c1, c2, c3, c4, rfl⟩ := list5 hl
  obtain ⟨fuel, hf⟩ := h
  have hf' : DataW.trod enc Try.prog W 0 (fun _ => true) true fuel 44 [c0, c1, c2, c3, c4] = some (d, p) := by simpa [Value.cells] using hf
  obtain ⟨xs, m, -, -, -, hxl, hg⟩ := DataW.trod_struct Try.underlying44 hf'
  have hx3 : xs.length = 3 := hxl
  match xs, hx3 with
  | [y0, y1, y2], _ =>
    have q42 : Try.prog.cellsOf 42 = 3 := by kernel_rfl
    have q9 : Try.prog.cellsOf 9 = 1 := by kernel_rfl
    have q4 : Try.prog.cellsOf 4 = 1 := by kernel_rfl
    have h0 : DataW.trod enc Try.prog W 0 (fun _ => true) true m 3 [c0] = some y0 := by simpa [Try.int_cells] using hg 0 _ rfl
    have h1 : DataW.trod enc Try.prog W 0 (fun _ => true) true m 3 [c1] = some y1 := by simpa [Try.int_cells] using hg 1 _ rfl
    have h2 : DataW.trod enc Try.prog W 0 (fun _ => true) true m 42 [c2, c3, c4] = some y2 := by simpa [q42] using hg 2 _ rfl
    obtain ⟨zs, m2, -, -, -, hzl, hg2⟩ := DataW.trod_struct Try.underlying42 h2
    have hz3 : zs.length = 3 := hzl
    match zs, hz3 with
    | [z0, z1, z2], _ =>
      have g0 : DataW.trod enc Try.prog W 0 (fun _ => true) true m2 3 [c2] = some z0 := by simpa [Try.int_cells] using hg2 0 _ rfl
      have g1 : DataW.trod enc Try.prog W 0 (fun _ => true) true m2 9 [c3] = some z1 := by simpa [q9] using hg2 1 _ rfl
      have g2 : DataW.trod enc Try.prog W 0 (fun _ => true) true m2 4 [c4] = some z2 := by simpa [q4] using hg2 2 _ rfl
      obtain ⟨id, e0, -⟩ := DataW.trod_int Try.underlying3 h0
      obtain ⟨ax, e1, -⟩ := DataW.trod_int Try.underlying3 h1
      obtain ⟨k, f0, -⟩ := DataW.trod_int Try.underlying3 g0
      obtain ⟨nm, f1, -⟩ := DataW.trod_string Try.underlying9 g1
      obtain ⟨hs, f2, -⟩ := DataW.trod_bool Try.underlying4 g2
      simp at e0 e1 f0 f1 f2
      subst e0 e1 f0 f1 f2
      exact ⟨id, ax, ⟨k, nm, hs⟩, rfl⟩
set_option maxRecDepth 100000 in
theorem two_arg {v : Value} {d : DataW H} {p : List MemPlace} (hv : Value.okWide Try.prog W .any b0 27 v) (h : DataW.Trod enc Try.prog W 0 (fun _ => true) true 27 v d p) :
    ∃ (a b : Int), v = .agg #[iv a, iv b] := by
  have hv2 := hv
  simp only [Value.okWide, Try.underlying27] at hv2
  obtain ⟨cs, rfl, hsz, -⟩ := hv2
  obtain ⟨l, rfl, hl⟩ := array_list (hsz.trans (by kernel_rfl : Try.prog.cellsOf 27 = 2))
  obtain ⟨c0, c1, rfl⟩ := list2 hl
  obtain ⟨fuel, hf⟩ := h
  have hf' : DataW.trod enc Try.prog W 0 (fun _ => true) true fuel 27 [c0, c1] = some (d, p) := by simpa [Value.cells] using hf
  obtain ⟨xs, m, -, -, -, hxl, hg⟩ := DataW.trod_array Try.underlying27 hf'
  match xs, hxl with
  | [y0, y1], _ =>
    have h0 : DataW.trod enc Try.prog W 0 (fun _ => true) true m 3 [c0] = some y0 := by simpa [Try.int_cells] using hg 0 (by omega)
    have h1 : DataW.trod enc Try.prog W 0 (fun _ => true) true m 3 [c1] = some y1 := by simpa [Try.int_cells] using hg 1 (by omega)
    obtain ⟨a, e0, -⟩ := DataW.trod_int Try.underlying3 h0
    obtain ⟨b, e1, -⟩ := DataW.trod_int Try.underlying3 h1
    simp at e0 e1
    subst e0 e1
    exact ⟨a, b, rfl⟩
end
end Go.Proofs.Ytinkjhkbaadbpaa
