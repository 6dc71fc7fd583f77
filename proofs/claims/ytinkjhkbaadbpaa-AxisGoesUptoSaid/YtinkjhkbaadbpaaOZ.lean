import Derived.Test.YtinkjhkbaadbpaaTR
import Derived.Test.YtinkjhkbaadbpaaRO
import Derived.Test.YtinkjhkbaadbpaaRows
import Derived.SizedLaws
import Derived.Test.YtinkjhkbaadbpaaMT
/- Trees, and records to put, that came in as arguments, opened. -/
namespace Go.Proofs.Ytinkjhkbaadbpaa
open Go.Joins Go.ChangeShapes Go.WideShapes Go.RowKit Go.Deep
set_option linter.unusedVariables false

section
variable {H : Type} {enc : TypeId × Value → H} {P : Program} {w : World} {held : Bool}
theorem weights_mem_all {e : TypeId} : ∀ {ds : List (DataW H)} {d : DataW H}, d ∈ ds → ∀ n ∈ d.weights P e, n ∈ DataW.weightsAll P e ds
  | d0 :: ds, d, hd, n, hn => by
    simp only [DataW.weightsAll, List.mem_append]
    rcases List.mem_cons.1 hd with rfl | hd
    · exact .inl hn
    · exact .inr (weights_mem_all hd n hn)

/-- A slice that came in, and its elements. -/
theorem slice_open {t e : TypeId} {fuel : Nat} {v : Value} {x : DataW H × List MemPlace} {B C : Nat} (ht : P.underlying t = some (.slice e)) (hB : P.bytesOf e = B) (hC : P.cellsOf e = C) (hC0 : 0 < C)
    (h : DataW.trod enc P w 0 (fun _ => true) held fuel t [v] = some x) (hw : ∀ n ∈ x.1.weights P t, n ≤ reachBytes) :
    ∃ a len cap, v = .slice a len cap ∧ len ≤ cap ∧ cap ≤ maxLen ∧ len * B ≤ reachBytes ∧ (len = 0 ∨ ∃ g off, a = some ⟨g, off, none⟩ ∧ g < w.heap.size ∧
      ∀ k, k < len → ∃ (cs : List Value) (y : DataW H × List MemPlace) (n : Nat), DataW.trod enc P w 0 (fun _ => true) held n e cs = some y ∧ cs.length = C ∧ (∀ j, j < C → w.cell? ⟨g, off + k * C + j, none⟩ = cs[j]?) ∧ ∀ m ∈ y.1.weights P e, m ≤ reachBytes) := by
  rcases DataW.trod_slice ht h with ⟨hcs, rfl⟩ | ⟨a, len, cap, elems, rest, n, _, hcs, rfl, hb, hl, hm, hlen, hel, hsp, hns⟩
  · simp at hcs; subst hcs
    exact ⟨none, 0, 0, rfl, by omega, by unfold maxLen; omega, by omega, .inl rfl⟩
  · simp at hcs; subst hcs
    have hbytes : (elems.length + rest.length) * B ≤ reachBytes := by
      have := hw ((elems.length + rest.length) * B) (by simp [DataW.weights, ht, hB])
      exact this
    refine ⟨some a, len, cap, rfl, hl, hm, Nat.le_trans (Nat.mul_le_mul_right _ (by omega)) hbytes, ?_⟩
    by_cases h0 : len = 0
    · exact .inl h0
    · right
      have key : ∀ k, k < len → ∃ (cs : List Value) (y : DataW H × List MemPlace), w.cells? 0 (a.add (k * C)) C = some cs ∧ DataW.trod enc P w 0 (fun _ => true) held n e cs = some y ∧ y ∈ elems := fun k hk => by
        have h1 := hel k hk
        rw [hC, List.getElem?_eq_getElem (by omega), Option.bind_eq_some_iff] at h1
        obtain ⟨cs, h2, h3⟩ := h1
        exact ⟨cs, _, h2, h3, List.getElem_mem _⟩
      obtain ⟨cs0, y0, hc0, -, -⟩ := key 0 (by omega)
      obtain ⟨-, hcl, hce⟩ := World.cells?_some hc0
      have hsome : w.cell? ((a.add (0 * C)).add 0) = some (cs0[0]'(by omega)) := by rw [hce 0 hC0]; exact List.getElem?_eq_getElem (by omega)
      obtain ⟨g, off, sub⟩ := a
      have hsub : sub = none := by
        have h2 : w.cell? ⟨g, off, sub⟩ = some (cs0[0]'(by omega)) := by simpa [Addr.add] using hsome
        simpa using World.cell?_spot h2
      subst hsub
      have hadd : ∀ (b o j : Nat), ((⟨b, o, none⟩ : Addr).add j) = ⟨b, o + j, none⟩ := fun b o j => by cases j <;> simp [Addr.add]
      refine ⟨g, off, rfl, ?_, fun k hk => ?_⟩
      · have h2 : w.cell? ⟨g, off, none⟩ = some (cs0[0]'(by omega)) := by simpa [Addr.add] using hsome
        exact World.block_lt_of_cell? w _ h2
      · obtain ⟨cs, y, hc, ht', hy⟩ := key k hk
        obtain ⟨-, hcl, hce⟩ := World.cells?_some hc
        refine ⟨cs, y, n, ht', hcl, fun j hj => ?_, fun m hm => ?_⟩
        · rw [← hce j hj, hadd, hadd]
        · refine hw m ?_
          simp only [DataW.weights, ht, List.mem_cons, List.mem_append]
          exact .inr (.inl (weights_mem_all (List.mem_map.2 ⟨y, hy, rfl⟩) m hm))
/-- A slice of ints that came in, with its bound. -/
theorem ints_in_sized {t e : TypeId} {fuel : Nat} {v : Value} {x : DataW H × List MemPlace} (ht : P.underlying t = some (.slice e)) (he : P.underlying e = some (.int .i64)) (hc : P.cellsOf e = 1) (hb : P.bytesOf e = 8)
    (h : DataW.trod enc P w 0 (fun _ => true) held fuel t [v] = some x) (hw : ∀ n ∈ x.1.weights P t, n ≤ reachBytes) : ∃ xs, IntsIn (fun k => k < w.heap.size) w v xs ∧ xs.length * 8 ≤ 140737488351232 := by
  obtain ⟨xs, hi⟩ := ints_in ht he hc h
  refine ⟨xs, hi, ?_⟩
  obtain ⟨a, len, cap, e1, -, -, hbd, -⟩ := slice_open ht hb hc (by omega) h hw
  obtain ⟨a2, cap2, e2, -⟩ := hi
  rw [e1] at e2
  cases e2
  unfold reachBytes at hbd
  exact hbd
end

theorem Try.bytes3 : Try.prog.bytesOf 3 = 8 := by kernel_rfl
theorem Try.str_cells : Try.prog.cellsOf 9 = 1 := by kernel_rfl
theorem Try.chn_cells : Try.prog.cellsOf 125 = 8 := by kernel_rfl

section
variable {H : Type} {enc : TypeId × Value → H} {W : World}
theorem list7 {α : Type} {cs : List α} (h : cs.length = 7) : ∃ c0 c1 c2 c3 c4 c5 c6, cs = [c0, c1, c2, c3, c4, c5, c6] := by
  match cs, h with
  | [c0, c1, c2, c3, c4, c5, c6], _ => exact ⟨c0, c1, c2, c3, c4, c5, c6, rfl⟩
theorem list4 {α : Type} {cs : List α} (h : cs.length = 4) : ∃ c0 c1 c2 c3, cs = [c0, c1, c2, c3] := by
  match cs, h with
  | [c0, c1, c2, c3], _ => exact ⟨c0, c1, c2, c3, rfl⟩
theorem list8 {α : Type} {cs : List α} (h : cs.length = 8) : ∃ c0 c1 c2 c3 c4 c5 c6 c7, cs = [c0, c1, c2, c3, c4, c5, c6, c7] := by
  match cs, h with
  | [c0, c1, c2, c3, c4, c5, c6, c7], _ => exact ⟨c0, c1, c2, c3, c4, c5, c6, c7, rfl⟩

theorem open_cells7 {P : Program} {w : World} {held : Bool} {t : TypeId} {f0 f1 f2 f3 f4 f5 f6 : Field} {n : Nat} {cs : List Value} {x : DataW H × List MemPlace} (hs : P.underlying t = some (.struct #[f0, f1, f2, f3, f4, f5, f6])) (hone : oneCellFields P #[f0, f1, f2, f3, f4, f5, f6] = true) (hC : P.cellsOf t = 7)
    (h : DataW.trod enc P w 0 (fun _ => true) held n t cs = some x) (hw : ∀ m ∈ x.1.weights P t, m ≤ reachBytes) :
    ∃ (v0 v1 v2 v3 v4 v5 v6 : Value) (y0 y1 y2 y3 y4 y5 y6 : DataW H × List MemPlace) (n : Nat), cs = [v0, v1, v2, v3, v4, v5, v6] ∧
      DataW.trod enc P w 0 (fun _ => true) held n f0.type [v0] = some y0 ∧ DataW.trod enc P w 0 (fun _ => true) held n f1.type [v1] = some y1 ∧ DataW.trod enc P w 0 (fun _ => true) held n f2.type [v2] = some y2 ∧ DataW.trod enc P w 0 (fun _ => true) held n f3.type [v3] = some y3 ∧ DataW.trod enc P w 0 (fun _ => true) held n f4.type [v4] = some y4 ∧ DataW.trod enc P w 0 (fun _ => true) held n f5.type [v5] = some y5 ∧ DataW.trod enc P w 0 (fun _ => true) held n f6.type [v6] = some y6 ∧
      (∀ m ∈ y4.1.weights P f4.type, m ≤ reachBytes) ∧ (∀ m ∈ y5.1.weights P f5.type, m ≤ reachBytes) := by
  obtain ⟨xs, m, _, rfl, hl, hxl, hg⟩ := DataW.trod_struct hs h
  rw [hC] at hl
  obtain ⟨c0, c1, c2, c3, c4, c5, c6, rfl⟩ := list7 hl
  obtain ⟨y0, y1, y2, y3, y4, y5, y6, rfl⟩ := list7 (hxl.trans rfl)
  obtain ⟨o0, k0⟩ := hone_of hone 0 f0 rfl
  obtain ⟨o1, k1⟩ := hone_of hone 1 f1 rfl
  obtain ⟨o2, k2⟩ := hone_of hone 2 f2 rfl
  obtain ⟨o3, k3⟩ := hone_of hone 3 f3 rfl
  obtain ⟨o4, k4⟩ := hone_of hone 4 f4 rfl
  obtain ⟨o5, k5⟩ := hone_of hone 5 f5 rfl
  obtain ⟨o6, k6⟩ := hone_of hone 6 f6 rfl
  refine ⟨c0, c1, c2, c3, c4, c5, c6, y0, y1, y2, y3, y4, y5, y6, m, rfl, by simpa [o0, k0] using hg 0 f0 rfl, by simpa [o1, k1] using hg 1 f1 rfl, by simpa [o2, k2] using hg 2 f2 rfl, by simpa [o3, k3] using hg 3 f3 rfl, by simpa [o4, k4] using hg 4 f4 rfl, by simpa [o5, k5] using hg 5 f5 rfl, by simpa [o6, k6] using hg 6 f6 rfl, fun k hk => hw k ?_, fun k hk => hw k ?_⟩
  · simp only [DataW.weights, hs]
    exact DataW.weights_mem_each (j := 4) rfl rfl k hk
  · simp only [DataW.weights, hs]
    exact DataW.weights_mem_each (j := 5) rfl rfl k hk

set_option maxRecDepth 100000 in
theorem rec_cells_in {n : Nat} {cs : List Value} {x : DataW H × List MemPlace} (h : DataW.trod enc Try.prog W 0 (fun _ => true) true n 52 cs = some x) (hw : ∀ m ∈ x.1.weights Try.prog 52, m ≤ reachBytes) :
    ∃ r kv av, cs = recL r kv av ∧ IntsIn (fun k => k < W.heap.size) W kv r.kids ∧ IntsIn (fun k => k < W.heap.size) W av r.attrs ∧ RecOk r := by
  obtain ⟨v0, v1, v2, v3, v4, v5, v6, y0, y1, y2, y3, y4, y5, y6, n, rfl, h0, h1, h2, h3, h4, h5, h6, w4, w5⟩ := open_cells7 Try.underlying52 (by kernel_rfl) Try.rec_cells h hw
  obtain ⟨k, e0, -⟩ := DataW.trod_int Try.underlying3 h0
  obtain ⟨nm, e1, -⟩ := DataW.trod_string Try.underlying9 h1
  obtain ⟨tx, e2, -⟩ := DataW.trod_string Try.underlying9 h2
  obtain ⟨pa, e3, -⟩ := DataW.trod_int Try.underlying3 h3
  obtain ⟨ks, i4, b4⟩ := ints_in_sized Try.underlying33 Try.underlying3 Try.int_cells Try.bytes3 h4 w4
  obtain ⟨ats, i5, b5⟩ := ints_in_sized Try.underlying33 Try.underlying3 Try.int_cells Try.bytes3 h5 w5
  obtain ⟨g, e6, -⟩ := DataW.trod_bool Try.underlying4 h6
  simp at e0 e1 e2 e3 e6
  subst e0 e1 e2 e3 e6
  exact ⟨⟨k, nm, tx, pa, ks, ats, g⟩, v4, v5, rfl, i4, i5, b4, b5⟩

set_option maxRecDepth 100000 in
theorem put_cells_in {n : Nat} {cs : List Value} {x : DataW H × List MemPlace} (h : DataW.trod enc Try.prog W 0 (fun _ => true) true n 131 cs = some x) (hw : ∀ m ∈ x.1.weights Try.prog 131, m ≤ reachBytes) :
    ∃ c kv av, cs = chL c kv av ∧ IntsIn (fun k => k < W.heap.size) W kv c.r.kids ∧ IntsIn (fun k => k < W.heap.size) W av c.r.attrs ∧ RecOk c.r := by
  have hp : Try.prog.cellsOf 131 = 8 := by kernel_rfl
  obtain ⟨xs, m, _, rfl, hl, hxl, hg⟩ := DataW.trod_struct Try.underlying131 h
  rw [hp] at hl
  obtain ⟨c0, c1, c2, c3, c4, c5, c6, c7, rfl⟩ := list8 hl
  match xs, hxl with
  | [y0, y1], _ =>
    have h0' : DataW.trod enc Try.prog W 0 (fun _ => true) true m 3 [c0] = some y0 := by simpa [Try.int_cells] using hg 0 _ rfl
    have h1' : DataW.trod enc Try.prog W 0 (fun _ => true) true m 52 [c1, c2, c3, c4, c5, c6, c7] = some y1 := by simpa [Try.rec_cells] using hg 1 _ rfl
    obtain ⟨k, e0, -⟩ := DataW.trod_int Try.underlying3 h0'
    obtain ⟨r, kv, av, e1, i1, i2, ok⟩ := rec_cells_in h1' (fun k hk => hw k (by
      simp only [DataW.weights, Try.underlying131]
      exact DataW.weights_mem_each (j := 1) rfl rfl k hk))
    simp at e0
    subst e0
    exact ⟨⟨k, r⟩, kv, av, by rw [e1], i1, i2, ok⟩
/-- A slice of records to put that came in. -/
theorem puts_in {n : Nat} {v : Value} {x : DataW H × List MemPlace} (h : DataW.trod enc Try.prog W 0 (fun _ => true) true n 26 [v] = some x) (hw : ∀ m ∈ x.1.weights Try.prog 26, m ≤ reachBytes) :
    ∃ cs, ChnsIn (Old W.heap.size) W v cs ∧ ∀ c ∈ cs, RecOk c.r := by
  obtain ⟨a, len, cap, rfl, h1, h2, -, h3⟩ := slice_open Try.underlying26 rfl (by kernel_rfl : Try.prog.cellsOf 131 = 8) (by omega) h hw
  rcases h3 with rfl | ⟨g, off, rfl, hg, hk⟩
  · exact ⟨[], ⟨a, cap, rfl, by simp, h2, .inl rfl⟩, by simp⟩
  · have key : ∀ k : Fin len, ∃ c : Chn, (∃ kv av, IntsIn (Old W.heap.size) W kv c.r.kids ∧ IntsIn (Old W.heap.size) W av c.r.attrs ∧ ∀ j x, (chL c kv av)[j]? = some x → W.cell? ⟨g, off + k * 8 + j, none⟩ = some x) ∧ RecOk c.r := fun k => by
      obtain ⟨cs, y, m, ht, hl, hc, hm⟩ := hk k k.2
      obtain ⟨c, kv, av, rfl, i1, i2, ok⟩ := put_cells_in ht hm
      refine ⟨c, ⟨kv, av, i1, i2, fun j x hj => ?_⟩, ok⟩
      rw [hc j (by have := (List.getElem?_eq_some_iff.1 hj).1; simpa using this), hj]
    refine ⟨List.ofFn (fun k => Classical.choose (key k)), ⟨_, cap, by rw [List.length_ofFn], by rw [List.length_ofFn]; exact h1, h2, .inr ⟨g, off, rfl, hg, fun k c hc => ?_⟩⟩, fun c hc => ?_⟩
    · rw [List.getElem?_ofFn] at hc
      split at hc
      · rename_i hlt
        cases hc
        exact (Classical.choose_spec (key ⟨k, hlt⟩)).1
      · cases hc
    · obtain ⟨k, hk⟩ := List.getElem?_of_mem hc
      rw [List.getElem?_ofFn] at hk
      split at hk
      · rename_i hlt
        cases hk
        exact (Classical.choose_spec (key ⟨k, hlt⟩)).2
      · cases hk

/-! ### trees -/
theorem bulk_pos (d : DataW H) : 1 ≤ Rows.uptoBulk d := by
  cases d with
  | lit l => cases l <;> simp [Rows.uptoBulk]
  | nil => simp [Rows.uptoBulk]
  | ptr d => simp [Rows.uptoBulk]
  | slice elems spare => simp [Rows.uptoBulk]
  | agg parts => simp [Rows.uptoBulk]
  | iface t d => simp [Rows.uptoBulk]
  | map entries => simp [Rows.uptoBulk]
  | held h => simp [Rows.uptoBulk]
theorem slice_elems {P : Program} {w : World} {held : Bool} {t e : TypeId} {fuel : Nat} {v : Value} {x : DataW H × List MemPlace} {C : Nat} (ht : P.underlying t = some (.slice e)) (hC : P.cellsOf e = C) (hC0 : 0 < C)
    (h : DataW.trod enc P w 0 (fun _ => true) held fuel t [v] = some x) :
    ∃ (a : Option Addr) (len cap : Nat) (elems : List (DataW H × List MemPlace)), v = .slice a len cap ∧ len ≤ cap ∧ cap ≤ maxLen ∧ elems.length = len ∧ Rows.uptoBulkAll (elems.map (·.1)) + 1 ≤ Rows.uptoBulk x.1 ∧
      (len = 0 ∨ ∃ g off n, fuel = n + 1 ∧ a = some ⟨g, off, none⟩ ∧ g < w.heap.size ∧ ∀ (k : Nat) (y : DataW H × List MemPlace), elems[k]? = some y → ∃ cs : List Value, DataW.trod enc P w 0 (fun _ => true) held n e cs = some y ∧ cs.length = C ∧ ∀ j, j < C → w.cell? ⟨g, off + k * C + j, none⟩ = cs[j]?) := by
  rcases DataW.trod_slice ht h with ⟨hcs, rfl⟩ | ⟨a, len, cap, elems, rest, n, hn, hcs, rfl, hb, hl, hm, hlen, hel, hsp, hns⟩
  · simp at hcs; subst hcs
    exact ⟨none, 0, 0, [], rfl, by omega, by unfold maxLen; omega, rfl, by simp [Rows.uptoBulkAll, Rows.uptoBulk], .inl rfl⟩
  · simp at hcs; subst hcs
    refine ⟨some a, len, cap, elems, rfl, hl, hm, hlen, by simp only [Rows.uptoBulk]; omega, ?_⟩
    by_cases h0 : len = 0
    · exact .inl h0
    · right
      have key : ∀ k, k < len → ∃ (cs : List Value), w.cells? 0 (a.add (k * C)) C = some cs ∧ DataW.trod enc P w 0 (fun _ => true) held n e cs = elems[k]? := fun k hk => by
        have h1 := hel k hk
        rw [hC, List.getElem?_eq_getElem (by omega), Option.bind_eq_some_iff] at h1
        obtain ⟨cs, h2, h3⟩ := h1
        exact ⟨cs, h2, by rw [h3, List.getElem?_eq_getElem (by omega)]⟩
      obtain ⟨cs0, hc0, -⟩ := key 0 (by omega)
      obtain ⟨-, hcl, hce⟩ := World.cells?_some hc0
      have hsome : w.cell? ((a.add (0 * C)).add 0) = some (cs0[0]'(by omega)) := by rw [hce 0 hC0]; exact List.getElem?_eq_getElem (by omega)
      obtain ⟨g, off, sub⟩ := a
      have hsub : sub = none := by
        have h2 : w.cell? ⟨g, off, sub⟩ = some (cs0[0]'(by omega)) := by simpa [Addr.add] using hsome
        simpa using World.cell?_spot h2
      subst hsub
      have hadd : ∀ (b o j : Nat), ((⟨b, o, none⟩ : Addr).add j) = ⟨b, o + j, none⟩ := fun b o j => by cases j <;> simp [Addr.add]
      refine ⟨g, off, n, hn, rfl, ?_, fun k y hk => ?_⟩
      · have h2 : w.cell? ⟨g, off, none⟩ = some (cs0[0]'(by omega)) := by simpa [Addr.add] using hsome
        exact World.block_lt_of_cell? w _ h2
      · obtain ⟨cs, hc, ht'⟩ := key k (by rw [← hlen]; exact (List.getElem?_eq_some_iff.1 hk).1)
        obtain ⟨-, hcl, hce⟩ := World.cells?_some hc
        exact ⟨cs, by rw [ht', hk], hcl, fun j hj => by rw [← hce j hj, hadd, hadd]⟩
theorem list2 {α : Type} {cs : List α} (h : cs.length = 2) : ∃ c0 c1, cs = [c0, c1] := by
  match cs, h with
  | [c0, c1], _ => exact ⟨c0, c1, rfl⟩
theorem list5 {α : Type} {cs : List α} (h : cs.length = 5) : ∃ c0 c1 c2 c3 c4, cs = [c0, c1, c2, c3, c4] := by
  match cs, h with
  | [c0, c1, c2, c3, c4], _ => exact ⟨c0, c1, c2, c3, c4, rfl⟩
theorem attrs_build {g : Nat} : ∀ (elems : List (DataW H × List MemPlace)) (off : Nat), (∀ (k : Nat) (y : DataW H × List MemPlace), elems[k]? = some y → ∃ p : ByteArray × ByteArray, W.cell? ⟨g, off + k * 2, none⟩ = some (.string p.1) ∧ W.cell? ⟨g, off + k * 2 + 1, none⟩ = some (.string p.2)) →
    ∃ al : List (ByteArray × ByteArray), al.length = elems.length ∧ ∀ j u, (attrL al)[j]? = some u → W.cell? ⟨g, off + j, none⟩ = some u
  | [], off, _ => ⟨[], rfl, fun j u h => by simp [attrL] at h⟩
  | y :: ys, off, h => by
    obtain ⟨p, h1, h2⟩ := h 0 y rfl
    obtain ⟨al, hl, hc⟩ := attrs_build ys (off + 2) (fun k z hz => by
      obtain ⟨q, h3, h4⟩ := h (k + 1) z (by simpa using hz)
      have e : off + 2 + k * 2 = off + (k + 1) * 2 := by omega
      exact ⟨q, by rw [e]; exact h3, by rw [e]; exact h4⟩)
    refine ⟨p :: al, by simp [hl], fun j u hu => ?_⟩
    have e : attrL (p :: al) = .string p.1 :: .string p.2 :: attrL al := by simp [attrL]
    rw [e] at hu
    match j, hu with
    | 0, hu => simp at hu; subst hu; simpa using h1
    | 1, hu => simp at hu; subst hu; simpa using h2
    | j + 2, hu =>
      have := hc j u (by simpa using hu)
      rw [show off + (j + 2) = off + 2 + j by omega]
      exact this
theorem kids_build {g : Nat} : ∀ (elems : List (DataW H × List MemPlace)) (off : Nat), (∀ (k : Nat) (y : DataW H × List MemPlace), elems[k]? = some y → ∃ (t : Tr) (av kv : Value), (∀ c, c < 5 → W.cell? ⟨g, off + k * 5 + c, none⟩ = (trL t av kv)[c]?) ∧ TrIn (Old W.heap.size) W t av kv ∧ t.size ≤ Rows.uptoBulk y.1) →
    ∃ (ts : List Tr) (zs : List Value), ts.length = elems.length ∧ KidsAre (Old W.heap.size) W ts zs ∧ (∀ j u, zs[j]? = some u → W.cell? ⟨g, off + j, none⟩ = some u) ∧ Tr.sizes ts ≤ Rows.uptoBulkAll (elems.map (·.1))
  | [], off, _ => ⟨[], [], rfl, by simp [KidsAre], fun j u h => by simp at h, by simp [Tr.sizes]⟩
  | y :: ys, off, h => by
    obtain ⟨t, av, kv, h1, h2, h3⟩ := h 0 y rfl
    obtain ⟨ts, zs, hl, hk, hc, hs⟩ := kids_build ys (off + 5) (fun k z hz => by
      obtain ⟨t', av', kv', h4, h5, h6⟩ := h (k + 1) z (by simpa using hz)
      have e : off + 5 + k * 5 = off + (k + 1) * 5 := by omega
      exact ⟨t', av', kv', fun c hcc => by rw [e]; exact h4 c hcc, h5, h6⟩)
    refine ⟨t :: ts, trL t av kv ++ zs, by simp [hl], ?_, fun j u hu => ?_, ?_⟩
    · simp only [KidsAre]
      exact ⟨av, kv, zs, rfl, h2, hk⟩
    · by_cases hj : j < 5
      · rw [List.getElem?_append_left (by simpa using hj)] at hu
        have := h1 j hj
        rw [hu] at this
        simpa using this
      · rw [List.getElem?_append_right (by simpa using hj)] at hu
        have := hc (j - 5) u (by simpa using hu)
        rw [show off + j = off + 5 + (j - 5) by omega]
        exact this
    · simp only [Tr.sizes, List.map_cons, Rows.uptoBulkAll]
      omega
set_option maxRecDepth 100000 in
theorem tree_in : ∀ (fuel : Nat) {cs : List Value} {x : DataW H × List MemPlace}, DataW.trod enc Try.prog W 0 (fun _ => true) true fuel 25 cs = some x →
    ∃ (t : Tr) (av kv : Value), cs = trL t av kv ∧ TrIn (Old W.heap.size) W t av kv ∧ t.size ≤ Rows.uptoBulk x.1 := by
  intro fuel
  induction fuel using Nat.strongRecOn with
  | ind fuel ih =>
    intro cs x h
    have hC : Try.prog.cellsOf 25 = 5 := by kernel_rfl
    obtain ⟨xs, m, hm, rfl, hl, hxl, hg⟩ := DataW.trod_struct Try.underlying25 h
    rw [hC] at hl
    obtain ⟨c0, c1, c2, c3, c4, rfl⟩ := list5 hl
    have q22 : Try.prog.cellsOf 22 = 1 := by kernel_rfl
    have q23 : Try.prog.cellsOf 23 = 1 := by kernel_rfl
    have q9 : Try.prog.cellsOf 9 = 1 := by kernel_rfl
    have hx5 : xs.length = 5 := hxl
    obtain ⟨y0, y1, y2, y3, y4, rfl⟩ := list5 hx5
    have h0' : DataW.trod enc Try.prog W 0 (fun _ => true) true m 3 [c0] = some y0 := by simpa [Try.int_cells] using hg 0 _ rfl
    have h1' : DataW.trod enc Try.prog W 0 (fun _ => true) true m 9 [c1] = some y1 := by simpa [q9] using hg 1 _ rfl
    have h2' : DataW.trod enc Try.prog W 0 (fun _ => true) true m 9 [c2] = some y2 := by simpa [q9] using hg 2 _ rfl
    have h3' : DataW.trod enc Try.prog W 0 (fun _ => true) true m 22 [c3] = some y3 := by simpa [q22] using hg 3 _ rfl
    have h4' : DataW.trod enc Try.prog W 0 (fun _ => true) true m 23 [c4] = some y4 := by simpa [q23] using hg 4 _ rfl
    obtain ⟨k, e0, -⟩ := DataW.trod_int Try.underlying3 h0'
    obtain ⟨nm, e1, -⟩ := DataW.trod_string Try.underlying9 h1'
    obtain ⟨tx, e2, -⟩ := DataW.trod_string Try.underlying9 h2'
    simp at e0 e1 e2
    subst e0 e1 e2
    obtain ⟨a3, len3, cap3, el3, rfl, l3, m3, n3, b3, h3⟩ := slice_elems (C := 2) Try.underlying22 (by kernel_rfl) (by omega) h3'
    obtain ⟨a4, len4, cap4, el4, rfl, l4, m4, n4, b4, h4⟩ := slice_elems (C := 5) Try.underlying23 hC (by omega) h4'
    unfold maxLen at m3 m4
    have hA : ∃ al : List (ByteArray × ByteArray), al.length = len3 ∧ CellsIn (Old W.heap.size) W (.slice a3 len3 cap3) al.length (attrL al) := by
      rcases h3 with h3 | ⟨g, off, n, hn, rfl, hgl, h3⟩
      · subst h3
        exact ⟨[], rfl, a3, cap3, rfl, by simp, .inl rfl⟩
      · obtain ⟨al, hal, hac⟩ := attrs_build (g := g) el3 off (fun j y hy => by
          obtain ⟨cs, ht, hcl, hcc⟩ := h3 j y hy
          obtain ⟨ys, m2, -, -, hl2, hxl2, hg2⟩ := DataW.trod_struct Try.underlying155 ht
          obtain ⟨d0, d1, rfl⟩ := list2 hcl
          have hx2 : ys.length = 2 := hxl2
          obtain ⟨z0, z1, rfl⟩ := list2 hx2
          have g0 : DataW.trod enc Try.prog W 0 (fun _ => true) true m2 9 [d0] = some z0 := by simpa [q9] using hg2 0 _ rfl
          have g1 : DataW.trod enc Try.prog W 0 (fun _ => true) true m2 9 [d1] = some z1 := by simpa [q9] using hg2 1 _ rfl
          obtain ⟨p0, f0, -⟩ := DataW.trod_string Try.underlying9 g0
          obtain ⟨p1, f1, -⟩ := DataW.trod_string Try.underlying9 g1
          simp at f0 f1
          subst f0 f1
          exact ⟨(p0, p1), hcc 0 (by omega), hcc 1 (by omega)⟩)
        have hlen : al.length = len3 := by omega
        exact ⟨al, hlen, some ⟨g, off, none⟩, cap3, by rw [hlen], by omega, .inr ⟨g, off, rfl, hgl, hac⟩⟩
    obtain ⟨al, hal, hCA⟩ := hA
    have hK : ∃ (ts : List Tr) (zs : List Value), ts.length = len4 ∧ CellsIn (Old W.heap.size) W (.slice a4 len4 cap4) ts.length zs ∧ KidsAre (Old W.heap.size) W ts zs ∧ Tr.sizes ts ≤ Rows.uptoBulkAll (el4.map (·.1)) := by
      rcases h4 with h4 | ⟨g, off, n, hn, rfl, hgl, h4⟩
      · subst h4
        exact ⟨[], [], rfl, ⟨a4, cap4, rfl, by simp, .inl rfl⟩, by simp [KidsAre], by simp [Tr.sizes]⟩
      · obtain ⟨ts, zs, htl, hkk, hkc, hks⟩ := kids_build (g := g) el4 off (fun j y hy => by
          obtain ⟨cs, ht, hcl, hcc⟩ := h4 j y hy
          obtain ⟨t, av, kv, rfl, h5, h6⟩ := ih n (by omega) ht
          exact ⟨t, av, kv, fun c hc => hcc c hc, h5, h6⟩)
        have hlen : ts.length = len4 := by omega
        exact ⟨ts, zs, hlen, ⟨some ⟨g, off, none⟩, cap4, by rw [hlen], by omega, .inr ⟨g, off, rfl, hgl, hkc⟩⟩, hkk, hks⟩
    obtain ⟨ts, zs, htl, hCK, hKK, hKS⟩ := hK
    refine ⟨.mk k nm tx al ts, .slice a3 len3 cap3, .slice a4 len4 cap4, rfl, ?_, ?_⟩
    · simp only [TrIn]
      exact ⟨hCA, zs, hCK, hKK⟩
    · have hlb : ∀ (l : List (DataW H)), l.length ≤ Rows.uptoBulkAll l := by
        intro l
        induction l with
        | nil => simp
        | cons d r ih2 => have := bulk_pos d; simp only [Rows.uptoBulkAll, List.length_cons]; omega
      have h9 := hlb (el3.map (·.1))
      simp only [List.length_map] at h9
      simp only [Tr.size, Rows.uptoBulk, List.map_cons, List.map_nil, Rows.uptoBulkAll]
      omega
end
end Go.Proofs.Ytinkjhkbaadbpaa
/- The arguments of the statements on axes and views, opened. -/
namespace Go.Proofs.Ytinkjhkbaadbpaa
open Go.Joins Go.ChangeShapes Go.WideShapes Go.RowKit Go.Deep
set_option linter.unusedVariables false

section
variable {H : Type} {enc : TypeId × Value → H} {W : World} {b0 : Nat}
theorem array_list {α : Type} {cs : Array α} {n : Nat} (h : cs.size = n) : ∃ l : List α, cs = l.toArray ∧ l.length = n := by
  obtain ⟨l⟩ := cs
  exact ⟨l, rfl, h⟩
set_option maxRecDepth 100000 in
theorem tree_arg {v : Value} {d : DataW H} {p : List MemPlace} (hv : Value.okWide Try.prog W .any b0 25 v) (h : DataW.Trod enc Try.prog W 0 (fun _ => true) true 25 v d p) :
    ∃ (t : Tr) (av kv : Value), v = trV t av kv ∧ TrIn (Old W.heap.size) W t av kv ∧ t.size ≤ Rows.uptoBulk d := by
  obtain ⟨cs, rfl, hsz⟩ := okWide_struct Try.underlying25 hv
  obtain ⟨l, rfl, hl⟩ := array_list (hsz.trans (by kernel_rfl : Try.prog.cellsOf 25 = 5))
  obtain ⟨c0, c1, c2, c3, c4, rfl⟩ := list5 hl
  obtain ⟨fuel, hf⟩ := h
  have hf' : DataW.trod enc Try.prog W 0 (fun _ => true) true fuel 25 [c0, c1, c2, c3, c4] = some (d, p) := by simpa [Value.cells] using hf
  obtain ⟨t, av, kv, e, h1, h2⟩ := tree_in fuel hf'
  refine ⟨t, av, kv, ?_, h1, h2⟩
  have : (#[c0, c1, c2, c3, c4] : Array Value) = (trL t av kv).toArray := by rw [← e]
  rw [show ([c0, c1, c2, c3, c4] : List Value).toArray = #[c0, c1, c2, c3, c4] from rfl, this]
set_option maxRecDepth 100000 in
theorem ask_arg {v : Value} {d : DataW H} {p : List MemPlace} (hv : Value.okWide Try.prog W .any b0 44 v) (h : DataW.Trod enc Try.prog W 0 (fun _ => true) true 44 v d p) :
    ∃ (id ax : Int) (T : Tst), v = .agg #[iv id, iv ax, .int .i64 T.kind, .string T.name, .bool T.has] := by
  obtain ⟨cs, rfl, hsz⟩ := okWide_struct Try.underlying44 hv
  obtain ⟨l, rfl, hl⟩ := array_list (hsz.trans (by kernel_rfl : Try.prog.cellsOf 44 = 5))
  obtain ⟨c0, c1, c2, c3, c4, rfl⟩ := list5 hl
  obtain ⟨fuel, hf⟩ := h
  have hf' : DataW.trod enc Try.prog W 0 (fun _ => true) true fuel 44 [c0, c1, c2, c3, c4] = some (d, p) := by simpa [Value.cells] using hf
  obtain ⟨xs, m, -, -, -, hxl, hg⟩ := DataW.trod_struct Try.underlying44 hf'
  have hx3 : xs.length = 3 := hxl
  match xs, hx3 with
  | [y0, y1, y2], _ =>
    have q42 : Try.prog.cellsOf 42 = 3 := by kernel_rfl
    have q9 : Try.prog.cellsOf 9 = 1 := by kernel_rfl
    have q4 : Try.prog.cellsOf 4 = 1 := by kernel_rfl
    have h0 : DataW.trod enc Try.prog W 0 (fun _ => true) true m 3 [c0] = some y0 := by simpa [Try.int_cells] using hg 0 _ rfl
    have h1 : DataW.trod enc Try.prog W 0 (fun _ => true) true m 3 [c1] = some y1 := by simpa [Try.int_cells] using hg 1 _ rfl
    have h2 : DataW.trod enc Try.prog W 0 (fun _ => true) true m 42 [c2, c3, c4] = some y2 := by simpa [q42] using hg 2 _ rfl
    obtain ⟨zs, m2, -, -, -, hzl, hg2⟩ := DataW.trod_struct Try.underlying42 h2
    have hz3 : zs.length = 3 := hzl
    match zs, hz3 with
    | [z0, z1, z2], _ =>
      have g0 : DataW.trod enc Try.prog W 0 (fun _ => true) true m2 3 [c2] = some z0 := by simpa [Try.int_cells] using hg2 0 _ rfl
      have g1 : DataW.trod enc Try.prog W 0 (fun _ => true) true m2 9 [c3] = some z1 := by simpa [q9] using hg2 1 _ rfl
      have g2 : DataW.trod enc Try.prog W 0 (fun _ => true) true m2 4 [c4] = some z2 := by simpa [q4] using hg2 2 _ rfl
      obtain ⟨id, e0, -⟩ := DataW.trod_int Try.underlying3 h0
      obtain ⟨ax, e1, -⟩ := DataW.trod_int Try.underlying3 h1
      obtain ⟨k, f0, -⟩ := DataW.trod_int Try.underlying3 g0
      obtain ⟨nm, f1, -⟩ := DataW.trod_string Try.underlying9 g1
      obtain ⟨hs, f2, -⟩ := DataW.trod_bool Try.underlying4 g2
      simp at e0 e1 f0 f1 f2
      subst e0 e1 f0 f1 f2
      exact ⟨id, ax, ⟨k, nm, hs⟩, rfl⟩
set_option maxRecDepth 100000 in
theorem two_arg {v : Value} {d : DataW H} {p : List MemPlace} (hv : Value.okWide Try.prog W .any b0 27 v) (h : DataW.Trod enc Try.prog W 0 (fun _ => true) true 27 v d p) :
    ∃ (a b : Int), v = .agg #[iv a, iv b] := by
  have hv2 := hv
  simp only [Value.okWide, Try.underlying27] at hv2
  obtain ⟨cs, rfl, hsz, -⟩ := hv2
  obtain ⟨l, rfl, hl⟩ := array_list (hsz.trans (by kernel_rfl : Try.prog.cellsOf 27 = 2))
  obtain ⟨c0, c1, rfl⟩ := list2 hl
  obtain ⟨fuel, hf⟩ := h
  have hf' : DataW.trod enc Try.prog W 0 (fun _ => true) true fuel 27 [c0, c1] = some (d, p) := by simpa [Value.cells] using hf
  obtain ⟨xs, m, -, -, -, hxl, hg⟩ := DataW.trod_array Try.underlying27 hf'
  match xs, hxl with
  | [y0, y1], _ =>
    have h0 : DataW.trod enc Try.prog W 0 (fun _ => true) true m 3 [c0] = some y0 := by simpa [Try.int_cells] using hg 0 (by omega)
    have h1 : DataW.trod enc Try.prog W 0 (fun _ => true) true m 3 [c1] = some y1 := by simpa [Try.int_cells] using hg 1 (by omega)
    obtain ⟨a, e0, -⟩ := DataW.trod_int Try.underlying3 h0
    obtain ⟨b, e1, -⟩ := DataW.trod_int Try.underlying3 h1
    simp at e0 e1
    subst e0 e1
    exact ⟨a, b, rfl⟩
end
end Go.Proofs.Ytinkjhkbaadbpaa
