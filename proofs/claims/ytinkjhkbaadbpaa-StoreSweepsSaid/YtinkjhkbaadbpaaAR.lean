/- Steps and changes that came in as arguments, opened. -/
import Derived.Test.YtinkjhkbaadbpaaSK
import Derived.Test.YtinkjhkbaadbpaaRO
import Derived.SizedLaws
namespace Go.Proofs.Ytinkjhkbaadbpaa
open Go.Joins Go.ChangeShapes Go.WideShapes Go.RowKit Go.Deep
set_option linter.unusedVariables false

section
variable {H : Type} {enc : TypeId × Value → H} {P : Program} {w : World} {held : Bool}
theorem weights_mem_all {e : TypeId} : ∀ {ds : List (DataW H)} {d : DataW H}, d ∈ ds → ∀ n ∈ d.weights P e, n ∈ DataW.weightsAll P e ds
  | d0 :: ds, d, hd, n, hn => by
    simp only [DataW.weightsAll, List.mem_append]
    rcases List.mem_cons.1 hd with rfl | hd
    · exact .inl hn
    · exact .inr (weights_mem_all hd n hn)

/-- A slice that came in, and its elements. -/
theorem slice_open {t e : TypeId} {fuel : Nat} {v : Value} {x : DataW H × List MemPlace} {B C : Nat} (ht : P.underlying t = some (.slice e)) (hB : P.bytesOf e = B) (hC : P.cellsOf e = C) (hC0 : 0 < C)
    (h : DataW.trod enc P w 0 (fun _ => true) held fuel t [v] = some x) (hw : ∀ n ∈ x.1.weights P t, n ≤ reachBytes) :
    ∃ a len cap, v = .slice a len cap ∧ len ≤ cap ∧ cap ≤ maxLen ∧ len * B ≤ reachBytes ∧ (len = 0 ∨ ∃ g off, a = some ⟨g, off, none⟩ ∧ g < w.heap.size ∧
      ∀ k, k < len → ∃ (cs : List Value) (y : DataW H × List MemPlace) (n : Nat), DataW.trod enc P w 0 (fun _ => true) held n e cs = some y ∧ cs.length = C ∧ (∀ j, j < C → w.cell? ⟨g, off + k * C + j, none⟩ = cs[j]?) ∧ ∀ m ∈ y.1.weights P e, m ≤ reachBytes) := by
  rcases DataW.trod_slice ht h with ⟨hcs, rfl⟩ | ⟨a, len, cap, elems, rest, n, _, hcs, rfl, hb, hl, hm, hlen, hel, hsp, hns⟩
  · simp at hcs; subst hcs
    exact ⟨none, 0, 0, rfl, by omega, by unfold maxLen; omega, by omega, .inl rfl⟩
  · simp at hcs; subst hcs
    have hbytes : (elems.length + rest.length) * B ≤ reachBytes := by
      have := hw ((elems.length + rest.length) * B) (by simp [DataW.weights, ht, hB])
      exact this
    refine ⟨some a, len, cap, rfl, hl, hm, Nat.le_trans (Nat.mul_le_mul_right _ (by omega)) hbytes, ?_⟩
    by_cases h0 : len = 0
    · exact .inl h0
    · right
      have key : ∀ k, k < len → ∃ (cs : List Value) (y : DataW H × List MemPlace), w.cells? 0 (a.add (k * C)) C = some cs ∧ DataW.trod enc P w 0 (fun _ => true) held n e cs = some y ∧ y ∈ elems := fun k hk => by
        have h1 := hel k hk
        rw [hC, List.getElem?_eq_getElem (by omega), Option.bind_eq_some_iff] at h1
        obtain ⟨cs, h2, h3⟩ := h1
        exact ⟨cs, _, h2, h3, List.getElem_mem _⟩
      obtain ⟨cs0, y0, hc0, -, -⟩ := key 0 (by omega)
      obtain ⟨-, hcl, hce⟩ := World.cells?_some hc0
      have hsome : w.cell? ((a.add (0 * C)).add 0) = some (cs0[0]'(by omega)) := by rw [hce 0 hC0]; exact List.getElem?_eq_getElem (by omega)
      obtain ⟨g, off, sub⟩ := a
      have hsub : sub = none := by
        have h2 : w.cell? ⟨g, off, sub⟩ = some (cs0[0]'(by omega)) := by simpa [Addr.add] using hsome
        simpa using World.cell?_spot h2
      subst hsub
      have hadd : ∀ (b o j : Nat), ((⟨b, o, none⟩ : Addr).add j) = ⟨b, o + j, none⟩ := fun b o j => by cases j <;> simp [Addr.add]
      refine ⟨g, off, rfl, ?_, fun k hk => ?_⟩
      · have h2 : w.cell? ⟨g, off, none⟩ = some (cs0[0]'(by omega)) := by simpa [Addr.add] using hsome
        exact World.block_lt_of_cell? w _ h2
      · obtain ⟨cs, y, hc, ht', hy⟩ := key k hk
        obtain ⟨-, hcl, hce⟩ := World.cells?_some hc
        refine ⟨cs, y, n, ht', hcl, fun j hj => ?_, fun m hm => ?_⟩
        · rw [← hce j hj, hadd, hadd]
        · refine hw m ?_
          simp only [DataW.weights, ht, List.mem_cons, List.mem_append]
          exact .inr (.inl (weights_mem_all (List.mem_map.2 ⟨y, hy, rfl⟩) m hm))
/-- A slice of ints that came in, with its bound. -/
theorem ints_in_sized {t e : TypeId} {fuel : Nat} {v : Value} {x : DataW H × List MemPlace} (ht : P.underlying t = some (.slice e)) (he : P.underlying e = some (.int .i64)) (hc : P.cellsOf e = 1) (hb : P.bytesOf e = 8)
    (h : DataW.trod enc P w 0 (fun _ => true) held fuel t [v] = some x) (hw : ∀ n ∈ x.1.weights P t, n ≤ reachBytes) : ∃ xs, IntsIn (fun k => k < w.heap.size) w v xs ∧ xs.length * 8 ≤ 140737488351232 := by
  obtain ⟨xs, hi⟩ := ints_in ht he hc h
  refine ⟨xs, hi, ?_⟩
  obtain ⟨a, len, cap, e1, -, -, hbd, -⟩ := slice_open ht hb hc (by omega) h hw
  obtain ⟨a2, cap2, e2, -⟩ := hi
  rw [e1] at e2
  cases e2
  unfold reachBytes at hbd
  exact hbd
end

theorem Try.bytes3 : Try.prog.bytesOf 3 = 8 := by kernel_rfl
theorem Try.str_cells : Try.prog.cellsOf 9 = 1 := by kernel_rfl
theorem Try.chn_cells : Try.prog.cellsOf 125 = 8 := by kernel_rfl
theorem Try.stp_cells : Try.prog.cellsOf 74 = 4 := by kernel_rfl

section
variable {H : Type} {enc : TypeId × Value → H} {W : World}
theorem list7 {α : Type} {cs : List α} (h : cs.length = 7) : ∃ c0 c1 c2 c3 c4 c5 c6, cs = [c0, c1, c2, c3, c4, c5, c6] := by
  match cs, h with
  | [c0, c1, c2, c3, c4, c5, c6], _ => exact ⟨c0, c1, c2, c3, c4, c5, c6, rfl⟩
theorem list4 {α : Type} {cs : List α} (h : cs.length = 4) : ∃ c0 c1 c2 c3, cs = [c0, c1, c2, c3] := by
  match cs, h with
  | [c0, c1, c2, c3], _ => exact ⟨c0, c1, c2, c3, rfl⟩
theorem list8 {α : Type} {cs : List α} (h : cs.length = 8) : ∃ c0 c1 c2 c3 c4 c5 c6 c7, cs = [c0, c1, c2, c3, c4, c5, c6, c7] := by
  match cs, h with
  | [c0, c1, c2, c3, c4, c5, c6, c7], _ => exact ⟨c0, c1, c2, c3, c4, c5, c6, c7, rfl⟩

theorem open_cells7 {P : Program} {w : World} {held : Bool} {t : TypeId} {f0 f1 f2 f3 f4 f5 f6 : Field} {n : Nat} {cs : List Value} {x : DataW H × List MemPlace} (hs : P.underlying t = some (.struct #[f0, f1, f2, f3, f4, f5, f6])) (hone : oneCellFields P #[f0, f1, f2, f3, f4, f5, f6] = true) (hC : P.cellsOf t = 7)
    (h : DataW.trod enc P w 0 (fun _ => true) held n t cs = some x) (hw : ∀ m ∈ x.1.weights P t, m ≤ reachBytes) :
    ∃ (v0 v1 v2 v3 v4 v5 v6 : Value) (y0 y1 y2 y3 y4 y5 y6 : DataW H × List MemPlace) (n : Nat), cs = [v0, v1, v2, v3, v4, v5, v6] ∧
      DataW.trod enc P w 0 (fun _ => true) held n f0.type [v0] = some y0 ∧ DataW.trod enc P w 0 (fun _ => true) held n f1.type [v1] = some y1 ∧ DataW.trod enc P w 0 (fun _ => true) held n f2.type [v2] = some y2 ∧ DataW.trod enc P w 0 (fun _ => true) held n f3.type [v3] = some y3 ∧ DataW.trod enc P w 0 (fun _ => true) held n f4.type [v4] = some y4 ∧ DataW.trod enc P w 0 (fun _ => true) held n f5.type [v5] = some y5 ∧ DataW.trod enc P w 0 (fun _ => true) held n f6.type [v6] = some y6 ∧
      (∀ m ∈ y4.1.weights P f4.type, m ≤ reachBytes) ∧ (∀ m ∈ y5.1.weights P f5.type, m ≤ reachBytes) := by
  obtain ⟨xs, m, _, rfl, hl, hxl, hg⟩ := DataW.trod_struct hs h
  rw [hC] at hl
  obtain ⟨c0, c1, c2, c3, c4, c5, c6, rfl⟩ := list7 hl
  obtain ⟨y0, y1, y2, y3, y4, y5, y6, rfl⟩ := list7 (hxl.trans rfl)
  obtain ⟨o0, k0⟩ := hone_of hone 0 f0 rfl
  obtain ⟨o1, k1⟩ := hone_of hone 1 f1 rfl
  obtain ⟨o2, k2⟩ := hone_of hone 2 f2 rfl
  obtain ⟨o3, k3⟩ := hone_of hone 3 f3 rfl
  obtain ⟨o4, k4⟩ := hone_of hone 4 f4 rfl
  obtain ⟨o5, k5⟩ := hone_of hone 5 f5 rfl
  obtain ⟨o6, k6⟩ := hone_of hone 6 f6 rfl
  refine ⟨c0, c1, c2, c3, c4, c5, c6, y0, y1, y2, y3, y4, y5, y6, m, rfl, by simpa [o0, k0] using hg 0 f0 rfl, by simpa [o1, k1] using hg 1 f1 rfl, by simpa [o2, k2] using hg 2 f2 rfl, by simpa [o3, k3] using hg 3 f3 rfl, by simpa [o4, k4] using hg 4 f4 rfl, by simpa [o5, k5] using hg 5 f5 rfl, by simpa [o6, k6] using hg 6 f6 rfl, fun k hk => hw k ?_, fun k hk => hw k ?_⟩
  · simp only [DataW.weights, hs]
    exact DataW.weights_mem_each (j := 4) rfl rfl k hk
  · simp only [DataW.weights, hs]
    exact DataW.weights_mem_each (j := 5) rfl rfl k hk

set_option maxRecDepth 100000 in
theorem rec_cells_in {n : Nat} {cs : List Value} {x : DataW H × List MemPlace} (h : DataW.trod enc Try.prog W 0 (fun _ => true) true n 52 cs = some x) (hw : ∀ m ∈ x.1.weights Try.prog 52, m ≤ reachBytes) :
    ∃ r kv av, cs = recL r kv av ∧ IntsIn (fun k => k < W.heap.size) W kv r.kids ∧ IntsIn (fun k => k < W.heap.size) W av r.attrs ∧ RecOk r := by
  obtain ⟨v0, v1, v2, v3, v4, v5, v6, y0, y1, y2, y3, y4, y5, y6, n, rfl, h0, h1, h2, h3, h4, h5, h6, w4, w5⟩ := open_cells7 Try.underlying52 (by kernel_rfl) Try.rec_cells h hw
  obtain ⟨k, e0, -⟩ := DataW.trod_int Try.underlying3 h0
  obtain ⟨nm, e1, -⟩ := DataW.trod_string Try.underlying9 h1
  obtain ⟨tx, e2, -⟩ := DataW.trod_string Try.underlying9 h2
  obtain ⟨pa, e3, -⟩ := DataW.trod_int Try.underlying3 h3
  obtain ⟨ks, i4, b4⟩ := ints_in_sized Try.underlying33 Try.underlying3 Try.int_cells Try.bytes3 h4 w4
  obtain ⟨ats, i5, b5⟩ := ints_in_sized Try.underlying33 Try.underlying3 Try.int_cells Try.bytes3 h5 w5
  obtain ⟨g, e6, -⟩ := DataW.trod_bool Try.underlying4 h6
  simp at e0 e1 e2 e3 e6
  subst e0 e1 e2 e3 e6
  exact ⟨⟨k, nm, tx, pa, ks, ats, g⟩, v4, v5, rfl, i4, i5, b4, b5⟩

set_option maxRecDepth 100000 in
theorem chn_cells_in {n : Nat} {cs : List Value} {x : DataW H × List MemPlace} (h : DataW.trod enc Try.prog W 0 (fun _ => true) true n 125 cs = some x) (hw : ∀ m ∈ x.1.weights Try.prog 125, m ≤ reachBytes) :
    ∃ c kv av, cs = chL c kv av ∧ IntsIn (fun k => k < W.heap.size) W kv c.r.kids ∧ IntsIn (fun k => k < W.heap.size) W av c.r.attrs ∧ RecOk c.r := by
  obtain ⟨xs, m, _, rfl, hl, hxl, hg⟩ := DataW.trod_struct Try.underlying125 h
  rw [Try.chn_cells] at hl
  obtain ⟨c0, c1, c2, c3, c4, c5, c6, c7, rfl⟩ := list8 hl
  match xs, hxl with
  | [y0, y1], _ =>
    have h0' : DataW.trod enc Try.prog W 0 (fun _ => true) true m 3 [c0] = some y0 := by simpa [Try.int_cells] using hg 0 _ rfl
    have h1' : DataW.trod enc Try.prog W 0 (fun _ => true) true m 52 [c1, c2, c3, c4, c5, c6, c7] = some y1 := by simpa [Try.rec_cells] using hg 1 _ rfl
    obtain ⟨k, e0, -⟩ := DataW.trod_int Try.underlying3 h0'
    obtain ⟨r, kv, av, e1, i1, i2, ok⟩ := rec_cells_in h1' (fun k hk => hw k (by
      simp only [DataW.weights, Try.underlying125]
      exact DataW.weights_mem_each (j := 1) rfl rfl k hk))
    simp at e0
    subst e0
    exact ⟨⟨k, r⟩, kv, av, by rw [e1], i1, i2, ok⟩

/-- A slice of changes that came in. -/
theorem chns_in {n : Nat} {v : Value} {x : DataW H × List MemPlace} (h : DataW.trod enc Try.prog W 0 (fun _ => true) true n 67 [v] = some x) (hw : ∀ m ∈ x.1.weights Try.prog 67, m ≤ reachBytes) :
    ∃ cs, ChnsIn (Old W.heap.size) W v cs ∧ ∀ c ∈ cs, RecOk c.r := by
  obtain ⟨a, len, cap, rfl, h1, h2, -, h3⟩ := slice_open Try.underlying67 rfl Try.chn_cells (by omega) h hw
  rcases h3 with rfl | ⟨g, off, rfl, hg, hk⟩
  · exact ⟨[], ⟨a, cap, rfl, by simp, h2, .inl rfl⟩, by simp⟩
  · have key : ∀ k : Fin len, ∃ c : Chn, (∃ kv av, IntsIn (Old W.heap.size) W kv c.r.kids ∧ IntsIn (Old W.heap.size) W av c.r.attrs ∧ ∀ j x, (chL c kv av)[j]? = some x → W.cell? ⟨g, off + k * 8 + j, none⟩ = some x) ∧ RecOk c.r := fun k => by
      obtain ⟨cs, y, m, ht, hl, hc, hm⟩ := hk k k.2
      obtain ⟨c, kv, av, rfl, i1, i2, ok⟩ := chn_cells_in ht hm
      refine ⟨c, ⟨kv, av, i1, i2, fun j x hj => ?_⟩, ok⟩
      rw [hc j (by have := (List.getElem?_eq_some_iff.1 hj).1; simpa using this), hj]
    refine ⟨List.ofFn (fun k => Classical.choose (key k)), ⟨_, cap, by rw [List.length_ofFn], by rw [List.length_ofFn]; exact h1, h2, .inr ⟨g, off, rfl, hg, fun k c hc => ?_⟩⟩, fun c hc => ?_⟩
    · rw [List.getElem?_ofFn] at hc
      split at hc
      · rename_i hlt
        cases hc
        exact (Classical.choose_spec (key ⟨k, hlt⟩)).1
      · cases hc
    · obtain ⟨k, hk⟩ := List.getElem?_of_mem hc
      rw [List.getElem?_ofFn] at hk
      split at hk
      · rename_i hlt
        cases hk
        exact (Classical.choose_spec (key ⟨k, hlt⟩)).2
      · cases hk

structure Stp where
  kd : Int
  id : Int
  T : Nat
  cs : List Chn
abbrev stL (x : Stp) (v : Value) : List Value := [.int .i64 x.kd, .int .i64 x.id, .int .u64 x.T, v]
/-- a slice of steps in memory, all of it in blocks of F -/
def StepsIn (F : Nat → Prop) (w : World) (v : Value) (xs : List Stp) : Prop :=
  ∃ a cap, v = .slice a xs.length cap ∧ xs.length ≤ maxLen ∧ (xs = [] ∨ ∃ g off, a = some ⟨g, off, none⟩ ∧ F g ∧
    ∀ (k : Nat) (x : Stp), xs[k]? = some x → ∃ u, ChnsIn F w u x.cs ∧ (∀ c ∈ x.cs, RecOk c.r) ∧ ∀ j y, (stL x u)[j]? = some y → w.cell? ⟨g, off + k * 4 + j, none⟩ = some y)
theorem nat_of_u64 {T : Int} (h : (Lit.int .u64 T).wf = true) : T = ((T.toNat : Nat) : Int) := by
  have : 0 ≤ T := by
    simp [Lit.wf, IntKind.min, IntKind.signed] at h
    omega
  omega
set_option maxRecDepth 100000 in
theorem stp_cells_in {n : Nat} {cs : List Value} {x : DataW H × List MemPlace} (h : DataW.trod enc Try.prog W 0 (fun _ => true) true n 74 cs = some x) (hw : ∀ m ∈ x.1.weights Try.prog 74, m ≤ reachBytes) :
    ∃ s u, cs = stL s u ∧ ChnsIn (Old W.heap.size) W u s.cs ∧ ∀ c ∈ s.cs, RecOk c.r := by
  obtain ⟨xs, m, _, rfl, hl, hxl, hg⟩ := DataW.trod_struct Try.underlying74 h
  rw [Try.stp_cells] at hl
  obtain ⟨c0, c1, c2, c3, rfl⟩ := list4 hl
  match xs, hxl with
  | [y0, y1, y2, y3], _ =>
    have q66 : Try.prog.cellsOf 66 = 1 := by kernel_rfl
    have q67 : Try.prog.cellsOf 67 = 1 := by kernel_rfl
    have h0' : DataW.trod enc Try.prog W 0 (fun _ => true) true m 3 [c0] = some y0 := by simpa [Try.int_cells] using hg 0 _ rfl
    have h1' : DataW.trod enc Try.prog W 0 (fun _ => true) true m 3 [c1] = some y1 := by simpa [Try.int_cells] using hg 1 _ rfl
    have h2' : DataW.trod enc Try.prog W 0 (fun _ => true) true m 66 [c2] = some y2 := by simpa [q66] using hg 2 _ rfl
    have h3' : DataW.trod enc Try.prog W 0 (fun _ => true) true m 67 [c3] = some y3 := by simpa [q67] using hg 3 _ rfl
    obtain ⟨k, e0, -⟩ := DataW.trod_int Try.underlying3 h0'
    obtain ⟨id, e1, -⟩ := DataW.trod_int Try.underlying3 h1'
    obtain ⟨T, e2, -, wf⟩ := DataW.trod_int Try.underlying66 h2'
    obtain ⟨cs, hcs, hok⟩ := chns_in h3' (fun k hk => hw k (by
      simp only [DataW.weights, Try.underlying74]
      exact DataW.weights_mem_each (j := 3) rfl rfl k hk))
    simp at e0 e1 e2
    subst e0 e1 e2
    exact ⟨⟨k, id, T.toNat, cs⟩, c3, by rw [stL, ← nat_of_u64 wf], hcs, hok⟩
/-- A slice of steps that came in. -/
theorem steps_in {n : Nat} {v : Value} {x : DataW H × List MemPlace} (h : DataW.trod enc Try.prog W 0 (fun _ => true) true n 65 [v] = some x) (hw : ∀ m ∈ x.1.weights Try.prog 65, m ≤ reachBytes) :
    ∃ xs, StepsIn (Old W.heap.size) W v xs := by
  obtain ⟨a, len, cap, rfl, h1, h2, -, h3⟩ := slice_open Try.underlying65 rfl Try.stp_cells (by omega) h hw
  rcases h3 with rfl | ⟨g, off, rfl, hg, hk⟩
  · exact ⟨[], ⟨a, cap, rfl, by simp, .inl rfl⟩⟩
  · have key : ∀ k : Fin len, ∃ s : Stp, ∃ u, ChnsIn (Old W.heap.size) W u s.cs ∧ (∀ c ∈ s.cs, RecOk c.r) ∧ ∀ j y, (stL s u)[j]? = some y → W.cell? ⟨g, off + k * 4 + j, none⟩ = some y := fun k => by
      obtain ⟨cs, y, m, ht, hl, hc, hm⟩ := hk k k.2
      obtain ⟨s, u, rfl, i1, ok⟩ := stp_cells_in ht hm
      refine ⟨s, u, i1, ok, fun j x hj => ?_⟩
      rw [hc j (by have := (List.getElem?_eq_some_iff.1 hj).1; simpa using this), hj]
    refine ⟨List.ofFn (fun k => Classical.choose (key k)), ⟨_, cap, by rw [List.length_ofFn], by rw [List.length_ofFn]; omega, .inr ⟨g, off, rfl, hg, fun k c hc => ?_⟩⟩⟩
    rw [List.getElem?_ofFn] at hc
    split at hc
    · rename_i hlt
      cases hc
      exact Classical.choose_spec (key ⟨k, hlt⟩)
    · cases hc
theorem StepsIn.keep {F : Nat → Prop} {w w' : World} {v : Value} {xs : List Stp} (h : StepsIn F w v xs) (hk : Keeps F w w') : StepsIn F w' v xs := by
  obtain ⟨a, cap, rfl, h1, rfl | ⟨g, off, rfl, hg, hc⟩⟩ := h
  · exact ⟨a, cap, rfl, h1, .inl rfl⟩
  · refine ⟨_, cap, rfl, h1, .inr ⟨g, off, rfl, hg, fun k c e => ?_⟩⟩
    obtain ⟨u, i1, i2, h3⟩ := hc k c e
    exact ⟨u, i1.keep hk, i2, fun j x hx => (hk.cell (p := ⟨g, off + k * 4 + j, none⟩) hg).trans (h3 j x hx)⟩
end

/-- Any step of both stores. -/
theorem step_any {n0 j : Nat} {R D Rd : Nat → Prop} {w : World} {p q : Value} {S : Store} {d : Doc} (h : Both n0 R D Rd w p q S d) (hf : Few S d j) (hj : j + 1 ≤ 90) (x : Stp) (v : Value) (hv : ChnsIn (Old n0) w v x.cs) (hok : ∀ c ∈ x.cs, RecOk c.r) :
    Calls Try.prog 41 #[p, q, .agg #[.int .i64 x.kd, .int .i64 x.id, .int .u64 x.T, v]] w fun e w' => StepDone n0 w p q (j + 1) e w' := by
  obtain ⟨kd, id, T, cs⟩ := x
  simp only at *
  have hv2 := hv
  obtain ⟨a, cap, rfl, -⟩ := hv2
  by_cases k0 : kd = 0
  · subst k0; exact step_fresh h hf hj id T a _ cap
  · by_cases k1 : kd = 1
    · subst k1; exact step_install h hf hj id T a _ cap cs hv hok
    · by_cases k2 : kd = 2
      · subst k2; exact step_sweep h hf hj id T a _ cap
      · exact step_ask h hf hj kd id T a _ cap k0 k1 k2
end Go.Proofs.Ytinkjhkbaadbpaa
