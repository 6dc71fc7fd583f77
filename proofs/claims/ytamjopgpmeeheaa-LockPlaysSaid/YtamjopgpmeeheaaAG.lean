/- Steps that came in as arguments, opened; what LockFair is about. -/
import Derived.Test.YtamjopgpmeeheaaWK
import Derived.Test.YtamjopgpmeeheaaQU
import Derived.Lib.SmallJoins
import Derived.OpenShut
import Derived.SizedLaws
import Derived.ProofKit
namespace Go.Proofs.Ytamjopgpmeeheaa
open Go.Joins Go.ChangeShapes Go.WideShapes Go.RowKit Go.Deep
set_option linter.unusedVariables false

abbrev St4 := Int × Int × Int × Int
/-- steps in memory -/
def StIn (F : Nat → Prop) (w : World) (v : Value) (l : List St4) : Prop :=
  ∃ a cap, v = .slice a l.length cap ∧ l.length ≤ cap ∧ cap ≤ maxLen ∧ (l = [] ∨ ∃ g off, a = some ⟨g, off, none⟩ ∧ F g ∧ ∀ (k : Nat) (e : St4), l[k]? = some e → w.cell? ⟨g, off + k * 4, none⟩ = some (iv e.1) ∧ w.cell? ⟨g, off + k * 4 + 1, none⟩ = some (iv e.2.1) ∧ w.cell? ⟨g, off + k * 4 + 2, none⟩ = some (iv e.2.2.1) ∧ w.cell? ⟨g, off + k * 4 + 3, none⟩ = some (iv e.2.2.2))
section
variable {H : Type} {enc : TypeId × Value → H} {P : Program} {w : World} {held : Bool}
theorem weights_mem_all {e : TypeId} : ∀ {ds : List (DataW H)} {d : DataW H}, d ∈ ds → ∀ n ∈ d.weights P e, n ∈ DataW.weightsAll P e ds
  | d0 :: ds, d, hd, n, hn => by
    simp only [DataW.weightsAll, List.mem_append]
    rcases List.mem_cons.1 hd with rfl | hd
    · exact .inl hn
    · exact .inr (weights_mem_all hd n hn)

/-- A slice that came in, and its elements. -/
theorem slice_open {t e : TypeId} {fuel : Nat} {v : Value} {x : DataW H × List MemPlace} {B C : Nat} (ht : P.underlying t = some (.slice e)) (hB : P.bytesOf e = B) (hC : P.cellsOf e = C) (hC0 : 0 < C)
    (h : DataW.trod enc P w 0 (fun _ => true) held fuel t [v] = some x) (hw : ∀ n ∈ x.1.weights P t, n ≤ reachBytes) :
    ∃ a len cap, v = .slice a len cap ∧ len ≤ cap ∧ cap ≤ maxLen ∧ len * B ≤ reachBytes ∧ (len = 0 ∨ ∃ g off, a = some ⟨g, off, none⟩ ∧ g < w.heap.size ∧
      ∀ k, k < len → ∃ (cs : List Value) (y : DataW H × List MemPlace) (n : Nat), DataW.trod enc P w 0 (fun _ => true) held n e cs = some y ∧ cs.length = C ∧ (∀ j, j < C → w.cell? ⟨g, off + k * C + j, none⟩ = cs[j]?) ∧ ∀ m ∈ y.1.weights P e, m ≤ reachBytes) := by
  rcases DataW.trod_slice ht h with ⟨hcs, rfl⟩ | ⟨a, len, cap, elems, rest, n, _, hcs, rfl, hb, hl, hm, hlen, hel, hsp, hns⟩
  · simp at hcs; subst hcs
    exact ⟨none, 0, 0, rfl, by omega, by unfold maxLen; omega, by omega, .inl rfl⟩
  · simp at hcs; subst hcs
    have hbytes : (elems.length + rest.length) * B ≤ reachBytes := by
      have := hw ((elems.length + rest.length) * B) (by simp [DataW.weights, ht, hB])
      exact this
    refine ⟨some a, len, cap, rfl, hl, hm, Nat.le_trans (Nat.mul_le_mul_right _ (by omega)) hbytes, ?_⟩
    by_cases h0 : len = 0
    · exact .inl h0
    · right
      have key : ∀ k, k < len → ∃ (cs : List Value) (y : DataW H × List MemPlace), w.cells? 0 (a.add (k * C)) C = some cs ∧ DataW.trod enc P w 0 (fun _ => true) held n e cs = some y ∧ y ∈ elems := fun k hk => by
        have h1 := hel k hk
        rw [hC, List.getElem?_eq_getElem (by omega), Option.bind_eq_some_iff] at h1
        obtain ⟨cs, h2, h3⟩ := h1
        exact ⟨cs, _, h2, h3, List.getElem_mem _⟩
      obtain ⟨cs0, y0, hc0, -, -⟩ := key 0 (by omega)
      obtain ⟨-, hcl, hce⟩ := World.cells?_some hc0
      have hsome : w.cell? ((a.add (0 * C)).add 0) = some (cs0[0]'(by omega)) := by rw [hce 0 hC0]; exact List.getElem?_eq_getElem (by omega)
      obtain ⟨g, off, sub⟩ := a
      have hsub : sub = none := by
        have h2 : w.cell? ⟨g, off, sub⟩ = some (cs0[0]'(by omega)) := by simpa [Addr.add] using hsome
        simpa using World.cell?_spot h2
      subst hsub
      have hadd : ∀ (b o j : Nat), ((⟨b, o, none⟩ : Addr).add j) = ⟨b, o + j, none⟩ := fun b o j => by cases j <;> simp [Addr.add]
      refine ⟨g, off, rfl, ?_, fun k hk => ?_⟩
      · have h2 : w.cell? ⟨g, off, none⟩ = some (cs0[0]'(by omega)) := by simpa [Addr.add] using hsome
        exact World.block_lt_of_cell? w _ h2
      · obtain ⟨cs, y, hc, ht', hy⟩ := key k hk
        obtain ⟨-, hcl, hce⟩ := World.cells?_some hc
        refine ⟨cs, y, n, ht', hcl, fun j hj => ?_, fun m hm => ?_⟩
        · rw [← hce j hj, hadd, hadd]
        · refine hw m ?_
          simp only [DataW.weights, ht, List.mem_cons, List.mem_append]
          exact .inr (.inl (weights_mem_all (List.mem_map.2 ⟨y, hy, rfl⟩) m hm))
end
theorem Try.bytes30 : Try.prog.bytesOf 30 = 32 := by kernel_rfl
theorem Try.cells30 : Try.prog.cellsOf 30 = 4 := by kernel_rfl
theorem Try.cells3 : Try.prog.cellsOf 3 = 1 := by kernel_rfl
section
variable {H : Type} {enc : TypeId × Value → H} {W : World}
theorem list4 {α : Type} {cs : List α} (h : cs.length = 4) : ∃ c0 c1 c2 c3, cs = [c0, c1, c2, c3] := by
  match cs, h with
  | [c0, c1, c2, c3], _ => exact ⟨c0, c1, c2, c3, rfl⟩
theorem step_cells_in {n : Nat} {cs : List Value} {x : DataW H × List MemPlace} (h : DataW.trod enc Try.prog W 0 (fun _ => true) true n 30 cs = some x) : ∃ e : St4, cs = [iv e.1, iv e.2.1, iv e.2.2.1, iv e.2.2.2] := by
  obtain ⟨xs, m, _, rfl, hl, hxl, hg⟩ := DataW.trod_struct Try.underlying30 h
  rw [Try.cells30] at hl
  obtain ⟨c0, c1, c2, c3, rfl⟩ := list4 hl
  match xs, hxl with
  | [y0, y1, y2, y3], _ =>
    have h0 : DataW.trod enc Try.prog W 0 (fun _ => true) true m 3 [c0] = some y0 := by simpa [Try.cells3] using hg 0 _ rfl
    have h1 : DataW.trod enc Try.prog W 0 (fun _ => true) true m 3 [c1] = some y1 := by simpa [Try.cells3] using hg 1 _ rfl
    have h2 : DataW.trod enc Try.prog W 0 (fun _ => true) true m 3 [c2] = some y2 := by simpa [Try.cells3] using hg 2 _ rfl
    have h3 : DataW.trod enc Try.prog W 0 (fun _ => true) true m 3 [c3] = some y3 := by simpa [Try.cells3] using hg 3 _ rfl
    obtain ⟨a, e0, -⟩ := DataW.trod_int Try.underlying3 h0
    obtain ⟨b, e1, -⟩ := DataW.trod_int Try.underlying3 h1
    obtain ⟨c, e2, -⟩ := DataW.trod_int Try.underlying3 h2
    obtain ⟨d, e3, -⟩ := DataW.trod_int Try.underlying3 h3
    simp at e0 e1 e2 e3
    subst e0 e1 e2 e3
    exact ⟨(a, b, c, d), rfl⟩
/-- A slice of steps that came in. -/
theorem steps_in {n : Nat} {v : Value} {x : DataW H × List MemPlace} (h : DataW.trod enc Try.prog W 0 (fun _ => true) true n 22 [v] = some x) (hw : ∀ m ∈ x.1.weights Try.prog 22, m ≤ reachBytes) :
    ∃ l, StIn (fun k => k < W.heap.size) W v l := by
  obtain ⟨a, len, cap, rfl, h1, h2, hb, h3⟩ := slice_open Try.underlying22 Try.bytes30 Try.cells30 (by omega) h hw
  rcases h3 with rfl | ⟨g, off, rfl, hg, hk⟩
  · exact ⟨[], ⟨a, cap, rfl, by simp, h2, .inl rfl⟩⟩
  · have key : ∀ k : Fin len, ∃ e : St4, W.cell? ⟨g, off + k * 4, none⟩ = some (iv e.1) ∧ W.cell? ⟨g, off + k * 4 + 1, none⟩ = some (iv e.2.1) ∧ W.cell? ⟨g, off + k * 4 + 2, none⟩ = some (iv e.2.2.1) ∧ W.cell? ⟨g, off + k * 4 + 3, none⟩ = some (iv e.2.2.2) := fun k => by
      obtain ⟨cs, y, m, ht, hl, hc, hm⟩ := hk k k.2
      obtain ⟨e, rfl⟩ := step_cells_in ht
      exact ⟨e, (hc 0 (by omega)).trans rfl, (hc 1 (by omega)).trans rfl, (hc 2 (by omega)).trans rfl, (hc 3 (by omega)).trans rfl⟩
    refine ⟨List.ofFn (fun k => (key k).choose), ⟨some ⟨g, off, none⟩, cap, by simp, by simpa using h1, h2, .inr ⟨g, off, rfl, hg, fun k e he => ?_⟩⟩⟩
    obtain ⟨hk', he'⟩ := List.getElem?_eq_some_iff.1 he
    simp at hk' he'
    have := (key ⟨k, hk'⟩).choose_spec
    rw [he'] at this
    exact this
end

/-! ### LockFair -/
def Fair (nd : Int) (T : Tb) : Prop := ∃ q, T nd = ⟨[(998, 5)], (999, 7) :: q⟩ ∧ (∀ id, id ≠ nd → T id = Nd.nil) ∧ NdOk (T nd)
theorem fair1 : askN Nd.nil 998 5 = (true, ⟨[(998, 5)], []⟩) := by
  have h1 : covB (hasI Nd.nil.hs 998) 5 = false := by decide
  have h2 : canB Nd.nil.hs 998 (joinI (hasI Nd.nil.hs 998) 5) = true := by decide
  unfold askN
  rw [if_neg (by rw [h1]; simp), if_pos ⟨h2, .inr rfl⟩]
  rfl
theorem fair2 : askN ⟨[(998, 5)], []⟩ 999 7 = (false, ⟨[(998, 5)], [(999, 7)]⟩) := by
  have h1 : covB (hasI [(998, 5)] 999) 7 = false := by decide
  have h2 : canB [(998, 5)] 999 (joinI (hasI [(998, 5)] 999) 7) = false := by decide
  unfold askN
  rw [if_neg (by simp only; rw [h1]; simp), if_neg (by simp only; rw [h2]; simp)]
  rfl
theorem cov_zero {m : Int} (h : rightB m = true) : covB 0 m = false := by
  have hm : m = 1 ∨ m = 2 ∨ m = 3 ∨ m = 4 ∨ m = 5 ∨ m = 6 ∨ m = 7 := by simp [rightB] at h; omega
  rcases hm with rfl | rfl | rfl | rfl | rfl | rfl | rfl <;> decide
theorem ok998 : okW (998, 5) := by refine ⟨⟨?_, ?_⟩, ?_, ?_⟩ <;> decide
theorem ok999 : okW (999, 7) := by refine ⟨⟨?_, ?_⟩, ?_, ?_⟩ <;> decide
theorem fair_start {nd : Int} : Fair nd (setT (setT T0 nd ⟨[(998, 5)], []⟩) nd ⟨[(998, 5)], [(999, 7)]⟩) := by
  refine ⟨[], by rw [setT_same], fun id hid => by rw [setT_other _ _ hid, setT_other _ _ hid]; rfl, ?_⟩
  rw [setT_same]
  exact ⟨by simp [Rise], (fun h hh => by simp at hh; subst hh; exact ok998), (fun h hh => by simp at hh; subst hh; exact ok999), by simp⟩
theorem fair_step {nd : Int} {T : Tb} (h : Fair nd T) {t m : Int} (ht : t < 998) (hm : mayAsk T t nd m) : (askN (T nd) t m).1 = false ∧ Fair nd (setT T nd (askN (T nd) t m).2) := by
  obtain ⟨q, hT, hno, hok⟩ := h
  obtain ⟨h1, h2, h3, h4, h5⟩ := hm
  have hh : hasI [(998, 5)] t = 0 := by
    have : findH [(998, 5)] t = none := by
      unfold findH
      rw [List.find?_cons]
      have : ((998 : Int) == t) = false := by simp; omega
      simp [this]
    unfold hasI; rw [this]; rfl
  have hj : joinI 0 m = m := by simp [joinI, h4]
  have he : askN (T nd) t m = (false, ⟨[(998, 5)], (999, 7) :: (q ++ [(t, m)])⟩) := by
    rw [hT]
    unfold askN
    simp only
    rw [hh, if_neg (by rw [cov_zero h4]; simp), if_neg (by simp), hj]
    have ha : atI ⟨[(998, 5)], (999, 7) :: q⟩ t = ((999, 7) :: q).length := by unfold atI; simp only; rw [if_pos hh]
    rw [ha, List.take_length, List.drop_length]
    rfl
  refine ⟨by rw [he], q ++ [(t, m)], by rw [setT_same, he], fun id hid => by rw [setT_other _ _ hid]; exact hno id hid, ?_⟩
  rw [setT_same, he]
  rw [hT] at hok
  have hmr : 1 ≤ m ∧ m ≤ 7 := by simpa [rightB] using h4
  refine ⟨hok.rise, hok.held, fun x hx => ?_, ?_⟩
  · have hx' : x ∈ (999, 7) :: q ∨ x = (t, m) := by simpa [or_assoc] using hx
    rcases hx' with hx | rfl
    · exact hok.wait x hx
    · exact ⟨⟨h1, h2⟩, hmr⟩
  · have e : ((999, 7) :: (q ++ [(t, m)])).map (·.1) = ((999, 7) :: q).map (·.1) ++ [t] := by simp
    show (((999, 7) :: (q ++ [(t, m)])).map (·.1)).Nodup
    rw [e]
    refine List.nodup_append.2 ⟨hok.once, by simp, fun a ha b hb => ?_⟩
    simp at hb; subst hb
    rintro rfl
    obtain ⟨x, hx, hxe⟩ := List.mem_map.1 ha
    exact h5 ⟨nd, x, by rw [hT]; exact hx, hxe⟩
end Go.Proofs.Ytamjopgpmeeheaa
