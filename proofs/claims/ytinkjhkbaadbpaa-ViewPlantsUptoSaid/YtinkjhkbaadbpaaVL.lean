/- The reference's view: its own changes in a slice that rises; Lay (106). -/
import Derived.Test.YtinkjhkbaadbpaaVP
import Derived.Test.YtinkjhkbaadbpaaDV
namespace Go.Proofs.Ytinkjhkbaadbpaa
open Go.RowKit
open Go.ChangeMaps (setBlock)
set_option linter.unusedVariables false

abbrev Own := Int × Rec
abbrev ownL (e : Own) (kv av : Value) : List Value := .int .i64 e.1 :: recL e.2 kv av
/-- The cells xs are the changes es, whose lists lie in blocks of D. -/
def OwnsAre (D : Nat → Prop) (w : World) : List Own → List Value → Prop
  | [], xs => xs = []
  | e :: es, xs => ∃ kv av rest, xs = ownL e kv av ++ rest ∧ IntsIn D w kv e.2.kids ∧ IntsIn D w av e.2.attrs ∧ OwnsAre D w es rest
theorem OwnsAre.keep {D D' : Nat → Prop} {w w' : World} (hk : Keeps D w w') (hD : ∀ k, D k → D' k) : ∀ {es : List Own} {xs : List Value}, OwnsAre D w es xs → OwnsAre D' w' es xs
  | [], _, h => h
  | _ :: _, _, ⟨kv, av, rest, e, h1, h2, h3⟩ => ⟨kv, av, rest, e, (h1.keep hk).mono hD, (h2.keep hk).mono hD, OwnsAre.keep hk hD h3⟩
theorem OwnsAre.snoc {D : Nat → Prop} {w : World} {v : Own} {kv av : Value} (h1 : IntsIn D w kv v.2.kids) (h2 : IntsIn D w av v.2.attrs) : ∀ {vs : List Own} {xs : List Value}, OwnsAre D w vs xs → OwnsAre D w (vs ++ [v]) (xs ++ ownL v kv av)
  | [], _, h => by cases h; exact ⟨kv, av, [], by simp, h1, h2, rfl⟩
  | _ :: _, _, ⟨kv', av', rest, e, h1', h2', h3'⟩ => ⟨kv', av', rest ++ ownL v kv av, by rw [e, List.append_assoc], h1', h2', OwnsAre.snoc h1 h2 h3'⟩
theorem OwnsAre.get {D : Nat → Prop} {w : World} : ∀ {vs : List Own} {xs : List Value}, OwnsAre D w vs xs → ∀ (k : Nat) (v : Own), vs[k]? = some v →
    ∃ kv av, IntsIn D w kv v.2.kids ∧ IntsIn D w av v.2.attrs ∧ ∀ c, c < 8 → xs[k * 8 + c]? = (ownL v kv av)[c]?
  | [], _, _, k, v, hv => by simp at hv
  | v0 :: vs, _, ⟨kv, av, rest, e, h1, h2, h3⟩, 0, v, hv => by
    simp at hv; subst hv; subst e
    exact ⟨kv, av, h1, h2, fun c hc => by rw [List.getElem?_append_left (by simpa using hc)]; simp⟩
  | v0 :: vs, _, ⟨kv, av, rest, e, h1, h2, h3⟩, k + 1, v, hv => by
    obtain ⟨kv', av', i1, i2, hc⟩ := OwnsAre.get h3 k v (by simpa using hv)
    subst e
    refine ⟨kv', av', i1, i2, fun c hcc => ?_⟩
    rw [← hc c hcc]
    have e : (k + 1) * 8 + c = (k * 8 + c) + 8 := by omega
    rw [e]
    simp

/-- the reference's view -/
structure RVw where
  own : List Own
  time : Nat
/-- the reference's view in memory: block v, which leads to the document at q; what may turn lies in R -/
structure RVIn (R D : Nat → Prop) (w : World) (v : Nat) (q : Value) (V : RVw) : Prop where
  cell : ∃ sv xs, w.heap[v]? = some (.cells #[q, .int .u64 V.time, sv] 129 (0, 0)) ∧ w.ownsRow 0 125 8 sv V.own.length xs ∧ OwnsAre D w V.own xs ∧ ∀ g, sv.ownBlock = some g → R g
  ok : ∀ e, e ∈ V.own → RecOk e.2
theorem RVIn.keep {R D : Nat → Prop} {w w' : World} {v : Nat} {q : Value} {V : RVw} (h : RVIn R D w v q V) (hv : w'.heap[v]? = w.heap[v]?) (hR : Keeps R w w') (hD : Keeps D w w') : RVIn R D w' v q V := by
  obtain ⟨sv, xs, hb, ho, he, hr⟩ := h.cell
  exact ⟨⟨sv, xs, hv.trans hb, ownsRow_keeps ho (fun g hg => hR g (hr g hg)), he.keep hD (fun _ h => h), hr⟩, h.ok⟩
theorem RVIn.mono {R D R' D' : Nat → Prop} {w : World} {v : Nat} {q : Value} {V : RVw} (h : RVIn R D w v q V) (hR : ∀ k, R k → R' k) (hD : ∀ k, D k → D' k) : RVIn R' D' w v q V := by
  obtain ⟨sv, xs, hb, ho, he, hr⟩ := h.cell
  exact ⟨⟨sv, xs, hb, ho, he.keep (Keeps.refl _ _) hD, fun g hg => hR _ (hr g hg)⟩, h.ok⟩
/-- what reading asks -/
theorem RVIn.read {R D : Nat → Prop} {w : World} {v : Nat} {q : Value} {V : RVw} (h : RVIn R D w v q V) : ∃ a cap, w.heap[v]? = some (.cells #[q, .int .u64 V.time, .slice a V.own.length cap] 129 (0, 0)) ∧
    ∀ (k : Nat) (e : Own), V.own[k]? = some e → ∃ g kv av, a = some ⟨g, 0, none⟩ ∧ R g ∧ g ≠ v ∧ g < w.heap.size ∧ IntsIn D w kv e.2.kids ∧ IntsIn D w av e.2.attrs ∧ ∀ c x, (ownL e kv av)[c]? = some x → w.cell? ⟨g, k * 8 + c, none⟩ = some x := by
  obtain ⟨sv, xs, hb, ho, he, hr⟩ := h.cell
  obtain ⟨hl, ⟨rfl, h0⟩ | ⟨g, cap, cur, rfl, _, hgg, h1, h2, h3, h4⟩⟩ := ho
  · refine ⟨none, 0, by rw [h0]; exact hb, fun k e hk => ?_⟩
    have := (List.getElem?_eq_some_iff.1 hk).1
    omega
  · refine ⟨_, cap, hb, fun k e hk => ?_⟩
    have hkl := (List.getElem?_eq_some_iff.1 hk).1
    obtain ⟨kv, av, i1, i2, hc⟩ := he.get k e hk
    refine ⟨g, kv, av, rfl, hr g rfl, ?_, (Array.getElem?_eq_some_iff.1 hgg).1, i1, i2, fun c x hx => ?_⟩
    · rintro rfl; rw [hb] at hgg; cases hgg
    · have hcl : c < 8 := by have := (List.getElem?_eq_some_iff.1 hx).1; simpa using this
      have := hc c hcl
      rw [hx, ← h4, List.getElem?_take_of_lt (by omega)] at this
      simpa [World.cell?, hgg] using this

/-- Lay, in plain words: one step; the steps of the first k; the whole. -/
def laySt (id : Int) (r : Rec) (acc : List Own × Bool) (e : Own) : List Own × Bool :=
  ((acc.1 ++ (if !acc.2 && decide (id ≤ e.1) then [(id, r)] else [])) ++ (if e.1 = id then [] else [e]), acc.2 || decide (id ≤ e.1))
def layP (id : Int) (r : Rec) (L : List Own) (k : Nat) : List Own × Bool := (L.take k).foldl (laySt id r) ([], false)
def layL (id : Int) (r : Rec) (L : List Own) : List Own :=
  if (layP id r L L.length).2 then (layP id r L L.length).1 else (layP id r L L.length).1 ++ [(id, r)]
theorem layP_succ {id : Int} {r : Rec} {L : List Own} {k : Nat} {e : Own} (hk : L[k]? = some e) : layP id r L (k + 1) = laySt id r (layP id r L k) e := by
  unfold layP
  rw [List.take_add_one, hk, Option.toList_some, List.foldl_append]
  rfl
theorem layP_len (id : Int) (r : Rec) (L : List Own) : ∀ k, k ≤ L.length → (layP id r L k).1.length + (if (layP id r L k).2 then 0 else 1) ≤ k + 1
  | 0, _ => by simp [layP]
  | k + 1, hk => by
    have ih := layP_len id r L k (by omega)
    have hlt : k < L.length := by omega
    rw [layP_succ (e := L[k]) (List.getElem?_eq_getElem hlt)]
    generalize layP id r L k = p at ih ⊢
    obtain ⟨a, b⟩ := p
    simp only [laySt] at ih ⊢
    cases b <;> by_cases h1 : id ≤ L[k].1 <;> by_cases h2 : L[k].1 = id <;> simp [h1, h2] at ih ⊢ <;> omega
theorem ownCells {w w' : World} {g k : Nat} {e : Own} {kv av : Value} (hc : ∀ c x, (ownL e kv av)[c]? = some x → w.cell? ⟨g, k * 8 + c, none⟩ = some x) (hk : w'.heap[g]? = w.heap[g]?) :
    w'.cell? ⟨g, k * 8, none⟩ = some (.int .i64 e.1) ∧ w'.cell? ⟨g, k * 8 + 1, none⟩ = some (.int .i64 e.2.kind) ∧ w'.cell? ⟨g, k * 8 + 1 + 1, none⟩ = some (.string e.2.name) ∧ w'.cell? ⟨g, k * 8 + 1 + 2, none⟩ = some (.string e.2.text) ∧
    w'.cell? ⟨g, k * 8 + 1 + 3, none⟩ = some (.int .i64 e.2.parent) ∧ w'.cell? ⟨g, k * 8 + 1 + 4, none⟩ = some kv ∧ w'.cell? ⟨g, k * 8 + 1 + 5, none⟩ = some av ∧ w'.cell? ⟨g, k * 8 + 1 + 6, none⟩ = some (.bool e.2.gone) := by
  have h := fun (j : Nat) (x : Value) (hx : (ownL e kv av)[j]? = some x) => (World.cell?_of_block (w := w) (w' := w') (a := ⟨g, k * 8 + j, none⟩) hk).trans (hc j x hx)
  exact ⟨h 0 _ rfl, h 1 _ rfl, h 2 _ rfl, h 3 _ rfl, h 4 _ rfl, h 5 _ rfl, h 6 _ rfl, h 7 _ rfl⟩
theorem Try.info125 : (Try.prog.info? 125).map (fun i => (i.zero, i.size, i.bytes)) = some (some (.agg #[.int .i64 0, .int .i64 0, .string ⟨#[]⟩, .string ⟨#[]⟩, .int .i64 0, .slice none 0 0, .slice none 0 0, .bool false]), 8, 112) := by kernel_rfl

theorem own_push {D : Nat → Prop} {W wr w2 : World} {o : Obj} {v : Value} {n : Nat} {out : List Own} {xs : List Value} {e : Own} {kv av : Value} (hD : ∀ k, D k → k < W.heap.size) (hbel : Below W.heap.size W wr) (hown : wr.ownsRow W.heap.size 125 8 v n xs) (hent : OwnsAre D wr out xs)
    (hgrow : (wr.alloc o).grownBy w2 v.ownBlock) (hk : IntsIn D wr kv e.2.kids) (ha : IntsIn D wr av e.2.attrs) : OwnsAre D w2 (out ++ [e]) (xs ++ ownL e kv av) ∧ Below W.heap.size W w2 ∧ Keeps D wr w2 := by
  have hgrow0 : Below wr.heap.size wr (wr.alloc o) := (Below.refl _ _).alloc (Nat.le_refl _) _
  obtain ⟨hkp, hb2⟩ := keeps_grown hD hgrow0 hbel (fun k h => (ownsRow_base hown h).1) hgrow
  exact ⟨OwnsAre.snoc (v := e) (hk.keep hkp) (ha.keep hkp) (hent.keep hkp (fun _ h => h)), hb2, hkp⟩
theorem layP_mem {id : Int} {r : Rec} {L : List Own} : ∀ k, k ≤ L.length → ∀ e, e ∈ (layP id r L k).1 → e = (id, r) ∨ e ∈ L
  | 0, _, e, h => by simp [layP] at h
  | k + 1, hk, e, h => by
    have hlt : k < L.length := by omega
    rw [layP_succ (e := L[k]) (List.getElem?_eq_getElem hlt)] at h
    simp only [laySt, List.mem_append] at h
    rcases h with (h | h) | h
    · exact layP_mem k (by omega) e h
    · split at h <;> simp at h
      exact .inl h
    · split at h <;> simp at h
      subst h
      exact .inr (List.getElem_mem hlt)
theorem layL_mem {id : Int} {r : Rec} {L : List Own} {e : Own} (h : e ∈ layL id r L) : e = (id, r) ∨ e ∈ L := by
  unfold layL at h
  split at h
  · exact layP_mem _ (Nat.le_refl _) e h
  · rcases List.mem_append.1 h with h | h
    · exact layP_mem _ (Nat.le_refl _) e h
    · exact .inl (by simpa using h)
theorem ownsRow_zero {w : World} {B e size n : Nat} {v : Value} {xs : List Value} (h : w.ownsRow B e size v n xs) : w.ownsRow 0 e size v n xs := by
  obtain ⟨hl, h⟩ := h
  rcases h with ⟨rfl, h0⟩ | ⟨g, cap, cur, rfl, hb, rest⟩
  · exact ⟨hl, .inl ⟨rfl, h0⟩⟩
  · exact ⟨hl, .inr ⟨g, cap, cur, rfl, Nat.zero_le _, rest⟩⟩
theorem ownsRow_shape {w : World} {B e size n : Nat} {v : Value} {xs : List Value} (h : w.ownsRow B e size v n xs) : ∃ a c, v = .slice a n c := by
  rcases h.2 with ⟨rfl, h0⟩ | ⟨g, cap, cur, rfl, _⟩
  · exact ⟨none, 0, by rw [h0]⟩
  · exact ⟨_, _, rfl⟩
theorem lay_fin {R D : Nat → Prop} {w W wr : World} {v T : Nat} {q sv v1 : Value} {out : List Own} {xs : List Value} (hb : w.heap[v]? = some (.cells #[q, .int .u64 T, sv] 129 (0, 0))) (hW : Below w.heap.size w W) (hbel : Below W.heap.size W wr) (hD : ∀ k, D k → k < w.heap.size ∧ k ≠ v)
    (hown : wr.ownsRow W.heap.size 125 8 v1 out.length xs) (hent : OwnsAre D wr out xs) (hok : ∀ e, e ∈ out → RecOk e.2) :
    RVIn (fun k => R k ∨ (w.heap.size ≤ k ∧ k < (wr.setCell ⟨v, 2, none⟩ v1).heap.size)) D (wr.setCell ⟨v, 2, none⟩ v1) v q ⟨out, T⟩ ∧ Chg (fun k => k = v) w (wr.setCell ⟨v, 2, none⟩ v1) := by
  have hvl : v < w.heap.size := (Array.getElem?_eq_some_iff.1 hb).1
  have hbw := hW.trans (hbel.mono hW.size)
  have hsz : (wr.setCell ⟨v, 2, none⟩ v1).heap.size = wr.heap.size := by simp [World.setCell]
  refine ⟨⟨⟨v1, xs, ?_, ?_, ?_, ?_⟩, hok⟩, (chg_new hbw).trans (chg_set (M := fun k => k = v) rfl 2 _)⟩
  · have := heap_setCell_same wr v 2 _ _ v1 ((hbw.block v hvl).trans hb)
    simpa using this
  · exact ownsRow_keeps (ownsRow_zero hown) (fun g hg => heap_setCell_other _ _ _ _ (by rintro rfl; have := (ownsRow_base hown hg).1; have := hW.size; omega))
  · exact hent.keep (fun k hk => heap_setCell_other _ _ _ _ (hD k hk).2) (fun _ h => h)
  · intro g hg
    have h1 := ownsRow_base hown hg
    have h2 := hW.size
    exact .inr ⟨by omega, by rw [hsz]; exact h1.2⟩
def LayPost (R D : Nat → Prop) (w : World) (v : Nat) (q : Value) (V : RVw) (e : Ending) (w' : World) : Prop :=
  e = .returned (.tuple #[]) ∧ RVIn (fun k => R k ∨ (w.heap.size ≤ k ∧ k < w'.heap.size)) D w' v q V ∧ Chg (fun k => k = v) w w'
set_option maxRecDepth 100000 in
set_option maxHeartbeats 4000000 in
theorem lay_any {R D : Nat → Prop} {w : World} {v : Nat} {q : Value} {V : RVw} (h : RVIn R D w v q V) (hD : ∀ k, D k → k < w.heap.size ∧ k ≠ v) (hl : V.own.length ≤ 1000000000) (id : Int) {r : Rec} {x : Value} (hok : RecOk r) (hx : RecV D w x r) :
    Calls Try.prog 106 #[.pointer (some ⟨v, 0, none⟩), iv id, x] w (LayPost R D w v q ⟨layL id r V.own, V.time⟩) := by
  obtain ⟨a, cap, hb, hent⟩ := h.read
  obtain ⟨i0, hi, hz0, hz1, hz2⟩ := info_parts Try.info125
  have hvl : v < w.heap.size := (Array.getElem?_eq_some_iff.1 hb).1
  obtain ⟨kv, av, rfl, hrk, hra⟩ := hx
  obtain ⟨kind, name, text, parent, kids, attrs, gone⟩ := r
  have HRK := Lib.hid hrk
  have HRA := Lib.hid hra
  obtain ⟨ka, kc, rfl, -, -, -⟩ := hrk
  obtain ⟨aa, ac, rfl, -, -, -⟩ := hra
  obtain ⟨rr, hrr⟩ : ∃ rr : Rec, (⟨kind, name, text, parent, kids, attrs, gone⟩ : Rec) = rr := ⟨_, rfl⟩
  obtain ⟨W, hW⟩ : ∃ W, w.alloc (.cells #[.int .i64 kind, .string name, .string text, .int .i64 parent, .slice ka kids.length kc, .slice aa attrs.length ac, .bool gone] 52) = W := ⟨_, rfl⟩
  have hbW : Below w.heap.size w W := by rw [← hW]; exact (Below.refl _ _).alloc (Nat.le_refl _) _
  have hsW : W.heap.size = w.heap.size + 1 := by rw [← hW]; simp
  have hx0 : W.heap[w.heap.size]? = some (.cells #[.int .i64 kind, .string name, .string text, .int .i64 parent, .slice ka kids.length kc, .slice aa attrs.length ac, .bool gone] 52 (0, 0)) := by rw [← hW]; exact Go.heap_alloc_new _ _
  have H := Lib.hid h
  have HE := Lib.hid hent
  have HD := Lib.hid hD
  have HOK := Lib.hid hok
  have HW := Lib.hid hW
  have HBW := Lib.hid hbW
  have HB := Lib.hid hb
  have HX0 := Lib.hid hx0
  have HRR := Lib.hid hrr
  clear h hent hD hok hW hbW hb hx0 hrr
  go_enter Try.func106, Try.ntmps106
  go_wp2
  rw [HW.out]
  go_loopw [6, 7, 8] (fun v1 dn i wr => ∃ k : Nat, k ≤ V.own.length ∧ i = .int .i64 k ∧ dn = .bool (layP id rr V.own k).2 ∧ ∃ xs, wr.ownsRow W.heap.size 125 8 v1 (layP id rr V.own k).1.length xs ∧ OwnsAre D wr (layP id rr V.own k).1 xs ∧ Below W.heap.size W wr) (fun _ _ i _ => V.own.length - (Lib.intOf i).toNat)
  case atStart => exact ⟨0, Nat.zero_le _, rfl, rfl, [], World.ownsRow_nil _ _ _ _, rfl, Below.refl _ _⟩
  case round =>
    obtain ⟨k, hk, rfl, rfl, xs, hown, hent, hbel⟩ := hrel
    have c0' : wr.cell? ⟨v, 2, none⟩ = some (.slice a V.own.length cap) := ((HBW.out.trans (hbel.mono HBW.out.size)).cell (p := ⟨v, 2, none⟩) hvl).trans (by simp [World.cell?, HB.out])
    have hx1 := (hbel.block w.heap.size (by omega)).trans HX0.out
    obtain ⟨x0, x1, x2, x3, x4, x5, x6⟩ := cells7 hx1
    have HOWN := Lib.hid hown
    have HENT := Lib.hid hent
    have HBEL := Lib.hid hbel
    have hlen := layP_len id rr V.own k hk
    obtain ⟨p, hp⟩ : ∃ p, layP id rr V.own k = p := ⟨_, rfl⟩
    rw [hp] at HOWN HENT hlen ⊢
    obtain ⟨out, dn⟩ := p
    simp only at HOWN HENT hlen ⊢
    by_cases hlt : k < V.own.length
    · obtain ⟨e, hek⟩ : ∃ e, V.own[k]? = some e := ⟨_, List.getElem?_eq_getElem hlt⟩
      obtain ⟨g, kv, av, rfl, -, -, hgl, ik, ia, hc⟩ := HE.out k e hek
      obtain ⟨e0, e1, e2, e3, e4, e5, e6, e7⟩ := ownCells hc (((HBW.out.trans (hbel.mono HBW.out.size)).block g hgl))
      have hls := layP_succ (id := id) (r := rr) hek
      rw [hp] at hls
      have hk0 : (0 : Int) ≤ k := by omega
      have hkl : (k : Int) < V.own.length := by omega
      have IK := Lib.hid ik
      have IA := Lib.hid ia
      have LS := Lib.hid hls
      obtain ⟨ka2, kc2, rfl, -, -, -⟩ := ik
      obtain ⟨aa2, ac2, rfl, -, -, -⟩ := ia
      have HDW := Lib.hid (show ∀ k, D k → k < W.heap.size from fun k hk => by have := (HD.out k hk).1; omega)
      have HKP := Lib.hid ((keeps_below (HBW.out.trans (hbel.mono HBW.out.size))).mono (fun k hk => (HD.out k hk).1) : Keeps D w wr)
      have HC := Lib.hid hc
      clear hc hls hek hown hent hbel hx1 hp
      obtain ⟨eid, kind2, name2, text2, parent2, kids2, attrs2, gone2⟩ := e
      simp only [laySt] at *
      subst rr
      by_cases heq : eid = id
      · cases dn with
        | true =>
          go_wp2
          go_roundw
          case rel =>
            refine ⟨k + 1, by omega, by go_num, ?_, xs, ?_, ?_, HBEL.out⟩
            · rw [LS.out]; simp
            · rw [LS.out]; simpa [heq] using HOWN.out
            · rw [LS.out]; simpa [heq] using HENT.out
          case measure => simp [Lib.intOf]; omega
        | false =>
          have hle : id ≤ eid := by omega
          go_wp2_with ((at_builtin; refine wpList_append_own_at _ rfl _ _ 67 rfl W.heap.size 125 i0 (.agg #[.int .i64 0, .int .i64 0, .string ⟨#[]⟩, .string ⟨#[]⟩, .int .i64 0, .slice none 0 0, .slice none 0 0, .bool false]) 8 112 Try.underlying67 hi hz0 hz1 hz2 rfl (by decide) _ _ _ rfl (ownsRow_alloc HOWN.out _) ⟨wr.heap.size, 0, none⟩ 1 1 (ownL (id, ⟨kind, name, text, parent, kids, attrs, gone⟩) (.slice ka kids.length kc) (.slice aa attrs.length ac)) rfl rfl cells_new (by simp [Value.oneCell']) (by unfold maxLen; omega) (by omega) (by have := HBEL.out.size; simp; omega) ?_; intro v' w2 hown2 hgrow hnil hloc; have hpu := own_push (e := (id, ⟨kind, name, text, parent, kids, attrs, gone⟩)) HDW.out HBEL.out HOWN.out HENT.out hgrow (HRK.out.keep HKP.out) (HRA.out.keep HKP.out); have HENT2 := Lib.hid hpu.1; have HB2 := Lib.hid hpu.2.1; have HKP2 := Lib.hid hpu.2.2; have HOWN2 := Lib.hid hown2; have y0 := (hpu.2.1.block w.heap.size (by omega)).trans HX0.out; obtain ⟨z0, z1, z2, z3, z4, z5, z6⟩ := cells7 y0; have d0 : w2.cell? ⟨v, 2, none⟩ = some (.slice (some ⟨g, 0, none⟩) V.own.length cap) := ((HBW.out.trans (hpu.2.1.mono HBW.out.size)).cell (p := ⟨v, 2, none⟩) hvl).trans (by simp [World.cell?, HB.out]); obtain ⟨f0, f1, f2, f3, f4, f5, f6, f7⟩ := ownCells HC.out (((HBW.out.trans (hpu.2.1.mono HBW.out.size)).block g hgl)); simp only at f0 f1 f2 f3 f4 f5 f6 f7; clear y0 hpu))
          go_roundw
          case rel =>
            refine ⟨k + 1, by omega, by go_num, ?_, xs ++ ownL (id, ⟨kind, name, text, parent, kids, attrs, gone⟩) (.slice ka kids.length kc) (.slice aa attrs.length ac), ?_, ?_, HB2.out⟩
            · rw [LS.out]; simp [hle]
            · rw [LS.out]; simpa [heq, hle] using HOWN2.out
            · rw [LS.out]; simpa [heq, hle] using HENT2.out
          case measure => simp [Lib.intOf]; omega
      · cases dn with
        | true =>
          go_wp2_with ((at_builtin; refine wpList_append_own_at _ rfl _ _ 67 rfl W.heap.size 125 i0 (.agg #[.int .i64 0, .int .i64 0, .string ⟨#[]⟩, .string ⟨#[]⟩, .int .i64 0, .slice none 0 0, .slice none 0 0, .bool false]) 8 112 Try.underlying67 hi hz0 hz1 hz2 rfl (by decide) _ _ _ rfl (ownsRow_alloc HOWN.out _) ⟨wr.heap.size, 0, none⟩ 1 1 (ownL (eid, ⟨kind2, name2, text2, parent2, kids2, attrs2, gone2⟩) (.slice ka2 kids2.length kc2) (.slice aa2 attrs2.length ac2)) rfl rfl cells_new (by simp [Value.oneCell']) (by unfold maxLen; omega) (by omega) (by have := HBEL.out.size; simp; omega) ?_; intro v' w2 hown2 hgrow hnil hloc))
          go_roundw
          case rel =>
            have hpu := own_push (e := (eid, ⟨kind2, name2, text2, parent2, kids2, attrs2, gone2⟩)) HDW.out HBEL.out HOWN.out HENT.out hgrow (IK.out.keep HKP.out) (IA.out.keep HKP.out)
            refine ⟨k + 1, by omega, by go_num, ?_, xs ++ ownL (eid, ⟨kind2, name2, text2, parent2, kids2, attrs2, gone2⟩) (.slice ka2 kids2.length kc2) (.slice aa2 attrs2.length ac2), ?_, ?_, hpu.2.1⟩
            · rw [LS.out]; simp
            · rw [LS.out]; simpa [heq] using hown2
            · rw [LS.out]; simpa [heq] using hpu.1
          case measure => simp [Lib.intOf]; omega
        | false =>
          by_cases hle : id ≤ eid
          · go_wp2_with (first | (at_builtin; refine wpList_append_own_at _ rfl _ _ 67 rfl W.heap.size 125 i0 (.agg #[.int .i64 0, .int .i64 0, .string ⟨#[]⟩, .string ⟨#[]⟩, .int .i64 0, .slice none 0 0, .slice none 0 0, .bool false]) 8 112 Try.underlying67 hi hz0 hz1 hz2 rfl (by decide) _ _ _ rfl (ownsRow_alloc HOWN2.out _) ⟨w2.heap.size, 0, none⟩ 1 1 (ownL (eid, ⟨kind2, name2, text2, parent2, kids2, attrs2, gone2⟩) (.slice ka2 kids2.length kc2) (.slice aa2 attrs2.length ac2)) rfl rfl cells_new (by simp [Value.oneCell']) (by unfold maxLen; omega) (by omega) (by have := HB2.out.size; simp; omega) ?_; intro v3 w3 hown3 hgrow3 hnil3 hloc3) | (at_builtin; refine wpList_append_own_at _ rfl _ _ 67 rfl W.heap.size 125 i0 (.agg #[.int .i64 0, .int .i64 0, .string ⟨#[]⟩, .string ⟨#[]⟩, .int .i64 0, .slice none 0 0, .slice none 0 0, .bool false]) 8 112 Try.underlying67 hi hz0 hz1 hz2 rfl (by decide) _ _ _ rfl (ownsRow_alloc HOWN.out _) ⟨wr.heap.size, 0, none⟩ 1 1 (ownL (id, ⟨kind, name, text, parent, kids, attrs, gone⟩) (.slice ka kids.length kc) (.slice aa attrs.length ac)) rfl rfl cells_new (by simp [Value.oneCell']) (by unfold maxLen; omega) (by omega) (by have := HBEL.out.size; simp; omega) ?_; intro v' w2 hown2 hgrow hnil hloc; have hpu := own_push (e := (id, ⟨kind, name, text, parent, kids, attrs, gone⟩)) HDW.out HBEL.out HOWN.out HENT.out hgrow (HRK.out.keep HKP.out) (HRA.out.keep HKP.out); have HENT2 := Lib.hid hpu.1; have HB2 := Lib.hid hpu.2.1; have HKP2 := Lib.hid hpu.2.2; have HOWN2 := Lib.hid hown2; have y0 := (hpu.2.1.block w.heap.size (by omega)).trans HX0.out; obtain ⟨z0, z1, z2, z3, z4, z5, z6⟩ := cells7 y0; have d0 : w2.cell? ⟨v, 2, none⟩ = some (.slice (some ⟨g, 0, none⟩) V.own.length cap) := ((HBW.out.trans (hpu.2.1.mono HBW.out.size)).cell (p := ⟨v, 2, none⟩) hvl).trans (by simp [World.cell?, HB.out]); obtain ⟨f0, f1, f2, f3, f4, f5, f6, f7⟩ := ownCells HC.out (((HBW.out.trans (hpu.2.1.mono HBW.out.size)).block g hgl)); simp only at f0 f1 f2 f3 f4 f5 f6 f7; clear y0 hpu))
            go_roundw
            case rel =>
              have hpu := own_push (e := (eid, ⟨kind2, name2, text2, parent2, kids2, attrs2, gone2⟩)) HDW.out HB2.out HOWN2.out HENT2.out hgrow3 (IK.out.keep (HKP.out.trans HKP2.out)) (IA.out.keep (HKP.out.trans HKP2.out))
              refine ⟨k + 1, by omega, by go_num, ?_, (xs ++ ownL (id, ⟨kind, name, text, parent, kids, attrs, gone⟩) (.slice ka kids.length kc) (.slice aa attrs.length ac)) ++ ownL (eid, ⟨kind2, name2, text2, parent2, kids2, attrs2, gone2⟩) (.slice ka2 kids2.length kc2) (.slice aa2 attrs2.length ac2), ?_, ?_, hpu.2.1⟩
              · rw [LS.out]; simp [hle]
              · rw [LS.out]; simpa [heq, hle] using hown3
              · rw [LS.out]; simpa [heq, hle] using hpu.1
            case measure => simp [Lib.intOf]; omega
          · go_wp2_with ((at_builtin; refine wpList_append_own_at _ rfl _ _ 67 rfl W.heap.size 125 i0 (.agg #[.int .i64 0, .int .i64 0, .string ⟨#[]⟩, .string ⟨#[]⟩, .int .i64 0, .slice none 0 0, .slice none 0 0, .bool false]) 8 112 Try.underlying67 hi hz0 hz1 hz2 rfl (by decide) _ _ _ rfl (ownsRow_alloc HOWN.out _) ⟨wr.heap.size, 0, none⟩ 1 1 (ownL (eid, ⟨kind2, name2, text2, parent2, kids2, attrs2, gone2⟩) (.slice ka2 kids2.length kc2) (.slice aa2 attrs2.length ac2)) rfl rfl cells_new (by simp [Value.oneCell']) (by unfold maxLen; omega) (by omega) (by have := HBEL.out.size; simp; omega) ?_; intro v' w2 hown2 hgrow hnil hloc))
            go_roundw
            case rel =>
              have hpu := own_push (e := (eid, ⟨kind2, name2, text2, parent2, kids2, attrs2, gone2⟩)) HDW.out HBEL.out HOWN.out HENT.out hgrow (IK.out.keep HKP.out) (IA.out.keep HKP.out)
              refine ⟨k + 1, by omega, by go_num, ?_, xs ++ ownL (eid, ⟨kind2, name2, text2, parent2, kids2, attrs2, gone2⟩) (.slice ka2 kids2.length kc2) (.slice aa2 attrs2.length ac2), ?_, ?_, hpu.2.1⟩
              · rw [LS.out]; simp [hle]
              · rw [LS.out]; simpa [heq, hle] using hown2
              · rw [LS.out]; simpa [heq, hle] using hpu.1
            case measure => simp [Lib.intOf]; omega
    · obtain rfl : k = V.own.length := by omega
      have hfin := fun (wr : World) (hbel : Below W.heap.size W wr) (v1 : Value) (out : List Own) (xs : List Value) => lay_fin (R := R) (D := D) (v1 := v1) (out := out) (xs := xs) HB.out HBW.out hbel HD.out
      have HFIN := Lib.hid hfin
      have HDW := Lib.hid (show ∀ k, D k → k < W.heap.size from fun k hk => by have := (HD.out k hk).1; omega)
      have HKP := Lib.hid ((keeps_below (HBW.out.trans (hbel.mono HBW.out.size))).mono (fun k hk => (HD.out k hk).1) : Keeps D w wr)
      have HP := Lib.hid hp
      have hokL : ∀ e, e ∈ layL id rr V.own → RecOk e.2 := fun e he => by
        rcases layL_mem he with rfl | he
        · rw [← HRR.out]; exact HOK.out
        · exact H.out.ok e he
      have HOKL := Lib.hid hokL
      have g0 := free_block ((hbel.block v (by omega)).trans ((HBW.out.block v hvl).trans HB.out)) 2
      clear hown hent hbel hx1 hp hfin hokL
      cases dn with
      | true =>
        have he : layL id rr V.own = out := by unfold layL; rw [HP.out]; rfl
        rw [he] at HOKL
        have HE2 := Lib.hid he
        clear he
        obtain ⟨a1, c1, rfl⟩ := ownsRow_shape HOWN.out
        go_wp2
        refine bodyPost_ret (v := .tuple #[]) (by simp [results, Try.results106, go_sem]) rfl ?_
        have := HFIN.out wr HBEL.out _ out xs HOWN.out HENT.out HOKL.out
        rw [HRR.out, HE2.out]
        exact ⟨rfl, this.1, this.2⟩
      | false =>
        have he : layL id rr V.own = out ++ [(id, rr)] := by unfold layL; rw [HP.out]; rfl
        rw [he] at HOKL
        have HE2 := Lib.hid he
        clear he
        subst rr
        go_wp2_with ((at_builtin; refine wpList_append_own_at _ rfl _ _ 67 rfl W.heap.size 125 i0 (.agg #[.int .i64 0, .int .i64 0, .string ⟨#[]⟩, .string ⟨#[]⟩, .int .i64 0, .slice none 0 0, .slice none 0 0, .bool false]) 8 112 Try.underlying67 hi hz0 hz1 hz2 rfl (by decide) _ _ _ rfl (ownsRow_alloc HOWN.out _) ⟨wr.heap.size, 0, none⟩ 1 1 (ownL (id, ⟨kind, name, text, parent, kids, attrs, gone⟩) (.slice ka kids.length kc) (.slice aa attrs.length ac)) rfl rfl cells_new (by simp [Value.oneCell']) (by unfold maxLen; omega) (by omega) (by have := HBEL.out.size; simp; omega) ?_; intro v' w2 hown2 hgrow hnil hloc; have hpu := own_push (e := (id, ⟨kind, name, text, parent, kids, attrs, gone⟩)) HDW.out HBEL.out HOWN.out HENT.out hgrow (HRK.out.keep HKP.out) (HRA.out.keep HKP.out); obtain ⟨a1, c1, rfl⟩ := ownsRow_shape hown2; have HPU := Lib.hid hpu; have HOWN2 := Lib.hid hown2; have g2 := free_block ((hpu.2.1.block v (by omega)).trans ((HBW.out.block v hvl).trans HB.out)) 2; have d2 : w2.cell? ⟨v, 2, none⟩ = some (.slice a V.own.length cap) := ((HBW.out.trans (hpu.2.1.mono HBW.out.size)).cell (p := ⟨v, 2, none⟩) hvl).trans (by simp [World.cell?, HB.out]); clear hpu))
        refine bodyPost_ret (v := .tuple #[]) (by simp [results, Try.results106, go_sem]) rfl ?_
        have := HFIN.out w2 HPU.out.2.1 _ (out ++ [(id, ⟨kind, name, text, parent, kids, attrs, gone⟩)]) (xs ++ ownL (id, ⟨kind, name, text, parent, kids, attrs, gone⟩) (.slice ka kids.length kc) (.slice aa attrs.length ac)) (by simpa using HOWN2.out) HPU.out.1 HOKL.out
        rw [HE2.out]
        exact ⟨rfl, this.1, this.2⟩
end Go.Proofs.Ytinkjhkbaadbpaa
