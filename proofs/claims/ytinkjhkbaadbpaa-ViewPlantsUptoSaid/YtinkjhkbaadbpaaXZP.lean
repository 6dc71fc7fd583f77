import Derived.Test.YtinkjhkbaadbpaaV3
import Derived.Shelf.SlSortCmp.NoneTotal
import Derived.Test.YtinkjhkbaadbpaaPT
import Derived.Test.YtinkjhkbaadbpaaPL
import Derived.Test.YtinkjhkbaadbpaaWL
import Derived.Test.YtinkjhkbaadbpaaTR
import Derived.Deep.RegionHeld3
import Derived.Laws.BytesArg
import Derived.BigQuiet
import Derived.StillTailTactics
/- Changes (61) of a view whether something was put or not. -/
namespace Go.Proofs.Ytinkjhkbaadbpaa
open Go.RowKit
set_option linter.unusedVariables false
set_option linter.unusedSimpArgs false

theorem sortc_none (cap : Nat) (w : World) : Calls Try.prog 99 #[.slice none 0 cap, .func (.func 100) #[] #[]] w fun e w' => e = .returned (.tuple #[]) ∧ w = w' := by
  have h := AnyF.slices_SortFunc_none (P := Try.prog) Try.laysF6 none cap (.func (.func 100) #[] #[]) w
  change Calls Try.prog 99 #[.slice none 0 cap, .func (.func 100) #[] #[]] _ _ at h
  exact h.mono (fun e w' ⟨h1, h2⟩ => ⟨h1, h2.symm⟩)

set_option maxRecDepth 100000 in
set_option maxHeartbeats 4000000 in
theorem changes_none {D : Nat → Prop} {w : World} {v m : Nat} {sp : Value} {V : Vw} (h : VIn D w v m sp V) (hno2 : ∀ id, V.own id = none) :
    Calls Try.prog 61 #[ptr v] w fun e w' => e = .returned (.slice none 0 0) ∧ Below w.heap.size w w' := by
  obtain ⟨f, hf, hf1, -⟩ := h.map
  have hfn : ∀ id, f id = none := fun id => by
    cases e : f id with
    | none => rfl
    | some x => obtain ⟨r, hr, -⟩ := hf1 id x e; rw [hno2] at hr; cases hr
  have hvl := h.lt
  have c2 : w.cell? ⟨v, 2, none⟩ = some (.map (some m)) := by simp [World.cell?, h.cell]
  have HNONE := Lib.hid (vnone_any h.cell)
  have HF := Lib.hid hf
  have HFN := Lib.hid hfn
  clear h hf hf1 hfn hvl hno2
  go_enter Try.func61, Try.ntmps61
  go_wp2_with ((first
    | (go_at_call 84; refine HNONE.out.mono ?_; rintro e w0 ⟨rfl, rfl⟩)
    | (refine wpList_mapRange rfl _ 117 rfl Try.underlying117 rfl HF.out ?_; intro ob n0 hit)))
  have hB0 : Below w.heap.size w (w.alloc ob) := (Below.refl _ w).alloc (Nat.le_refl _) _
  have HIT := Lib.hid hit
  clear hit
  go_simp
  go_loopw [3] (fun u wr => ∃ (n : Nat), u = .slice none 0 0 ∧ Iter iv wr w.heap.size m f (fun x => (f x).isSome) n ∧ Below w.heap.size w wr) (fun _ wr => iterLeft w.heap.size m wr)
  case atStart => exact ⟨n0, rfl, by simpa using HIT.out, hB0⟩
  case round =>
    obtain ⟨n, rfl, hit, hbel⟩ := hrel
    have HIT2 := Lib.hid hit
    have HBEL := Lib.hid hbel
    clear hit hbel
    go_wp2_with ((first
      | (go_at_call 99; refine (sortc_none 0 _).mono ?_; rintro e w2 ⟨rfl, rfl⟩)
      | (refine wpList_mapNext rfl _ rfl key3 rfl HIT2.out (fun hno => ?_) (fun x vx w1 ob' n' hLx hfx hst hob hi' hlt hen => ?_); rotate_left; (rw [HFN.out] at hfx; cases hfx))))
    go_ret
    exact ⟨rfl, HBEL.out⟩
theorem changes_maybe {D : Nat → Prop} {w : World} {v m : Nat} {sp : Value} {V : Vw} (h : VIn D w v m sp V) (hD : ∀ k, D k → k < w.heap.size) (hid : ∀ id r, V.own id = some r → 0 ≤ id ∧ id ≤ 9223372036854775807)
    {ks : List Int} (hks : ∀ id r, V.own id = some r → id ∈ ks) (hkl : ks.length ≤ 1000000000) :
    Calls Try.prog 61 #[ptr v] w fun e w' => (∃ u cs, e = .returned u ∧ ChnsIn (fun k => w.heap.size ≤ k ∧ k < w'.heap.size) w' u cs ∧ ChnsOf V.own cs) ∧ Below w.heap.size w w' := by
  by_cases hne : ∃ id r, V.own id = some r
  · exact changes_any h hD hid hks hkl hne
  · have hno2 : ∀ id, V.own id = none := fun id => by
      cases e : V.own id with
      | none => rfl
      | some r => exact absurd ⟨id, r, e⟩ hne
    refine (changes_none h hno2).mono ?_
    rintro e w' ⟨rfl, hb⟩
    exact ⟨⟨_, [], rfl, ⟨none, 0, rfl, by simp, by simp, .inl rfl⟩, by simp, fun id r => by simp [hno2 id]⟩, hb⟩
theorem chns_len {o : Owns} {cs : List Chn} (h : ChnsOf o cs) {ks : List Int} (hks : ∀ id r, o id = some r → id ∈ ks) : cs.length ≤ ks.length := by
  have := nodup_len h.1 (m := ks) (fun x hx => by
    obtain ⟨c, hc, rfl⟩ := List.mem_map.1 hx
    exact hks c.id c.r ((h.2 c.id c.r).1 hc))
  rwa [List.length_map] at this
end Go.Proofs.Ytinkjhkbaadbpaa
/- Trees that may be: planting them lays them as they were (plain). -/
namespace Go.Proofs.Ytinkjhkbaadbpaa
open Go.RowKit
set_option linter.unusedVariables false
set_option linter.unusedSimpArgs false

mutual
/-- a tree of nodes that are planted, of which just elements have attributes and kids -/
def Fit : Tr → Prop
  | .mk kind _ _ attrs kids => plants kind = true ∧ (kind = 2 ∨ (attrs = [] ∧ kids = [])) ∧ Fits kids
def Fits : List Tr → Prop
  | [] => True
  | t :: ts => Fit t ∧ Fits ts
end
theorem Fits.get : ∀ {ts : List Tr} {k : Nat} {t : Tr}, Fits ts → ts[k]? = some t → Fit t
  | [], k, t, _, h => by simp at h
  | t0 :: ts, 0, t, hf, h => by simp at h; subst h; simp only [Fits] at hf; exact hf.1
  | t0 :: ts, k + 1, t, hf, h => by simp only [Fits] at hf; exact Fits.get hf.2 (by simpa using h)
/-- the n numbers behind i -/
def asN (i : Int) (n : Nat) : List Int := (List.range n).map (fun (k : Nat) => i + 1 + (k : Int))
theorem asN_len (i : Int) (n : Nat) : (asN i n).length = n := by simp [asN]
theorem asN_get {i : Int} {n k : Nat} (h : k < n) : (asN i n)[k]? = some (i + 1 + k) := by simp [asN, h]
theorem asN_cons (i : Int) (n : Nat) : asN i (n + 1) = (i + 1) :: asN (i + 1) n := by
  unfold asN
  rw [List.range_succ_eq_map, List.map_cons, List.map_map]
  congr 1
  · simp
  · refine List.map_congr_left (fun k _ => ?_)
    simp only [Function.comp]
    omega
mutual
/-- a tree stands in G, its number is g + 1, and all its numbers are behind g -/
def Planted (G : Int → Option Rec) : Tr → Int → Prop
  | .mk kind name text attrs kids, g => (∃ par ks, G (g + 1) = some ⟨kind, name, text, par, ks, asN (g + 1) attrs.length, false⟩ ∧ PlantedKs G kids (g + 1 + attrs.length) ks) ∧
      ∀ (k : Nat) (p : ByteArray × ByteArray), attrs[k]? = some p → ∃ r, G (g + 2 + k) = some r ∧ r.name = p.1 ∧ r.text = p.2 ∧ r.gone = false
def PlantedKs (G : Int → Option Rec) : List Tr → Int → List Int → Prop
  | [], _, ks => ks = []
  | t :: ts, g, ks => ∃ rest, ks = (g + 1) :: rest ∧ Planted G t g ∧ PlantedKs G ts (g + t.size) rest
end
mutual
theorem Planted.congr {G G' : Int → Option Rec} : ∀ (t : Tr) (g : Int), Planted G t g → (∀ i r, g < i → i ≤ g + t.size → G i = some r → r.gone = false → G' i = some r) → Planted G' t g
  | .mk kind name text attrs kids, g, h, hc => by
    simp only [Planted] at h ⊢
    simp only [Tr.size] at hc
    obtain ⟨⟨par, ks, h1, h2⟩, h3⟩ := h
    refine ⟨⟨par, ks, hc _ _ (by omega) (by omega) h1 rfl, PlantedKs.congr kids _ _ h2 (fun i r a b => hc i r (by omega) (by omega))⟩, fun k p hk => ?_⟩
    obtain ⟨r, e, n, t, gn⟩ := h3 k p hk
    have hkl := (List.getElem?_eq_some_iff.1 hk).1
    exact ⟨r, hc _ _ (by omega) (by omega) e gn, n, t, gn⟩
theorem PlantedKs.congr {G G' : Int → Option Rec} : ∀ (ts : List Tr) (g : Int) (ks : List Int), PlantedKs G ts g ks → (∀ i r, g < i → i ≤ g + Tr.sizes ts → G i = some r → r.gone = false → G' i = some r) → PlantedKs G' ts g ks
  | [], g, ks, h, hc => by simpa only [PlantedKs] using h
  | t :: ts, g, ks, h, hc => by
    simp only [PlantedKs] at h ⊢
    simp only [Tr.sizes] at hc
    obtain ⟨rest, e, h1, h2⟩ := h
    exact ⟨rest, e, Planted.congr t g h1 (fun i r a b => hc i r (by omega) (by omega)), PlantedKs.congr ts _ rest h2 (fun i r a b => hc i r (by omega) (by omega))⟩
end
theorem PlantedKs.len {G : Int → Option Rec} : ∀ {ts : List Tr} {g : Int} {ks : List Int}, PlantedKs G ts g ks → ks.length = ts.length
  | [], g, ks, h => by simp only [PlantedKs] at h; simp [h]
  | t :: ts, g, ks, h => by
    simp only [PlantedKs] at h
    obtain ⟨rest, e, -, h2⟩ := h
    rw [e, List.length_cons, List.length_cons, PlantedKs.len h2]
theorem PlantedKs.get {G : Int → Option Rec} : ∀ {ts : List Tr} {g : Int} {ks : List Int}, PlantedKs G ts g ks → ∀ (k : Nat) (t : Tr), ts[k]? = some t → ks[k]? = some (g + Tr.sizes (ts.take k) + 1) ∧ Planted G t (g + Tr.sizes (ts.take k))
  | [], g, ks, h, k, t, ht => by simp at ht
  | t0 :: ts, g, ks, h, 0, t, ht => by
    simp at ht; subst ht
    simp only [PlantedKs] at h
    obtain ⟨rest, e, h1, h2⟩ := h
    subst e
    simp only [List.take_zero, Tr.sizes]
    simpa using h1
  | t0 :: ts, g, ks, h, k + 1, t, ht => by
    simp only [PlantedKs] at h
    obtain ⟨rest, e, h1, h2⟩ := h
    subst e
    have := PlantedKs.get h2 k t (by simpa using ht)
    simp only [List.take_succ_cons, Tr.sizes, List.getElem?_cons_succ]
    have e : g + ((t0.size + Tr.sizes (ts.take k) : Nat) : Int) = g + t0.size + Tr.sizes (ts.take k) := by omega
    rw [e]
    exact this
theorem putO_ne {id i : Int} {r : Rec} {o : Owns} (h : i ≠ id) : putO id r o i = o i := by unfold putO; rw [if_neg h]
/-- but for the numbers from a to b nothing is turned -/
def Agree (a b : Int) (o o' : Owns) : Prop := ∀ i, ¬ (a < i ∧ i ≤ b) → o' i = o i
theorem Agree.trans {a b c d : Int} {o o' o2 : Owns} (h : Agree a b o o') (h2 : Agree c d o' o2) (h3 : a ≤ c) (h4 : d ≤ b) : Agree a b o o2 := fun i hi => (h2 i (fun hc => hi ⟨by omega, by omega⟩)).trans (h i hi)
theorem plantAs_fit (id : Int) : ∀ (al : List (ByteArray × ByteArray)) (g : Int) (o : Owns) (ns : List Int),
    (plantAs putO id al (g, o, ns)).1 = g + al.length ∧ (plantAs putO id al (g, o, ns)).2.2 = ns ++ asN g al.length ∧ Agree g (g + al.length) o (plantAs putO id al (g, o, ns)).2.1 ∧
      ∀ (k : Nat) (p : ByteArray × ByteArray), al[k]? = some p → (plantAs putO id al (g, o, ns)).2.1 (g + 1 + k) = some ⟨3, p.1, p.2, id, [], [], false⟩
  | [], g, o, ns => by
    simp only [plantAs]
    exact ⟨by simp, by simp [asN], fun i _ => rfl, fun k p h => by simp at h⟩
  | p :: ps, g, o, ns => by
    simp only [plantAs]
    obtain ⟨h1, h2, h3, h4⟩ := plantAs_fit id ps (g + 1) (putO (g + 1) ⟨3, p.1, p.2, id, [], [], false⟩ o) (ns ++ [g + 1])
    refine ⟨by rw [h1, List.length_cons]; omega, by rw [h2, List.length_cons, asN_cons]; simp, fun i hi => ?_, fun k q hq => ?_⟩
    · rw [List.length_cons] at hi
      rw [h3 i (fun hc => hi ⟨by omega, by omega⟩)]
      unfold putO
      rw [if_neg]
      intro e
      exact hi ⟨by omega, by omega⟩
    · cases k with
      | zero =>
        simp at hq; subst hq
        rw [h3 _ (fun hc => by omega)]
        simp [putO]
      | succ k =>
        have := h4 k q (by simpa using hq)
        have e : g + 1 + ((k + 1 : Nat) : Int) = g + 1 + 1 + k := by omega
        rw [e]
        exact this
mutual
theorem plantT_fit : ∀ (t : Tr) (parent g : Int) (o : Owns), Fit t → 0 ≤ g →
    (plantT putO t parent (g, o)).1 = g + 1 ∧ (plantT putO t parent (g, o)).2.1 = g + t.size ∧ Agree g (g + t.size) o (plantT putO t parent (g, o)).2.2 ∧ Planted (plantT putO t parent (g, o)).2.2 t g
  | .mk kind name text attrs kids, parent, g, o, hf, h0 => by
    simp only [Fit] at hf
    rw [plantT_eq, if_pos hf.1]
    simp only [plA, plK, Tr.size]
    obtain ⟨a1, a2, a3, a4⟩ := plantAs_fit (g + 1) attrs (g + 1) o []
    obtain ⟨k1, -, k3, k4⟩ := plantKs_fit kids (g + 1) (plantAs putO (g + 1) attrs (g + 1, o, [])).1 (plantAs putO (g + 1) attrs (g + 1, o, [])).2.1 [] hf.2.2 (by omega)
    rw [a1] at k1 k3 k4
    simp only [List.nil_append] at a2
    refine ⟨trivial, by rw [a1, k1]; omega, fun i hi => ?_, ?_⟩
    · rw [putO_ne (fun e => hi ⟨by omega, by omega⟩), a1, k3 i (fun hc => hi ⟨by omega, by omega⟩), a3 i (fun hc => hi ⟨by omega, by omega⟩)]
    · obtain ⟨ks, k4, k5⟩ := k4
      simp only [Planted]
      have hks : (plantKs putO kids (g + 1) ((plantAs putO (g + 1) attrs (g + 1, o, [])).1, (plantAs putO (g + 1) attrs (g + 1, o, [])).2.1, [])).2.2 = ks := by
        rw [a1]; simpa using k4
      refine ⟨⟨max parent 0, ks, ?_, PlantedKs.congr kids _ _ k5 (fun i r b1 b2 hr hg => ?_)⟩, fun k p hk => ?_⟩
      · rw [hks, a2]
        simp [putO]
      · rw [a1, putO_ne (by omega)]
        exact hr
      · have hkl := (List.getElem?_eq_some_iff.1 hk).1
        have h5 := a4 k p hk
        refine ⟨⟨3, p.1, p.2, g + 1, [], [], false⟩, ?_, rfl, rfl, rfl⟩
        rw [a1, putO_ne (by omega), k3 _ (fun hc => by omega)]
        have e : g + 2 + (k : Int) = g + 1 + 1 + k := by omega
        rw [e]
        exact h5
theorem plantKs_fit : ∀ (ts : List Tr) (id g : Int) (o : Owns) (ns : List Int), Fits ts → 0 ≤ g →
    (plantKs putO ts id (g, o, ns)).1 = g + Tr.sizes ts ∧ True ∧ Agree g (g + Tr.sizes ts) o (plantKs putO ts id (g, o, ns)).2.1 ∧ ∃ ks, (plantKs putO ts id (g, o, ns)).2.2 = ns ++ ks ∧ PlantedKs (plantKs putO ts id (g, o, ns)).2.1 ts g ks
  | [], id, g, o, ns, hf, h0 => by
    simp only [plantKs, Tr.sizes]
    exact ⟨by simp, trivial, fun i _ => rfl, [], by simp, by simp [PlantedKs]⟩
  | t :: ts, id, g, o, ns, hf, h0 => by
    simp only [Fits] at hf
    rw [plantKs_cons]
    simp only [plantK]
    obtain ⟨t1, t2, t3, t4⟩ := plantT_fit t id g o hf.1 h0
    rw [t1, t2, if_pos (by omega)]
    obtain ⟨k1, -, k3, ks, k4, k5⟩ := plantKs_fit ts id (g + t.size) (plantT putO t id (g, o)).2.2 (ns ++ [g + 1]) hf.2 (by omega)
    simp only [Tr.sizes]
    refine ⟨by rw [k1]; omega, trivial, fun i hi => ?_, (g + 1) :: ks, by rw [k4]; simp, ?_⟩
    · rw [k3 i (fun hc => hi ⟨by omega, by omega⟩), t3 i (fun hc => hi ⟨by omega, by omega⟩)]
    · simp only [PlantedKs]
      exact ⟨ks, rfl, Planted.congr t g t4 (fun i r b1 b2 hr _ => by rw [k3 i (fun hc => by omega)]; exact hr), k5⟩
end
end Go.Proofs.Ytinkjhkbaadbpaa
/- A view's node (102), Node (63) of a tree that was planted. -/
namespace Go.Proofs.Ytinkjhkbaadbpaa
open Go.RowKit
open Go.ChangeMaps (setBlock)
set_option linter.unusedVariables false
set_option linter.unusedSimpArgs false

theorem Try.info155 : (Try.prog.info? 155).map (fun i => (i.zero, i.size, i.bytes)) = some (some (.agg #[.string ⟨#[]⟩, .string ⟨#[]⟩]), 2, 32) := by kernel_rfl
theorem Try.info25 : (Try.prog.info? 25).map (fun i => (i.zero, i.size, i.bytes)) = some (some (.agg #[.int .i64 0, .string ⟨#[]⟩, .string ⟨#[]⟩, .slice none 0 0, .slice none 0 0]), 5, 88) := by kernel_rfl
theorem Try.zero25 (w : World) : (zeroValue 25).run Try.prog w = .ok (.agg #[.int .i64 0, .string ⟨#[]⟩, .string ⟨#[]⟩, .slice none 0 0, .slice none 0 0]) w := by kernel_rfl
theorem cellsN {w : World} {b : Nat} {a0 a1 a2 a3 a4 : Value} (hz : w.heap[b]? = some (.cells #[a0, a1, a2, a3, a4] 25 (0, 0))) :
    w.cell? ⟨b, 0, none⟩ = some a0 ∧ w.cell? ⟨b, 1, none⟩ = some a1 ∧ w.cell? ⟨b, 2, none⟩ = some a2 ∧ w.cell? ⟨b, 3, none⟩ = some a3 ∧ w.cell? ⟨b, 4, none⟩ = some a4 := by
  refine ⟨?_, ?_, ?_, ?_, ?_⟩ <;> simp [World.cell?, hz]
theorem set5 {w : World} {b t : Nat} {a0 a1 a2 a3 a4 : Value} (h : w.heap[b]? = some (.cells #[a0, a1, a2, a3, a4] t (0, 0))) (v0 v1 v2 v3 v4 : Value) :
    (((((w.setCell ⟨b, 0, none⟩ v0).setCell ⟨b, 1, none⟩ v1).setCell ⟨b, 2, none⟩ v2).setCell ⟨b, 3, none⟩ v3).setCell ⟨b, 4, none⟩ v4).heap[b]? = some (.cells #[v0, v1, v2, v3, v4] t (0, 0)) := by
  have e0 := heap_setCell_same w b 0 _ _ v0 h
  have e1 := heap_setCell_same _ b 1 _ _ v1 e0
  have e2 := heap_setCell_same _ b 2 _ _ v2 e1
  have e3 := heap_setCell_same _ b 3 _ _ v3 e2
  have e4 := heap_setCell_same _ b 4 _ _ v4 e3
  simpa using e4
theorem set5_chg {M : Nat → Prop} (w : World) {b : Nat} (hM : M b) (v0 v1 v2 v3 v4 : Value) :
    Chg M w (((((w.setCell ⟨b, 0, none⟩ v0).setCell ⟨b, 1, none⟩ v1).setCell ⟨b, 2, none⟩ v2).setCell ⟨b, 3, none⟩ v3).setCell ⟨b, 4, none⟩ v4) :=
  ((((chg_set (M := M) hM 0 v0).trans (chg_set (M := M) hM 1 v1)).trans (chg_set (M := M) hM 2 v2)).trans (chg_set (M := M) hM 3 v3)).trans (chg_set (M := M) hM 4 v4)
theorem KidsAre.snoc {F : Nat → Prop} {w : World} {t : Tr} {av kv : Value} (h2 : TrIn F w t av kv) : ∀ {ts : List Tr} {zs : List Value}, KidsAre F w ts zs → KidsAre F w (ts ++ [t]) (zs ++ trL t av kv)
  | [], zs, h => by
    simp only [KidsAre] at h
    subst h
    simp only [List.nil_append, KidsAre]
    exact ⟨av, kv, [], by simp, h2, rfl⟩
  | t0 :: ts, zs, h => by
    simp only [KidsAre] at h
    obtain ⟨a, k, rest, e, h1, h3⟩ := h
    simp only [List.cons_append, KidsAre]
    exact ⟨a, k, rest ++ trL t av kv, by rw [e]; simp, h1, KidsAre.snoc h2 h3⟩
theorem cells_of_row {F : Nat → Prop} {w : World} {B e size n : Nat} {v : Value} {xs : List Value} (h : w.ownsRow B e size v n xs) (hF : ∀ g, v.ownBlock = some g → F g) : CellsIn F w v n xs := by
  obtain ⟨hl, ⟨rfl, rfl⟩ | ⟨g, cap, cur, rfl, hb, hg, h1, h2, h3, h4⟩⟩ := h
  · exact ⟨none, 0, rfl, by omega, .inl rfl⟩
  · refine ⟨_, cap, rfl, by unfold maxLen at h2; omega, .inr ⟨g, 0, rfl, hF g rfl, fun j u hj => ?_⟩⟩
    have hjl := (List.getElem?_eq_some_iff.1 hj).1
    rw [← h4, List.getElem?_take_of_lt (by omega)] at hj
    rw [Nat.zero_add]
    simp only [World.cell?, hg]
    rw [Array.getElem?_toList] at hj
    exact hj
theorem attrL_snoc (al : List (ByteArray × ByteArray)) (p : ByteArray × ByteArray) : attrL (al ++ [p]) = attrL al ++ [.string p.1, .string p.2] := by simp [attrL]
theorem sizes_append : ∀ (a b : List Tr), Tr.sizes (a ++ b) = Tr.sizes a + Tr.sizes b
  | [], b => by simp [Tr.sizes]
  | t :: a, b => by simp only [List.cons_append, Tr.sizes, sizes_append a b]; omega

def NodePost (t : Tr) (g : Int) (W : World) (ms : Nat) (P : Int → Prop) (e : Ending) (W' : World) : Prop :=
  (∃ av kv, e = .returned (.tuple #[trV t av kv, .bool true]) ∧ TrIn (fun k => W.heap.size ≤ k ∧ k < W'.heap.size) W' t av kv) ∧ (∃ P', SetIs W' ms P' ∧ ∀ x, P' x → P x ∨ (g < x ∧ x ≤ g + t.size)) ∧ Chg (fun k => k = ms) W W'
def NodeUpto (Rb : Nat → Prop) (w0 : World) (v ms : Nat) (G : Int → Option Rec) (n : Nat) : Prop := ∀ (t : Tr) (g : Int) (W : World) (P : Int → Prop), t.size ≤ n → t.size ≤ 1048576 → Fit t → Planted G t g → Keeps Rb w0 W → (∀ k, Rb k → k < W.heap.size) →
  SetIs W ms P → (∀ x, g < x → x ≤ g + t.size → ¬ P x) → Calls Try.prog 102 #[ptr v, iv (g + 1), .map (some ms)] W (NodePost t g W ms P)

set_option maxRecDepth 100000 in
set_option maxHeartbeats 8000000 in
theorem node_step {Rb : Nat → Prop} {w0 : World} {v ms : Nat} {G : Int → Option Rec} (hR : ReadsK Rb w0 v G) (hRms : ¬ Rb ms) (n : Nat) (ih : NodeUpto Rb w0 v ms G n) : NodeUpto Rb w0 v ms G (n + 1) := by
  intro t g W P hn hsz hfit hpl hkeep hlt hset hno
  obtain ⟨kind, name, text, attrs, kids⟩ := t
  simp only [Fit] at hfit
  obtain ⟨hpk, hlf, hkf⟩ := hfit
  simp only [Planted] at hpl
  obtain ⟨⟨par, ks, hG, hKs⟩, hAs⟩ := hpl
  have hksl := hKs.len
  obtain ⟨al, hal⟩ : ∃ al, asN (g + 1) attrs.length = al := ⟨_, rfl⟩
  have hall : al.length = attrs.length := by rw [← hal, asN_len]
  have hget : ∀ k, k < attrs.length → al[k]? = some (g + 2 + k) := fun k hk => by
    rw [← hal, asN_get hk]
    congr 1
    omega
  rw [hal] at hG
  clear hal
  simp only [Tr.size] at hn hsz hno
  obtain ⟨j0, hj, hy0, hy1, hy2⟩ := info_parts Try.info155
  obtain ⟨i0, hi, hz0, hz1, hz2⟩ := info_parts Try.info25
  have hk1 : (kind == 1) = false := by rw [beq_eq_false_iff_ne]; rintro rfl; simp [plants] at hpk
  have hk3 : (kind == 3) = false := by rw [beq_eq_false_iff_ne]; rintro rfl; simp [plants] at hpk
  -- where the answer lies
  obtain ⟨W0, hW0⟩ : ∃ W0, W.alloc (.cells #[.int .i64 0, .string ⟨#[]⟩, .string ⟨#[]⟩, .slice none 0 0, .slice none 0 0] 25) = W0 := ⟨_, rfl⟩
  have hb0 : Below W.heap.size W W0 := by rw [← hW0]; exact (Below.refl _ _).alloc (Nat.le_refl _) _
  have hs0 : W0.heap.size = W.heap.size + 1 := by rw [← hW0]; simp
  have hr0 : W0.heap[W.heap.size]? = some (.cells #[.int .i64 0, .string ⟨#[]⟩, .string ⟨#[]⟩, .slice none 0 0, .slice none 0 0] 25 (0, 0)) := by rw [← hW0]; exact Go.heap_alloc_new _ _
  have hkeep0 : Keeps Rb w0 W0 := fun k hk => (hb0.block k (hlt k hk)).trans (hkeep k hk)
  have hc := hR W0 hkeep0 (fun k hk => by have := hlt k hk; omega) (g + 1)
  rw [hG] at hc
  have hmsl := hset.lt
  have HGET := Lib.hid hget
  have HC := Lib.hid hc
  have HG := Lib.hid hG
  have HKS := Lib.hid hKs
  have HAS := Lib.hid hAs
  have HR := Lib.hid hR
  have HIH := Lib.hid ih
  have HKEEP := Lib.hid hkeep0
  have HLT := Lib.hid hlt
  have HSET := Lib.hid hset
  have HNO := Lib.hid hno
  have HRMS := Lib.hid hRms
  have HW0 := Lib.hid hW0
  have HB0 := Lib.hid hb0
  have HS0 := Lib.hid hs0
  have HR0 := Lib.hid hr0
  have HPK := Lib.hid hpk
  have HLF := Lib.hid hlf
  have HKF := Lib.hid hkf
  have HHK := Lib.hid hkeep
  clear hget hc hG hKs hAs hR ih hkeep0 hkeep hlt hset hno hRms hW0 hb0 hs0 hr0 hpk hlf hkf
  go_enter Try.func102, Try.ntmps102
  go_upto_region 1 with fail
  rw [HW0.out]
  go_wp2_with fail
  refine HC.out.mono ?_
  rintro e w1 ⟨⟨kv1, av1, rfl, hk1', ha1'⟩, hb1⟩
  have ha2' : IntsIn (fun k => W0.heap.size ≤ k ∧ k < w1.heap.size) w1 av1 al := ha1'
  have hk2' : IntsIn (fun k => W0.heap.size ≤ k ∧ k < w1.heap.size) w1 kv1 ks := hk1'
  obtain ⟨ka, kc, rfl, -, -, hkx⟩ := hk2'
  obtain ⟨aa, ac, rfl, -, -, hax⟩ := ha2'
  have HKX := Lib.hid hkx
  have HAX := Lib.hid hax
  clear hk1' ha1' hkx hax
  have hs1 := hb1.size
  have HB1 := Lib.hid hb1
  clear hb1
  rw [hksl, hall]
  go_upto_region 2 with fail
  obtain ⟨W2, hW2⟩ : ∃ W2, w1.alloc (.cells #[.int .i64 kind, .string name, .string text, .int .i64 par, .slice ka kids.length kc, .slice aa attrs.length ac, .bool false] 52) = W2 := ⟨_, rfl⟩
  have hs2 : W2.heap.size = w1.heap.size + 1 := by rw [← hW2]; simp
  have hb2 : Below w1.heap.size w1 W2 := by rw [← hW2]; exact (Below.refl _ _).alloc (Nat.le_refl _) _
  have hr2 : W2.heap[w1.heap.size]? = some (.cells #[.int .i64 kind, .string name, .string text, .int .i64 par, .slice ka kids.length kc, .slice aa attrs.length ac, .bool false] 52 (0, 0)) := by rw [← hW2]; exact Go.heap_alloc_new _ _
  rw [hW2]
  have hs0 := HS0.out
  have hb02 : Below W0.heap.size W0 W2 := HB1.out.trans (hb2.mono hs1)
  have hbW2 : Below W.heap.size W W2 := HB0.out.trans (hb02.mono (by omega))
  have hset2 := HSET.out.keep (hbW2.block ms hmsl)
  have hlk := hset2.look (g + 1) false (by
    constructor
    · intro h; cases h
    · intro h; exact absurd h (HNO.out _ (by omega) (by omega)))
  obtain ⟨es, ck, hmu, hset3⟩ := hset2.store (g + 1)
  obtain ⟨W3, hW3⟩ : ∃ W3, setBlock W2 ms (.map es ck) = W3 := ⟨_, rfl⟩
  rw [hW3] at hset3
  have hs3 : W3.heap.size = W2.heap.size := by
    rw [← hW3]
    have h9 := (show (setBlock W2 ms (.map es ck)).heap.size = W2.heap.size by simp [setBlock])
    exact h9
  have hk3b : ∀ j, j ≠ ms → W3.heap[j]? = W2.heap[j]? := fun j hj => by rw [← hW3]; exact heap_setBlock_other _ hj
  have hch3 : Chg (fun k => k = ms) W W3 := by
    rw [← hW3]
    exact (chg_new hbW2).trans (chg_setBlock (M := fun k => k = ms) rfl _)
  have hr3 := (hk3b w1.heap.size (by omega)).trans hr2
  have hr03 : W3.heap[W.heap.size]? = some (.cells #[.int .i64 0, .string ⟨#[]⟩, .string ⟨#[]⟩, .slice none 0 0, .slice none 0 0] 25 (0, 0)) := (hk3b W.heap.size (by omega)).trans ((hb02.block W.heap.size (by omega)).trans HR0.out)
  have hnew3 : ∀ k, W0.heap.size ≤ k → k < w1.heap.size → W3.heap[k]? = w1.heap[k]? := fun k h1 h2 => (hk3b k (by omega)).trans (hb2.block k h2)
  have hkeep3 : Keeps Rb w0 W3 := fun k hk => (hch3.block k (HLT.out k hk) (fun e => HRMS.out (by rw [← e]; exact hk))).trans (HHK.out k hk)
  obtain ⟨p0, p1, p2, p3, p4, p5, p6⟩ := cells7 hr2
  obtain ⟨q0, q1, q2, q3, q4, q5, q6⟩ := cells7 hr3
  have HW3 := Lib.hid hW3
  have HSET3 := Lib.hid hset3
  have HCH3 := Lib.hid hch3
  have HR3 := Lib.hid hr3
  have HR03 := Lib.hid hr03
  have HNEW3 := Lib.hid hnew3
  have HKEEP3 := Lib.hid hkeep3
  have HS2 := Lib.hid hs2
  have HS3 := Lib.hid hs3
  have hls : W.heap.size < w1.heap.size ∧ w1.heap.size < W3.heap.size := by omega
  clear hW2 hs2 hb2 hr2 hb02 hbW2 hset2 hset3 hW3 hs3 hk3b hch3 hr3 hr03 hnew3 hkeep3 hs0
  go_upto_region 5 with fail
  rw [HW3.out]
  clear p0 p1 p2 p3 p4 p5 p6 hlk hmu
  go_upto_region 6 with fail
  obtain ⟨W4, hW4⟩ : ∃ W4, W3.alloc (.cells #[.int .i64 kind, .string name, .string text, .slice none 0 0, .slice none 0 0] 25) = W4 := ⟨_, rfl⟩
  have hs4 : W4.heap.size = W3.heap.size + 1 := by rw [← hW4]; simp
  have hb4 : Below W3.heap.size W3 W4 := by rw [← hW4]; exact (Below.refl _ _).alloc (Nat.le_refl _) _
  have hq4 : W4.heap[W3.heap.size]? = some (.cells #[.int .i64 kind, .string name, .string text, .slice none 0 0, .slice none 0 0] 25 (0, 0)) := by rw [← hW4]; exact Go.heap_alloc_new _ _
  rw [hW4]
  have hr4 := (hb4.block _ hls.2).trans HR3.out
  have ha4 := (hb4.block W.heap.size (by omega)).trans HR03.out
  have HQ4 := Lib.hid hq4
  have HR4 := Lib.hid hr4
  have HA4 := Lib.hid ha4
  have HB4 := Lib.hid hb4
  have HS4 := Lib.hid hs4
  clear hW4 hs4 hb4 q0 q1 q2 q3 q4 q5 q6
  obtain ⟨q0, q1, q2, q3, q4, q5, q6⟩ := cells7 hr4
  clear hr4
  by_cases hkd : kind = 2
  · subst hkd
    have hk2t : ((2 : Int) == 2) = true := rfl
    obtain ⟨b0, b1, b2, b3, b4⟩ := cellsN hq4
    clear hq4 ha4
    have hs4 : W3.heap.size < W4.heap.size := by have := HS4.out; omega
    go_wp2_with fail
    go_loopw [59] (fun i wr => ∃ k : Nat, k ≤ attrs.length ∧ i = .int .i64 k ∧ ∃ av, wr.heap[W3.heap.size]? = some (.cells #[.int .i64 2, .string name, .string text, av, .slice none 0 0] 25 (0, 0)) ∧ wr.ownsRow W4.heap.size 155 2 av k (attrL (attrs.take k)) ∧ Chg (fun j => j = W3.heap.size) W4 wr) (fun i _ => attrs.length - (Lib.intOf i).toNat)
    case atStart => exact ⟨0, Nat.zero_le _, rfl, .slice none 0 0, HQ4.out, World.ownsRow_nil _ _ _ _, Chg.refl _ _⟩
    case round =>
      obtain ⟨k, hk, rfl, av, hq, hown, hcr⟩ := hrel
      obtain ⟨a5, c5, rfl⟩ := ownsRow_shape hown
      have hsr := hcr.size
      have HQ := Lib.hid hq
      have HOWN := Lib.hid hown
      have HCR := Lib.hid hcr
      have hkr : Keeps Rb w0 wr := fun j hj => by
        have h1 := HLT.out j hj
        rw [hcr.block j (by omega) (by omega), HB4.out.block j (by omega)]
        exact HKEEP3.out j hj
      have HKR := Lib.hid hkr
      clear hq hown hcr hkr q0 q1 q2 q3 q4 q5 q6 b0 b1 b2 b3 b4
      by_cases hlt : k < attrs.length
      · obtain ⟨p, hpk⟩ : ∃ p, attrs[k]? = some p := ⟨_, List.getElem?_eq_getElem hlt⟩
        obtain ⟨rA, hGA, hnA, htA, -⟩ := HAS.out k p hpk
        obtain ⟨ga, offa, rfl, hga, hca⟩ : ∃ g' off, aa = some ⟨g', off, none⟩ ∧ (W0.heap.size ≤ g' ∧ g' < w1.heap.size) ∧ ∀ j x, al[j]? = some x → w1.cell? ⟨g', off + j, none⟩ = some (.int .i64 x) := by
          rcases HAX.out with h | h
          · rw [h] at hall; simp at hall; omega
          · exact h
        have hck : wr.cell? ⟨ga, offa + k, none⟩ = some (.int .i64 (g + 2 + k)) := by
          rw [← hca k _ (HGET.out k hlt)]
          refine World.cell?_of_block (a := ⟨ga, offa + k, none⟩) ?_
          show wr.heap[ga]? = w1.heap[ga]?
          rw [HCR.out.block ga (by omega) (by omega), HB4.out.block ga (by omega), HNEW3.out ga hga.1 hga.2]
        have hcA := HR.out wr HKR.out (fun j hj => by have := HLT.out j hj; omega) (g + 2 + k)
        rw [hGA] at hcA
        have hnx : attrL (attrs.take (k + 1)) = attrL (attrs.take k) ++ [.string p.1, .string p.2] := by rw [List.take_add_one, hpk, Option.toList_some, attrL_snoc]
        have HCA := Lib.hid hcA
        have HNX := Lib.hid hnx
        have hk0 : (0 : Int) ≤ k := by omega
        have hkl : (k : Int) < attrs.length := by omega
        obtain ⟨knd, nmA, txA, paA, ksA, asA, gnA⟩ := rA
        simp only at hnA htA
        subst hnA htA
        clear hpk hGA hca hcA hnx hga
        go_wp2_with fail
        refine HCA.out.mono ?_
        rintro e w5 ⟨⟨kv5, av5, rfl, hk5, ha5⟩, hb5⟩
        have hk6 : IntsIn (fun k => wr.heap.size ≤ k ∧ k < w5.heap.size) w5 kv5 ksA := hk5
        have ha6 : IntsIn (fun k => wr.heap.size ≤ k ∧ k < w5.heap.size) w5 av5 asA := ha5
        obtain ⟨x1, y1, rfl, -, -, -⟩ := hk6
        obtain ⟨x2, y2, rfl, -, -, -⟩ := ha6
        have hs5 := hb5.size
        have HB5 := Lib.hid hb5
        clear hk5 ha5 hb5 hck
        go_upto_region 12 with fail
        obtain ⟨W6, hW6⟩ : ∃ W6, w5.alloc (.cells #[.int .i64 knd, .string p.1, .string p.2, .int .i64 paA, .slice x1 ksA.length y1, .slice x2 asA.length y2, .bool gnA] 52) = W6 := ⟨_, rfl⟩
        have hs6 : w5.heap.size < W6.heap.size := by rw [← hW6]; simp
        have hb6 : Below w5.heap.size w5 W6 := by rw [← hW6]; exact (Below.refl _ _).alloc (Nat.le_refl _) _
        have ht6 : W6.heap[w5.heap.size]? = some (.cells #[.int .i64 knd, .string p.1, .string p.2, .int .i64 paA, .slice x1 ksA.length y1, .slice x2 asA.length y2, .bool gnA] 52 (0, 0)) := by rw [← hW6]; exact Go.heap_alloc_new _ _
        rw [hW6]
        have hbr6 : Below wr.heap.size wr W6 := HB5.out.trans (hb6.mono hs5)
        have hq6 := (hbr6.block W3.heap.size (by omega)).trans HQ.out
        have HOWN6 := Lib.hid (ownsRow_keeps HOWN.out (fun j hj => hbr6.block j (ownsRow_base HOWN.out hj).2))
        obtain ⟨u0, u1, u2, u3, u4, u5, u6⟩ := cells7 ht6
        obtain ⟨z0, z1, z2, z3, z4⟩ := cellsN hq6
        have HQ6 := Lib.hid hq6
        have HBR6 := Lib.hid hbr6
        clear hW6 hb6 ht6 hq6 hbr6
        go_wp2_with ((at_builtin; refine wpList_append_own_at _ rfl _ _ 22 rfl W4.heap.size 155 j0 (.agg #[.string ⟨#[]⟩, .string ⟨#[]⟩]) 2 32 Try.underlying22 hj hy0 hy1 hy2 rfl (by decide) _ _ _ rfl (ownsRow_alloc HOWN6.out _) ⟨W6.heap.size, 0, none⟩ 1 1 [.string p.1, .string p.2] rfl rfl cells_new (by simp [Value.oneCell']) (by unfold maxLen; omega) (by omega) (by simp; omega) ?_; intro v' w8 hown8 hgrow hnil hloc; have b8 := (hgrow.block W3.heap.size (by simp; omega) (fun h => by have := (ownsRow_base HOWN6.out h.symm).1; omega)).trans ((Go.heap_alloc_old _ _ (by omega)).trans HQ6.out); obtain ⟨y0, y1, y2, y3, y4⟩ := cellsN b8; have fz := free_block b8 3; have B8 := Lib.hid b8; obtain ⟨a8, c8, rfl⟩ := ownsRow_shape hown8; clear b8))
        go_roundw
        case rel =>
          have hs8 := hgrow.size
          simp only [World.size_alloc] at hs8
          refine ⟨k + 1, by omega, by go_num, .slice a8 (k + 1) c8, ?_, ?_, ?_⟩
          · have := heap_setCell_same w8 W3.heap.size 3 _ _ (.slice a8 (k + 1) c8) B8.out
            simpa using this
          · have := ownsRow_keeps (w' := w8.setCell ⟨W3.heap.size, 3, none⟩ (.slice a8 (k + 1) c8)) hown8 (fun g hg => heap_setCell_other _ _ _ _ (fun h => by have h1 := (ownsRow_base hown8 hg).1; have h2 : g = W3.heap.size := h; omega))
            rw [HNX.out]
            simpa using this
          · have c6 : Chg (fun j => j = W3.heap.size) W4 (W6.alloc (.cells #[.string p.1, .string p.2] 155)) := (HCR.out.trans (chg_new HBR6.out)).trans (chg_alloc _ _)
            have c8 : Chg (fun j => (Value.slice a5 k c5).ownBlock = some j ∨ j = W3.heap.size) (W6.alloc (.cells #[.string p.1, .string p.2] 155)) (w8.setCell ⟨W3.heap.size, 3, none⟩ (.slice a8 (k + 1) c8)) := (chg_grown hgrow (fun k h => .inl h)).trans (chg_set (M := fun j => (Value.slice a5 k c5).ownBlock = some j ∨ j = W3.heap.size) (.inr rfl) 3 _)
            exact c6.andThen c8 (fun j hj h => h.elim (fun h => by have := (ownsRow_base HOWN6.out h).1; omega) (fun h => h))
        case measure => simp [Lib.intOf]; omega
      · obtain rfl : k = attrs.length := by omega
        obtain ⟨wA, rfl⟩ : ∃ wA, wA = wr := ⟨wr, rfl⟩
        have hoA := HOWN.out
        rw [List.take_length] at hoA
        have HAV := Lib.hid (cells_of_row (F := fun j => W4.heap.size ≤ j ∧ j < wA.heap.size) hoA (fun j hj => ownsRow_base hoA hj))
        have HCA := Lib.hid (show Chg (fun j => j = W3.heap.size ∨ j = ms) W3 wA from (chg_new HB4.out).trans (HCR.out.mono (fun j hj => .inl hj)))
        have hra := (HCR.out.block w1.heap.size (by omega) (by omega)).trans ((HB4.out.block w1.heap.size hls.2).trans HR3.out)
        obtain ⟨q0, q1, q2, q3, q4, q5, q6⟩ := cells7 hra
        obtain ⟨z0, z1, z2, z3, z4⟩ := cellsN HQ.out
        have HSA := Lib.hid (HSET3.out.keep ((HCR.out.block ms (by have := HSET3.out.lt; omega) (by omega)).trans (HB4.out.block ms HSET3.out.lt)))
        clear hra hoA HOWN HCR hlt hk
        go_wp2_with fail
        clear q0 q1 q2 q3 q4 q5 q6 z0 z1 z2 z3 z4
        go_loopw [84] (fun i wr => ∃ k : Nat, k ≤ kids.length ∧ i = .int .i64 k ∧ ∃ (kv : Value) (zs : List Value) (Dl : Nat → Prop) (P' : Int → Prop), wr.heap[W3.heap.size]? = some (.cells #[.int .i64 2, .string name, .string text, .slice a5 attrs.length c5, kv] 25 (0, 0)) ∧ wr.ownsRow wA.heap.size 25 5 kv k zs ∧ KidsAre Dl wr (kids.take k) zs ∧ (∀ j, Dl j → wA.heap.size ≤ j ∧ j < wr.heap.size ∧ kv.ownBlock ≠ some j) ∧
          SetIs wr ms P' ∧ (∀ x, P' x → P x ∨ (g < x ∧ x ≤ g + 1 + attrs.length + Tr.sizes (kids.take k))) ∧ Chg (fun j => j = W3.heap.size ∨ j = ms) wA wr) (fun i _ => kids.length - (Lib.intOf i).toNat)
        case atStart =>
          refine ⟨0, Nat.zero_le _, rfl, .slice none 0 0, [], fun _ => False, _, HQ.out, World.ownsRow_nil _ _ _ _, by simp [KidsAre], fun j h => h.elim, HSA.out, fun x hx => ?_, Chg.refl _ _⟩
          rcases hx with hx | hx
          · exact .inl hx
          · right
            simp only [List.take_zero, Tr.sizes]
            omega
        case round =>
          obtain ⟨k, hk, rfl, kv, zs, Dl, P', hq, hown, hkids, hDl, hset', hP', hcr⟩ := hrel
          obtain ⟨a9, c9, rfl⟩ := ownsRow_shape hown
          have hsz' := hcr.size
          have HQ' := Lib.hid hq
          have HOWN := Lib.hid hown
          have HKIDS := Lib.hid hkids
          have HDL := Lib.hid hDl
          have HSET' := Lib.hid hset'
          have HP' := Lib.hid hP'
          have HCR := Lib.hid hcr
          have hkr : Keeps Rb w0 wr := fun j hj => by
            have h1 := HLT.out j hj
            rw [hcr.block j (by omega) (fun h => h.elim (fun h => by omega) (fun h => HRMS.out (by rw [← h]; exact hj)))]
            exact HKR.out j hj
          have HKR' := Lib.hid hkr
          clear hq hown hkids hDl hset' hP' hcr hkr
          by_cases hlt : k < kids.length
          · obtain ⟨tk, htk⟩ : ∃ tk, kids[k]? = some tk := ⟨_, List.getElem?_eq_getElem hlt⟩
            obtain ⟨hks1, hpl1⟩ := HKS.out.get k tk htk
            obtain ⟨gk, offk, rfl, hgk, hck⟩ : ∃ g' off, ka = some ⟨g', off, none⟩ ∧ (W0.heap.size ≤ g' ∧ g' < w1.heap.size) ∧ ∀ j x, ks[j]? = some x → w1.cell? ⟨g', off + j, none⟩ = some (.int .i64 x) := by
              rcases HKX.out with h | h
              · rw [h] at hksl; simp at hksl; omega
              · exact h
            obtain ⟨gt, hgt⟩ : ∃ gt, g + 1 + (attrs.length : Int) + (Tr.sizes (kids.take k) : Nat) = gt := ⟨_, rfl⟩
            rw [hgt] at hks1 hpl1
            have hckr : wr.cell? ⟨gk, offk + k, none⟩ = some (.int .i64 (gt + 1)) := by
              rw [← hck k _ hks1]
              refine World.cell?_of_block (a := ⟨gk, offk + k, none⟩) ?_
              show wr.heap[gk]? = w1.heap[gk]?
              rw [HCR.out.block gk (by omega) (by have := HS0.out; omega), HCA.out.block gk (by omega) (by have := HS0.out; omega), HNEW3.out gk hgk.1 hgk.2]
            have hszk := size_get htk
            have hfk := HKF.out.get htk
            have hIK := HIH.out tk gt wr P' (by omega) (by omega) hfk hpl1 HKR'.out (fun j hj => by have := HLT.out j hj; omega) HSET'.out (fun x h1 h2 h3 => by
              rcases HP'.out x h3 with h4 | h4
              · exact HNO.out x (by omega) (by omega) h4
              · omega)
            have htake : Tr.sizes (kids.take (k + 1)) = Tr.sizes (kids.take k) + tk.size := by
              rw [List.take_add_one, htk, Option.toList_some, sizes_append]; simp [Tr.sizes]
            have htk2 : kids.take (k + 1) = kids.take k ++ [tk] := by rw [List.take_add_one, htk, Option.toList_some]
            have HIK := Lib.hid hIK
            have HTAKE := Lib.hid htake
            have HTK2 := Lib.hid htk2
            have HGT := Lib.hid hgt
            have hk0 : (0 : Int) ≤ k := by omega
            have hkl : (k : Int) < kids.length := by omega
            have hk63 : k < 1048576 := by have := sizes_len kids; omega
            clear hgt htk hks1 hpl1 hck hgk hszk hfk hIK htake htk2
            go_wp2_with fail
            refine HIK.out.mono ?_
            rintro e w5 ⟨⟨avk, kvk, rfl, hTk⟩, ⟨P2, hset5, hP5⟩, hc5⟩
            have hs5 := hc5.size
            obtain ⟨tkind, tname, ttext, tattrs, tkids⟩ := tk
            have hTk2 := hTk
            simp only [TrIn] at hTk2
            obtain ⟨⟨x1, y1, rfl, -, -⟩, zk, ⟨x2, y2, rfl, -, -⟩, -⟩ := hTk2
            have HT5 := Lib.hid hTk
            have HSET5 := Lib.hid hset5
            have HP5 := Lib.hid hP5
            have HC5 := Lib.hid hc5
            clear hTk hset5 hP5 hc5 hckr
            go_upto_region 19 with fail
            show Code.wp _ _ _ _ (w5.alloc (.cells #[.int .i64 tkind, .string tname, .string ttext, .slice x1 tattrs.length y1, .slice x2 tkids.length y2] 25))
            obtain ⟨W6, hW6⟩ : ∃ W6, w5.alloc (.cells #[.int .i64 tkind, .string tname, .string ttext, .slice x1 tattrs.length y1, .slice x2 tkids.length y2] 25) = W6 := ⟨_, rfl⟩
            have hs6 : w5.heap.size < W6.heap.size := by rw [← hW6]; simp
            have hb6 : Below w5.heap.size w5 W6 := by rw [← hW6]; exact (Below.refl _ _).alloc (Nat.le_refl _) _
            have ht6 : W6.heap[w5.heap.size]? = some (.cells #[.int .i64 tkind, .string tname, .string ttext, .slice x1 tattrs.length y1, .slice x2 tkids.length y2] 25 (0, 0)) := by rw [← hW6]; exact Go.heap_alloc_new _ _
            rw [hW6]
            have hc6 : Chg (fun j => j = ms) wr W6 := HC5.out.trans (chg_new hb6)
            have hmsW := HSET3.out.lt
            have hq6 := (hc6.block W3.heap.size (by omega) (by omega)).trans HQ'.out
            have HOWN6 := Lib.hid (ownsRow_keeps HOWN.out (fun j hj => hc6.block j (ownsRow_base HOWN.out hj).2 (by have := (ownsRow_base HOWN.out hj).1; omega)))
            have hr6 := (hc6.block w1.heap.size (by omega) (by omega)).trans ((HCR.out.block w1.heap.size (by omega) (by omega)).trans ((HCA.out.block w1.heap.size hls.2 (by omega)).trans HR3.out))
            obtain ⟨u0, u1, u2, u3, u4⟩ := cellsN ht6
            obtain ⟨z0, z1, z2, z3, z4⟩ := cellsN hq6
            have HQ6 := Lib.hid hq6
            have HB6 := Lib.hid hb6
            have HC6 := Lib.hid hc6
            clear hW6 hb6 ht6 hq6 hc6 hr6
            go_wp2_with ((at_builtin; refine wpList_append_own_at _ rfl _ _ 23 rfl wA.heap.size 25 i0 (.agg #[.int .i64 0, .string ⟨#[]⟩, .string ⟨#[]⟩, .slice none 0 0, .slice none 0 0]) 5 88 Try.underlying23 hi hz0 hz1 hz2 rfl (by decide) _ _ _ rfl (ownsRow_alloc HOWN6.out _) ⟨W6.heap.size, 0, none⟩ 1 1 [.int .i64 tkind, .string tname, .string ttext, .slice x1 tattrs.length y1, .slice x2 tkids.length y2] rfl rfl cells_new (by simp [Value.oneCell']) (by unfold maxLen; omega) (by omega) (by simp; omega) ?_; intro v' w8 hown8 hgrow hnil hloc; have b8 := (hgrow.block W3.heap.size (by simp; omega) (fun h => by have := (ownsRow_base HOWN6.out h.symm).1; omega)).trans ((Go.heap_alloc_old _ _ (by omega)).trans HQ6.out); obtain ⟨v0, v1, v2, v3, v4⟩ := cellsN b8; have fz := free_block b8 4; have B8 := Lib.hid b8; obtain ⟨a8, c8, rfl⟩ := ownsRow_shape hown8; clear b8))
            go_roundw
            case rel =>
              have hs8 := hgrow.size
              simp only [World.size_alloc] at hs8
              have hmk : ∀ j, j < W6.heap.size → (Value.slice a9 k c9).ownBlock ≠ some j → j ≠ W3.heap.size → (w8.setCell ⟨W3.heap.size, 4, none⟩ (.slice a8 (k + 1) c8)).heap[j]? = W6.heap[j]? := fun j h1 h2 h3 => by
                rw [heap_setCell_other _ _ _ _ (show j ≠ W3.heap.size from h3), hgrow.block j (by simp; omega) (fun e => h2 e.symm), Go.heap_alloc_old _ _ h1]
              have hms9 : (w8.setCell ⟨W3.heap.size, 4, none⟩ (.slice a8 (k + 1) c8)).heap[ms]? = w5.heap[ms]? := (hmk ms (by have := HSET5.out.lt; omega) (fun e => by have := (ownsRow_base HOWN.out e).1; omega) (by omega)).trans (HB6.out.block ms HSET5.out.lt)
              have hkd1 : Keeps Dl wr (w8.setCell ⟨W3.heap.size, 4, none⟩ (.slice a8 (k + 1) c8)) := fun j hj => by
                have h1 := HDL.out j hj
                rw [hmk j (by omega) h1.2.2 (by omega)]
                exact HC6.out.block j h1.2.1 (by omega)
              have hkd2 : Keeps (fun j => wr.heap.size ≤ j ∧ j < w5.heap.size) w5 (w8.setCell ⟨W3.heap.size, 4, none⟩ (.slice a8 (k + 1) c8)) := fun j hj => by
                have h1 := hj.1
                have h2 := hj.2
                rw [hmk j (by omega) (fun e => by have := (ownsRow_base HOWN.out e).2; omega) (by omega)]
                exact HB6.out.block j h2
              have hsize9 : (w8.setCell ⟨W3.heap.size, 4, none⟩ (.slice a8 (k + 1) c8)).heap.size = w8.heap.size := by simp [World.setCell]
              refine ⟨k + 1, by omega, by go_num, .slice a8 (k + 1) c8, zs ++ [.int .i64 tkind, .string tname, .string ttext, .slice x1 tattrs.length y1, .slice x2 tkids.length y2], fun j => Dl j ∨ (wr.heap.size ≤ j ∧ j < w5.heap.size), P2, ?_, ?_, ?_, fun j hj => ?_, HSET5.out.keep hms9, fun x hx => ?_, ?_⟩
              · have := heap_setCell_same w8 W3.heap.size 4 _ _ (.slice a8 (k + 1) c8) B8.out
                simpa using this
              · have := ownsRow_keeps (w' := w8.setCell ⟨W3.heap.size, 4, none⟩ (.slice a8 (k + 1) c8)) hown8 (fun g hg => heap_setCell_other _ _ _ _ (fun h => by have h1 := (ownsRow_base hown8 hg).1; have h2 : g = W3.heap.size := h; omega))
                simpa using this
              · rw [HTK2.out]
                exact KidsAre.snoc (t := Tr.mk tkind tname ttext tattrs tkids) (TrIn.keep hkd2 (fun j hj => .inr hj) _ _ _ HT5.out) (KidsAre.keep hkd1 (fun j hj => .inl hj) _ _ HKIDS.out)
              · rw [hsize9]
                refine ⟨?_, ?_, fun e => ?_⟩
                · rcases hj with h | h
                  · exact (HDL.out j h).1
                  · omega
                · rcases hj with h | h
                  · have := (HDL.out j h).2.1; omega
                  · omega
                · rcases hloc with h9 | h9
                  · rw [h9] at e
                    rcases hj with h | h
                    · exact (HDL.out j h).2.2 e
                    · have := (ownsRow_base HOWN.out e).2; omega
                  · rw [h9] at e
                    cases e
                    simp only [World.size_alloc] at hj
                    rcases hj with h | h
                    · have := (HDL.out _ h).2.1; omega
                    · omega
              · have h1 := HTAKE.out
                have h2 := HGT.out
                rcases HP5.out x hx with h | h
                · rcases HP'.out x h with h | h
                  · exact .inl h
                  · right; omega
                · right; omega
              · have c6 : Chg (fun j => j = W3.heap.size ∨ j = ms) wA (W6.alloc (.cells #[.int .i64 tkind, .string tname, .string ttext, .slice x1 tattrs.length y1, .slice x2 tkids.length y2] 25)) := (HCR.out.trans (HC6.out.mono (fun j hj => .inr hj))).trans (chg_alloc _ _)
                have c8 : Chg (fun j => (Value.slice a9 k c9).ownBlock = some j ∨ j = W3.heap.size) (W6.alloc (.cells #[.int .i64 tkind, .string tname, .string ttext, .slice x1 tattrs.length y1, .slice x2 tkids.length y2] 25)) (w8.setCell ⟨W3.heap.size, 4, none⟩ (.slice a8 (k + 1) c8)) := (chg_grown hgrow (fun k h => .inl h)).trans (chg_set (M := fun j => (Value.slice a9 k c9).ownBlock = some j ∨ j = W3.heap.size) (.inr rfl) 4 _)
                exact c6.andThen c8 (fun j hj h => h.elim (fun h => by have := (ownsRow_base HOWN6.out h).1; omega) (fun h => .inl h))
            case measure => simp [Lib.intOf]; omega
          · obtain rfl : k = kids.length := by omega
            have hs0 := HS0.out
            have hz4 := HS4.out
            have haW := (HCR.out.block W.heap.size (by omega) (by omega)).trans ((HCA.out.block W.heap.size (by omega) (by omega)).trans HR03.out)
            obtain ⟨d0, d1, d2, d3, d4⟩ := cellsN haW
            obtain ⟨z0, z1, z2, z3, z4⟩ := cellsN HQ'.out
            have fr := fun i => free_block haW i
            have fr0 := fr 0
            have fr1 := fr 1
            have fr2 := fr 2
            have fr3 := fr 3
            have fr4 := fr 4
            have HAW := Lib.hid haW
            have HS0' := Lib.hid hs0
            clear fr haW hs0 hz4
            go_wp2_with fail
            obtain ⟨W5, hW5⟩ : ∃ W5, (((((wr.setCell ⟨W.heap.size, 0, none⟩ (.int .i64 2)).setCell ⟨W.heap.size, 1, none⟩ (.string name)).setCell ⟨W.heap.size, 2, none⟩ (.string text)).setCell ⟨W.heap.size, 3, none⟩ (.slice a5 attrs.length c5)).setCell ⟨W.heap.size, 4, none⟩ (.slice a9 kids.length c9)) = W5 := ⟨_, rfl⟩
            have hb5 := set5 HAW.out (.int .i64 2) (.string name) (.string text) (.slice a5 attrs.length c5) (.slice a9 kids.length c9)
            have hc5 := set5_chg (M := fun k => k = W.heap.size) wr rfl (.int .i64 2) (.string name) (.string text) (.slice a5 attrs.length c5) (.slice a9 kids.length c9)
            rw [hW5] at hb5 hc5
            rw [hW5]
            clear d0 d1 d2 d3 d4 fr0 fr1 fr2 fr3 fr4 z0 z1 z2 z3 z4 hW5
            obtain ⟨d0, d1, d2, d3, d4⟩ := cellsN hb5
            have hsF := hc5.size
            have hch : Chg (fun k => k = ms) W W5 := (HCH3.out.andThen ((HCA.out.trans HCR.out)) (fun j hj h => h.elim (fun h => by omega) id)).andThen hc5 (fun k hk h => by omega)
            refine bodyPost_ret (v := .tuple #[trV (Tr.mk 2 name text attrs kids) (.slice a5 attrs.length c5) (.slice a9 kids.length c9), .bool true]) (by simp [results, Try.results102, go_sem, *, trV, Tr.kind, Tr.name, Tr.text]) rfl ?_
            refine ⟨⟨_, _, rfl, ?_⟩, ⟨_, HSET'.out.keep (hc5.block ms HSET'.out.lt (by omega)), fun x hx => ?_⟩, hch⟩
            · have hh0 := HS0.out
              simp only [TrIn]
              have hkA : Keeps (fun j => W4.heap.size ≤ j ∧ j < wA.heap.size) wA W5 := fun j hj => by
                have h1 := hj.1
                have h2 := hj.2
                rw [hc5.block j (by omega) (by omega)]
                exact HCR.out.block j h2 (by have := HSET3.out.lt; omega)
              have hkB : ∀ j, W3.heap.size ≤ j → j < wr.heap.size → W5.heap[j]? = wr.heap[j]? := fun j h1 h2 => hc5.block j h2 (by omega)
              refine ⟨(HAV.out.keep hkA).mono (fun j hj => ⟨by omega, by omega⟩), zs, (cells_of_row (F := fun j => wA.heap.size ≤ j ∧ j < W5.heap.size) (ownsRow_keeps HOWN.out (fun j hj => hkB j (by have := (ownsRow_base HOWN.out hj).1; omega) (ownsRow_base HOWN.out hj).2)) (fun j hj => ⟨(ownsRow_base HOWN.out hj).1, by have := (ownsRow_base HOWN.out hj).2; omega⟩)).mono (fun j hj => ⟨by omega, hj.2⟩), ?_⟩
              have h9 := HKIDS.out
              rw [List.take_length] at h9
              exact KidsAre.keep (fun j hj => hkB j (by have := (HDL.out j hj).1; omega) (HDL.out j hj).2.1) (fun j hj => ⟨by have := (HDL.out j hj).1; omega, by have := (HDL.out j hj).2.1; omega⟩) _ _ h9
            · have h9 := HP'.out x hx
              rw [List.take_length] at h9
              refine h9.imp id (fun h => ?_)
              simp only [Tr.size]
              omega
  · obtain ⟨rfl, rfl⟩ := HLF.out.resolve_left hkd
    have hk2f : (kind == 2) = false := by rw [beq_eq_false_iff_ne]; exact hkd
    obtain ⟨b0, b1, b2, b3, b4⟩ := cellsN hq4
    obtain ⟨d0, d1, d2, d3, d4⟩ := cellsN ha4
    have fr := fun i => free_block ha4 i
    have fr0 := fr 0
    have fr1 := fr 1
    have fr2 := fr 2
    have fr3 := fr 3
    have fr4 := fr 4
    clear hq4 ha4 fr
    go_wp2_with fail
    obtain ⟨W5, hW5⟩ : ∃ W5, (((((W4.setCell ⟨W.heap.size, 0, none⟩ (.int .i64 kind)).setCell ⟨W.heap.size, 1, none⟩ (.string name)).setCell ⟨W.heap.size, 2, none⟩ (.string text)).setCell ⟨W.heap.size, 3, none⟩ (.slice none 0 0)).setCell ⟨W.heap.size, 4, none⟩ (.slice none 0 0)) = W5 := ⟨_, rfl⟩
    have hb5 := set5 HA4.out (.int .i64 kind) (.string name) (.string text) (.slice none 0 0) (.slice none 0 0)
    have hc5 := set5_chg (M := fun k => k = W.heap.size) W4 rfl (.int .i64 kind) (.string name) (.string text) (.slice none 0 0) (.slice none 0 0)
    rw [hW5] at hb5 hc5
    rw [hW5]
    clear d0 d1 d2 d3 d4 fr0 fr1 fr2 fr3 fr4 b0 b1 b2 b3 b4 hW5
    obtain ⟨d0, d1, d2, d3, d4⟩ := cellsN hb5
    have hch : Chg (fun k => k = ms) W W5 := (HCH3.out.trans (chg_new HB4.out)).andThen hc5 (fun k hk h => by omega)
    have hm5 := HSET3.out.lt
    refine bodyPost_ret (v := .tuple #[trV (Tr.mk kind name text [] []) (.slice none 0 0) (.slice none 0 0), .bool true]) (by simp [results, Try.results102, go_sem, *, trV, Tr.kind, Tr.name, Tr.text]) rfl ?_
    refine ⟨⟨_, _, rfl, ?_⟩, ⟨_, (HSET3.out.keep (HB4.out.block ms hm5)).keep (hc5.block ms (by have := HS4.out; omega) (by omega)), fun x hx => hx.imp id (fun h => ?_)⟩, hch⟩
    · simp only [TrIn]
      exact ⟨⟨none, 0, rfl, by simp, .inl rfl⟩, [], ⟨none, 0, rfl, by simp, .inl rfl⟩, by simp [KidsAre]⟩
    · simp only [Tr.size]; omega
theorem node_upto {Rb : Nat → Prop} {w0 : World} {v ms : Nat} {G : Int → Option Rec} (hR : ReadsK Rb w0 v G) (hRms : ¬ Rb ms) : ∀ n, NodeUpto Rb w0 v ms G n
  | 0 => fun t g W P h => by have := size_pos t; omega
  | n + 1 => node_step hR hRms n (node_upto hR hRms n)
set_option maxRecDepth 100000 in
set_option maxHeartbeats 4000000 in
theorem node_any {Rb : Nat → Prop} {w : World} {v : Nat} {G : Int → Option Rec} (hR : ReadsK Rb w v G) (hRl : ∀ k, Rb k → k < w.heap.size) {t : Tr} (hsz : t.size ≤ 1048576) (hf : Fit t) {g : Int} (hp : Planted G t g) :
    Calls Try.prog 63 #[ptr v, iv (g + 1)] w fun e w' => (∃ av kv, e = .returned (.tuple #[trV t av kv, .bool true]) ∧ TrIn (fun k => w.heap.size ≤ k ∧ k < w'.heap.size) w' t av kv) ∧ Below w.heap.size w w' := by
  have hmm := @run_makeMap Try.prog
  obtain ⟨W0, hW0⟩ : ∃ W0, w.alloc (.cells #[.int .i64 0, .string ⟨#[]⟩, .string ⟨#[]⟩, .slice none 0 0, .slice none 0 0] 25) = W0 := ⟨_, rfl⟩
  have hb0 : Below w.heap.size w W0 := by rw [← hW0]; exact (Below.refl _ _).alloc (Nat.le_refl _) _
  have hs0 : W0.heap.size = w.heap.size + 1 := by rw [← hW0]; simp
  have hr0 : W0.heap[w.heap.size]? = some (.cells #[.int .i64 0, .string ⟨#[]⟩, .string ⟨#[]⟩, .slice none 0 0, .slice none 0 0] 25 (0, 0)) := by rw [← hW0]; exact Go.heap_alloc_new _ _
  obtain ⟨W1, hW1⟩ : ∃ W1, W0.alloc (.map #[] 0) = W1 := ⟨_, rfl⟩
  have hb1 : Below W0.heap.size W0 W1 := by rw [← hW1]; exact (Below.refl _ _).alloc (Nat.le_refl _) _
  have hs1 : W1.heap.size = W0.heap.size + 1 := by rw [← hW1]; simp
  have hset : SetIs W1 W0.heap.size (fun _ => False) := by
    rw [← hW1]
    exact ⟨fun _ => none, mapIs_new iv W0, fun x v h => (by cases h), fun x => by simp⟩
  have hbw := hb0.trans (hb1.mono (by omega))
  have hno : ¬ Rb W0.heap.size := fun h => by have := hRl _ h; omega
  have hnd := node_upto hR hno t.size t g W1 (fun _ => False) (Nat.le_refl _) hsz hf hp (fun k hk => hbw.block k (hRl k hk)) (fun k hk => by have := hRl k hk; omega) hset (fun _ _ _ h => h)
  have hr1 := (hb1.block w.heap.size (by omega)).trans hr0
  have HN := Lib.hid hnd
  have HW0 := Lib.hid hW0
  have HW1 := Lib.hid hW1
  have HS := Lib.hid (show w.heap.size < W0.heap.size ∧ W0.heap.size < W1.heap.size from ⟨by omega, by omega⟩)
  have HR1 := Lib.hid hr1
  have HBW := Lib.hid hbw
  clear hnd hW0 hb0 hs0 hr0 hW1 hb1 hs1 hset hbw hno hr1 hR hRl hf hp
  go_enter Try.func63, Try.ntmps63
  go_upto_region 1 with fail
  rw [HW0.out]
  go_wp2_with fail
  rw [HW1.out]
  refine HN.out.mono ?_
  rintro e w2 ⟨⟨av, kv, rfl, hT⟩, -, hc⟩
  have hs2 := hc.size
  have hw2 := (hc.block w.heap.size (by have := HS.out; omega) (by have := HS.out; omega)).trans HR1.out
  obtain ⟨kind, name, text, attrs, kids⟩ := t
  have hT2 := hT
  simp only [TrIn] at hT2
  obtain ⟨⟨x1, y1, rfl, -, -⟩, zk, ⟨x2, y2, rfl, -, -⟩, -⟩ := hT2
  obtain ⟨d0, d1, d2, d3, d4⟩ := cellsN hw2
  have fr := fun i => free_block hw2 i
  have fr0 := fr 0
  have fr1 := fr 1
  have fr2 := fr 2
  have fr3 := fr 3
  have fr4 := fr 4
  have HT := Lib.hid hT
  have HC := Lib.hid hc
  have HW2 := Lib.hid hw2
  clear fr hT hc hw2 hmm
  go_wp2_with fail
  obtain ⟨W5, hW5⟩ : ∃ W5, (((((w2.setCell ⟨w.heap.size, 0, none⟩ (.int .i64 kind)).setCell ⟨w.heap.size, 1, none⟩ (.string name)).setCell ⟨w.heap.size, 2, none⟩ (.string text)).setCell ⟨w.heap.size, 3, none⟩ (.slice x1 attrs.length y1)).setCell ⟨w.heap.size, 4, none⟩ (.slice x2 kids.length y2)) = W5 := ⟨_, rfl⟩
  have hb5 := set5 HW2.out (.int .i64 kind) (.string name) (.string text) (.slice x1 attrs.length y1) (.slice x2 kids.length y2)
  have hc5 := set5_chg (M := fun k => k = w.heap.size) w2 rfl (.int .i64 kind) (.string name) (.string text) (.slice x1 attrs.length y1) (.slice x2 kids.length y2)
  rw [hW5] at hb5 hc5
  simp only [Tr.kind, Tr.name, Tr.text]
  rw [hW5]
  clear d0 d1 d2 d3 d4 fr0 fr1 fr2 fr3 fr4 hW5
  obtain ⟨d0, d1, d2, d3, d4⟩ := cellsN hb5
  have hsF := hc5.size
  refine bodyPost_ret (v := .tuple #[trV (Tr.mk kind name text attrs kids) (.slice x1 attrs.length y1) (.slice x2 kids.length y2), .bool true]) (by simp [results, Try.results63, go_sem, *, trV, Tr.kind, Tr.name, Tr.text]) rfl ?_
  refine ⟨⟨_, _, rfl, TrIn.keep (fun j hj => hc5.block j hj.2 (by have := HS.out; have := hj.1; omega)) (fun j hj => ⟨by have := HS.out; have := hj.1; omega, by have := hj.2; omega⟩) _ _ _ HT.out⟩, ?_⟩
  refine below_of_chg (((chg_new HBW.out).trans (HC.out.mono (fun j hj => ?_))).trans (hc5.mono (fun j hj => ?_)))
  · have := HS.out; show w.heap.size ≤ j; omega
  · show w.heap.size ≤ j; omega
end Go.Proofs.Ytinkjhkbaadbpaa
/- The arguments of the statements on views, opened: with bounds on numbers and on texts. -/
namespace Go.Proofs.Ytinkjhkbaadbpaa
open Go.Joins Go.ChangeShapes Go.WideShapes Go.RowKit Go.Deep
set_option linter.unusedVariables false

mutual
/-- no text of a tree is longer than B -/
def Strs (B : Nat) : Tr → Prop
  | .mk _ name text attrs kids => name.size ≤ B ∧ text.size ≤ B ∧ (∀ p ∈ attrs, p.1.size ≤ B ∧ p.2.size ≤ B) ∧ StrsL B kids
def StrsL (B : Nat) : List Tr → Prop
  | [] => True
  | t :: ts => Strs B t ∧ StrsL B ts
end
theorem StrsL.get {B : Nat} : ∀ {ts : List Tr} {k : Nat} {t : Tr}, StrsL B ts → ts[k]? = some t → Strs B t
  | [], k, t, _, h => by simp at h
  | t0 :: ts, 0, t, hf, h => by simp at h; subst h; simp only [StrsL] at hf; exact hf.1
  | t0 :: ts, k + 1, t, hf, h => by simp only [StrsL] at hf; exact StrsL.get hf.2 (by simpa using h)
section
variable {H : Type} {enc : TypeId × Value → H} {W : World} {b0 : Nat}
set_option maxRecDepth 100000 in
theorem sp_cells2 {n : Nat} {cs : List Value} {x : DataW H × List MemPlace} (h : DataW.trod enc Try.prog W 0 (fun _ => true) true n 106 cs = some x) (hb : Rows.uptoBulk x.1 ≤ 1048576) :
    ∃ (y : Sp) (kv av tav tkv : Value), cs = spL y kv av tav tkv ∧ IntsIn (Old W.heap.size) W kv y.r.kids ∧ IntsIn (Old W.heap.size) W av y.r.attrs ∧ TrIn (Old W.heap.size) W y.n tav tkv ∧ SpOk y ∧ y.id ≤ 9223372036854775807 := by
  obtain ⟨xs, m, hm, rfl, hl, hxl, hg⟩ := DataW.trod_struct Try.underlying106 h
  have q106 : Try.prog.cellsOf 106 = 14 := by kernel_rfl
  have q25 : Try.prog.cellsOf 25 = 5 := by kernel_rfl
  rw [q106] at hl
  obtain ⟨c0, c1, c2, c3, c4, c5, c6, c7, c8, c9, c10, c11, c12, c13, rfl⟩ := list14 hl
  match xs, hxl with
  | [y0, y1, y2, y3], _ =>
    have h0 : DataW.trod enc Try.prog W 0 (fun _ => true) true m 3 [c0] = some y0 := by simpa [Try.int_cells] using hg 0 _ rfl
    have h1 : DataW.trod enc Try.prog W 0 (fun _ => true) true m 3 [c1] = some y1 := by simpa [Try.int_cells] using hg 1 _ rfl
    have h2 : DataW.trod enc Try.prog W 0 (fun _ => true) true m 52 [c2, c3, c4, c5, c6, c7, c8] = some y2 := by simpa [Try.int_cells, Try.rec_cells] using hg 2 _ rfl
    have h3 : DataW.trod enc Try.prog W 0 (fun _ => true) true m 25 [c9, c10, c11, c12, c13] = some y3 := by simpa [Try.int_cells, Try.rec_cells, q25] using hg 3 _ rfl
    simp only [Rows.uptoBulk, List.map_cons, List.map_nil, Rows.uptoBulkAll] at hb
    obtain ⟨k, e0, -⟩ := DataW.trod_int Try.underlying3 h0
    obtain ⟨id, e1, -, hwf⟩ := DataW.trod_int Try.underlying3 h1
    have hid : id ≤ 9223372036854775807 := by
      rw [Lit.wf, Bool.and_eq_true] at hwf
      exact of_decide_eq_true hwf.2
    obtain ⟨r, kv, av, e2, i1, i2, ok⟩ := rec_bulk h2 (by omega)
    obtain ⟨t, tav, tkv, e3, i3, b3⟩ := tree_in m h3
    simp at e0 e1
    subst e0 e1
    refine ⟨⟨k, id, r, t⟩, kv, av, tav, tkv, ?_, i1, i2, i3, ⟨ok, by show t.size ≤ _; omega⟩, hid⟩
    show [_, _, c2, c3, c4, c5, c6, c7, c8, c9, c10, c11, c12, c13] = _ :: _ :: (recL r kv av ++ trL t tav tkv)
    rw [← e2, ← e3]
    rfl
/-- a slice of calls that came in -/
theorem sps_in2 {n : Nat} {v : Value} {x : DataW H × List MemPlace} (h : DataW.trod enc Try.prog W 0 (fun _ => true) true n 101 [v] = some x) (hb : Rows.uptoBulk x.1 ≤ 1048576) :
    ∃ xs, SpsIn (Old W.heap.size) W v xs ∧ ∀ y ∈ xs, SpOk y ∧ y.id ≤ 9223372036854775807 := by
  obtain ⟨a, len, cap, el, rfl, l1, l2, l3, l4, h3⟩ := slice_elems (C := 14) Try.underlying101 (by kernel_rfl : Try.prog.cellsOf 106 = 14) (by omega) h
  rcases h3 with h3 | ⟨g, off, m, hm, rfl, hg, hk⟩
  · subst h3
    exact ⟨[], ⟨a, cap, rfl, by simp, .inl rfl⟩, by simp⟩
  · have key : ∀ k : Fin len, ∃ y : Sp, (∃ kv av tav tkv, IntsIn (Old W.heap.size) W kv y.r.kids ∧ IntsIn (Old W.heap.size) W av y.r.attrs ∧ TrIn (Old W.heap.size) W y.n tav tkv ∧ ∀ j u, (spL y kv av tav tkv)[j]? = some u → W.cell? ⟨g, off + k * 14 + j, none⟩ = some u) ∧ SpOk y ∧ y.id ≤ 9223372036854775807 := fun k => by
      have hkl : (k : Nat) < el.length := by have := k.2; omega
      obtain ⟨cs, ht, hl, hc⟩ := hk k el[(k : Nat)] (List.getElem?_eq_getElem hkl)
      have hbe : Rows.uptoBulk (el[(k : Nat)]).1 ≤ Rows.uptoBulkAll (el.map (·.1)) := bulk_mem (List.mem_map.2 ⟨_, List.getElem_mem hkl, rfl⟩)
      obtain ⟨y, kv, av, tav, tkv, rfl, i1, i2, i3, ok⟩ := sp_cells2 ht (by omega)
      refine ⟨y, ⟨kv, av, tav, tkv, i1, i2, i3, fun j u hj => ?_⟩, ok⟩
      rw [hc j (by have := (List.getElem?_eq_some_iff.1 hj).1; simpa using this), hj]
    refine ⟨List.ofFn (fun k => Classical.choose (key k)), ⟨_, cap, by rw [List.length_ofFn], by rw [List.length_ofFn]; unfold maxLen at l2; omega, .inr ⟨g, off, rfl, hg, fun k y hy => ?_⟩⟩, fun y hy => ?_⟩
    · rw [List.getElem?_ofFn] at hy
      split at hy
      · rename_i hlt
        cases hy
        exact (Classical.choose_spec (key ⟨k, hlt⟩)).1
      · cases hy
    · obtain ⟨k, hk⟩ := List.getElem?_of_mem hy
      rw [List.getElem?_ofFn] at hk
      split at hk
      · rename_i hlt
        cases hk
        exact (Classical.choose_spec (key ⟨k, hlt⟩)).2
      · cases hk
theorem attrs_build2 {g B : Nat} : ∀ (elems : List (DataW H × List MemPlace)) (off : Nat), (∀ (k : Nat) (y : DataW H × List MemPlace), elems[k]? = some y → ∃ p : ByteArray × ByteArray, W.cell? ⟨g, off + k * 2, none⟩ = some (.string p.1) ∧ W.cell? ⟨g, off + k * 2 + 1, none⟩ = some (.string p.2) ∧ p.1.size ≤ B ∧ p.2.size ≤ B) →
    ∃ al : List (ByteArray × ByteArray), al.length = elems.length ∧ (∀ j u, (attrL al)[j]? = some u → W.cell? ⟨g, off + j, none⟩ = some u) ∧ ∀ p ∈ al, p.1.size ≤ B ∧ p.2.size ≤ B
  | [], off, _ => ⟨[], rfl, fun j u h => by simp [attrL] at h, by simp⟩
  | y :: ys, off, h => by
    obtain ⟨p, h1, h2, hb⟩ := h 0 y rfl
    obtain ⟨al, hl, hc, hq⟩ := attrs_build2 ys (off + 2) (fun k z hz => by
      obtain ⟨q, h3, h4, h5⟩ := h (k + 1) z (by simpa using hz)
      have e : off + 2 + k * 2 = off + (k + 1) * 2 := by omega
      exact ⟨q, by rw [e]; exact h3, by rw [e]; exact h4, h5⟩)
    refine ⟨p :: al, by simp [hl], fun j u hu => ?_, fun r hr => by
      rcases List.mem_cons.1 hr with rfl | hr
      · exact hb
      · exact hq r hr⟩
    have e : attrL (p :: al) = .string p.1 :: .string p.2 :: attrL al := by simp [attrL]
    rw [e] at hu
    match j, hu with
    | 0, hu => simp at hu; subst hu; simpa using h1
    | 1, hu => simp at hu; subst hu; simpa using h2
    | j + 2, hu =>
      have := hc j u (by simpa using hu)
      rw [show off + (j + 2) = off + 2 + j by omega]
      exact this
theorem kids_build2 {g B : Nat} : ∀ (elems : List (DataW H × List MemPlace)) (off : Nat), (∀ (k : Nat) (y : DataW H × List MemPlace), elems[k]? = some y → ∃ (t : Tr) (av kv : Value), (∀ c, c < 5 → W.cell? ⟨g, off + k * 5 + c, none⟩ = (trL t av kv)[c]?) ∧ TrIn (Old W.heap.size) W t av kv ∧ t.size ≤ Rows.uptoBulk y.1 ∧ Strs B t) →
    ∃ (ts : List Tr) (zs : List Value), ts.length = elems.length ∧ KidsAre (Old W.heap.size) W ts zs ∧ (∀ j u, zs[j]? = some u → W.cell? ⟨g, off + j, none⟩ = some u) ∧ Tr.sizes ts ≤ Rows.uptoBulkAll (elems.map (·.1)) ∧ StrsL B ts
  | [], off, _ => ⟨[], [], rfl, by simp [KidsAre], fun j u h => by simp at h, by simp [Tr.sizes], by simp [StrsL]⟩
  | y :: ys, off, h => by
    obtain ⟨t, av, kv, h1, h2, h3, h7⟩ := h 0 y rfl
    obtain ⟨ts, zs, hl, hk, hc, hs, hq⟩ := kids_build2 ys (off + 5) (fun k z hz => by
      obtain ⟨t', av', kv', h4, h5, h6, h8⟩ := h (k + 1) z (by simpa using hz)
      have e : off + 5 + k * 5 = off + (k + 1) * 5 := by omega
      exact ⟨t', av', kv', fun c hcc => by rw [e]; exact h4 c hcc, h5, h6, h8⟩)
    refine ⟨t :: ts, trL t av kv ++ zs, by simp [hl], ?_, fun j u hu => ?_, ?_, by simp only [StrsL]; exact ⟨h7, hq⟩⟩
    · simp only [KidsAre]
      exact ⟨av, kv, zs, rfl, h2, hk⟩
    · by_cases hj : j < 5
      · rw [List.getElem?_append_left (by simpa using hj)] at hu
        have := h1 j hj
        rw [hu] at this
        simpa using this
      · rw [List.getElem?_append_right (by simpa using hj)] at hu
        have := hc (j - 5) u (by simpa using hu)
        rw [show off + j = off + 5 + (j - 5) by omega]
        exact this
    · simp only [Tr.sizes, List.map_cons, Rows.uptoBulkAll]
      omega
set_option maxRecDepth 100000 in
theorem str_bulk {s : ByteArray} : s.size + 1 ≤ Rows.uptoBulk (.lit (.string s.data.toList) : DataW H) := by
  show s.size + 1 ≤ s.data.toList.length + 1
  rw [Array.length_toList]
  exact Nat.le_refl _
set_option maxRecDepth 100000 in
theorem tree_in2 {B : Nat} : ∀ (fuel : Nat) {cs : List Value} {x : DataW H × List MemPlace}, DataW.trod enc Try.prog W 0 (fun _ => true) true fuel 25 cs = some x → Rows.uptoBulk x.1 ≤ B →
    ∃ (t : Tr) (av kv : Value), cs = trL t av kv ∧ TrIn (Old W.heap.size) W t av kv ∧ t.size ≤ Rows.uptoBulk x.1 ∧ Strs B t := by
  intro fuel
  induction fuel using Nat.strongRecOn with
  | ind fuel ih =>
    intro cs x h hB
    have hC : Try.prog.cellsOf 25 = 5 := by kernel_rfl
    obtain ⟨xs, m, hm, rfl, hl, hxl, hg⟩ := DataW.trod_struct Try.underlying25 h
    rw [hC] at hl
    obtain ⟨c0, c1, c2, c3, c4, rfl⟩ := list5 hl
    have q22 : Try.prog.cellsOf 22 = 1 := by kernel_rfl
    have q23 : Try.prog.cellsOf 23 = 1 := by kernel_rfl
    have q9 : Try.prog.cellsOf 9 = 1 := by kernel_rfl
    have hx5 : xs.length = 5 := hxl
    obtain ⟨y0, y1, y2, y3, y4, rfl⟩ := list5 hx5
    have h0' : DataW.trod enc Try.prog W 0 (fun _ => true) true m 3 [c0] = some y0 := by simpa [Try.int_cells] using hg 0 _ rfl
    have h1' : DataW.trod enc Try.prog W 0 (fun _ => true) true m 9 [c1] = some y1 := by simpa [q9] using hg 1 _ rfl
    have h2' : DataW.trod enc Try.prog W 0 (fun _ => true) true m 9 [c2] = some y2 := by simpa [q9] using hg 2 _ rfl
    have h3' : DataW.trod enc Try.prog W 0 (fun _ => true) true m 22 [c3] = some y3 := by simpa [q22] using hg 3 _ rfl
    have h4' : DataW.trod enc Try.prog W 0 (fun _ => true) true m 23 [c4] = some y4 := by simpa [q23] using hg 4 _ rfl
    obtain ⟨k, e0, -⟩ := DataW.trod_int Try.underlying3 h0'
    obtain ⟨nm, e1, f1, -⟩ := DataW.trod_string Try.underlying9 h1'
    obtain ⟨tx, e2, f2, -⟩ := DataW.trod_string Try.underlying9 h2'
    simp at e0 e1 e2
    subst e0 e1 e2
    have s1 := str_bulk (H := H) (s := nm)
    have s2 := str_bulk (H := H) (s := tx)
    simp only [Rows.uptoBulk, List.map_cons, List.map_nil, Rows.uptoBulkAll, f1, f2] at hB s1 s2
    obtain ⟨a3, len3, cap3, el3, rfl, l3, m3, n3, b3, h3⟩ := slice_elems (C := 2) Try.underlying22 (by kernel_rfl) (by omega) h3'
    obtain ⟨a4, len4, cap4, el4, rfl, l4, m4, n4, b4, h4⟩ := slice_elems (C := 5) Try.underlying23 hC (by omega) h4'
    unfold maxLen at m3 m4
    have hA : ∃ al : List (ByteArray × ByteArray), al.length = len3 ∧ CellsIn (Old W.heap.size) W (.slice a3 len3 cap3) al.length (attrL al) ∧ ∀ p ∈ al, p.1.size ≤ B ∧ p.2.size ≤ B := by
      rcases h3 with h3 | ⟨g, off, n, hn, rfl, hgl, h3⟩
      · subst h3
        exact ⟨[], rfl, ⟨a3, cap3, rfl, by simp, .inl rfl⟩, by simp⟩
      · obtain ⟨al, hal, hac, haq⟩ := attrs_build2 (g := g) (B := B) el3 off (fun j y hy => by
          obtain ⟨cs, ht, hcl, hcc⟩ := h3 j y hy
          obtain ⟨ys, m2, -, hy2e, hl2, hxl2, hg2⟩ := DataW.trod_struct Try.underlying155 ht
          obtain ⟨d0, d1, rfl⟩ := list2 hcl
          have hx2 : ys.length = 2 := hxl2
          obtain ⟨z0, z1, rfl⟩ := list2 hx2
          have g0 : DataW.trod enc Try.prog W 0 (fun _ => true) true m2 9 [d0] = some z0 := by simpa [q9] using hg2 0 _ rfl
          have g1 : DataW.trod enc Try.prog W 0 (fun _ => true) true m2 9 [d1] = some z1 := by simpa [q9] using hg2 1 _ rfl
          obtain ⟨p0, f0, u0, -⟩ := DataW.trod_string Try.underlying9 g0
          obtain ⟨p1, f1, u1, -⟩ := DataW.trod_string Try.underlying9 g1
          simp at f0 f1
          subst f0 f1
          have hbe := bulk_mem (List.mem_map.2 ⟨y, List.mem_of_getElem? hy, rfl⟩ : y.1 ∈ el3.map (·.1))
          have v0 := str_bulk (H := H) (s := p0)
          have v1 := str_bulk (H := H) (s := p1)
          rw [hy2e] at hbe
          simp only [Rows.uptoBulk, List.map_cons, List.map_nil, Rows.uptoBulkAll, u0, u1] at hbe v0 v1
          exact ⟨(p0, p1), hcc 0 (by omega), hcc 1 (by omega), by show p0.size ≤ B; omega, by show p1.size ≤ B; omega⟩)
        have hlen : al.length = len3 := by omega
        exact ⟨al, hlen, ⟨some ⟨g, off, none⟩, cap3, by rw [hlen], by omega, .inr ⟨g, off, rfl, hgl, hac⟩⟩, haq⟩
    obtain ⟨al, hal, hCA, hAQ⟩ := hA
    have hK : ∃ (ts : List Tr) (zs : List Value), ts.length = len4 ∧ CellsIn (Old W.heap.size) W (.slice a4 len4 cap4) ts.length zs ∧ KidsAre (Old W.heap.size) W ts zs ∧ Tr.sizes ts ≤ Rows.uptoBulkAll (el4.map (·.1)) ∧ StrsL B ts := by
      rcases h4 with h4 | ⟨g, off, n, hn, rfl, hgl, h4⟩
      · subst h4
        exact ⟨[], [], rfl, ⟨a4, cap4, rfl, by simp, .inl rfl⟩, by simp [KidsAre], by simp [Tr.sizes], by simp [StrsL]⟩
      · obtain ⟨ts, zs, htl, hkk, hkc, hks, hkq⟩ := kids_build2 (g := g) (B := B) el4 off (fun j y hy => by
          obtain ⟨cs, ht, hcl, hcc⟩ := h4 j y hy
          have hbe := bulk_mem (List.mem_map.2 ⟨y, List.mem_of_getElem? hy, rfl⟩ : y.1 ∈ el4.map (·.1))
          obtain ⟨t, av, kv, rfl, h5, h6, h7⟩ := ih n (by omega) ht (by omega)
          exact ⟨t, av, kv, fun c hc => hcc c hc, h5, h6, h7⟩)
        have hlen : ts.length = len4 := by omega
        exact ⟨ts, zs, hlen, ⟨some ⟨g, off, none⟩, cap4, by rw [hlen], by omega, .inr ⟨g, off, rfl, hgl, hkc⟩⟩, hkk, hks, hkq⟩
    obtain ⟨ts, zs, htl, hCK, hKK, hKS, hKQ⟩ := hK
    refine ⟨.mk k nm tx al ts, .slice a3 len3 cap3, .slice a4 len4 cap4, rfl, ?_, ?_, by simp only [Strs]; exact ⟨by omega, by omega, hAQ, hKQ⟩⟩
    · simp only [TrIn]
      exact ⟨hCA, zs, hCK, hKK⟩
    · have hlb : ∀ (l : List (DataW H)), l.length ≤ Rows.uptoBulkAll l := by
        intro l
        induction l with
        | nil => simp
        | cons d r ih2 => have := bulk_pos d; simp only [Rows.uptoBulkAll, List.length_cons]; omega
      have h9 := hlb (el3.map (·.1))
      simp only [List.length_map] at h9
      simp only [Tr.size, Rows.uptoBulk, List.map_cons, List.map_nil, Rows.uptoBulkAll]
      omega
set_option maxRecDepth 100000 in
theorem tree_arg2 {B : Nat} {v : Value} {d : DataW H} {p : List MemPlace} (hv : Value.okWide Try.prog W .any b0 25 v) (h : DataW.Trod enc Try.prog W 0 (fun _ => true) true 25 v d p) (hB : Rows.uptoBulk d ≤ B) :
    ∃ (t : Tr) (av kv : Value), v = trV t av kv ∧ TrIn (Old W.heap.size) W t av kv ∧ t.size ≤ Rows.uptoBulk d ∧ Strs B t := by
  obtain ⟨cs, rfl, hsz⟩ := okWide_struct Try.underlying25 hv
  obtain ⟨l, rfl, hl⟩ := array_list (hsz.trans (by kernel_rfl : Try.prog.cellsOf 25 = 5))
  obtain ⟨c0, c1, c2, c3, c4, rfl⟩ := list5 hl
  obtain ⟨fuel, hf⟩ := h
  have hf' : DataW.trod enc Try.prog W 0 (fun _ => true) true fuel 25 [c0, c1, c2, c3, c4] = some (d, p) := by simpa [Value.cells] using hf
  obtain ⟨t, av, kv, e, h1, h2, h3⟩ := tree_in2 fuel hf' hB
  refine ⟨t, av, kv, ?_, h1, h2, h3⟩
  have : (#[c0, c1, c2, c3, c4] : Array Value) = (trL t av kv).toArray := by rw [← e]
  rw [show ([c0, c1, c2, c3, c4] : List Value).toArray = #[c0, c1, c2, c3, c4] from rfl, this]
end
end Go.Proofs.Ytinkjhkbaadbpaa
/- What a tree's strings are asked (the reference's Name 145, Text 146, has 147, Space 148 and what they call): whatever they answer, they return. -/
namespace Go.Proofs.Ytinkjhkbaadbpaa
open Go.RowKit
set_option linter.unusedVariables false
set_option linter.unusedSimpArgs false

/-- yes or no, and nothing of old is turned -/
def YesNo (w : World) (e : Ending) (w' : World) : Prop := (∃ b, e = .returned (.bool b)) ∧ Below w.heap.size w w'
theorem YesNo.mk {w : World} {e : Ending} {w' : World} (b : Bool) (h : e = .returned (.bool b)) (hb : Below w.heap.size w w') : YesNo w e w' := ⟨⟨b, h⟩, hb⟩
theorem in_any (xs : List Int) (F : Nat → Prop) (v : Value) (n : Int) (w : World) (h : IntsIn F w v xs) (hl2 : xs.length ≤ 281474976710656) :
    Calls Try.prog 185 #[iv n, v] w (YesNo w) := by
  have hl := h.len
  obtain ⟨a, cap, rfl, hcl, hcm, hx⟩ := h
  clear hl hcl hcm
  go_enter Try.func185, Try.ntmps185
  go_wp2
  go_loop [5] (fun i => ∃ k : Nat, k ≤ xs.length + 1 ∧ i = .int .i64 k) (fun i => xs.length + 1 - (Lib.intOf i).toNat)
  case atStart => exact ⟨0, by omega, rfl⟩
  case round =>
    obtain ⟨k, hk, rfl⟩ := hrel
    by_cases hlt : k + 1 < xs.length
    · rcases hx with rfl | ⟨g, off, rfl, -, hc⟩
      · simp at hlt
      obtain ⟨x, hxk⟩ : ∃ x, xs[k]? = some x := ⟨_, List.getElem?_eq_getElem (by omega)⟩
      obtain ⟨y, hyk⟩ : ∃ x, xs[k + 1]? = some x := ⟨_, List.getElem?_eq_getElem (by omega)⟩
      have hck := hc k x hxk
      have hck1 := hc (k + 1) y hyk
      have h0 : (0 : Int) ≤ k := by omega
      have h1 : (k : Int) < xs.length := by omega
      have h2 : (k : Int) + 1 < xs.length := by omega
      have h3 : (0 : Int) ≤ (k : Int) + 1 := by omega
      have h4 : ((k : Int) + 1).toNat = k + 1 := by omega
      clear hxk hyk hc
      by_cases ha : x ≤ n
      · by_cases hb : n ≤ y
        · go_wp2
          go_ret
          exact YesNo.mk _ rfl (Below.refl _ _)
        · go_wp2
          go_round
          case rel => exact ⟨k + 2, by omega, by go_num⟩
          case measure => simp [Lib.intOf]; omega
      · go_wp2
        go_round
        case rel => exact ⟨k + 2, by omega, by go_num⟩
        case measure => simp [Lib.intOf]; omega
    · have h2 : ¬ (k : Int) + 1 < xs.length := by omega
      go_wp2
      go_ret
      exact YesNo.mk _ rfl (Below.refl _ _)

theorem space_any (n : Int) (w : World) : Calls Try.prog 148 #[iv n] w (YesNo w) := by
  by_cases h1 : n = 9
  · go_enter Try.func148, Try.ntmps148
    go_wp2
    go_ret
    exact YesNo.mk _ rfl (Below.refl _ _)
  by_cases h2 : n = 10
  · go_enter Try.func148, Try.ntmps148
    go_wp2
    go_ret
    exact YesNo.mk _ rfl (Below.refl _ _)
  by_cases h3 : n = 13
  · go_enter Try.func148, Try.ntmps148
    go_wp2
    go_ret
    exact YesNo.mk _ rfl (Below.refl _ _)
  · go_enter Try.func148, Try.ntmps148
    go_wp2
    go_ret
    exact YesNo.mk _ rfl (Below.refl _ _)

theorem built_in (w : World) (xs : List Int) (hl : xs.length ≤ 1000) : IntsIn (Old (w.alloc (.cells (xs.map iv).toArray 3)).heap.size) (w.alloc (.cells (xs.map iv).toArray 3)) (.slice (some ⟨w.heap.size, 0, none⟩) xs.length xs.length) xs := by
  refine ⟨_, xs.length, rfl, Nat.le_refl _, by unfold maxLen; omega, .inr ⟨w.heap.size, 0, rfl, by simp [Old], fun j y hj => ?_⟩⟩
  have e := Go.heap_alloc_new w (.cells (xs.map iv).toArray 3)
  have e2 : (w.alloc (.cells (xs.map iv).toArray 3)).cell? ⟨w.heap.size, 0 + j, none⟩ = (xs.map iv).toArray[0 + j]? := by simp only [World.cell?, e]; rfl
  rw [e2]
  simp [hj]
theorem in_built (w : World) (xs : List Int) (hl : xs.length ≤ 1000) (n : Int) : Calls Try.prog 185 #[iv n, .slice (some ⟨w.heap.size, 0, none⟩) xs.length xs.length] (w.alloc (.cells (xs.map iv).toArray 3)) (YesNo w) :=
  (in_any xs _ _ n _ (built_in w xs hl) (by omega)).mono fun e w' h => ⟨h.1, ((Below.refl _ _).alloc (Nat.le_refl _) _).trans (h.2.mono (by simp))⟩

set_option maxRecDepth 100000 in
theorem is_any (n : Int) (w : World) : Calls Try.prog 173 #[iv n] w (YesNo w) := by
  have H := Lib.hid (in_built w [9, 9, 10, 10, 13, 13, 32, 55295, 57344, 65533, 65536, 1114111] (by decide) n)
  go_enter Try.func173, Try.ntmps173
  go_wp2_with (go_at_call 185; refine H.out.mono ?_; rintro e w1 ⟨⟨b, rfl⟩, hb⟩)
  go_ret
  exact YesNo.mk _ rfl hb
set_option maxRecDepth 100000 in
theorem start_any (n : Int) (w : World) : Calls Try.prog 171 #[iv n] w (YesNo w) := by
  have H := Lib.hid (in_built w [65, 90, 95, 95, 97, 122, 192, 214, 216, 246, 248, 767, 880, 893, 895, 8191, 8204, 8205, 8304, 8591, 11264, 12271, 12289, 55295, 63744, 64975, 65008, 65533, 65536, 983039] (by decide) n)
  go_enter Try.func171, Try.ntmps171
  go_wp2_with (go_at_call 185; refine H.out.mono ?_; rintro e w1 ⟨⟨b, rfl⟩, hb⟩)
  go_ret
  exact YesNo.mk _ rfl hb
set_option maxRecDepth 100000 in
theorem part_any (n : Int) (w : World) : Calls Try.prog 172 #[iv n] w (YesNo w) := by
  have H1 := Lib.hid (start_any n w)
  go_enter Try.func172, Try.ntmps172
  go_upto_region 1 with fail
  go_wp2_with fail
  refine H1.out.mono ?_
  rintro e w1 ⟨⟨b, rfl⟩, hb⟩
  cases b
  · have H := Lib.hid (in_built w1 [45, 46, 48, 57, 183, 183, 768, 879, 8255, 8256] (by decide) n)
    go_wp2_with (go_at_call 185; refine H.out.mono ?_; rintro e w2 ⟨⟨b, rfl⟩, hb2⟩)
    go_ret
    exact YesNo.mk _ rfl (hb.trans (hb2.mono hb.size))
  · go_wp2_with fail
    go_ret
    exact YesNo.mk _ rfl hb

set_option maxRecDepth 100000 in
theorem find_any (s x : ByteArray) (w : World) (hs : s.size ≤ 1000000000) (hx : x.size ≤ 1000000000) : Calls Try.prog 174 #[.string s, .int .i64 0, .string x] w fun e w' => (∃ k : Int, e = .returned (iv k)) ∧ w = w' := by
  go_enter Try.func174, Try.ntmps174
  go_wp2
  go_loop [7] (fun i => ∃ k : Nat, k ≤ s.size + 1 ∧ i = .int .i64 k) (fun i => s.size + 1 - (Lib.intOf i).toNat)
  case atStart => exact ⟨0, by omega, rfl⟩
  case round =>
    obtain ⟨k, hk, rfl⟩ := hrel
    by_cases hlt : (k : Int) + x.size ≤ s.size
    · have h0 : (0 : Int) ≤ k := by omega
      have h1 : (k : Int) ≤ (k : Int) + x.size := by omega
      obtain ⟨y, hy⟩ : ∃ y, s.extract k (k + x.size) = y := ⟨_, rfl⟩
      cases hyb : (y.toList == x.toList)
      · go_wp2
        go_round
        case rel => exact ⟨k + 1, by omega, by go_num⟩
        case measure => simp [Lib.intOf]; omega
      · go_wp2
        go_ret
        exact ⟨⟨_, rfl⟩, rfl⟩
    · go_wp2
      go_ret
      exact ⟨⟨_, rfl⟩, rfl⟩

def OnePost (s : ByteArray) (w : World) (e : Ending) (w' : World) : Prop := (∃ n m : Int, e = .returned (.tuple #[iv n, iv m]) ∧ 0 ≤ m ∧ m ≤ s.size) ∧ w = w'
theorem OnePost.mk {s : ByteArray} {w : World} {e : Ending} (n m : Int) (h : e = .returned (.tuple #[iv n, iv m])) (h0 : 0 ≤ m) (h1 : m ≤ s.size) : OnePost s w e w := ⟨⟨n, m, h, h0, h1⟩, rfl⟩
set_option maxRecDepth 100000 in
set_option maxHeartbeats 4000000 in
theorem one_any (s : ByteArray) (w : World) (hs : s.size ≤ 1000000000) : Calls Try.prog 184 #[.string s] w (OnePost s w) := by
  by_cases hz : s.size = 0
  · have hzi : (s.size : Int) = 0 := by omega
    go_enter Try.func184, Try.ntmps184
    go_wp2
    refine bodyPost_ret (v := .tuple #[iv 0, iv 0]) (by simp [results, Try.results184, go_sem]) rfl ?_
    exact OnePost.mk 0 0 rfl (by omega) (by omega)
  · have hzi : ¬ (s.size : Int) = 0 := by omega
    have hz1 : (0 : Int) < s.size := by omega
    have hz2 : 0 < s.size := by omega
    go_enter Try.func184, Try.ntmps184
    go_upto_region 5 with fail
    obtain ⟨a, ha, ha0, ha2⟩ : ∃ a : Int, ((s[0]'hz2).toNat : Int) = a ∧ 0 ≤ a ∧ a < 256 := ⟨_, rfl, by omega, by have := (s[0]'hz2).toNat_lt; omega⟩
    have haw : wrap64 a = a := by unfold wrap64; omega
    simp only [ha, haw]
    clear haw
    have hcase : a < 128 ∨ ((128 ≤ a ∧ a < 192) ∨ 248 ≤ a) ∨ (192 ≤ a ∧ a < 224) ∨ (224 ≤ a ∧ a < 240) ∨ (240 ≤ a ∧ a < 248) := by omega
    rcases hcase with h | h | ⟨l1, l2⟩ | ⟨l1, l2⟩ | ⟨l1, l2⟩
    · go_wp2
      refine bodyPost_ret (v := .tuple #[iv a, iv 1]) (by simp [results, Try.results184, go_sem]) rfl ?_
      exact OnePost.mk a 1 rfl (by omega) (by omega)
    · have n0 : ¬ a < 128 := by omega
      rcases h with ⟨l1, l2⟩ | l1
      · have n1 : ¬ 192 ≤ a := by omega
        have n2 : ¬ 224 ≤ a := by omega
        have n3 : ¬ 240 ≤ a := by omega
        go_wp2
        refine bodyPost_ret (v := .tuple #[iv 0, iv 0]) (by simp [results, Try.results184, go_sem]) rfl ?_
        exact OnePost.mk 0 0 rfl (by omega) (by omega)
      · have n1 : ¬ a < 224 := by omega
        have n2 : ¬ a < 240 := by omega
        have n3 : ¬ a < 248 := by omega
        have n4 : 192 ≤ a := by omega
        have n5 : 224 ≤ a := by omega
        have n6 : 240 ≤ a := by omega
        go_wp2
        refine bodyPost_ret (v := .tuple #[iv 0, iv 0]) (by simp [results, Try.results184, go_sem]) rfl ?_
        exact OnePost.mk 0 0 rfl (by omega) (by omega)
    · have hm0 : ¬ (2 : Int) = 0 := by omega
      have n1 : ¬ 224 ≤ a := by omega
      have n2 : ¬ 240 ≤ a := by omega
      have n0 : ¬ a < 128 := by omega
      by_cases hm : (s.size : Int) < 2
      · go_wp2
        refine bodyPost_ret (v := .tuple #[iv 0, iv 0]) (by simp [results, Try.results184, go_sem]) rfl ?_
        exact OnePost.mk 0 0 rfl (by omega) (by omega)
      · go_upto_region 16 with fail
        go_loop [6, 8, 9] (fun n i c => ∃ k : Nat, 1 ≤ k ∧ k ≤ 2 ∧ i = .int .i64 k ∧ ∃ z : Int, n = iv z) (fun _ i _ => 2 - (Lib.intOf i).toNat)
        case atStart => exact ⟨1, by omega, by omega, rfl, _, rfl⟩
        case round =>
          obtain ⟨k, hk1, hk2, rfl, z, rfl⟩ := hrel
          by_cases hlt : (k : Int) < 2
          · have g0 : (0 : Int) ≤ k := by omega
            have g1 : (k : Int) < s.size := by omega
            have g2 : k < s.size := by omega
            have g3 : (k : Int).toNat = k := by omega
            go_upto_region 19 with fail
            obtain ⟨c, hc, hc0, hc2⟩ : ∃ c : Int, ((s[k]'g2).toNat : Int) = c ∧ 0 ≤ c ∧ c < 256 := ⟨_, rfl, by omega, by have := (s[k]'g2).toNat_lt; omega⟩
            have hcw : wrap64 c = c := by unfold wrap64; omega
            simp only [g3, hc, hcw]
            clear hcw
            by_cases c1 : c < 128
            · go_wp2
              refine bodyPost_ret (v := .tuple #[iv 0, iv 0]) (by simp [results, Try.results184, go_sem]) rfl ?_
              exact OnePost.mk 0 0 rfl (by omega) (by omega)
            by_cases c2 : 191 < c
            · go_wp2
              refine bodyPost_ret (v := .tuple #[iv 0, iv 0]) (by simp [results, Try.results184, go_sem]) rfl ?_
              exact OnePost.mk 0 0 rfl (by omega) (by omega)
            · go_wp2
              go_round
              case rel => exact ⟨k + 1, by omega, by omega, by go_num, _, rfl⟩
              case measure => simp [Lib.intOf]; omega
          · have fin0 : True := trivial
            by_cases z1 : z < 128
            · go_wp2
              refine bodyPost_ret (v := .tuple #[iv 0, iv 0]) (by simp [results, Try.results184, go_sem]) rfl ?_
              exact OnePost.mk 0 0 rfl (by omega) (by omega)
            by_cases z2 : 1114111 < z
            · go_wp2
              refine bodyPost_ret (v := .tuple #[iv 0, iv 0]) (by simp [results, Try.results184, go_sem]) rfl ?_
              exact OnePost.mk 0 0 rfl (by omega) (by omega)
            by_cases z3 : 55296 ≤ z
            · by_cases z4 : z ≤ 57343
              · go_wp2
                refine bodyPost_ret (v := .tuple #[iv 0, iv 0]) (by simp [results, Try.results184, go_sem]) rfl ?_
                exact OnePost.mk 0 0 rfl (by omega) (by omega)
              · go_wp2
                refine bodyPost_ret (v := .tuple #[iv z, iv 2]) (by simp [results, Try.results184, go_sem]) rfl ?_
                exact OnePost.mk z 2 rfl (by omega) (by omega)
            · go_wp2
              refine bodyPost_ret (v := .tuple #[iv z, iv 2]) (by simp [results, Try.results184, go_sem]) rfl ?_
              exact OnePost.mk z 2 rfl (by omega) (by omega)
    · have hm0 : ¬ (3 : Int) = 0 := by omega
      have n1 : ¬ 240 ≤ a := by omega
      have n2 : ¬ a < 224 := by omega
      have n3 : 192 ≤ a := by omega
      have n0 : ¬ a < 128 := by omega
      by_cases hm : (s.size : Int) < 3
      · go_wp2
        refine bodyPost_ret (v := .tuple #[iv 0, iv 0]) (by simp [results, Try.results184, go_sem]) rfl ?_
        exact OnePost.mk 0 0 rfl (by omega) (by omega)
      · go_upto_region 16 with fail
        go_loop [6, 8, 9] (fun n i c => ∃ k : Nat, 1 ≤ k ∧ k ≤ 3 ∧ i = .int .i64 k ∧ ∃ z : Int, n = iv z) (fun _ i _ => 3 - (Lib.intOf i).toNat)
        case atStart => exact ⟨1, by omega, by omega, rfl, _, rfl⟩
        case round =>
          obtain ⟨k, hk1, hk2, rfl, z, rfl⟩ := hrel
          by_cases hlt : (k : Int) < 3
          · have g0 : (0 : Int) ≤ k := by omega
            have g1 : (k : Int) < s.size := by omega
            have g2 : k < s.size := by omega
            have g3 : (k : Int).toNat = k := by omega
            go_upto_region 19 with fail
            obtain ⟨c, hc, hc0, hc2⟩ : ∃ c : Int, ((s[k]'g2).toNat : Int) = c ∧ 0 ≤ c ∧ c < 256 := ⟨_, rfl, by omega, by have := (s[k]'g2).toNat_lt; omega⟩
            have hcw : wrap64 c = c := by unfold wrap64; omega
            simp only [g3, hc, hcw]
            clear hcw
            by_cases c1 : c < 128
            · go_wp2
              refine bodyPost_ret (v := .tuple #[iv 0, iv 0]) (by simp [results, Try.results184, go_sem]) rfl ?_
              exact OnePost.mk 0 0 rfl (by omega) (by omega)
            by_cases c2 : 191 < c
            · go_wp2
              refine bodyPost_ret (v := .tuple #[iv 0, iv 0]) (by simp [results, Try.results184, go_sem]) rfl ?_
              exact OnePost.mk 0 0 rfl (by omega) (by omega)
            · go_wp2
              go_round
              case rel => exact ⟨k + 1, by omega, by omega, by go_num, _, rfl⟩
              case measure => simp [Lib.intOf]; omega
          · have fin0 : True := trivial
            by_cases z1 : z < 2048
            · go_wp2
              refine bodyPost_ret (v := .tuple #[iv 0, iv 0]) (by simp [results, Try.results184, go_sem]) rfl ?_
              exact OnePost.mk 0 0 rfl (by omega) (by omega)
            by_cases z2 : 1114111 < z
            · go_wp2
              refine bodyPost_ret (v := .tuple #[iv 0, iv 0]) (by simp [results, Try.results184, go_sem]) rfl ?_
              exact OnePost.mk 0 0 rfl (by omega) (by omega)
            by_cases z3 : 55296 ≤ z
            · by_cases z4 : z ≤ 57343
              · go_wp2
                refine bodyPost_ret (v := .tuple #[iv 0, iv 0]) (by simp [results, Try.results184, go_sem]) rfl ?_
                exact OnePost.mk 0 0 rfl (by omega) (by omega)
              · go_wp2
                refine bodyPost_ret (v := .tuple #[iv z, iv 3]) (by simp [results, Try.results184, go_sem]) rfl ?_
                exact OnePost.mk z 3 rfl (by omega) (by omega)
            · go_wp2
              refine bodyPost_ret (v := .tuple #[iv z, iv 3]) (by simp [results, Try.results184, go_sem]) rfl ?_
              exact OnePost.mk z 3 rfl (by omega) (by omega)
    · have hm0 : ¬ (4 : Int) = 0 := by omega
      have n1 : ¬ a < 240 := by omega
      have n2 : ¬ a < 224 := by omega
      have n3 : 192 ≤ a := by omega
      have n4 : 224 ≤ a := by omega
      have n0 : ¬ a < 128 := by omega
      by_cases hm : (s.size : Int) < 4
      · go_wp2
        refine bodyPost_ret (v := .tuple #[iv 0, iv 0]) (by simp [results, Try.results184, go_sem]) rfl ?_
        exact OnePost.mk 0 0 rfl (by omega) (by omega)
      · go_upto_region 16 with fail
        go_loop [6, 8, 9] (fun n i c => ∃ k : Nat, 1 ≤ k ∧ k ≤ 4 ∧ i = .int .i64 k ∧ ∃ z : Int, n = iv z) (fun _ i _ => 4 - (Lib.intOf i).toNat)
        case atStart => exact ⟨1, by omega, by omega, rfl, _, rfl⟩
        case round =>
          obtain ⟨k, hk1, hk2, rfl, z, rfl⟩ := hrel
          by_cases hlt : (k : Int) < 4
          · have g0 : (0 : Int) ≤ k := by omega
            have g1 : (k : Int) < s.size := by omega
            have g2 : k < s.size := by omega
            have g3 : (k : Int).toNat = k := by omega
            go_upto_region 19 with fail
            obtain ⟨c, hc, hc0, hc2⟩ : ∃ c : Int, ((s[k]'g2).toNat : Int) = c ∧ 0 ≤ c ∧ c < 256 := ⟨_, rfl, by omega, by have := (s[k]'g2).toNat_lt; omega⟩
            have hcw : wrap64 c = c := by unfold wrap64; omega
            simp only [g3, hc, hcw]
            clear hcw
            by_cases c1 : c < 128
            · go_wp2
              refine bodyPost_ret (v := .tuple #[iv 0, iv 0]) (by simp [results, Try.results184, go_sem]) rfl ?_
              exact OnePost.mk 0 0 rfl (by omega) (by omega)
            by_cases c2 : 191 < c
            · go_wp2
              refine bodyPost_ret (v := .tuple #[iv 0, iv 0]) (by simp [results, Try.results184, go_sem]) rfl ?_
              exact OnePost.mk 0 0 rfl (by omega) (by omega)
            · go_wp2
              go_round
              case rel => exact ⟨k + 1, by omega, by omega, by go_num, _, rfl⟩
              case measure => simp [Lib.intOf]; omega
          · have fin0 : True := trivial
            by_cases z1 : z < 65536
            · go_wp2
              refine bodyPost_ret (v := .tuple #[iv 0, iv 0]) (by simp [results, Try.results184, go_sem]) rfl ?_
              exact OnePost.mk 0 0 rfl (by omega) (by omega)
            by_cases z2 : 1114111 < z
            · go_wp2
              refine bodyPost_ret (v := .tuple #[iv 0, iv 0]) (by simp [results, Try.results184, go_sem]) rfl ?_
              exact OnePost.mk 0 0 rfl (by omega) (by omega)
            by_cases z3 : 55296 ≤ z
            · by_cases z4 : z ≤ 57343
              · go_wp2
                refine bodyPost_ret (v := .tuple #[iv 0, iv 0]) (by simp [results, Try.results184, go_sem]) rfl ?_
                exact OnePost.mk 0 0 rfl (by omega) (by omega)
              · go_wp2
                refine bodyPost_ret (v := .tuple #[iv z, iv 4]) (by simp [results, Try.results184, go_sem]) rfl ?_
                exact OnePost.mk z 4 rfl (by omega) (by omega)
            · go_wp2
              refine bodyPost_ret (v := .tuple #[iv z, iv 4]) (by simp [results, Try.results184, go_sem]) rfl ?_
              exact OnePost.mk z 4 rfl (by omega) (by omega)
end Go.Proofs.Ytinkjhkbaadbpaa
/- The reference's Chars 170, Text 146, Name 145, has 147: whatever they answer, they return. -/
namespace Go.Proofs.Ytinkjhkbaadbpaa
open Go.RowKit
set_option linter.unusedVariables false
set_option linter.unusedSimpArgs false

def CharsPost (s : ByteArray) (w : World) (e : Ending) (w' : World) : Prop := (∃ v xs b, e = .returned (.tuple #[v, .bool b]) ∧ IntsIn (Old w'.heap.size) w' v xs ∧ xs.length ≤ s.size ∧ (b = true → s.size = 0 ∨ xs ≠ [])) ∧ Below w.heap.size w w'
theorem CharsPost.mk {s : ByteArray} {w : World} {e : Ending} {w' : World} (v : Value) (xs : List Int) (b : Bool) (h : e = .returned (.tuple #[v, .bool b])) (hi : IntsIn (Old w'.heap.size) w' v xs) (hl : xs.length ≤ s.size) (hb : b = true → s.size = 0 ∨ xs ≠ []) (hw : Below w.heap.size w w') : CharsPost s w e w' := ⟨⟨v, xs, b, h, hi, hl, hb⟩, hw⟩
set_option maxRecDepth 100000 in
set_option maxHeartbeats 4000000 in
theorem chars_any (s : ByteArray) (w : World) (hs : s.size ≤ 1000000000) : Calls Try.prog 170 #[.string s] w (CharsPost s w) := by
  go_enter Try.func170, Try.ntmps170
  go_wp2_with fail
  go_loopw [4, 5] (fun l i wr => ∃ (k : Nat) (xs : List Int), k ≤ s.size ∧ i = .int .i64 k ∧ wr.ownsRow w.heap.size 3 1 l xs.length (xs.map iv) ∧ xs.length ≤ k ∧ (k = 0 ∨ xs ≠ []) ∧ Below w.heap.size w wr) (fun _ i _ => s.size - (Lib.intOf i).toNat)
  case atStart => exact ⟨0, [], by omega, rfl, World.ownsRow_nil _ _ _ _, by simp, .inl rfl, Below.refl _ _⟩
  case round =>
    obtain ⟨k, xs, hk, rfl, hown, hxl, hne, hbr⟩ := hrel
    obtain ⟨al, cl, rfl⟩ := ownsRow_shape hown
    have HOWN := Lib.hid hown
    have HBR := Lib.hid hbr
    have HNE := Lib.hid hne
    clear hown hbr hne
    by_cases hlt : (k : Int) < s.size
    · have g0 : (0 : Int) ≤ k := by omega
      have g1 : (k : Int) ≤ s.size := by omega
      obtain ⟨y, hy⟩ : ∃ y, s.extract k s.size = y := ⟨_, rfl⟩
      have hys : y.size ≤ s.size - k := by rw [← hy, ByteArray.size_extract]; omega
      have HONE := Lib.hid (one_any y wr (by omega))
      go_wp2_with fail
      refine HONE.out.mono ?_
      rintro e w1 ⟨⟨n, m, rfl, hm0, hm1⟩, rfl⟩
      clear hy
      by_cases hz : m = 0
      · go_wp2_with fail
        refine bodyPost_ret (v := .tuple #[.slice none 0 0, .bool false]) (by simp [results, Try.results170, go_sem]) rfl ?_
        exact CharsPost.mk _ [] false rfl (intsIn_nil _ _) (by simp) (fun h => by cases h) HBR.out
      · obtain ⟨mn, hmn⟩ : ∃ mn : Nat, m = mn := ⟨m.toNat, by omega⟩
        subst hmn
        have HX := Lib.hid (built_in wr [n] (by simp))
        go_wp2_with ((at_builtin; refine wpList_append_ints rfl _ _ rfl (zs := xs) (ys := [n]) rfl rfl (ownsRow_alloc HOWN.out _) HX.out (by simp only [List.length_cons, List.length_nil]; omega) (by have := HBR.out.size; simp; omega) ?_; intro u6 w6 ho6 hg6 hl6; have hbr6 := Lib.hid ((HBR.out.alloc HBR.out.size (.cells #[iv n] 3)).grown hg6 (by have := HBR.out.size; simp; omega) (fun q hq => (ownsRow_base HOWN.out hq).1)); have HO6 := Lib.hid ho6; obtain ⟨a6, c6, rfl⟩ := shape3 ho6; clear ho6 hg6 hl6))
        go_roundw
        case rel => exact ⟨k + mn, xs ++ [n], by omega, by go_num, by simpa using HO6.out, by simp; omega, .inr (by simp), hbr6.out⟩
        case measure => simp [Lib.intOf]; omega
    · go_wp2_with fail
      refine bodyPost_ret (v := .tuple #[.slice al xs.length cl, .bool true]) (by simp [results, Try.results170, go_sem]) rfl ?_
      exact CharsPost.mk (s := s) _ xs true rfl (intsIn_row HOWN.out).old (by omega) (fun _ => HNE.out.elim (fun h => .inl (by omega)) .inr) HBR.out

set_option maxRecDepth 100000 in
set_option maxHeartbeats 4000000 in
theorem text_any (s : ByteArray) (w : World) (hs : s.size ≤ 1000000000) : Calls Try.prog 146 #[.string s] w (YesNo w) := by
  have HC := Lib.hid (chars_any s w hs)
  go_enter Try.func146, Try.ntmps146
  go_wp2_with fail
  refine HC.out.mono ?_
  rintro e w1 ⟨⟨v, xs, b, rfl, hi, hl, -⟩, hb⟩
  obtain ⟨a, cap, rfl, -, -, hx⟩ := hi
  have HX := Lib.hid hx
  have HB := Lib.hid hb
  clear hx hb
  go_upto_region 3 with fail
  go_loopw [4, 5] (fun q i wr => ∃ (k : Nat) (b : Bool), k ≤ xs.length ∧ i = .int .i64 k ∧ q = .bool b ∧ Below w1.heap.size w1 wr) (fun _ i _ => xs.length - (Lib.intOf i).toNat)
  case atStart => exact ⟨0, b, by omega, rfl, rfl, Below.refl _ _⟩
  case round =>
    obtain ⟨k, q, hk, rfl, rfl, hbr⟩ := hrel
    by_cases hlt : k < xs.length
    · rcases HX.out with rfl | ⟨g, off, rfl, hg, hc⟩
      · simp at hlt
      obtain ⟨x, hxk⟩ : ∃ x, xs[k]? = some x := ⟨_, List.getElem?_eq_getElem hlt⟩
      have hck := (hbr.cell (p := ⟨g, off + k, none⟩) hg).trans (hc k x hxk)
      have HBR := Lib.hid hbr
      have HIS := Lib.hid (is_any x wr)
      have h0 : (0 : Int) ≤ k := by omega
      have h1 : (k : Int) < xs.length := by omega
      clear hxk hc hbr hg
      cases q with
      | false =>
        go_wp2_with fail
        go_roundw
        case rel => exact ⟨k + 1, false, by omega, by go_num, rfl, HBR.out⟩
        case measure => simp [Lib.intOf]; omega
      | true =>
        go_wp2_with fail
        refine HIS.out.mono ?_
        rintro e w2 ⟨⟨b2, rfl⟩, hb2⟩
        have HB2 := Lib.hid (HBR.out.trans (hb2.mono HBR.out.size))
        clear hb2 hck
        go_wp2_with fail
        go_roundw
        case rel => exact ⟨k + 1, b2, by omega, by go_num, rfl, HB2.out⟩
        case measure => simp [Lib.intOf]; omega
    · go_wp2_with fail
      go_ret
      exact YesNo.mk _ rfl (HB.out.trans (hbr.mono HB.out.size))
set_option maxRecDepth 100000 in
set_option maxHeartbeats 4000000 in
theorem rname_any (s : ByteArray) (w : World) (hs : s.size ≤ 1000000000) : Calls Try.prog 145 #[.string s] w (YesNo w) := by
  have HC := Lib.hid (chars_any s w hs)
  go_enter Try.func145, Try.ntmps145
  go_wp2_with fail
  refine HC.out.mono ?_
  rintro e w1 ⟨⟨v, xs, b, rfl, hi, hl, hne⟩, hb⟩
  obtain ⟨a, cap, rfl, -, -, hx⟩ := hi
  have HX := Lib.hid hx
  have HB := Lib.hid hb
  clear hx hb
  cases b with
  | false =>
    go_wp2_with fail
    go_ret
    exact YesNo.mk _ rfl HB.out
  | true =>
    by_cases h1 : (s.size : Int) < 1
    · go_wp2_with fail
      go_ret
      exact YesNo.mk _ rfl HB.out
    by_cases h2 : 32 < (s.size : Int)
    · go_wp2_with fail
      go_ret
      exact YesNo.mk _ rfl HB.out
    have hne2 : xs ≠ [] := (hne rfl).resolve_left (by omega)
    have hpos : 0 < xs.length := List.length_pos_iff.2 hne2
    obtain ⟨g, off, rfl, hg, hc⟩ : ∃ g off, a = some ⟨g, off, none⟩ ∧ Old w1.heap.size g ∧ ∀ j x, xs[j]? = some x → w1.cell? ⟨g, off + j, none⟩ = some (.int .i64 x) := by
      rcases HX.out with h | h
      · exact absurd h hne2
      · exact h
    obtain ⟨x0, hx0⟩ : ∃ x, xs[0]? = some x := ⟨_, List.getElem?_eq_getElem hpos⟩
    have c0 : w1.cell? ⟨g, off, none⟩ = some (.int .i64 x0) := hc 0 x0 hx0
    have hp2 : (0 : Int) < xs.length := by omega
    have HST := Lib.hid (start_any x0 w1)
    have HG := Lib.hid hg
    have HCC := Lib.hid hc
    clear hx0 hc hne hg HX
    go_wp2_with fail
    refine HST.out.mono ?_
    rintro e w2 ⟨⟨b2, rfl⟩, hb2⟩
    have HB2 := Lib.hid hb2
    clear hb2 c0
    cases b2 with
    | false =>
      go_wp2_with fail
      go_ret
      exact YesNo.mk _ rfl (HB.out.trans (HB2.out.mono HB.out.size))
    | true =>
      go_upto_region 5 with fail
      go_loopw [5] (fun i wr => ∃ (k : Nat), k ≤ xs.length ∧ i = .int .i64 k ∧ Below w1.heap.size w1 wr) (fun i _ => xs.length - (Lib.intOf i).toNat)
      case atStart => exact ⟨0, by omega, rfl, HB2.out⟩
      case round =>
        obtain ⟨k, hk, rfl, hbr⟩ := hrel
        by_cases hlt : k < xs.length
        · obtain ⟨x, hxk⟩ : ∃ x, xs[k]? = some x := ⟨_, List.getElem?_eq_getElem hlt⟩
          have hck := (hbr.cell (p := ⟨g, off + k, none⟩) HG.out).trans (HCC.out k x hxk)
          have HBR := Lib.hid hbr
          have HIS := Lib.hid (part_any x wr)
          have h0 : (0 : Int) ≤ k := by omega
          have h1 : (k : Int) < xs.length := by omega
          clear hxk hbr
          go_wp2_with fail
          refine HIS.out.mono ?_
          rintro e w3 ⟨⟨b3, rfl⟩, hb3⟩
          have HB3 := Lib.hid (HBR.out.trans (hb3.mono HBR.out.size))
          clear hb3 hck
          cases b3 with
          | false =>
            go_wp2_with fail
            go_ret
            exact YesNo.mk _ rfl (HB.out.trans (HB3.out.mono HB.out.size))
          | true =>
            go_wp2_with fail
            go_roundw
            case rel => exact ⟨k + 1, by omega, by go_num, HB3.out⟩
            case measure => simp [Lib.intOf]; omega
        · go_wp2_with fail
          go_ret
          exact YesNo.mk _ rfl (HB.out.trans (hbr.mono HB.out.size))
theorem has_any (s x : ByteArray) (w : World) (hs : s.size ≤ 1000000000) (hx : x.size ≤ 1000000000) : Calls Try.prog 147 #[.string s, .string x] w (YesNo w) := by
  have H := Lib.hid (find_any s x w hs hx)
  go_enter Try.func147, Try.ntmps147
  go_wp2_with fail
  refine H.out.mono ?_
  rintro e w1 ⟨⟨k, rfl⟩, rfl⟩
  by_cases hk : 0 ≤ k
  · go_wp2_with fail
    go_ret
    exact YesNo.mk _ rfl (Below.refl _ _)
  · go_wp2_with fail
    go_ret
    exact YesNo.mk _ rfl (Below.refl _ _)
end Go.Proofs.Ytinkjhkbaadbpaa
/- The reference's one 129: whatever it answers, it returns, and yes says of which kind a node is. -/
namespace Go.Proofs.Ytinkjhkbaadbpaa
open Go.RowKit
set_option linter.unusedVariables false
set_option linter.unusedSimpArgs false

section
variable {P : Program} {md : Region.Mode} {ops : Array Oper} {Q : Exit → Act → World → Prop} {S : World → Prop}
theorem op_at {i : Nat} {oi : Oper} {rest : List Oper} (h : ops.toList.drop i = oi :: rest) : ops[i]? = some oi := by
  have h1 : (ops.toList.drop i)[0]? = some oi := by rw [h]; rfl
  rw [List.getElem?_drop] at h1
  simpa using h1
/-- An operation that yields in every world that meets S is taken first; the operation is written out. -/
theorem wpAnyH_takeL {i : Nat} {oi : Oper} {rest : List Oper} {v : Value} {fuel : Nat} {listed : Array Bool} {a : Act} {w : World} (hi : ops.toList.drop i = oi :: rest)
    (hs : Region.noSelect ops = true) (hf : Region.free md ops listed i = true) (hr : (Region.ready md ops listed).contains i = true)
    (hQ : ∀ c a w, Q (.panic c) (a.put oi.dst v) w → Q (.panic c) a w) (hy : YieldsIf P ops S oi v a) (hS : S w)
    (h : wpAnyH P md ops Q S fuel (listed.setIfInBounds i true) (a.put oi.dst v) w) : wpAnyH P md ops Q S (fuel + 1) listed a w :=
  wpAnyH_take (op_at hi) hs hf hr hQ hy hS h
/-- The one operation that may come up next comes up. -/
theorem wpAnyH_goL {i fuel : Nat} {listed : Array Bool} {a : Act} {w : World} {o : Oper} {rest : List Oper} (hr : Region.ready md ops listed = [i]) (hi : ops.toList.drop i = o :: rest) (hw : Region.wanted o (yielded ops a.tmps) = true)
    (h : ∀ K : Act → World → Prop, (∀ a w, S w → wpAnyH P md ops Q S fuel (listed.setIfInBounds i true) a w → K a w) → Oper.wp P o a w K Q) : wpAnyH P md ops Q S (fuel + 1) listed a w :=
  wpAnyH_all hr (by simp) (fun j hj => by
    obtain rfl : j = i := by simpa using hj
    unfold wpOp
    rw [op_at hi]
    simp only
    rw [if_pos hw]
    exact .inl (h _ (fun a w h1 h2 => ⟨h1, h2⟩)))
end
def OneFit (kind : Int) (attrs : List (ByteArray × ByteArray)) (kids : List Tr) : Prop := kind = 2 ∨ (plants kind = true ∧ attrs = [] ∧ kids = [])
/-- yes or no, and yes says P -/
def YesSays (P : Prop) (w : World) (e : Ending) (w' : World) : Prop := (∃ b, e = .returned (.bool b) ∧ (b = true → P)) ∧ Below w.heap.size w w'
theorem YesSays.no {P : Prop} {w : World} {e : Ending} {w' : World} (h : e = .returned (.bool false)) (hb : Below w.heap.size w w') : YesSays P w e w' := ⟨⟨false, h, fun h => (by cases h)⟩, hb⟩
theorem YesSays.mk {P : Prop} {w : World} {e : Ending} {w' : World} (b : Bool) (h : e = .returned (.bool b)) (hp : P) (hb : Below w.heap.size w w') : YesSays P w e w' := ⟨⟨b, h, fun _ => hp⟩, hb⟩

set_option maxRecDepth 100000 in
set_option maxHeartbeats 8000000 in
theorem one_elem {F : Nat → Prop} {w : World} {name text : ByteArray} {attrs : List (ByteArray × ByteArray)} {kids : List Tr} {av kv : Value} (hT : TrIn F w (.mk 2 name text attrs kids) av kv) (hF : ∀ k, F k → k < w.heap.size) (hS : Strs 1048576 (.mk 2 name text attrs kids)) :
    Calls Try.prog 129 #[trV (.mk 2 name text attrs kids) av kv] w (YesSays (OneFit 2 attrs kids) w) := by
  simp only [TrIn] at hT
  obtain ⟨⟨a1, c1, rfl, hal, hac⟩, zs, ⟨a2, c2, rfl, -, -⟩, -⟩ := hT
  simp only [Strs] at hS
  obtain ⟨hnm, htx, hat, -⟩ := hS
  obtain ⟨W, hW⟩ : ∃ W, w.alloc (.cells #[.int .i64 2, .string name, .string text, .slice a1 attrs.length c1, .slice a2 kids.length c2] 25) = W := ⟨_, rfl⟩
  have hbW : Below w.heap.size w W := by rw [← hW]; exact (Below.refl _ _).alloc (Nat.le_refl _) _
  have hsW : W.heap.size = w.heap.size + 1 := by rw [← hW]; simp
  have hx0 : W.heap[w.heap.size]? = some (.cells #[.int .i64 2, .string name, .string text, .slice a1 attrs.length c1, .slice a2 kids.length c2] 25 (0, 0)) := by rw [← hW]; exact Go.heap_alloc_new _ _
  have HXC := Lib.hid (show ∀ W2, Below W.heap.size W W2 → _ from fun W2 h2 => cellsN ((h2.block w.heap.size (by omega)).trans hx0))
  have HAC := Lib.hid hac
  have HAT := Lib.hid hat
  have HF := Lib.hid hF
  have HW := Lib.hid hW
  have HB := Lib.hid hbW
  have HNM := Lib.hid (show name.size ≤ 1000000000 by omega)
  have hlw : w.heap.size < W.heap.size := by omega
  obtain ⟨x0, x1, x2, x3, x4⟩ := HXC.out W (Below.refl _ _)
  clear hac hat hF hW hbW hsW hx0 hnm htx
  show Calls Try.prog 129 #[.agg #[.int .i64 2, .string name, .string text, .slice a1 attrs.length c1, .slice a2 kids.length c2]] w _
  go_enter Try.func129, Try.ntmps129
  go_upto_region 1 with fail
  rw [HW.out]
  go_wp2_with fail
  refine (rname_any name W HNM.out).mono ?_
  rintro e w1 ⟨⟨b1, rfl⟩, hb1⟩
  have HB1 := Lib.hid hb1
  clear hb1 x0 x1 x2 x3 x4
  obtain ⟨x0, x1, x2, x3, x4⟩ := HXC.out w1 HB1.out
  cases b1 with
  | false =>
    go_wp2_with fail
    go_ret
    exact YesSays.no rfl (HB.out.trans (HB1.out.mono HB.out.size))
  | true =>
    by_cases ht : text.toList = []
    · by_cases hl8 : (8 : Int) < attrs.length
      · go_wp2_with fail
        go_ret
        exact YesSays.no rfl (HB.out.trans (HB1.out.mono HB.out.size))
      · go_wp2_with fail
        clear x0 x1 x2 x3 x4 ht
        go_loopw [3] (fun i wr => ∃ k : Nat, k ≤ attrs.length ∧ i = .int .i64 k ∧ Below W.heap.size W wr) (fun i _ => attrs.length - (Lib.intOf i).toNat)
        case atStart => exact ⟨0, Nat.zero_le _, rfl, HB1.out⟩
        case round =>
          obtain ⟨k, hk, rfl, hbr⟩ := hrel
          have HBR := Lib.hid hbr
          obtain ⟨x0, x1, x2, x3, x4⟩ := HXC.out wr hbr
          by_cases hlt : k < attrs.length
          · obtain ⟨p, hpk⟩ : ∃ p, attrs[k]? = some p := ⟨_, List.getElem?_eq_getElem hlt⟩
            obtain ⟨ga, offa, rfl, hFa, hca⟩ : ∃ g off, a1 = some ⟨g, off, none⟩ ∧ F g ∧ ∀ j u, (attrL attrs)[j]? = some u → w.cell? ⟨g, off + j, none⟩ = some u := by
              rcases HAC.out with h | h
              · omega
              · exact h
            have hga := HF.out ga hFa
            have hcat : ∀ W2, Below W.heap.size W W2 → ∀ j q, attrs[j]? = some q → W2.cell? ⟨ga, offa + j * 2, none⟩ = some (.string q.1) ∧ W2.cell? ⟨ga, offa + j * 2 + 1, none⟩ = some (.string q.2) := fun W2 h2 j q hq => by
              have hb := HB.out.trans (h2.mono HB.out.size)
              exact ⟨(World.cell?_of_block (a := ⟨ga, offa + j * 2, none⟩) (hb.block ga hga)).trans (hca _ _ (attrL_get hq).1), (World.cell?_of_block (a := ⟨ga, offa + j * 2 + 1, none⟩) (hb.block ga hga)).trans (hca _ _ (attrL_get hq).2)⟩
            have hsp := HAT.out p (List.mem_of_getElem? hpk)
            have hk0 : (0 : Int) ≤ k := by omega
            have hkl : (k : Int) < attrs.length := by omega
            have HCAT := Lib.hid hcat
            have HCP := Lib.hid (show ∀ W2, Below W.heap.size W W2 → _ from fun W2 h2 => hcat W2 h2 k p hpk)
            have hcur : Below W.heap.size W wr.drew := hbr.drew
            have HP1 := Lib.hid (show p.1.size ≤ 1000000000 by omega)
            have HP2 := Lib.hid (show p.2.size ≤ 1000000000 by omega)
            clear hca hcat hpk hsp hbr
            go_upto_region 7 with fail
            clear x0 x1 x2 x3 x4
            go_cut [69] (fun c wx => (∃ b, c = .bool b) ∧ Below W.heap.size W wx)
            case first =>
              refine wp_region_held_drew (S := fun wz => Below W.heap.size W wz) (by kernel_rfl) hcur (fun hS => ?_)
              try simp only [Act.put, List.setIfInBounds_toArray, List.set_cons_zero, List.set_cons_succ]
              refine wpAnyH_takeL (i := 0) (v := .pointer (some ⟨w.heap.size, 3, none⟩)) rfl (by kernel_rfl) (by kernel_rfl) (by kernel_rfl) (fun _ _ _ h => h) (.inl ⟨by rfl, fun w' hw => by simp [go_sem]⟩) hS ?_
              try simp only [Act.put, List.setIfInBounds_toArray, List.set_cons_zero, List.set_cons_succ]
              refine wpAnyH_takeL (i := 1) (v := .slice (some ⟨ga, offa, none⟩) attrs.length c1) rfl (by kernel_rfl) (by kernel_rfl) (by kernel_rfl) (fun _ _ _ h => h) (.inl ⟨by rfl, fun w' hw => by have h3 := (HXC.out w' hw).2.2.2.1; simp [go_sem, h3]⟩) hS ?_
              try simp only [Act.put, List.setIfInBounds_toArray, List.set_cons_zero, List.set_cons_succ]
              refine wpAnyH_takeL (i := 2) (v := .int .i64 k) rfl (by kernel_rfl) (by kernel_rfl) (by kernel_rfl) (fun _ _ _ h => h) (.inl ⟨by rfl, fun w' hw => by simp [go_sem]⟩) hS ?_
              try simp only [Act.put, List.setIfInBounds_toArray, List.set_cons_zero, List.set_cons_succ]
              refine wpAnyH_takeL (i := 3) (v := .pointer (some ⟨ga, offa + k * 2, none⟩)) rfl (by kernel_rfl) (by kernel_rfl) (by kernel_rfl) (fun _ _ _ h => h) (.inl ⟨by rfl, fun w' hw => by simp [go_sem, hk0, hkl]⟩) hS ?_
              try simp only [Act.put, List.setIfInBounds_toArray, List.set_cons_zero, List.set_cons_succ]
              refine wpAnyH_takeL (i := 4) (v := .pointer (some ⟨ga, offa + k * 2, none⟩)) rfl (by kernel_rfl) (by kernel_rfl) (by kernel_rfl) (fun _ _ _ h => h) (.inl ⟨by rfl, fun w' hw => by simp [go_sem]⟩) hS ?_
              try simp only [Act.put, List.setIfInBounds_toArray, List.set_cons_zero, List.set_cons_succ]
              refine wpAnyH_takeL (i := 5) (v := .string p.1) rfl (by kernel_rfl) (by kernel_rfl) (by kernel_rfl) (fun _ _ _ h => h) (.inl ⟨by rfl, fun w' hw => by have h3 := (HCP.out w' hw).1; simp [go_sem, h3]⟩) hS ?_
              refine wpAnyH_goL (i := 6) (by kernel_rfl) rfl (by rfl) (fun K hK => ?_)
              unfold Oper.wp
              go_simp
              refine (rname_any p.1 _ HP1.out).mono ?_
              rintro e w2 ⟨⟨b1, rfl⟩, hb2⟩
              have hS2 := hS.trans (hb2.mono hS.size)
              refine hK _ _ hS2 ?_
              clear hK K
              cases b1 with
              | false =>
                try simp only [Act.put, List.setIfInBounds_toArray, List.set_cons_zero, List.set_cons_succ]
                refine wpAnyH_takeL (i := 7) (v := .bool true) rfl (by kernel_rfl) (by kernel_rfl) (by kernel_rfl) (fun _ _ _ h => h) (.inl ⟨by rfl, fun w' hw => by simp [go_sem]⟩) hS2 ?_
                try simp only [Act.put, List.setIfInBounds_toArray, List.set_cons_zero, List.set_cons_succ]
                refine wpAnyH_takeL (i := 8) (v := .bool true) rfl (by kernel_rfl) (by kernel_rfl) (by kernel_rfl) (fun _ _ _ h => h) (.inl ⟨by rfl, fun w' hw => by simp [go_sem]⟩) hS2 ?_
                try simp only [Act.put, List.setIfInBounds_toArray, List.set_cons_zero, List.set_cons_succ]
                refine wpAnyH_takeL (i := 9) (v := undef) rfl (by kernel_rfl) (by kernel_rfl) (by kernel_rfl) (fun _ _ _ h => h) (.inr ⟨by rfl, rfl⟩) hS2 ?_
                try simp only [Act.put, List.setIfInBounds_toArray, List.set_cons_zero, List.set_cons_succ]
                refine wpAnyH_takeL (i := 10) (v := undef) rfl (by kernel_rfl) (by kernel_rfl) (by kernel_rfl) (fun _ _ _ h => h) (.inr ⟨by rfl, rfl⟩) hS2 ?_
                try simp only [Act.put, List.setIfInBounds_toArray, List.set_cons_zero, List.set_cons_succ]
                refine wpAnyH_takeL (i := 11) (v := undef) rfl (by kernel_rfl) (by kernel_rfl) (by kernel_rfl) (fun _ _ _ h => h) (.inr ⟨by rfl, rfl⟩) hS2 ?_
                try simp only [Act.put, List.setIfInBounds_toArray, List.set_cons_zero, List.set_cons_succ]
                refine wpAnyH_takeL (i := 12) (v := undef) rfl (by kernel_rfl) (by kernel_rfl) (by kernel_rfl) (fun _ _ _ h => h) (.inr ⟨by rfl, rfl⟩) hS2 ?_
                try simp only [Act.put, List.setIfInBounds_toArray, List.set_cons_zero, List.set_cons_succ]
                refine wpAnyH_takeL (i := 13) (v := undef) rfl (by kernel_rfl) (by kernel_rfl) (by kernel_rfl) (fun _ _ _ h => h) (.inr ⟨by rfl, rfl⟩) hS2 ?_
                try simp only [Act.put, List.setIfInBounds_toArray, List.set_cons_zero, List.set_cons_succ]
                refine wpAnyH_takeL (i := 14) (v := undef) rfl (by kernel_rfl) (by kernel_rfl) (by kernel_rfl) (fun _ _ _ h => h) (.inr ⟨by rfl, rfl⟩) hS2 ?_
                try simp only [Act.put, List.setIfInBounds_toArray, List.set_cons_zero, List.set_cons_succ]
                refine wpAnyH_takeL (i := 15) (v := undef) rfl (by kernel_rfl) (by kernel_rfl) (by kernel_rfl) (fun _ _ _ h => h) (.inr ⟨by rfl, rfl⟩) hS2 ?_
                try simp only [Act.put, List.setIfInBounds_toArray, List.set_cons_zero, List.set_cons_succ]
                refine wpAnyH_takeL (i := 16) (v := undef) rfl (by kernel_rfl) (by kernel_rfl) (by kernel_rfl) (fun _ _ _ h => h) (.inr ⟨by rfl, rfl⟩) hS2 ?_
                try simp only [Act.put, List.setIfInBounds_toArray, List.set_cons_zero, List.set_cons_succ]
                refine wpAnyH_takeL (i := 17) (v := .bool true) rfl (by kernel_rfl) (by kernel_rfl) (by kernel_rfl) (fun _ _ _ h => h) (.inl ⟨by rfl, fun w' hw => by simp [go_sem]⟩) hS2 ?_
                try simp only [Act.put, List.setIfInBounds_toArray, List.set_cons_zero, List.set_cons_succ]
                refine wpAnyH_takeL (i := 18) (v := .bool true) rfl (by kernel_rfl) (by kernel_rfl) (by kernel_rfl) (fun _ _ _ h => h) (.inl ⟨by rfl, fun w' hw => by simp [go_sem]⟩) hS2 ?_
                try simp only [Act.put, List.setIfInBounds_toArray, List.set_cons_zero, List.set_cons_succ]
                refine wpAnyH_takeL (i := 19) (v := undef) rfl (by kernel_rfl) (by kernel_rfl) (by kernel_rfl) (fun _ _ _ h => h) (.inr ⟨by rfl, rfl⟩) hS2 ?_
                try simp only [Act.put, List.setIfInBounds_toArray, List.set_cons_zero, List.set_cons_succ]
                refine wpAnyH_takeL (i := 20) (v := undef) rfl (by kernel_rfl) (by kernel_rfl) (by kernel_rfl) (fun _ _ _ h => h) (.inr ⟨by rfl, rfl⟩) hS2 ?_
                try simp only [Act.put, List.setIfInBounds_toArray, List.set_cons_zero, List.set_cons_succ]
                refine wpAnyH_takeL (i := 21) (v := undef) rfl (by kernel_rfl) (by kernel_rfl) (by kernel_rfl) (fun _ _ _ h => h) (.inr ⟨by rfl, rfl⟩) hS2 ?_
                try simp only [Act.put, List.setIfInBounds_toArray, List.set_cons_zero, List.set_cons_succ]
                refine wpAnyH_takeL (i := 22) (v := undef) rfl (by kernel_rfl) (by kernel_rfl) (by kernel_rfl) (fun _ _ _ h => h) (.inr ⟨by rfl, rfl⟩) hS2 ?_
                try simp only [Act.put, List.setIfInBounds_toArray, List.set_cons_zero, List.set_cons_succ]
                refine wpAnyH_takeL (i := 23) (v := undef) rfl (by kernel_rfl) (by kernel_rfl) (by kernel_rfl) (fun _ _ _ h => h) (.inr ⟨by rfl, rfl⟩) hS2 ?_
                try simp only [Act.put, List.setIfInBounds_toArray, List.set_cons_zero, List.set_cons_succ]
                refine wpAnyH_takeL (i := 24) (v := undef) rfl (by kernel_rfl) (by kernel_rfl) (by kernel_rfl) (fun _ _ _ h => h) (.inr ⟨by rfl, rfl⟩) hS2 ?_
                try simp only [Act.put, List.setIfInBounds_toArray, List.set_cons_zero, List.set_cons_succ]
                refine wpAnyH_takeL (i := 25) (v := undef) rfl (by kernel_rfl) (by kernel_rfl) (by kernel_rfl) (fun _ _ _ h => h) (.inr ⟨by rfl, rfl⟩) hS2 ?_
                try simp only [Act.put, List.setIfInBounds_toArray, List.set_cons_zero, List.set_cons_succ]
                refine wpAnyH_takeL (i := 26) (v := undef) rfl (by kernel_rfl) (by kernel_rfl) (by kernel_rfl) (fun _ _ _ h => h) (.inr ⟨by rfl, rfl⟩) hS2 ?_
                try simp only [Act.put, List.setIfInBounds_toArray, List.set_cons_zero, List.set_cons_succ]
                refine wpAnyH_takeL (i := 27) (v := undef) rfl (by kernel_rfl) (by kernel_rfl) (by kernel_rfl) (fun _ _ _ h => h) (.inr ⟨by rfl, rfl⟩) hS2 ?_
                try simp only [Act.put, List.setIfInBounds_toArray, List.set_cons_zero, List.set_cons_succ]
                refine wpAnyH_takeL (i := 28) (v := undef) rfl (by kernel_rfl) (by kernel_rfl) (by kernel_rfl) (fun _ _ _ h => h) (.inr ⟨by rfl, rfl⟩) hS2 ?_
                try simp only [Act.put, List.setIfInBounds_toArray, List.set_cons_zero, List.set_cons_succ]
                refine wpAnyH_takeL (i := 29) (v := undef) rfl (by kernel_rfl) (by kernel_rfl) (by kernel_rfl) (fun _ _ _ h => h) (.inr ⟨by rfl, rfl⟩) hS2 ?_
                try simp only [Act.put, List.setIfInBounds_toArray, List.set_cons_zero, List.set_cons_succ]
                refine wpAnyH_takeL (i := 30) (v := undef) rfl (by kernel_rfl) (by kernel_rfl) (by kernel_rfl) (fun _ _ _ h => h) (.inr ⟨by rfl, rfl⟩) hS2 ?_
                try simp only [Act.put, List.setIfInBounds_toArray, List.set_cons_zero, List.set_cons_succ]
                refine wpAnyH_takeL (i := 31) (v := undef) rfl (by kernel_rfl) (by kernel_rfl) (by kernel_rfl) (fun _ _ _ h => h) (.inr ⟨by rfl, rfl⟩) hS2 ?_
                try simp only [Act.put, List.setIfInBounds_toArray, List.set_cons_zero, List.set_cons_succ]
                refine wpAnyH_takeL (i := 32) (v := undef) rfl (by kernel_rfl) (by kernel_rfl) (by kernel_rfl) (fun _ _ _ h => h) (.inr ⟨by rfl, rfl⟩) hS2 ?_
                try simp only [Act.put, List.setIfInBounds_toArray, List.set_cons_zero, List.set_cons_succ]
                refine wpAnyH_takeL (i := 33) (v := undef) rfl (by kernel_rfl) (by kernel_rfl) (by kernel_rfl) (fun _ _ _ h => h) (.inr ⟨by rfl, rfl⟩) hS2 ?_
                try simp only [Act.put, List.setIfInBounds_toArray, List.set_cons_zero, List.set_cons_succ]
                refine wpAnyH_takeL (i := 34) (v := undef) rfl (by kernel_rfl) (by kernel_rfl) (by kernel_rfl) (fun _ _ _ h => h) (.inr ⟨by rfl, rfl⟩) hS2 ?_
                try simp only [Act.put, List.setIfInBounds_toArray, List.set_cons_zero, List.set_cons_succ]
                refine wpAnyH_takeL (i := 35) (v := undef) rfl (by kernel_rfl) (by kernel_rfl) (by kernel_rfl) (fun _ _ _ h => h) (.inr ⟨by rfl, rfl⟩) hS2 ?_
                try simp only [Act.put, List.setIfInBounds_toArray, List.set_cons_zero, List.set_cons_succ]
                refine wpAnyH_takeL (i := 36) (v := undef) rfl (by kernel_rfl) (by kernel_rfl) (by kernel_rfl) (fun _ _ _ h => h) (.inr ⟨by rfl, rfl⟩) hS2 ?_
                try simp only [Act.put, List.setIfInBounds_toArray, List.set_cons_zero, List.set_cons_succ]
                refine wpAnyH_takeL (i := 37) (v := .bool true) rfl (by kernel_rfl) (by kernel_rfl) (by kernel_rfl) (fun _ _ _ h => h) (.inl ⟨by rfl, fun w' hw => by simp [go_sem]⟩) hS2 ?_
                refine wpAnyH_done (by kernel_rfl) ?_ _
                go_wp2_with fail
                go_meet
                exact ⟨⟨_, rfl⟩, hS2⟩
              | true =>
                try simp only [Act.put, List.setIfInBounds_toArray, List.set_cons_zero, List.set_cons_succ]
                refine wpAnyH_takeL (i := 7) (v := .bool false) rfl (by kernel_rfl) (by kernel_rfl) (by kernel_rfl) (fun _ _ _ h => h) (.inl ⟨by rfl, fun w' hw => by simp [go_sem]⟩) hS2 ?_
                try simp only [Act.put, List.setIfInBounds_toArray, List.set_cons_zero, List.set_cons_succ]
                refine wpAnyH_takeL (i := 8) (v := .bool false) rfl (by kernel_rfl) (by kernel_rfl) (by kernel_rfl) (fun _ _ _ h => h) (.inl ⟨by rfl, fun w' hw => by simp [go_sem]⟩) hS2 ?_
                try simp only [Act.put, List.setIfInBounds_toArray, List.set_cons_zero, List.set_cons_succ]
                refine wpAnyH_takeL (i := 9) (v := .pointer (some ⟨w.heap.size, 3, none⟩)) rfl (by kernel_rfl) (by kernel_rfl) (by kernel_rfl) (fun _ _ _ h => h) (.inl ⟨by rfl, fun w' hw => by simp [go_sem]⟩) hS2 ?_
                try simp only [Act.put, List.setIfInBounds_toArray, List.set_cons_zero, List.set_cons_succ]
                refine wpAnyH_takeL (i := 10) (v := .slice (some ⟨ga, offa, none⟩) attrs.length c1) rfl (by kernel_rfl) (by kernel_rfl) (by kernel_rfl) (fun _ _ _ h => h) (.inl ⟨by rfl, fun w' hw => by have h3 := (HXC.out w' hw).2.2.2.1; simp [go_sem, h3]⟩) hS2 ?_
                try simp only [Act.put, List.setIfInBounds_toArray, List.set_cons_zero, List.set_cons_succ]
                refine wpAnyH_takeL (i := 11) (v := .int .i64 k) rfl (by kernel_rfl) (by kernel_rfl) (by kernel_rfl) (fun _ _ _ h => h) (.inl ⟨by rfl, fun w' hw => by simp [go_sem]⟩) hS2 ?_
                try simp only [Act.put, List.setIfInBounds_toArray, List.set_cons_zero, List.set_cons_succ]
                refine wpAnyH_takeL (i := 12) (v := .pointer (some ⟨ga, offa + k * 2, none⟩)) rfl (by kernel_rfl) (by kernel_rfl) (by kernel_rfl) (fun _ _ _ h => h) (.inl ⟨by rfl, fun w' hw => by simp [go_sem, hk0, hkl]⟩) hS2 ?_
                try simp only [Act.put, List.setIfInBounds_toArray, List.set_cons_zero, List.set_cons_succ]
                refine wpAnyH_takeL (i := 13) (v := .pointer (some ⟨ga, offa + k * 2 + 1, none⟩)) rfl (by kernel_rfl) (by kernel_rfl) (by kernel_rfl) (fun _ _ _ h => h) (.inl ⟨by rfl, fun w' hw => by simp [go_sem]⟩) hS2 ?_
                try simp only [Act.put, List.setIfInBounds_toArray, List.set_cons_zero, List.set_cons_succ]
                refine wpAnyH_takeL (i := 14) (v := .string p.2) rfl (by kernel_rfl) (by kernel_rfl) (by kernel_rfl) (fun _ _ _ h => h) (.inl ⟨by rfl, fun w' hw => by have h3 := (HCP.out w' hw).2; simp [go_sem, h3]⟩) hS2 ?_
                refine wpAnyH_goL (i := 15) (by kernel_rfl) rfl (by rfl) (fun K hK => ?_)
                unfold Oper.wp
                go_simp
                refine (text_any p.2 _ HP2.out).mono ?_
                rintro e w3 ⟨⟨b2, rfl⟩, hb3⟩
                have hS3 := hS2.trans (hb3.mono hS2.size)
                refine hK _ _ hS3 ?_
                clear hK K
                cases b2 with
                | false =>
                  try simp only [Act.put, List.setIfInBounds_toArray, List.set_cons_zero, List.set_cons_succ]
                  refine wpAnyH_takeL (i := 16) (v := .bool true) rfl (by kernel_rfl) (by kernel_rfl) (by kernel_rfl) (fun _ _ _ h => h) (.inl ⟨by rfl, fun w' hw => by simp [go_sem]⟩) hS3 ?_
                  try simp only [Act.put, List.setIfInBounds_toArray, List.set_cons_zero, List.set_cons_succ]
                  refine wpAnyH_takeL (i := 17) (v := .bool true) rfl (by kernel_rfl) (by kernel_rfl) (by kernel_rfl) (fun _ _ _ h => h) (.inl ⟨by rfl, fun w' hw => by simp [go_sem]⟩) hS3 ?_
                  try simp only [Act.put, List.setIfInBounds_toArray, List.set_cons_zero, List.set_cons_succ]
                  refine wpAnyH_takeL (i := 18) (v := .bool true) rfl (by kernel_rfl) (by kernel_rfl) (by kernel_rfl) (fun _ _ _ h => h) (.inl ⟨by rfl, fun w' hw => by simp [go_sem]⟩) hS3 ?_
                  try simp only [Act.put, List.setIfInBounds_toArray, List.set_cons_zero, List.set_cons_succ]
                  refine wpAnyH_takeL (i := 19) (v := undef) rfl (by kernel_rfl) (by kernel_rfl) (by kernel_rfl) (fun _ _ _ h => h) (.inr ⟨by rfl, rfl⟩) hS3 ?_
                  try simp only [Act.put, List.setIfInBounds_toArray, List.set_cons_zero, List.set_cons_succ]
                  refine wpAnyH_takeL (i := 20) (v := undef) rfl (by kernel_rfl) (by kernel_rfl) (by kernel_rfl) (fun _ _ _ h => h) (.inr ⟨by rfl, rfl⟩) hS3 ?_
                  try simp only [Act.put, List.setIfInBounds_toArray, List.set_cons_zero, List.set_cons_succ]
                  refine wpAnyH_takeL (i := 21) (v := undef) rfl (by kernel_rfl) (by kernel_rfl) (by kernel_rfl) (fun _ _ _ h => h) (.inr ⟨by rfl, rfl⟩) hS3 ?_
                  try simp only [Act.put, List.setIfInBounds_toArray, List.set_cons_zero, List.set_cons_succ]
                  refine wpAnyH_takeL (i := 22) (v := undef) rfl (by kernel_rfl) (by kernel_rfl) (by kernel_rfl) (fun _ _ _ h => h) (.inr ⟨by rfl, rfl⟩) hS3 ?_
                  try simp only [Act.put, List.setIfInBounds_toArray, List.set_cons_zero, List.set_cons_succ]
                  refine wpAnyH_takeL (i := 23) (v := undef) rfl (by kernel_rfl) (by kernel_rfl) (by kernel_rfl) (fun _ _ _ h => h) (.inr ⟨by rfl, rfl⟩) hS3 ?_
                  try simp only [Act.put, List.setIfInBounds_toArray, List.set_cons_zero, List.set_cons_succ]
                  refine wpAnyH_takeL (i := 24) (v := undef) rfl (by kernel_rfl) (by kernel_rfl) (by kernel_rfl) (fun _ _ _ h => h) (.inr ⟨by rfl, rfl⟩) hS3 ?_
                  try simp only [Act.put, List.setIfInBounds_toArray, List.set_cons_zero, List.set_cons_succ]
                  refine wpAnyH_takeL (i := 25) (v := undef) rfl (by kernel_rfl) (by kernel_rfl) (by kernel_rfl) (fun _ _ _ h => h) (.inr ⟨by rfl, rfl⟩) hS3 ?_
                  try simp only [Act.put, List.setIfInBounds_toArray, List.set_cons_zero, List.set_cons_succ]
                  refine wpAnyH_takeL (i := 26) (v := undef) rfl (by kernel_rfl) (by kernel_rfl) (by kernel_rfl) (fun _ _ _ h => h) (.inr ⟨by rfl, rfl⟩) hS3 ?_
                  try simp only [Act.put, List.setIfInBounds_toArray, List.set_cons_zero, List.set_cons_succ]
                  refine wpAnyH_takeL (i := 27) (v := undef) rfl (by kernel_rfl) (by kernel_rfl) (by kernel_rfl) (fun _ _ _ h => h) (.inr ⟨by rfl, rfl⟩) hS3 ?_
                  try simp only [Act.put, List.setIfInBounds_toArray, List.set_cons_zero, List.set_cons_succ]
                  refine wpAnyH_takeL (i := 28) (v := undef) rfl (by kernel_rfl) (by kernel_rfl) (by kernel_rfl) (fun _ _ _ h => h) (.inr ⟨by rfl, rfl⟩) hS3 ?_
                  try simp only [Act.put, List.setIfInBounds_toArray, List.set_cons_zero, List.set_cons_succ]
                  refine wpAnyH_takeL (i := 29) (v := undef) rfl (by kernel_rfl) (by kernel_rfl) (by kernel_rfl) (fun _ _ _ h => h) (.inr ⟨by rfl, rfl⟩) hS3 ?_
                  try simp only [Act.put, List.setIfInBounds_toArray, List.set_cons_zero, List.set_cons_succ]
                  refine wpAnyH_takeL (i := 30) (v := undef) rfl (by kernel_rfl) (by kernel_rfl) (by kernel_rfl) (fun _ _ _ h => h) (.inr ⟨by rfl, rfl⟩) hS3 ?_
                  try simp only [Act.put, List.setIfInBounds_toArray, List.set_cons_zero, List.set_cons_succ]
                  refine wpAnyH_takeL (i := 31) (v := undef) rfl (by kernel_rfl) (by kernel_rfl) (by kernel_rfl) (fun _ _ _ h => h) (.inr ⟨by rfl, rfl⟩) hS3 ?_
                  try simp only [Act.put, List.setIfInBounds_toArray, List.set_cons_zero, List.set_cons_succ]
                  refine wpAnyH_takeL (i := 32) (v := undef) rfl (by kernel_rfl) (by kernel_rfl) (by kernel_rfl) (fun _ _ _ h => h) (.inr ⟨by rfl, rfl⟩) hS3 ?_
                  try simp only [Act.put, List.setIfInBounds_toArray, List.set_cons_zero, List.set_cons_succ]
                  refine wpAnyH_takeL (i := 33) (v := undef) rfl (by kernel_rfl) (by kernel_rfl) (by kernel_rfl) (fun _ _ _ h => h) (.inr ⟨by rfl, rfl⟩) hS3 ?_
                  try simp only [Act.put, List.setIfInBounds_toArray, List.set_cons_zero, List.set_cons_succ]
                  refine wpAnyH_takeL (i := 34) (v := undef) rfl (by kernel_rfl) (by kernel_rfl) (by kernel_rfl) (fun _ _ _ h => h) (.inr ⟨by rfl, rfl⟩) hS3 ?_
                  try simp only [Act.put, List.setIfInBounds_toArray, List.set_cons_zero, List.set_cons_succ]
                  refine wpAnyH_takeL (i := 35) (v := undef) rfl (by kernel_rfl) (by kernel_rfl) (by kernel_rfl) (fun _ _ _ h => h) (.inr ⟨by rfl, rfl⟩) hS3 ?_
                  try simp only [Act.put, List.setIfInBounds_toArray, List.set_cons_zero, List.set_cons_succ]
                  refine wpAnyH_takeL (i := 36) (v := undef) rfl (by kernel_rfl) (by kernel_rfl) (by kernel_rfl) (fun _ _ _ h => h) (.inr ⟨by rfl, rfl⟩) hS3 ?_
                  try simp only [Act.put, List.setIfInBounds_toArray, List.set_cons_zero, List.set_cons_succ]
                  refine wpAnyH_takeL (i := 37) (v := .bool true) rfl (by kernel_rfl) (by kernel_rfl) (by kernel_rfl) (fun _ _ _ h => h) (.inl ⟨by rfl, fun w' hw => by simp [go_sem]⟩) hS3 ?_
                  refine wpAnyH_done (by kernel_rfl) ?_ _
                  go_wp2_with fail
                  go_meet
                  exact ⟨⟨_, rfl⟩, hS3⟩
                | true =>
                  try simp only [Act.put, List.setIfInBounds_toArray, List.set_cons_zero, List.set_cons_succ]
                  refine wpAnyH_takeL (i := 16) (v := .bool false) rfl (by kernel_rfl) (by kernel_rfl) (by kernel_rfl) (fun _ _ _ h => h) (.inl ⟨by rfl, fun w' hw => by simp [go_sem]⟩) hS3 ?_
                  try simp only [Act.put, List.setIfInBounds_toArray, List.set_cons_zero, List.set_cons_succ]
                  refine wpAnyH_takeL (i := 17) (v := .bool false) rfl (by kernel_rfl) (by kernel_rfl) (by kernel_rfl) (fun _ _ _ h => h) (.inl ⟨by rfl, fun w' hw => by simp [go_sem]⟩) hS3 ?_
                  try simp only [Act.put, List.setIfInBounds_toArray, List.set_cons_zero, List.set_cons_succ]
                  refine wpAnyH_takeL (i := 18) (v := .bool false) rfl (by kernel_rfl) (by kernel_rfl) (by kernel_rfl) (fun _ _ _ h => h) (.inl ⟨by rfl, fun w' hw => by simp [go_sem]⟩) hS3 ?_
                  by_cases hkz : (0 : Int) < k
                  · obtain ⟨j, hkj1⟩ : ∃ j, k = j + 1 := ⟨k - 1, by omega⟩
                    obtain ⟨q, hqk⟩ : ∃ q, attrs[j]? = some q := ⟨_, List.getElem?_eq_getElem (by omega)⟩
                    have HCQ := Lib.hid (show ∀ W2, Below W.heap.size W W2 → _ from fun W2 h2 => HCAT.out W2 h2 j q hqk)
                    have hkj : IntKind.i64.wrap ((k : Int) - 1) = j := by rw [IntKind.wrap_i64]; omega
                    have hj0 : (0 : Int) ≤ j := by omega
                    have hjl : (j : Int) < attrs.length := by omega
                    clear hkj1 hqk
                    try simp only [Act.put, List.setIfInBounds_toArray, List.set_cons_zero, List.set_cons_succ]
                    refine wpAnyH_takeL (i := 19) (v := .int .i64 k) rfl (by kernel_rfl) (by kernel_rfl) (by kernel_rfl) (fun _ _ _ h => h) (.inl ⟨by rfl, fun w' hw => by simp [go_sem]⟩) hS3 ?_
                    try simp only [Act.put, List.setIfInBounds_toArray, List.set_cons_zero, List.set_cons_succ]
                    refine wpAnyH_takeL (i := 20) (v := .bool true) rfl (by kernel_rfl) (by kernel_rfl) (by kernel_rfl) (fun _ _ _ h => h) (.inl ⟨by rfl, fun w' hw => by simp [go_sem]; omega⟩) hS3 ?_
                    try simp only [Act.put, List.setIfInBounds_toArray, List.set_cons_zero, List.set_cons_succ]
                    refine wpAnyH_takeL (i := 21) (v := .bool true) rfl (by kernel_rfl) (by kernel_rfl) (by kernel_rfl) (fun _ _ _ h => h) (.inl ⟨by rfl, fun w' hw => by simp [go_sem]⟩) hS3 ?_
                    try simp only [Act.put, List.setIfInBounds_toArray, List.set_cons_zero, List.set_cons_succ]
                    refine wpAnyH_takeL (i := 22) (v := .pointer (some ⟨w.heap.size, 3, none⟩)) rfl (by kernel_rfl) (by kernel_rfl) (by kernel_rfl) (fun _ _ _ h => h) (.inl ⟨by rfl, fun w' hw => by simp [go_sem]⟩) hS3 ?_
                    try simp only [Act.put, List.setIfInBounds_toArray, List.set_cons_zero, List.set_cons_succ]
                    refine wpAnyH_takeL (i := 23) (v := .slice (some ⟨ga, offa, none⟩) attrs.length c1) rfl (by kernel_rfl) (by kernel_rfl) (by kernel_rfl) (fun _ _ _ h => h) (.inl ⟨by rfl, fun w' hw => by have h3 := (HXC.out w' hw).2.2.2.1; simp [go_sem, h3]⟩) hS3 ?_
                    try simp only [Act.put, List.setIfInBounds_toArray, List.set_cons_zero, List.set_cons_succ]
                    refine wpAnyH_takeL (i := 24) (v := .int .i64 k) rfl (by kernel_rfl) (by kernel_rfl) (by kernel_rfl) (fun _ _ _ h => h) (.inl ⟨by rfl, fun w' hw => by simp [go_sem]⟩) hS3 ?_
                    try simp only [Act.put, List.setIfInBounds_toArray, List.set_cons_zero, List.set_cons_succ]
                    refine wpAnyH_takeL (i := 25) (v := .int .i64 j) rfl (by kernel_rfl) (by kernel_rfl) (by kernel_rfl) (fun _ _ _ h => h) (.inl ⟨by rfl, fun w' hw => by simp [go_sem, hkj]⟩) hS3 ?_
                    try simp only [Act.put, List.setIfInBounds_toArray, List.set_cons_zero, List.set_cons_succ]
                    refine wpAnyH_takeL (i := 26) (v := .pointer (some ⟨ga, offa + j * 2, none⟩)) rfl (by kernel_rfl) (by kernel_rfl) (by kernel_rfl) (fun _ _ _ h => h) (.inl ⟨by rfl, fun w' hw => by simp [go_sem, hj0, hjl]⟩) hS3 ?_
                    try simp only [Act.put, List.setIfInBounds_toArray, List.set_cons_zero, List.set_cons_succ]
                    refine wpAnyH_takeL (i := 27) (v := .pointer (some ⟨ga, offa + j * 2, none⟩)) rfl (by kernel_rfl) (by kernel_rfl) (by kernel_rfl) (fun _ _ _ h => h) (.inl ⟨by rfl, fun w' hw => by simp [go_sem]⟩) hS3 ?_
                    try simp only [Act.put, List.setIfInBounds_toArray, List.set_cons_zero, List.set_cons_succ]
                    refine wpAnyH_takeL (i := 28) (v := .string q.1) rfl (by kernel_rfl) (by kernel_rfl) (by kernel_rfl) (fun _ _ _ h => h) (.inl ⟨by rfl, fun w' hw => by have h3 := (HCQ.out w' hw).1; simp [go_sem, h3]⟩) hS3 ?_
                    try simp only [Act.put, List.setIfInBounds_toArray, List.set_cons_zero, List.set_cons_succ]
                    refine wpAnyH_takeL (i := 29) (v := .pointer (some ⟨w.heap.size, 3, none⟩)) rfl (by kernel_rfl) (by kernel_rfl) (by kernel_rfl) (fun _ _ _ h => h) (.inl ⟨by rfl, fun w' hw => by simp [go_sem]⟩) hS3 ?_
                    try simp only [Act.put, List.setIfInBounds_toArray, List.set_cons_zero, List.set_cons_succ]
                    refine wpAnyH_takeL (i := 30) (v := .slice (some ⟨ga, offa, none⟩) attrs.length c1) rfl (by kernel_rfl) (by kernel_rfl) (by kernel_rfl) (fun _ _ _ h => h) (.inl ⟨by rfl, fun w' hw => by have h3 := (HXC.out w' hw).2.2.2.1; simp [go_sem, h3]⟩) hS3 ?_
                    try simp only [Act.put, List.setIfInBounds_toArray, List.set_cons_zero, List.set_cons_succ]
                    refine wpAnyH_takeL (i := 31) (v := .int .i64 k) rfl (by kernel_rfl) (by kernel_rfl) (by kernel_rfl) (fun _ _ _ h => h) (.inl ⟨by rfl, fun w' hw => by simp [go_sem]⟩) hS3 ?_
                    try simp only [Act.put, List.setIfInBounds_toArray, List.set_cons_zero, List.set_cons_succ]
                    refine wpAnyH_takeL (i := 32) (v := .pointer (some ⟨ga, offa + k * 2, none⟩)) rfl (by kernel_rfl) (by kernel_rfl) (by kernel_rfl) (fun _ _ _ h => h) (.inl ⟨by rfl, fun w' hw => by simp [go_sem, hk0, hkl]⟩) hS3 ?_
                    try simp only [Act.put, List.setIfInBounds_toArray, List.set_cons_zero, List.set_cons_succ]
                    refine wpAnyH_takeL (i := 33) (v := .pointer (some ⟨ga, offa + k * 2, none⟩)) rfl (by kernel_rfl) (by kernel_rfl) (by kernel_rfl) (fun _ _ _ h => h) (.inl ⟨by rfl, fun w' hw => by simp [go_sem]⟩) hS3 ?_
                    try simp only [Act.put, List.setIfInBounds_toArray, List.set_cons_zero, List.set_cons_succ]
                    refine wpAnyH_takeL (i := 34) (v := .string p.1) rfl (by kernel_rfl) (by kernel_rfl) (by kernel_rfl) (fun _ _ _ h => h) (.inl ⟨by rfl, fun w' hw => by have h3 := (HCP.out w' hw).1; simp [go_sem, h3]⟩) hS3 ?_
                    obtain ⟨bl, hbl⟩ : ∃ bl, Op.bytesLess q.1.toList p.1.toList = bl := ⟨_, rfl⟩
                    try simp only [Act.put, List.setIfInBounds_toArray, List.set_cons_zero, List.set_cons_succ]
                    refine wpAnyH_takeL (i := 35) (v := .bool (!bl)) rfl (by kernel_rfl) (by kernel_rfl) (by kernel_rfl) (fun _ _ _ h => h) (.inl ⟨by rfl, fun w' hw => by simp [go_sem, hbl]⟩) hS3 ?_
                    try simp only [Act.put, List.setIfInBounds_toArray, List.set_cons_zero, List.set_cons_succ]
                    refine wpAnyH_takeL (i := 36) (v := .bool (!bl)) rfl (by kernel_rfl) (by kernel_rfl) (by kernel_rfl) (fun _ _ _ h => h) (.inl ⟨by rfl, fun w' hw => by simp [go_sem]⟩) hS3 ?_
                    try simp only [Act.put, List.setIfInBounds_toArray, List.set_cons_zero, List.set_cons_succ]
                    refine wpAnyH_takeL (i := 37) (v := .bool (!bl)) rfl (by kernel_rfl) (by kernel_rfl) (by kernel_rfl) (fun _ _ _ h => h) (.inl ⟨by rfl, fun w' hw => by simp [go_sem]⟩) hS3 ?_
                    refine wpAnyH_done (by kernel_rfl) ?_ _
                    go_wp2_with fail
                    go_meet
                    exact ⟨⟨_, rfl⟩, hS3⟩
                  · have hkz0 : ¬ (0 : Int) < k := hkz
                    try simp only [Act.put, List.setIfInBounds_toArray, List.set_cons_zero, List.set_cons_succ]
                    refine wpAnyH_takeL (i := 19) (v := .int .i64 k) rfl (by kernel_rfl) (by kernel_rfl) (by kernel_rfl) (fun _ _ _ h => h) (.inl ⟨by rfl, fun w' hw => by simp [go_sem]⟩) hS3 ?_
                    try simp only [Act.put, List.setIfInBounds_toArray, List.set_cons_zero, List.set_cons_succ]
                    refine wpAnyH_takeL (i := 20) (v := .bool false) rfl (by kernel_rfl) (by kernel_rfl) (by kernel_rfl) (fun _ _ _ h => h) (.inl ⟨by rfl, fun w' hw => by simp [go_sem]; omega⟩) hS3 ?_
                    try simp only [Act.put, List.setIfInBounds_toArray, List.set_cons_zero, List.set_cons_succ]
                    refine wpAnyH_takeL (i := 21) (v := .bool false) rfl (by kernel_rfl) (by kernel_rfl) (by kernel_rfl) (fun _ _ _ h => h) (.inl ⟨by rfl, fun w' hw => by simp [go_sem]⟩) hS3 ?_
                    try simp only [Act.put, List.setIfInBounds_toArray, List.set_cons_zero, List.set_cons_succ]
                    refine wpAnyH_takeL (i := 22) (v := undef) rfl (by kernel_rfl) (by kernel_rfl) (by kernel_rfl) (fun _ _ _ h => h) (.inr ⟨by rfl, rfl⟩) hS3 ?_
                    try simp only [Act.put, List.setIfInBounds_toArray, List.set_cons_zero, List.set_cons_succ]
                    refine wpAnyH_takeL (i := 23) (v := undef) rfl (by kernel_rfl) (by kernel_rfl) (by kernel_rfl) (fun _ _ _ h => h) (.inr ⟨by rfl, rfl⟩) hS3 ?_
                    try simp only [Act.put, List.setIfInBounds_toArray, List.set_cons_zero, List.set_cons_succ]
                    refine wpAnyH_takeL (i := 24) (v := undef) rfl (by kernel_rfl) (by kernel_rfl) (by kernel_rfl) (fun _ _ _ h => h) (.inr ⟨by rfl, rfl⟩) hS3 ?_
                    try simp only [Act.put, List.setIfInBounds_toArray, List.set_cons_zero, List.set_cons_succ]
                    refine wpAnyH_takeL (i := 25) (v := undef) rfl (by kernel_rfl) (by kernel_rfl) (by kernel_rfl) (fun _ _ _ h => h) (.inr ⟨by rfl, rfl⟩) hS3 ?_
                    try simp only [Act.put, List.setIfInBounds_toArray, List.set_cons_zero, List.set_cons_succ]
                    refine wpAnyH_takeL (i := 26) (v := undef) rfl (by kernel_rfl) (by kernel_rfl) (by kernel_rfl) (fun _ _ _ h => h) (.inr ⟨by rfl, rfl⟩) hS3 ?_
                    try simp only [Act.put, List.setIfInBounds_toArray, List.set_cons_zero, List.set_cons_succ]
                    refine wpAnyH_takeL (i := 27) (v := undef) rfl (by kernel_rfl) (by kernel_rfl) (by kernel_rfl) (fun _ _ _ h => h) (.inr ⟨by rfl, rfl⟩) hS3 ?_
                    try simp only [Act.put, List.setIfInBounds_toArray, List.set_cons_zero, List.set_cons_succ]
                    refine wpAnyH_takeL (i := 28) (v := undef) rfl (by kernel_rfl) (by kernel_rfl) (by kernel_rfl) (fun _ _ _ h => h) (.inr ⟨by rfl, rfl⟩) hS3 ?_
                    try simp only [Act.put, List.setIfInBounds_toArray, List.set_cons_zero, List.set_cons_succ]
                    refine wpAnyH_takeL (i := 29) (v := undef) rfl (by kernel_rfl) (by kernel_rfl) (by kernel_rfl) (fun _ _ _ h => h) (.inr ⟨by rfl, rfl⟩) hS3 ?_
                    try simp only [Act.put, List.setIfInBounds_toArray, List.set_cons_zero, List.set_cons_succ]
                    refine wpAnyH_takeL (i := 30) (v := undef) rfl (by kernel_rfl) (by kernel_rfl) (by kernel_rfl) (fun _ _ _ h => h) (.inr ⟨by rfl, rfl⟩) hS3 ?_
                    try simp only [Act.put, List.setIfInBounds_toArray, List.set_cons_zero, List.set_cons_succ]
                    refine wpAnyH_takeL (i := 31) (v := undef) rfl (by kernel_rfl) (by kernel_rfl) (by kernel_rfl) (fun _ _ _ h => h) (.inr ⟨by rfl, rfl⟩) hS3 ?_
                    try simp only [Act.put, List.setIfInBounds_toArray, List.set_cons_zero, List.set_cons_succ]
                    refine wpAnyH_takeL (i := 32) (v := undef) rfl (by kernel_rfl) (by kernel_rfl) (by kernel_rfl) (fun _ _ _ h => h) (.inr ⟨by rfl, rfl⟩) hS3 ?_
                    try simp only [Act.put, List.setIfInBounds_toArray, List.set_cons_zero, List.set_cons_succ]
                    refine wpAnyH_takeL (i := 33) (v := undef) rfl (by kernel_rfl) (by kernel_rfl) (by kernel_rfl) (fun _ _ _ h => h) (.inr ⟨by rfl, rfl⟩) hS3 ?_
                    try simp only [Act.put, List.setIfInBounds_toArray, List.set_cons_zero, List.set_cons_succ]
                    refine wpAnyH_takeL (i := 34) (v := undef) rfl (by kernel_rfl) (by kernel_rfl) (by kernel_rfl) (fun _ _ _ h => h) (.inr ⟨by rfl, rfl⟩) hS3 ?_
                    try simp only [Act.put, List.setIfInBounds_toArray, List.set_cons_zero, List.set_cons_succ]
                    refine wpAnyH_takeL (i := 35) (v := undef) rfl (by kernel_rfl) (by kernel_rfl) (by kernel_rfl) (fun _ _ _ h => h) (.inr ⟨by rfl, rfl⟩) hS3 ?_
                    try simp only [Act.put, List.setIfInBounds_toArray, List.set_cons_zero, List.set_cons_succ]
                    refine wpAnyH_takeL (i := 36) (v := .bool false) rfl (by kernel_rfl) (by kernel_rfl) (by kernel_rfl) (fun _ _ _ h => h) (.inl ⟨by rfl, fun w' hw => by simp [go_sem]⟩) hS3 ?_
                    try simp only [Act.put, List.setIfInBounds_toArray, List.set_cons_zero, List.set_cons_succ]
                    refine wpAnyH_takeL (i := 37) (v := .bool false) rfl (by kernel_rfl) (by kernel_rfl) (by kernel_rfl) (fun _ _ _ h => h) (.inl ⟨by rfl, fun w' hw => by simp [go_sem]⟩) hS3 ?_
                    refine wpAnyH_done (by kernel_rfl) ?_ _
                    go_wp2_with fail
                    go_meet
                    exact ⟨⟨_, rfl⟩, hS3⟩
            case rest =>
              obtain ⟨⟨b, rfl⟩, hbc⟩ := hcut
              cases b with
              | true =>
                go_wp2_with fail
                go_ret
                exact YesSays.no rfl (HB.out.trans (hbc.mono HB.out.size))
              | false =>
                go_wp2_with fail
                go_roundw
                case rel => exact ⟨k + 1, by omega, by go_num, hbc⟩
                case measure => simp [Lib.intOf]; omega
          · go_wp2_with fail
            go_ret
            exact YesSays.mk true rfl (.inl rfl) (HB.out.trans (HBR.out.mono HB.out.size))
    · go_wp2_with fail
      go_ret
      exact YesSays.no rfl (HB.out.trans (HB1.out.mono HB.out.size))
end Go.Proofs.Ytinkjhkbaadbpaa
/- The reference's one 129 at what is no element. -/
namespace Go.Proofs.Ytinkjhkbaadbpaa
open Go.RowKit
set_option linter.unusedVariables false
set_option linter.unusedSimpArgs false

set_option maxRecDepth 100000 in
set_option maxHeartbeats 8000000 in
theorem one_rest {F : Nat → Prop} {w : World} {kind : Int} {name text : ByteArray} {attrs : List (ByteArray × ByteArray)} {kids : List Tr} {av kv : Value} (hk2 : kind ≠ 2) (hT : TrIn F w (.mk kind name text attrs kids) av kv) (hS : Strs 1048576 (.mk kind name text attrs kids)) :
    Calls Try.prog 129 #[trV (.mk kind name text attrs kids) av kv] w (YesSays (OneFit kind attrs kids) w) := by
  simp only [TrIn] at hT
  obtain ⟨⟨a1, c1, rfl, hal, -⟩, zs, ⟨a2, c2, rfl, hkl, -⟩, -⟩ := hT
  simp only [Strs] at hS
  obtain ⟨hnm, htx, -, -⟩ := hS
  obtain ⟨W, hW⟩ : ∃ W, w.alloc (.cells #[.int .i64 kind, .string name, .string text, .slice a1 attrs.length c1, .slice a2 kids.length c2] 25) = W := ⟨_, rfl⟩
  have hbW : Below w.heap.size w W := by rw [← hW]; exact (Below.refl _ _).alloc (Nat.le_refl _) _
  have hsW : W.heap.size = w.heap.size + 1 := by rw [← hW]; simp
  have hx0 : W.heap[w.heap.size]? = some (.cells #[.int .i64 kind, .string name, .string text, .slice a1 attrs.length c1, .slice a2 kids.length c2] 25 (0, 0)) := by rw [← hW]; exact Go.heap_alloc_new _ _
  have HXC := Lib.hid (show ∀ W2, Below W.heap.size W W2 → _ from fun W2 h2 => cellsN ((h2.block w.heap.size (by omega)).trans hx0))
  have HW := Lib.hid hW
  have HB := Lib.hid hbW
  have HNM := Lib.hid (show name.size ≤ 1000000000 by omega)
  have HTX := Lib.hid (show text.size ≤ 1000000000 by omega)
  have hnmi : (name.size : Int) ≤ 1048576 := by omega
  have htxi : (text.size : Int) ≤ 1048576 := by omega
  have hkf : (kind == 2) = false := by rw [beq_eq_false_iff_ne]; exact hk2
  obtain ⟨x0, x1, x2, x3, x4⟩ := HXC.out W (Below.refl _ _)
  clear hW hbW hsW hx0 hnm htx hk2
  show Calls Try.prog 129 #[.agg #[.int .i64 kind, .string name, .string text, .slice a1 attrs.length c1, .slice a2 kids.length c2]] w _
  go_enter Try.func129, Try.ntmps129
  go_upto_region 1 with fail
  rw [HW.out]
  by_cases ha0 : 0 < attrs.length
  · go_wp2_with fail
    go_ret
    exact YesSays.no rfl HB.out
  obtain rfl : attrs = [] := List.eq_nil_of_length_eq_zero (by omega)
  clear ha0
  by_cases hk0 : 0 < kids.length
  · go_wp2_with fail
    go_ret
    exact YesSays.no rfl HB.out
  obtain rfl : kids = [] := List.eq_nil_of_length_eq_zero (by omega)
  clear hk0 hal hkl
  go_wp2_with fail
  refine (text_any text W HTX.out).mono ?_
  rintro e w1 ⟨⟨b1, rfl⟩, hb1⟩
  have HB1 := Lib.hid hb1
  clear hb1 x0 x1 x2 x3 x4
  obtain ⟨x0, x1, x2, x3, x4⟩ := HXC.out w1 HB1.out
  cases b1 with
  | false =>
    go_wp2_with fail
    go_ret
    exact YesSays.no rfl (HB.out.trans (HB1.out.mono HB.out.size))
  | true =>
  by_cases h4 : kind = 4
  · subst h4
    by_cases hn : name.toList = []
    · by_cases ht : text.toList = []
      all_goals
        go_wp2_with fail
        go_ret
        exact YesSays.mk _ rfl (.inr ⟨by decide, rfl, rfl⟩) (HB.out.trans (HB1.out.mono HB.out.size))
    · go_wp2_with fail
      go_ret
      exact YesSays.mk _ rfl (.inr ⟨by decide, rfl, rfl⟩) (HB.out.trans (HB1.out.mono HB.out.size))
  have h4f : (kind == 4) = false := by rw [beq_eq_false_iff_ne]; exact h4
  clear h4
  go_wp2_with fail
  refine (has_any text ⟨#[13]⟩ w1 HTX.out (by decide)).mono ?_
  rintro e w2 ⟨⟨b2, rfl⟩, hb2⟩
  have HB2 := Lib.hid (HB1.out.trans (hb2.mono HB1.out.size))
  clear hb2 x0 x1 x2 x3 x4
  obtain ⟨x0, x1, x2, x3, x4⟩ := HXC.out w2 HB2.out
  cases b2 with
  | true =>
    go_wp2_with fail
    go_ret
    exact YesSays.no rfl (HB.out.trans (HB2.out.mono HB.out.size))
  | false =>
  by_cases h5 : kind = 5
  · subst h5
    by_cases hn : name.toList = []
    · go_wp2_with fail
      refine (has_any text ⟨#[45, 45]⟩ w2 HTX.out (by decide)).mono ?_
      rintro e w3 ⟨⟨b3, rfl⟩, hb3⟩
      have HB3 := Lib.hid (HB2.out.trans (hb3.mono HB2.out.size))
      clear hb3 x0 x1 x2 x3 x4
      obtain ⟨x0, x1, x2, x3, x4⟩ := HXC.out w3 HB3.out
      cases b3 with
      | true =>
        go_wp2_with fail
        go_ret
        exact YesSays.no rfl (HB.out.trans (HB3.out.mono HB.out.size))
      | false =>
        by_cases ht : text.toList = []
        · go_wp2_with fail
          go_ret
          exact YesSays.mk _ rfl (.inr ⟨by decide, rfl, rfl⟩) (HB.out.trans (HB3.out.mono HB.out.size))
        · have hp : (1 : Int) ≤ text.size := Classical.byContradiction fun h => ht (by
            have h0 : text = ⟨#[]⟩ := by
              have h1 : text.size = 0 := by omega
              exact ByteArray.ext (Array.eq_empty_of_size_eq_zero h1)
            rw [h0, ByteArray.toList_eq])
          have hp1 : (0 : Int) ≤ (text.size : Int) - 1 := by omega
          have hp2 : (text.size : Int) - 1 < text.size := by omega
          go_wp2_with fail
          go_ret
          exact YesSays.mk _ rfl (.inr ⟨by decide, rfl, rfl⟩) (HB.out.trans (HB3.out.mono HB.out.size))
    · go_wp2_with fail
      go_ret
      exact YesSays.no rfl (HB.out.trans (HB2.out.mono HB.out.size))
  have h5f : (kind == 5) = false := by rw [beq_eq_false_iff_ne]; exact h5
  clear h5
  by_cases h6 : kind = 6
  · subst h6
    go_upto_region 18 with fail
    go_cut [152] (fun c wx => (∃ b, c = .bool b) ∧ Below W.heap.size W wx)
    case first =>
      go_wp2_with fail
      refine (rname_any name w2 HNM.out).mono ?_
      rintro e w3 ⟨⟨b3, rfl⟩, hb3⟩
      have HB3 := Lib.hid (HB2.out.trans (hb3.mono HB2.out.size))
      clear hb3 x0 x1 x2 x3 x4
      obtain ⟨x0, x1, x2, x3, x4⟩ := HXC.out w3 HB3.out
      cases b3 with
      | false =>
        go_wp2_with fail
        go_meet
        exact ⟨⟨_, rfl⟩, HB3.out⟩
      | true =>
      go_wp2_with fail
      refine (has_any text ⟨#[63, 62]⟩ w3 HTX.out (by decide)).mono ?_
      rintro e w4 ⟨⟨b4, rfl⟩, hb4⟩
      have HB4 := Lib.hid (HB3.out.trans (hb4.mono HB3.out.size))
      clear hb4 x0 x1 x2 x3 x4
      obtain ⟨x0, x1, x2, x3, x4⟩ := HXC.out w4 HB4.out
      cases b4 with
      | true =>
        go_wp2_with fail
        go_meet
        exact ⟨⟨_, rfl⟩, HB4.out⟩
      | false =>
      by_cases ht : text.toList = []
      · go_wp2_with fail
        go_meet
        exact ⟨⟨_, rfl⟩, HB4.out⟩
      · have hp : (1 : Int) ≤ text.size := Classical.byContradiction fun h => ht (by
          have h0 : text = ⟨#[]⟩ := by
            have h1 : text.size = 0 := by omega
            exact ByteArray.ext (Array.eq_empty_of_size_eq_zero h1)
          rw [h0, ByteArray.toList_eq])
        have hp2 : (0 : Int) < text.size := by omega
        go_wp2_with fail
        refine (space_any _ w4).mono ?_
        rintro e w5 ⟨⟨b5, rfl⟩, hb5⟩
        have HB5 := Lib.hid (HB4.out.trans (hb5.mono HB4.out.size))
        clear hb5 x0 x1 x2 x3 x4
        go_wp2_with fail
        go_meet
        exact ⟨⟨_, rfl⟩, HB5.out⟩
    case rest =>
      obtain ⟨⟨b, rfl⟩, hbc⟩ := hcut
      obtain ⟨W1, rfl⟩ : ∃ W1, W1 = wc := ⟨_, rfl⟩
      have HBC := Lib.hid hbc
      clear hbc x0 x1 x2 x3 x4
      cases b with
      | true =>
        go_wp2_with fail
        go_ret
        exact YesSays.no rfl (HB.out.trans (HBC.out.mono HB.out.size))
      | false =>
        go_wp2_with fail
        go_loopw [4, 5] (fun s i wr => ∃ (k : Nat) (lo : ByteArray), k ≤ name.size ∧ i = .int .i64 k ∧ s = .string lo ∧ lo.size = k ∧ Below W.heap.size W wr) (fun _ i _ => name.size - (Lib.intOf i).toNat)
        case atStart => exact ⟨0, ⟨#[]⟩, Nat.zero_le _, rfl, rfl, rfl, HBC.out⟩
        case round =>
          obtain ⟨k, lo, hk, rfl, rfl, hlo, hbr⟩ := hrel
          obtain ⟨x0, x1, x2, x3, x4⟩ := HXC.out wr hbr
          have HBR := Lib.hid hbr
          have HLO := Lib.hid hlo
          clear hbr hlo
          by_cases hlt : (k : Int) < name.size
          · have hk0 : (0 : Int) ≤ k := by omega
            go_upto_region 25 with fail
            have hcb : name[k].toNat < 256 := name[k].toNat_lt
            generalize name[k].toNat = cv at hcb ⊢
            have HCV := Lib.hid (show ∀ n : Int, (convert 166 9 (.slice (some ⟨wr.heap.size, 0, none⟩) 1 1)).run Try.prog (wr.alloc (.cells #[.int .u8 n] 5)) = .ok (.string (strOfNums [n])) (wr.alloc (.cells #[.int .u8 n] 5)) from fun n => run_convert_bytes_arg _ 166 5 Try.underlying166 Try.underlying5 wr.heap.size 0 1 1 [n] rfl (fun i hi => by
              have hi0 : i = 0 := by omega
              subst hi0
              have e9 := Go.heap_alloc_new wr (.cells #[.int .u8 n] 5)
              simp only [World.cell?, e9]; rfl) 9 Try.underlying9)
            by_cases h65 : 65 ≤ cv
            · by_cases h90 : cv ≤ 90
              · have hc32 : (cv : Int) + 32 ≤ 255 := by omega
                have hcv := HCV.out ((cv : Int) + 32)
                obtain ⟨sl, hsl⟩ : ∃ sl, strOfNums [((cv : Int) + 32 : Int)] = sl := ⟨_, rfl⟩
                have hss : sl.size = 1 := by rw [← hsl]; exact strOfNums_size _
                rw [hsl] at hcv
                have hla : ¬ (9223372036854775807 < lo.size + sl.size) := by have := HLO.out; omega
                have hlb : lo.size + sl.size ≤ 9223372036854775807 := by omega
                have HSS := Lib.hid hss
                clear hsl hss
                go_wp2_with fail
                go_roundw
                case rel => exact ⟨k + 1, lo ++ sl, by omega, by go_num, rfl, by rw [ByteArray.size_append, HLO.out, HSS.out], HBR.out.alloc HBR.out.size _⟩
                case measure => simp [Lib.intOf]; omega
              · have h90' : ¬ (cv : Int) ≤ 90 := by omega
                have hcv := HCV.out ((cv : Int))
                obtain ⟨sl, hsl⟩ : ∃ sl, strOfNums [((cv : Int) : Int)] = sl := ⟨_, rfl⟩
                have hss : sl.size = 1 := by rw [← hsl]; exact strOfNums_size _
                rw [hsl] at hcv
                have hla : ¬ (9223372036854775807 < lo.size + sl.size) := by have := HLO.out; omega
                have hlb : lo.size + sl.size ≤ 9223372036854775807 := by omega
                have HSS := Lib.hid hss
                clear hsl hss
                go_wp2_with fail
                go_roundw
                case rel => exact ⟨k + 1, lo ++ sl, by omega, by go_num, rfl, by rw [ByteArray.size_append, HLO.out, HSS.out], HBR.out.alloc HBR.out.size _⟩
                case measure => simp [Lib.intOf]; omega
            · have h65' : ¬ (65 : Int) ≤ cv := by omega
              have hcv := HCV.out ((cv : Int))
              obtain ⟨sl, hsl⟩ : ∃ sl, strOfNums [((cv : Int) : Int)] = sl := ⟨_, rfl⟩
              have hss : sl.size = 1 := by rw [← hsl]; exact strOfNums_size _
              rw [hsl] at hcv
              have hla : ¬ (9223372036854775807 < lo.size + sl.size) := by have := HLO.out; omega
              have hlb : lo.size + sl.size ≤ 9223372036854775807 := by omega
              have HSS := Lib.hid hss
              clear hsl hss
              go_wp2_with fail
              go_roundw
              case rel => exact ⟨k + 1, lo ++ sl, by omega, by go_num, rfl, by rw [ByteArray.size_append, HLO.out, HSS.out], HBR.out.alloc HBR.out.size _⟩
              case measure => simp [Lib.intOf]; omega
          · go_wp2_with fail
            go_ret
            exact YesSays.mk _ rfl (.inr ⟨by decide, rfl, rfl⟩) (HB.out.trans (HBR.out.mono HB.out.size))
  · have h6f : (kind == 6) = false := by rw [beq_eq_false_iff_ne]; exact h6
    go_wp2_with fail
    go_ret
    exact YesSays.no rfl (HB.out.trans (HB2.out.mono HB.out.size))
theorem one_fit {F : Nat → Prop} {w : World} {kind : Int} {name text : ByteArray} {attrs : List (ByteArray × ByteArray)} {kids : List Tr} {av kv : Value} (hT : TrIn F w (.mk kind name text attrs kids) av kv) (hF : ∀ k, F k → k < w.heap.size) (hS : Strs 1048576 (.mk kind name text attrs kids)) :
    Calls Try.prog 129 #[trV (.mk kind name text attrs kids) av kv] w (YesSays (OneFit kind attrs kids) w) := by
  by_cases h : kind = 2
  · subst h; exact one_elem hT hF hS
  · exact one_rest h hT hS

end Go.Proofs.Ytinkjhkbaadbpaa
/- The reference's right 98, Size 65, Right 60. -/
namespace Go.Proofs.Ytinkjhkbaadbpaa
open Go.RowKit
set_option linter.unusedVariables false
set_option linter.unusedSimpArgs false

/-- what right promises of the trees that are smaller than n -/
def RightUpto (n : Nat) : Prop := ∀ (t : Tr) (F : Nat → Prop) (w : World) (av kv : Value) (deep : Int), t.size ≤ n → TrIn F w t av kv → (∀ k, F k → k < w.heap.size) → Strs 1048576 t → 0 ≤ deep → deep + t.size ≤ 1099511627776 →
  Calls Try.prog 98 #[trV t av kv, iv deep] w (YesSays (Fit t) w)
theorem fits_of : ∀ {ts : List Tr}, (∀ (k : Nat) (t : Tr), ts[k]? = some t → Fit t) → Fits ts
  | [], _ => by simp [Fits]
  | t :: ts, h => by
    simp only [Fits]
    exact ⟨h 0 t rfl, fits_of (fun k u hu => h (k + 1) u (by simpa using hu))⟩
set_option maxRecDepth 100000 in
set_option maxHeartbeats 8000000 in
theorem right_step (n : Nat) (ih : RightUpto n) : RightUpto (n + 1) := by
  intro t F w av kv deep hn hT hF hS hd0 hd
  obtain ⟨kind, name, text, attrs, kids⟩ := t
  have hT0 := hT
  simp only [TrIn] at hT
  obtain ⟨⟨a1, c1, rfl, -, -⟩, zs, ⟨a2, c2, rfl, hkl, hkc⟩, hKs⟩ := hT
  have hS0 := hS
  simp only [Strs] at hS
  simp only [Tr.size] at hn hd
  obtain ⟨W, hW⟩ : ∃ W, w.alloc (.cells #[.int .i64 kind, .string name, .string text, .slice a1 attrs.length c1, .slice a2 kids.length c2] 25) = W := ⟨_, rfl⟩
  have hbW : Below w.heap.size w W := by rw [← hW]; exact (Below.refl _ _).alloc (Nat.le_refl _) _
  have hsW : W.heap.size = w.heap.size + 1 := by rw [← hW]; simp
  have hx0 : W.heap[w.heap.size]? = some (.cells #[.int .i64 kind, .string name, .string text, .slice a1 attrs.length c1, .slice a2 kids.length c2] 25 (0, 0)) := by rw [← hW]; exact Go.heap_alloc_new _ _
  have HXC := Lib.hid (show ∀ W2, Below W.heap.size W W2 → _ from fun W2 h2 => cellsN ((h2.block w.heap.size (by omega)).trans hx0))
  have hone := one_fit (w := W) (TrIn.keep (fun k hk => hbW.block k (hF k hk)) (fun k h => h) _ _ _ hT0) (fun k hk => by have := hF k hk; omega) hS0
  have HONE := Lib.hid (show Calls Try.prog 129 #[.agg #[.int .i64 kind, .string name, .string text, .slice a1 attrs.length c1, .slice a2 kids.length c2]] W _ from hone)
  have HKC := Lib.hid hkc
  have HKS := Lib.hid hKs
  have HSK := Lib.hid hS.2.2.2
  have HF := Lib.hid hF
  have HIH := Lib.hid ih
  have HW := Lib.hid hW
  have HB := Lib.hid hbW
  obtain ⟨x0, x1, x2, x3, x4⟩ := HXC.out W (Below.refl _ _)
  clear hT0 hkc hKs hS hS0 hF ih hW hbW hsW hx0 hone
  show Calls Try.prog 98 #[.agg #[.int .i64 kind, .string name, .string text, .slice a1 attrs.length c1, .slice a2 kids.length c2], iv deep] w _
  go_enter Try.func98, Try.ntmps98
  go_upto_region 1 with fail
  rw [HW.out]
  go_cut [17] (fun c wx => (∃ b, c = .bool b ∧ (b = false → OneFit kind attrs kids)) ∧ Below W.heap.size W wx)
  case first =>
    by_cases hk2 : kind = 2
    · have hk2t : (kind == 2) = true := by rw [hk2]; rfl
      clear hk2
      by_cases h12 : 12 ≤ deep
      · go_wp2_with fail
        go_meet
        exact ⟨⟨true, rfl, fun h => (by cases h)⟩, Below.refl _ _⟩
      · go_wp2_with fail
        refine HONE.out.mono ?_
        rintro e w1 ⟨⟨b, rfl, hb⟩, hb1⟩
        go_wp2_with fail
        go_meet
        exact ⟨⟨_, rfl, fun h => hb (by simpa using h)⟩, hb1⟩
    · have hk2f : (kind == 2) = false := by rw [beq_eq_false_iff_ne]; exact hk2
      clear hk2
      go_wp2_with fail
      refine HONE.out.mono ?_
      rintro e w1 ⟨⟨b, rfl, hb⟩, hb1⟩
      go_wp2_with fail
      go_meet
      exact ⟨⟨_, rfl, fun h => hb (by simpa using h)⟩, hb1⟩
  case rest =>
    obtain ⟨⟨b, rfl, hone⟩, hbc⟩ := hcut
    obtain ⟨W1, rfl⟩ : ∃ W1, W1 = wc := ⟨_, rfl⟩
    have HBC := Lib.hid hbc
    clear hbc x0 x1 x2 x3 x4
    cases b with
    | true =>
      go_wp2_with fail
      go_ret
      exact YesSays.no rfl (HB.out.trans (HBC.out.mono HB.out.size))
    | false =>
      have HOF := Lib.hid (hone rfl)
      clear hone
      go_wp2_with fail
      go_loopw [5] (fun i wr => ∃ k : Nat, k ≤ kids.length ∧ i = .int .i64 k ∧ (∀ (j : Nat) (t : Tr), j < k → kids[j]? = some t → Fit t) ∧ Below W.heap.size W wr) (fun i _ => kids.length - (Lib.intOf i).toNat)
      case atStart => exact ⟨0, Nat.zero_le _, rfl, fun j t h => by omega, HBC.out⟩
      case round =>
        obtain ⟨k, hk, rfl, hfit, hbr⟩ := hrel
        obtain ⟨x0, x1, x2, x3, x4⟩ := HXC.out wr hbr
        have HBR := Lib.hid hbr
        have HFIT := Lib.hid hfit
        clear hfit
        by_cases hlt : k < kids.length
        · obtain ⟨tk, htk⟩ : ∃ tk, kids[k]? = some tk := ⟨_, List.getElem?_eq_getElem hlt⟩
          obtain ⟨gb, offb, rfl, hFb, hcb⟩ : ∃ g off, a2 = some ⟨g, off, none⟩ ∧ F g ∧ ∀ j u, zs[j]? = some u → w.cell? ⟨g, off + j, none⟩ = some u := by
            rcases HKC.out with h | h
            · omega
            · exact h
          have hgb := HF.out gb hFb
          obtain ⟨avk, kvk, hTk, hck⟩ := HKS.out.get k tk htk
          have hSk := HSK.out.get htk
          have hszk := size_get htk
          obtain ⟨tkind, tname, ttext, tattrs, tkids⟩ := tk
          have hTk2 := hTk
          simp only [TrIn] at hTk2
          obtain ⟨⟨ak, ck1, rfl, -, -⟩, zk, ⟨bk, ck2, rfl, -, -⟩, -⟩ := hTk2
          have hbwr := HB.out.trans (hbr.mono HB.out.size)
          have hcell : ∀ c u, c < 5 → (trL (Tr.mk tkind tname ttext tattrs tkids) (.slice ak tattrs.length ck1) (.slice bk tkids.length ck2))[c]? = some u → wr.cell? ⟨gb, offb + k * 5 + c, none⟩ = some u := fun c u hc hu => by
            rw [Nat.add_assoc]
            exact (World.cell?_of_block (a := ⟨gb, offb + (k * 5 + c), none⟩) (hbwr.block gb hgb)).trans (hcb _ _ ((hck c hc).trans hu))
          have u0 : wr.cell? ⟨gb, offb + k * 5, none⟩ = some (.int .i64 tkind) := hcell 0 _ (by omega) rfl
          have u1 : wr.cell? ⟨gb, offb + k * 5 + 1, none⟩ = some (.string tname) := hcell 1 _ (by omega) rfl
          have u2 : wr.cell? ⟨gb, offb + k * 5 + 2, none⟩ = some (.string ttext) := hcell 2 _ (by omega) rfl
          have u3 : wr.cell? ⟨gb, offb + k * 5 + 3, none⟩ = some (.slice ak tattrs.length ck1) := hcell 3 _ (by omega) rfl
          have u4 : wr.cell? ⟨gb, offb + k * 5 + 4, none⟩ = some (.slice bk tkids.length ck2) := hcell 4 _ (by omega) rfl
          have HIK := Lib.hid (HIH.out (Tr.mk tkind tname ttext tattrs tkids) F wr (.slice ak tattrs.length ck1) (.slice bk tkids.length ck2) (deep + 1) (by omega) (TrIn.keep (fun j hj => hbwr.block j (HF.out j hj)) (fun _ h => h) _ _ _ hTk) (fun j hj => by have := HF.out j hj; have := hbwr.size; omega) hSk (by omega) (by omega))
          have hk0 : (0 : Int) ≤ k := by omega
          have hkl2 : (k : Int) < kids.length := by omega
          have HPREV := Lib.hid (show 0 < k → ∃ pk : Int, wr.cell? ⟨gb, offb + (k - 1) * 5, none⟩ = some (.int .i64 pk) from fun h => by
            obtain ⟨tp, htp⟩ : ∃ tp, kids[k - 1]? = some tp := ⟨_, List.getElem?_eq_getElem (by omega)⟩
            obtain ⟨avp, kvp, -, hcp⟩ := HKS.out.get (k - 1) tp htp
            refine ⟨tp.kind, ?_⟩
            exact (World.cell?_of_block (a := ⟨gb, offb + (k - 1) * 5, none⟩) (hbwr.block gb hgb)).trans (hcb _ _ ((hcp 0 (by omega)).trans rfl)))
          have HTK := Lib.hid htk
          have hd1 : deep + 1 ≤ 1099511627776 := by omega
          clear hcb hgb hTk hck hSk hszk hbwr hcell htk
          go_upto_region 6 with fail
          go_cut [56] (fun c wx => (∃ b, c = .bool b ∧ (b = false → Fit (Tr.mk tkind tname ttext tattrs tkids))) ∧ Below W.heap.size W wx)
          case first =>
            have fin : ∀ w2 b, (b = true → Fit (Tr.mk tkind tname ttext tattrs tkids)) → Below wr.heap.size wr w2 → (∃ b', Value.bool (!b) = .bool b' ∧ (b' = false → Fit (Tr.mk tkind tname ttext tattrs tkids))) ∧ Below W.heap.size W w2 := fun w2 b hb h2 => ⟨⟨_, rfl, fun h => hb (by simpa using h)⟩, HBR.out.trans (h2.mono HBR.out.size)⟩
            have FIN := Lib.hid fin
            clear fin
            by_cases hkz : 0 < k
            · obtain ⟨pk, hpk⟩ := HPREV.out hkz
              obtain ⟨j, hj⟩ : ∃ j, k - 1 = j := ⟨_, rfl⟩
              rw [hj] at hpk
              have hkj : IntKind.i64.wrap ((k : Int) - 1) = j := by rw [IntKind.wrap_i64]; omega
              have hkj2 : (k : Int) - 1 = j := by omega
              have hj0 : (0 : Int) ≤ j := by omega
              have hjl : (j : Int) < kids.length := by omega
              have hkzi : (0 : Int) < k := by omega
              clear hj
              by_cases h4 : tkind = 4
              · have h4t : (tkind == 4) = true := by rw [h4]; rfl
                clear h4
                by_cases hp4 : pk = 4
                · have hp4t : (pk == 4) = true := by rw [hp4]; rfl
                  clear hp4
                  go_wp2_with fail
                  go_meet
                  exact ⟨⟨true, rfl, fun h => (by cases h)⟩, HBR.out⟩
                · have hp4f : (pk == 4) = false := by rw [beq_eq_false_iff_ne]; exact hp4
                  clear hp4
                  go_wp2_with fail
                  refine HIK.out.mono ?_
                  rintro e w2 ⟨⟨b, rfl, hb⟩, hb2⟩
                  go_wp2_with fail
                  go_meet
                  exact FIN.out w2 b hb hb2
              · have h4f : (tkind == 4) = false := by rw [beq_eq_false_iff_ne]; exact h4
                clear h4
                go_wp2_with fail
                refine HIK.out.mono ?_
                rintro e w2 ⟨⟨b, rfl, hb⟩, hb2⟩
                go_wp2_with fail
                go_meet
                exact FIN.out w2 b hb hb2
            · have hkzi : ¬ (0 : Int) < k := by omega
              go_wp2_with fail
              refine HIK.out.mono ?_
              rintro e w2 ⟨⟨b, rfl, hb⟩, hb2⟩
              go_wp2_with fail
              go_meet
              exact FIN.out w2 b hb hb2
          case rest =>
            obtain ⟨⟨b, rfl, hft⟩, hb9⟩ := hcut
            cases b with
            | true =>
              go_wp2_with fail
              go_ret
              exact YesSays.no rfl (HB.out.trans (hb9.mono HB.out.size))
            | false =>
              have HFT := Lib.hid (hft rfl)
              clear hft
              go_wp2_with fail
              go_roundw
              case rel => exact ⟨k + 1, by omega, by go_num, fun j t hj ht => by
                by_cases e : j = k
                · subst e
                  have := HTK.out
                  rw [this] at ht
                  cases ht
                  exact HFT.out
                · exact HFIT.out j t (by omega) ht, hb9⟩
              case measure => simp [Lib.intOf]; omega
        · obtain rfl : k = kids.length := by omega
          go_wp2_with fail
          go_ret
          refine YesSays.mk true rfl ?_ (HB.out.trans (HBR.out.mono HB.out.size))
          simp only [Fit]
          have hf : Fits kids := fits_of (fun j t hj => HFIT.out j t (List.getElem?_eq_some_iff.1 hj).1 hj)
          rcases HOF.out with h | ⟨h1, h2, h3⟩
          · exact ⟨by rw [h]; decide, .inl h, hf⟩
          · exact ⟨h1, .inr ⟨h2, h3⟩, hf⟩
theorem right_upto : ∀ n, RightUpto n
  | 0 => fun t F w av kv deep h => by have := size_pos t; omega
  | n + 1 => right_step n (right_upto n)

def SizeUpto (n : Nat) : Prop := ∀ (t : Tr) (F : Nat → Prop) (w : World) (av kv : Value), t.size ≤ n → t.size ≤ 1048576 → Fit t → TrIn F w t av kv → (∀ k, F k → k < w.heap.size) →
  Calls Try.prog 65 #[trV t av kv] w fun e w' => e = .returned (iv t.size) ∧ Below w.heap.size w w'
set_option maxRecDepth 100000 in
set_option maxHeartbeats 8000000 in
theorem size_step (n : Nat) (ih : SizeUpto n) : SizeUpto (n + 1) := by
  intro t F w av kv hn hsz hfit hT hF
  obtain ⟨kind, name, text, attrs, kids⟩ := t
  simp only [TrIn] at hT
  obtain ⟨⟨a1, c1, rfl, -, -⟩, zs, ⟨a2, c2, rfl, hkl, hkc⟩, hKs⟩ := hT
  simp only [Fit] at hfit
  obtain ⟨hpk, hlf, hkf⟩ := hfit
  simp only [Tr.size] at hn hsz
  obtain ⟨W, hW⟩ : ∃ W, w.alloc (.cells #[.int .i64 kind, .string name, .string text, .slice a1 attrs.length c1, .slice a2 kids.length c2] 25) = W := ⟨_, rfl⟩
  have hbW : Below w.heap.size w W := by rw [← hW]; exact (Below.refl _ _).alloc (Nat.le_refl _) _
  have hsW : W.heap.size = w.heap.size + 1 := by rw [← hW]; simp
  have hx0 : W.heap[w.heap.size]? = some (.cells #[.int .i64 kind, .string name, .string text, .slice a1 attrs.length c1, .slice a2 kids.length c2] 25 (0, 0)) := by rw [← hW]; exact Go.heap_alloc_new _ _
  have HXC := Lib.hid (show ∀ W2, Below W.heap.size W W2 → _ from fun W2 h2 => cellsN ((h2.block w.heap.size (by omega)).trans hx0))
  have HKC := Lib.hid hkc
  have HKS := Lib.hid hKs
  have HKF := Lib.hid hkf
  have HLF := Lib.hid hlf
  have HF := Lib.hid hF
  have HIH := Lib.hid ih
  have HW := Lib.hid hW
  have HB := Lib.hid hbW
  obtain ⟨x0, x1, x2, x3, x4⟩ := HXC.out W (Below.refl _ _)
  clear hkc hKs hpk hlf hkf hF ih hW hbW hsW hx0
  show Calls Try.prog 65 #[.agg #[.int .i64 kind, .string name, .string text, .slice a1 attrs.length c1, .slice a2 kids.length c2]] w _
  go_enter Try.func65, Try.ntmps65
  go_upto_region 1 with fail
  rw [HW.out]
  by_cases hk2 : kind = 2
  · subst hk2
    go_wp2_with fail
    have hal : (attrs.length : Int) ≤ 1048576 := by omega
    go_loopw [3, 4] (fun m i wr => ∃ k : Nat, k ≤ kids.length ∧ i = .int .i64 k ∧ m = .int .i64 ((1 + attrs.length + Tr.sizes (kids.take k) : Nat) : Int) ∧ Below W.heap.size W wr) (fun _ i _ => kids.length - (Lib.intOf i).toNat)
    case atStart => exact ⟨0, Nat.zero_le _, rfl, by simp [Tr.sizes], Below.refl _ _⟩
    case round =>
      obtain ⟨k, hk, rfl, rfl, hbr⟩ := hrel
      clear x0 x1 x2 x3 x4
      obtain ⟨x0, x1, x2, x3, x4⟩ := HXC.out wr hbr
      have HBR := Lib.hid hbr
      by_cases hlt : k < kids.length
      · obtain ⟨tk, htk⟩ : ∃ tk, kids[k]? = some tk := ⟨_, List.getElem?_eq_getElem hlt⟩
        obtain ⟨gb, offb, rfl, hFb, hcb⟩ : ∃ g off, a2 = some ⟨g, off, none⟩ ∧ F g ∧ ∀ j u, zs[j]? = some u → w.cell? ⟨g, off + j, none⟩ = some u := by
          rcases HKC.out with h | h
          · omega
          · exact h
        have hgb := HF.out gb hFb
        obtain ⟨avk, kvk, hTk, hck⟩ := HKS.out.get k tk htk
        have hfk := HKF.out.get htk
        have hszk := size_get htk
        have htake : Tr.sizes (kids.take (k + 1)) = Tr.sizes (kids.take k) + tk.size := by
          rw [List.take_add_one, htk, Option.toList_some, sizes_append]; simp [Tr.sizes]
        obtain ⟨tkind, tname, ttext, tattrs, tkids⟩ := tk
        have hTk2 := hTk
        simp only [TrIn] at hTk2
        obtain ⟨⟨ak, ck1, rfl, -, -⟩, zk, ⟨bk, ck2, rfl, -, -⟩, -⟩ := hTk2
        have hbwr := HB.out.trans (hbr.mono HB.out.size)
        have hcell : ∀ c u, c < 5 → (trL (Tr.mk tkind tname ttext tattrs tkids) (.slice ak tattrs.length ck1) (.slice bk tkids.length ck2))[c]? = some u → wr.cell? ⟨gb, offb + k * 5 + c, none⟩ = some u := fun c u hc hu => by
          rw [Nat.add_assoc]
          exact (World.cell?_of_block (a := ⟨gb, offb + (k * 5 + c), none⟩) (hbwr.block gb hgb)).trans (hcb _ _ ((hck c hc).trans hu))
        have u0 : wr.cell? ⟨gb, offb + k * 5, none⟩ = some (.int .i64 tkind) := hcell 0 _ (by omega) rfl
        have u1 : wr.cell? ⟨gb, offb + k * 5 + 1, none⟩ = some (.string tname) := hcell 1 _ (by omega) rfl
        have u2 : wr.cell? ⟨gb, offb + k * 5 + 2, none⟩ = some (.string ttext) := hcell 2 _ (by omega) rfl
        have u3 : wr.cell? ⟨gb, offb + k * 5 + 3, none⟩ = some (.slice ak tattrs.length ck1) := hcell 3 _ (by omega) rfl
        have u4 : wr.cell? ⟨gb, offb + k * 5 + 4, none⟩ = some (.slice bk tkids.length ck2) := hcell 4 _ (by omega) rfl
        obtain ⟨ts, hts⟩ : ∃ ts, (Tr.mk tkind tname ttext tattrs tkids).size = ts := ⟨_, rfl⟩
        obtain ⟨sk, hsk⟩ : ∃ sk, Tr.sizes (kids.take k) = sk := ⟨_, rfl⟩
        have hik := HIH.out (Tr.mk tkind tname ttext tattrs tkids) F wr (.slice ak tattrs.length ck1) (.slice bk tkids.length ck2) (by omega) (by omega) hfk (TrIn.keep (fun j hj => hbwr.block j (HF.out j hj)) (fun _ h => h) _ _ _ hTk) (fun j hj => by have := HF.out j hj; have := hbwr.size; omega)
        rw [hts] at hik hszk htake
        rw [hsk] at hszk htake ⊢
        have HIK := Lib.hid hik
        have HTAKE := Lib.hid htake
        have hk0 : (0 : Int) ≤ k := by omega
        have hkl2 : (k : Int) < kids.length := by omega
        have hb1 : ((1 + attrs.length + sk : Nat) : Int) + ts ≤ 1048576 := by omega
        have hb0 : (0 : Int) ≤ ((1 + attrs.length + sk : Nat) : Int) := by omega
        have hb2 : (0 : Int) ≤ ts := by omega
        clear hcb hgb hTk hck hszk hbwr hcell htk hfk hik htake hts hsk hbr
        obtain ⟨mm, hmm⟩ : ∃ mm : Int, ((1 + attrs.length + sk : Nat) : Int) = mm := ⟨_, rfl⟩
        rw [hmm] at hb1 hb0 ⊢
        have HMM := Lib.hid hmm
        clear hmm
        go_wp2_with fail
        refine HIK.out.mono ?_
        rintro e w2 ⟨rfl, hb9⟩
        have HB9 := Lib.hid (HBR.out.trans (hb9.mono HBR.out.size))
        clear hb9
        go_wp2_with fail
        go_roundw
        case rel => exact ⟨k + 1, by omega, by go_num, by have := HMM.out; have := HTAKE.out; congr 1; omega, HB9.out⟩
        case measure => simp [Lib.intOf]; omega
      · obtain rfl : k = kids.length := by omega
        go_wp2_with fail
        go_ret
        refine ⟨?_, HB.out.trans (HBR.out.mono HB.out.size)⟩
        rw [List.take_length]
        rfl
  · obtain ⟨rfl, rfl⟩ := HLF.out.resolve_left hk2
    have hk2f : (kind == 2) = false := by rw [beq_eq_false_iff_ne]; exact hk2
    clear hk2
    go_wp2_with fail
    go_ret
    exact ⟨by simp [Tr.size, Tr.sizes], HB.out⟩
theorem size_upto : ∀ n, SizeUpto n
  | 0 => fun t F w av kv h => by have := size_pos t; omega
  | n + 1 => size_step n (size_upto n)
set_option maxRecDepth 100000 in
set_option maxHeartbeats 8000000 in
theorem rright_any {F : Nat → Prop} {w : World} {t : Tr} {av kv : Value} (hT : TrIn F w t av kv) (hF : ∀ k, F k → k < w.heap.size) (hS : Strs 1048576 t) (hsz : t.size ≤ 1048576) :
    Calls Try.prog 60 #[trV t av kv] w (YesSays (Fit t) w) := by
  obtain ⟨t0, ht0⟩ : ∃ t0, t = t0 := ⟨_, rfl⟩
  obtain ⟨kind, name, text, attrs, kids⟩ := t
  have hT0 := hT
  simp only [TrIn] at hT
  obtain ⟨⟨a1, c1, rfl, -, -⟩, zs, ⟨a2, c2, rfl, -, -⟩, -⟩ := hT
  obtain ⟨W, hW⟩ : ∃ W, w.alloc (.cells #[.int .i64 kind, .string name, .string text, .slice a1 attrs.length c1, .slice a2 kids.length c2] 25) = W := ⟨_, rfl⟩
  have hbW : Below w.heap.size w W := by rw [← hW]; exact (Below.refl _ _).alloc (Nat.le_refl _) _
  have hsW : W.heap.size = w.heap.size + 1 := by rw [← hW]; simp
  have hx0 : W.heap[w.heap.size]? = some (.cells #[.int .i64 kind, .string name, .string text, .slice a1 attrs.length c1, .slice a2 kids.length c2] 25 (0, 0)) := by rw [← hW]; exact Go.heap_alloc_new _ _
  have HXC := Lib.hid (show ∀ W2, Below W.heap.size W W2 → _ from fun W2 h2 => cellsN ((h2.block w.heap.size (by omega)).trans hx0))
  have HTW := Lib.hid (show ∀ W2, Below W.heap.size W W2 → TrIn F W2 (Tr.mk kind name text attrs kids) (.slice a1 attrs.length c1) (.slice a2 kids.length c2) from fun W2 h2 => TrIn.keep (fun k hk => (hbW.trans (h2.mono hbW.size)).block k (hF k hk)) (fun k h => h) _ _ _ hT0)
  have hrt := right_upto _ (Tr.mk kind name text attrs kids) F W (.slice a1 attrs.length c1) (.slice a2 kids.length c2) 0 (Nat.le_refl _) (HTW.out W (Below.refl _ _)) (fun k hk => by have := hF k hk; omega) hS (by omega) (by omega)
  have HRT := Lib.hid (show Calls Try.prog 98 #[.agg #[.int .i64 kind, .string name, .string text, .slice a1 attrs.length c1, .slice a2 kids.length c2], .int .i64 0] W _ from hrt)
  have HSZ := Lib.hid (show Fit (Tr.mk kind name text attrs kids) → ∀ W2, Below W.heap.size W W2 → Calls Try.prog 65 #[.agg #[.int .i64 kind, .string name, .string text, .slice a1 attrs.length c1, .slice a2 kids.length c2]] W2 _ from fun hf W2 h2 => size_upto _ (Tr.mk kind name text attrs kids) F W2 (.slice a1 attrs.length c1) (.slice a2 kids.length c2) (Nat.le_refl _) hsz hf (HTW.out W2 h2) (fun k hk => by have := hF k hk; have := h2.size; omega))
  have HW := Lib.hid hW
  have HB := Lib.hid hbW
  obtain ⟨x0, x1, x2, x3, x4⟩ := HXC.out W (Below.refl _ _)
  clear hT0 hF hS hsz hW hbW hsW hx0 hrt ht0
  show Calls Try.prog 60 #[.agg #[.int .i64 kind, .string name, .string text, .slice a1 attrs.length c1, .slice a2 kids.length c2]] w _
  go_enter Try.func60, Try.ntmps60
  go_upto_region 1 with fail
  rw [HW.out]
  by_cases hk2 : kind = 2
  · have hk2t : (kind == 2) = true := by rw [hk2]; rfl
    clear hk2
    go_wp2_with fail
    refine HRT.out.mono ?_
    rintro e w1 ⟨⟨b, rfl, hb⟩, hb1⟩
    have HB1 := Lib.hid hb1
    clear hb1 x0 x1 x2 x3 x4
    obtain ⟨x0, x1, x2, x3, x4⟩ := HXC.out w1 HB1.out
    cases b with
    | false =>
      go_wp2_with fail
      go_ret
      exact YesSays.no rfl (HB.out.trans (HB1.out.mono HB.out.size))
    | true =>
      have HFT := Lib.hid (hb rfl)
      clear hb
      go_wp2_with fail
      refine (HSZ.out HFT.out w1 HB1.out).mono ?_
      rintro e w2 ⟨rfl, hb2⟩
      have HB2 := Lib.hid (HB1.out.trans (hb2.mono HB1.out.size))
      clear hb2
      go_wp2_with fail
      go_ret
      exact YesSays.mk _ rfl HFT.out (HB.out.trans (HB2.out.mono HB.out.size))
  · have hk2f : (kind == 2) = false := by rw [beq_eq_false_iff_ne]; exact hk2
    clear hk2
    go_wp2_with fail
    go_ret
    exact YesSays.no rfl HB.out
end Go.Proofs.Ytinkjhkbaadbpaa
/- step (57): a call of both views that puts, with the numbers' bounds. -/
namespace Go.Proofs.Ytinkjhkbaadbpaa
open Go.RowKit
set_option linter.unusedVariables false
set_option linter.unusedSimpArgs false

/-- both views after some puts: at most L changes -/
def StepB (R Ds Rd Dd : Nat → Prop) (n1 : Nat) (w : World) (v m s v2 s2 : Nat) (S : Store) (d : Doc) (L : Nat) : Prop :=
  ∃ (o : Owns) (L2 : List Own), Duo R Ds Rd Dd n1 w v m s v2 s2 ⟨o, 3⟩ S ⟨L2, 3⟩ d ∧ ownOf L2 = o ∧ L2.length ≤ L ∧ ∀ e ∈ L2, 0 ≤ e.1 ∧ e.1 ≤ 9223372036854775807
theorem StepB.below {R Ds Rd Dd : Nat → Prop} {n1 : Nat} {w w' : World} {v m s v2 s2 : Nat} {S : Store} {d : Doc} {L : Nat} (h : StepB R Ds Rd Dd n1 w v m s v2 s2 S d L) (hb : Below w.heap.size w w') : StepB R Ds Rd Dd n1 w' v m s v2 s2 S d L := by
  obtain ⟨o, L2, h1, h2⟩ := h
  exact ⟨o, L2, h1.below hb, h2⟩
theorem StepB.mono {R Ds Rd Dd : Nat → Prop} {n1 : Nat} {w : World} {v m s v2 s2 : Nat} {S : Store} {d : Doc} {L L' : Nat} (h : StepB R Ds Rd Dd n1 w v m s v2 s2 S d L) (hL : L ≤ L') : StepB R Ds Rd Dd n1 w v m s v2 s2 S d L' := by
  obtain ⟨o, L2, h1, h2, h3, h4⟩ := h
  exact ⟨o, L2, h1, h2, by omega, h4⟩

set_option maxRecDepth 100000 in
set_option maxHeartbeats 4000000 in
theorem step_put {R Ds Rd Dd F : Nat → Prop} {n1 : Nat} {w : World} {p v m s v2 s2 : Nat} {S : Store} {d : Doc} {L : Nat} (hst : StepB R Ds Rd Dd n1 w v m s v2 s2 S d L) (hp : w.heap[p]? = some (.cells #[ptr v, ptr v2] 108 (0, 0)))
    (x : Sp) {kv av tav tkv : Value} (hkv : IntsIn F w kv x.r.kids) (hav : IntsIn F w av x.r.attrs) (hok : RecOk x.r) (hT : TrIn F w x.n tav tkv) (hA : Aside R Rd w v m v2 (fun k => F k ∨ k = p)) (hL : L ≤ 500000000) (hk0 : x.kind = 0) (hidx : x.id ≤ 9223372036854775807) :
    Calls Try.prog 57 #[ptr p, spV x kv av tav tkv] w fun e w' => (∃ b, e = .returned (.bool b)) ∧ StepB R Ds Rd Dd n1 w' v m s v2 s2 S d (L + 1) ∧ Chg (Turns R Rd m v2) w w' := by
  obtain ⟨kind, id, ⟨rkind, rname, rtext, rparent, rkids, rattrs, rgone⟩, n⟩ := x
  have hT2 := hT
  obtain ⟨nkind, nname, ntext, nattrs, nkids⟩ := n
  simp only [TrIn] at hT2
  obtain ⟨⟨a1, c1, rfl, -, -⟩, zs, ⟨a2, c2, rfl, -, -⟩, -⟩ := hT2
  obtain ⟨t, ht⟩ : ∃ t, Tr.mk nkind nname ntext nattrs nkids = t := ⟨_, rfl⟩
  have hkv2 := hkv
  have hav2 := hav
  obtain ⟨ka, kc, rfl, -, -, -⟩ := hkv2
  obtain ⟨aa, ac, rfl, -, -, -⟩ := hav2
  simp only at *
  obtain ⟨W, hW⟩ : ∃ W, w.alloc (.cells #[.int .i64 kind, .int .i64 id, .int .i64 rkind, .string rname, .string rtext, .int .i64 rparent, .slice ka rkids.length kc, .slice aa rattrs.length ac, .bool rgone, .int .i64 nkind, .string nname, .string ntext, .slice a1 nattrs.length c1, .slice a2 nkids.length c2] 106) = W := ⟨_, rfl⟩
  have hbW : Below w.heap.size w W := by rw [← hW]; exact (Below.refl _ _).alloc (Nat.le_refl _) _
  have hsW : W.heap.size = w.heap.size + 1 := by rw [← hW]; simp
  have hx0 : W.heap[w.heap.size]? = some (.cells #[.int .i64 kind, .int .i64 id, .int .i64 rkind, .string rname, .string rtext, .int .i64 rparent, .slice ka rkids.length kc, .slice aa rattrs.length ac, .bool rgone, .int .i64 nkind, .string nname, .string ntext, .slice a1 nattrs.length c1, .slice a2 nkids.length c2] 106 (0, 0)) := by rw [← hW]; exact Go.heap_alloc_new _ _
  obtain ⟨o, L2, hd0, hown, hlen, hids⟩ := hst
  have hlt := hd0.lt
  have hpl := (Array.getElem?_eq_some_iff.1 hp).1
  have hAW : Aside R Rd W v m v2 (fun k => F k ∨ k = p ∨ k = w.heap.size) := fun k hk => by
    rcases hk with hk | rfl | rfl
    · exact hA.later hbW.size k (.inl hk)
    · exact hA.later hbW.size k (.inr rfl)
    · exact ⟨by omega, by omega, by omega, by omega, fun h => by have := hlt.2.2.2.2.1 _ h; omega, fun h => by have := hlt.2.2.2.2.2.1 _ h; omega⟩
  have hKP := Lib.hid (show ∀ wz, Chg (Turns R Rd m v2) W wz → (wz.cell? ⟨p, 0, none⟩ = some (ptr v) ∧ wz.cell? ⟨p, 1, none⟩ = some (ptr v2)) ∧ (wz.cell? ⟨w.heap.size, 0, none⟩ = some (.int .i64 kind) ∧ wz.cell? ⟨w.heap.size, 1, none⟩ = some (.int .i64 id) ∧ wz.cell? ⟨w.heap.size, 2, none⟩ = some (.int .i64 rkind) ∧ wz.cell? ⟨w.heap.size, 3, none⟩ = some (.string rname) ∧ wz.cell? ⟨w.heap.size, 4, none⟩ = some (.string rtext) ∧ wz.cell? ⟨w.heap.size, 5, none⟩ = some (.int .i64 rparent) ∧ wz.cell? ⟨w.heap.size, 6, none⟩ = some (.slice ka rkids.length kc) ∧ wz.cell? ⟨w.heap.size, 7, none⟩ = some (.slice aa rattrs.length ac) ∧ wz.cell? ⟨w.heap.size, 8, none⟩ = some (.bool rgone) ∧
      wz.cell? ⟨w.heap.size, 9, none⟩ = some (.int .i64 nkind) ∧ wz.cell? ⟨w.heap.size, 10, none⟩ = some (.string nname) ∧ wz.cell? ⟨w.heap.size, 11, none⟩ = some (.string ntext) ∧ wz.cell? ⟨w.heap.size, 12, none⟩ = some (.slice a1 nattrs.length c1) ∧ wz.cell? ⟨w.heap.size, 13, none⟩ = some (.slice a2 nkids.length c2)) from fun wz hc => by
    have hk := hAW.keeps hc
    have e1 := (hk p (.inr (.inl rfl))).trans ((hbW.block p hpl).trans hp)
    have e2 := (hk w.heap.size (.inr (.inr rfl))).trans hx0
    refine ⟨⟨?_, ?_⟩, ?_, ?_, ?_, ?_, ?_, ?_, ?_, ?_, ?_, ?_, ?_, ?_, ?_, ?_⟩ <;> simp [World.cell?, e1, e2])
  have HKF := Lib.hid (show ∀ wz, Chg (Turns R Rd m v2) W wz → Keeps F w wz ∧ Aside R Rd wz v m v2 F from fun wz hc => by
    have hk := hAW.keeps hc
    refine ⟨fun k h9 => (hk k (.inl h9)).trans (hbW.block k (hA k (.inl h9)).1), fun k h9 => hAW.later hc.size k (.inl h9)⟩)
  have HW := Lib.hid hW
  have HB := Lib.hid hbW
  have HD := Lib.hid (hd0.below hbW)
  have HT := Lib.hid hT
  have HKV := Lib.hid hkv
  have HAV := Lib.hid hav
  have HOK := Lib.hid hok
  have HTT := Lib.hid ht
  have HOWN := Lib.hid hown
  have HIDS := Lib.hid hids
  have HIDX := Lib.hid hidx
  have HK0 := Lib.hid hk0
  clear hW hbW hx0 hd0 hp hA hAW hT hkv hav hok ht hown hlt hids hidx hk0
  show Calls Try.prog 57 #[ptr p, .agg #[.int .i64 kind, .int .i64 id, .int .i64 rkind, .string rname, .string rtext, .int .i64 rparent, .slice ka rkids.length kc, .slice aa rattrs.length ac, .bool rgone, .int .i64 nkind, .string nname, .string ntext, .slice a1 nattrs.length c1, .slice a2 nkids.length c2]] w _
  go_enter Try.func57, Try.ntmps57
  go_upto_region 1 with fail
  rw [HW.out]
  obtain ⟨-, b0, -⟩ := hKP.out W (Chg.refl _ _)
  have hkb : (kind == 0) = true := beq_iff_eq.2 HK0.out
  go_wp2_with fail
  clear b0
  have hcur : Chg (Turns R Rd m v2) W W.drew := chg_new (Below.refl _ _).drew
  obtain ⟨hkF, haF⟩ := HKF.out _ hcur
  have hp1 := (HD.out.below (Below.refl _ _).drew).put id HOK.out (x := recV ⟨rkind, rname, rtext, rparent, rkids, rattrs, rgone⟩ (.slice ka rkids.length kc) (.slice aa rattrs.length ac)) ⟨_, _, rfl, HKV.out.keep hkF, HAV.out.keep hkF⟩ haF
  obtain ⟨x1, hx1⟩ : ∃ x1 : Int, (if putOk id ⟨rkind, rname, rtext, rparent, rkids, rattrs, rgone⟩ then 0 else 2) = x1 := ⟨_, rfl⟩
  rw [hx1] at hp1
  have HP1 := Lib.hid hp1
  clear hp1 hkF haF
  go_region_held3 (fun wz => (wz.cell? ⟨p, 0, none⟩ = some (ptr v) ∧ wz.cell? ⟨p, 1, none⟩ = some (ptr v2)) ∧ (wz.cell? ⟨w.heap.size, 0, none⟩ = some (.int .i64 kind) ∧ wz.cell? ⟨w.heap.size, 1, none⟩ = some (.int .i64 id) ∧ wz.cell? ⟨w.heap.size, 2, none⟩ = some (.int .i64 rkind) ∧ wz.cell? ⟨w.heap.size, 3, none⟩ = some (.string rname) ∧ wz.cell? ⟨w.heap.size, 4, none⟩ = some (.string rtext) ∧ wz.cell? ⟨w.heap.size, 5, none⟩ = some (.int .i64 rparent) ∧ wz.cell? ⟨w.heap.size, 6, none⟩ = some (.slice ka rkids.length kc) ∧ wz.cell? ⟨w.heap.size, 7, none⟩ = some (.slice aa rattrs.length ac) ∧ wz.cell? ⟨w.heap.size, 8, none⟩ = some (.bool rgone) ∧
    wz.cell? ⟨w.heap.size, 9, none⟩ = some (.int .i64 nkind) ∧ wz.cell? ⟨w.heap.size, 10, none⟩ = some (.string nname) ∧ wz.cell? ⟨w.heap.size, 11, none⟩ = some (.string ntext) ∧ wz.cell? ⟨w.heap.size, 12, none⟩ = some (.slice a1 nattrs.length c1) ∧ wz.cell? ⟨w.heap.size, 13, none⟩ = some (.slice a2 nkids.length c2)))
    (exact hKP.out _ hcur)
    (first
      | ((go_at_call 66; (with_reducible refine HP1.out.mono ?_); rintro e w4 ⟨rfl, hd4, hc4⟩; have hcur := hcur.trans hc4; have HD4 := Lib.hid hd4; have hkf4 := HKF.out _ hcur; have HP2 := Lib.hid (hd4.rput id HOK.out (x := recV ⟨rkind, rname, rtext, rparent, rkids, rattrs, rgone⟩ (.slice ka rkids.length kc) (.slice aa rattrs.length ac)) ⟨_, _, rfl, HKV.out.keep hkf4.1, HAV.out.keep hkf4.1⟩ hkf4.2 (by show L2.length ≤ _; omega)); rw [hx1] at HP2; clear hd4 hc4 hkf4))
      | ((go_at_call 74; (with_reducible refine HP2.out.mono ?_); rintro e w5 ⟨rfl, hd5, hc5⟩; have hcur := hcur.trans hc5; have HD5 := Lib.hid hd5; clear hd5 hc5)))
  all_goals
    go_wp2_with fail
    go_ret
    refine ⟨⟨_, rfl⟩, ?_, (chg_new HB.out).trans hcur⟩
    have hd5 := HD5.out
    have h9 := hlen
    cases hpo : putOk id ⟨rkind, rname, rtext, rparent, rkids, rattrs, rgone⟩ with
    | true =>
      rw [hpo, if_pos rfl, if_pos rfl] at hd5
      refine ⟨_, _, hd5, by rw [ownOf_layL, HOWN.out]; rfl, by have := layL_len id ⟨rkind, rname, rtext, rparent, rkids, rattrs, rgone⟩ L2; omega, fun e he => ?_⟩
      rcases layL_mem he with rfl | h8
      · unfold putOk at hpo
        simp at hpo
        have := HIDX.out
        exact ⟨by show 0 ≤ id; omega, this⟩
      · exact HIDS.out e h8
    | false =>
      rw [hpo, if_neg (by simp), if_neg (by simp)] at hd5
      exact ⟨_, _, hd5, HOWN.out, by omega, HIDS.out⟩
end Go.Proofs.Ytinkjhkbaadbpaa
/- The reference's Same 64, SameAttrs 103, of one tree that lies twice. -/
namespace Go.Proofs.Ytinkjhkbaadbpaa
open Go.RowKit
set_option linter.unusedVariables false
set_option linter.unusedSimpArgs false

set_option maxRecDepth 100000 in
set_option maxHeartbeats 8000000 in
theorem attrs_same {F G : Nat → Prop} {w : World} {attrs : List (ByteArray × ByteArray)} {v u : Value} (hv : CellsIn F w v attrs.length (attrL attrs)) (hu : CellsIn G w u attrs.length (attrL attrs)) (hF : ∀ k, F k → k < w.heap.size) (hG : ∀ k, G k → k < w.heap.size) :
    Calls Try.prog 103 #[v, u] w fun e w' => e = .returned (.bool true) ∧ Below w.heap.size w w' := by
  obtain ⟨a, c, rfl, hl, hx⟩ := hv
  obtain ⟨b, d, rfl, -, hy⟩ := hu
  go_enter Try.func103, Try.ntmps103
  go_wp2_with fail
  go_loopw [5] (fun i wr => ∃ k : Nat, k ≤ attrs.length ∧ i = .int .i64 k ∧ Below w.heap.size w wr) (fun i _ => attrs.length - (Lib.intOf i).toNat)
  case atStart => exact ⟨0, Nat.zero_le _, rfl, Below.refl _ _⟩
  case round =>
    obtain ⟨k, hk, rfl, hbr⟩ := hrel
    by_cases hlt : k < attrs.length
    · obtain ⟨p, hpk⟩ : ∃ p, attrs[k]? = some p := ⟨_, List.getElem?_eq_getElem hlt⟩
      obtain ⟨g, off, rfl, hg, hc⟩ := hx.resolve_left (by omega)
      obtain ⟨g2, off2, rfl, hg2, hc2⟩ := hy.resolve_left (by omega)
      have e0 : wr.cell? ⟨g, off + k * 2, none⟩ = some (.string p.1) := (hbr.cell (p := ⟨g, off + k * 2, none⟩) (hF g hg)).trans (hc _ _ (attrL_get hpk).1)
      have e1 : wr.cell? ⟨g, off + k * 2 + 1, none⟩ = some (.string p.2) := (hbr.cell (p := ⟨g, off + k * 2 + 1, none⟩) (hF g hg)).trans (hc _ _ (attrL_get hpk).2)
      have e2 : wr.cell? ⟨g2, off2 + k * 2, none⟩ = some (.string p.1) := (hbr.cell (p := ⟨g2, off2 + k * 2, none⟩) (hG g2 hg2)).trans (hc2 _ _ (attrL_get hpk).1)
      have e3 : wr.cell? ⟨g2, off2 + k * 2 + 1, none⟩ = some (.string p.2) := (hbr.cell (p := ⟨g2, off2 + k * 2 + 1, none⟩) (hG g2 hg2)).trans (hc2 _ _ (attrL_get hpk).2)
      have h0 : (0 : Int) ≤ k := by omega
      have h1 : (k : Int) < attrs.length := by omega
      have HBR := Lib.hid hbr
      clear hpk hc hc2 hbr
      go_wp2_with fail
      go_quiet (fail)
      go_wp2_with fail
      exact ⟨⟨k + 1, by omega, by go_num, below_drewN HBR.out _⟩, by simp [Lib.intOf]; omega⟩
    · go_wp2_with fail
      go_ret
      exact ⟨rfl, hbr⟩

def SameUpto (n : Nat) : Prop := ∀ (t : Tr) (F G : Nat → Prop) (w : World) (av kv av2 kv2 : Value), t.size ≤ n → TrIn F w t av kv → TrIn G w t av2 kv2 → (∀ k, F k → k < w.heap.size) → (∀ k, G k → k < w.heap.size) →
  Calls Try.prog 64 #[trV t av kv, trV t av2 kv2] w fun e w' => e = .returned (.bool true) ∧ Below w.heap.size w w'
set_option maxRecDepth 100000 in
set_option maxHeartbeats 8000000 in
theorem same_step (n : Nat) (ih : SameUpto n) : SameUpto (n + 1) := by
  intro t F G w av kv av2 kv2 hn hT hU hF hG
  obtain ⟨kind, name, text, attrs, kids⟩ := t
  simp only [TrIn] at hT hU
  obtain ⟨hA, zs, hK, hKs⟩ := hT
  obtain ⟨hA2, zs2, hK2, hKs2⟩ := hU
  have hA0 := hA
  have hA20 := hA2
  obtain ⟨a1, c1, rfl, hal, -⟩ := hA0
  obtain ⟨a2, c2, rfl, hkl, hkc⟩ := hK
  obtain ⟨b1, d1, rfl, -, -⟩ := hA20
  obtain ⟨b2, d2, rfl, -, hkc2⟩ := hK2
  simp only [Tr.size] at hn
  obtain ⟨W1, hW1⟩ : ∃ W1, w.alloc (.cells #[.int .i64 kind, .string name, .string text, .slice a1 attrs.length c1, .slice a2 kids.length c2] 25) = W1 := ⟨_, rfl⟩
  have hb1 : Below w.heap.size w W1 := by rw [← hW1]; exact (Below.refl _ _).alloc (Nat.le_refl _) _
  have hs1 : W1.heap.size = w.heap.size + 1 := by rw [← hW1]; simp
  have hx0 : W1.heap[w.heap.size]? = some (.cells #[.int .i64 kind, .string name, .string text, .slice a1 attrs.length c1, .slice a2 kids.length c2] 25 (0, 0)) := by rw [← hW1]; exact Go.heap_alloc_new _ _
  obtain ⟨W, hW⟩ : ∃ W, W1.alloc (.cells #[.int .i64 kind, .string name, .string text, .slice b1 attrs.length d1, .slice b2 kids.length d2] 25) = W := ⟨_, rfl⟩
  have hb2 : Below W1.heap.size W1 W := by rw [← hW]; exact (Below.refl _ _).alloc (Nat.le_refl _) _
  have hs2 : W.heap.size = W1.heap.size + 1 := by rw [← hW]; simp
  have hy0 : W.heap[w.heap.size + 1]? = some (.cells #[.int .i64 kind, .string name, .string text, .slice b1 attrs.length d1, .slice b2 kids.length d2] 25 (0, 0)) := by rw [← hs1, ← hW]; exact Go.heap_alloc_new _ _
  have hx1 := (hb2.block w.heap.size (by omega)).trans hx0
  have hbW : Below w.heap.size w W := hb1.trans (hb2.mono (by omega))
  have HXC := Lib.hid (show ∀ W2, Below W.heap.size W W2 → _ ∧ _ from fun W2 h2 => ⟨cellsN ((h2.block w.heap.size (by omega)).trans hx1), cellsN ((h2.block (w.heap.size + 1) (by omega)).trans hy0)⟩)
  have HSA := Lib.hid (attrs_same (w := W) (hA.keep (fun k hk => hbW.block k (hF k hk))) (hA2.keep (fun k hk => hbW.block k (hG k hk))) (fun k hk => by have := hF k hk; omega) (fun k hk => by have := hG k hk; omega))
  have HKC := Lib.hid hkc
  have HKS := Lib.hid hKs
  have HKC2 := Lib.hid hkc2
  have HKS2 := Lib.hid hKs2
  have HF := Lib.hid hF
  have HG := Lib.hid hG
  have HIH := Lib.hid ih
  have HW1 := Lib.hid hW1
  have HW := Lib.hid hW
  have HS1 := Lib.hid hs1
  have HB := Lib.hid hbW
  have hne1 : (name.toList != name.toList) = false := by simp
  have hne2 : (text.toList != text.toList) = false := by simp
  have hne0 : (kind != kind) = false := by simp
  obtain ⟨⟨x0, x1, x2, x3, x4⟩, y0, y1, y2, y3, y4⟩ := HXC.out W (Below.refl _ _)
  clear hA hA2 hkc hKs hkc2 hKs2 hF hG ih hW1 hb1 hs1 hx0 hW hb2 hs2 hy0 hx1 hbW
  show Calls Try.prog 64 #[.agg #[.int .i64 kind, .string name, .string text, .slice a1 attrs.length c1, .slice a2 kids.length c2], .agg #[.int .i64 kind, .string name, .string text, .slice b1 attrs.length d1, .slice b2 kids.length d2]] w _
  go_enter Try.func64, Try.ntmps64
  go_upto_region 1 with fail
  rw [HW1.out, HW.out]
  go_wp2_with fail
  refine HSA.out.mono ?_
  rintro e w1 ⟨rfl, hb1⟩
  have HB1 := Lib.hid hb1
  clear hb1 x0 x1 x2 x3 x4 y0 y1 y2 y3 y4
  obtain ⟨⟨x0, x1, x2, x3, x4⟩, y0, y1, y2, y3, y4⟩ := HXC.out w1 HB1.out
  go_wp2_with fail
  go_loopw [5] (fun i wr => ∃ k : Nat, k ≤ kids.length ∧ i = .int .i64 k ∧ Below W.heap.size W wr) (fun i _ => kids.length - (Lib.intOf i).toNat)
  case atStart => exact ⟨0, Nat.zero_le _, rfl, HB1.out⟩
  case round =>
    obtain ⟨k, hk, rfl, hbr⟩ := hrel
    clear x0 x1 x2 x3 x4 y0 y1 y2 y3 y4
    obtain ⟨⟨x0, x1, x2, x3, x4⟩, y0, y1, y2, y3, y4⟩ := HXC.out wr hbr
    by_cases hlt : k < kids.length
    · obtain ⟨tk, htk⟩ : ∃ tk, kids[k]? = some tk := ⟨_, List.getElem?_eq_getElem hlt⟩
      obtain ⟨g, off, rfl, hg, hc⟩ := HKC.out.resolve_left (by omega)
      obtain ⟨g2, off2, rfl, hg2, hc2⟩ := HKC2.out.resolve_left (by omega)
      obtain ⟨avk, kvk, hTk, hck⟩ := HKS.out.get k tk htk
      obtain ⟨avk2, kvk2, hTk2, hck2⟩ := HKS2.out.get k tk htk
      have hszk := size_get htk
      obtain ⟨tkind, tname, ttext, tattrs, tkids⟩ := tk
      have hTk0 := hTk
      have hTk20 := hTk2
      simp only [TrIn] at hTk0 hTk20
      obtain ⟨⟨ak, e1, rfl, -, -⟩, zk, ⟨bk, e2, rfl, -, -⟩, -⟩ := hTk0
      obtain ⟨⟨ak2, e3, rfl, -, -⟩, zk2, ⟨bk2, e4, rfl, -, -⟩, -⟩ := hTk20
      have hbwr := HB.out.trans (hbr.mono HB.out.size)
      have hcell : ∀ c u, c < 5 → (trL (Tr.mk tkind tname ttext tattrs tkids) (.slice ak tattrs.length e1) (.slice bk tkids.length e2))[c]? = some u → wr.cell? ⟨g, off + k * 5 + c, none⟩ = some u := fun c u hcc hu => by
        rw [Nat.add_assoc]
        exact (World.cell?_of_block (a := ⟨g, off + (k * 5 + c), none⟩) (hbwr.block g (HF.out g hg))).trans (hc _ _ ((hck c hcc).trans hu))
      have hcell2 : ∀ c u, c < 5 → (trL (Tr.mk tkind tname ttext tattrs tkids) (.slice ak2 tattrs.length e3) (.slice bk2 tkids.length e4))[c]? = some u → wr.cell? ⟨g2, off2 + k * 5 + c, none⟩ = some u := fun c u hcc hu => by
        rw [Nat.add_assoc]
        exact (World.cell?_of_block (a := ⟨g2, off2 + (k * 5 + c), none⟩) (hbwr.block g2 (HG.out g2 hg2))).trans (hc2 _ _ ((hck2 c hcc).trans hu))
      have u0 : wr.cell? ⟨g, off + k * 5, none⟩ = some (.int .i64 tkind) := hcell 0 _ (by omega) rfl
      have u1 : wr.cell? ⟨g, off + k * 5 + 1, none⟩ = some (.string tname) := hcell 1 _ (by omega) rfl
      have u2 : wr.cell? ⟨g, off + k * 5 + 2, none⟩ = some (.string ttext) := hcell 2 _ (by omega) rfl
      have u3 : wr.cell? ⟨g, off + k * 5 + 3, none⟩ = some (.slice ak tattrs.length e1) := hcell 3 _ (by omega) rfl
      have u4 : wr.cell? ⟨g, off + k * 5 + 4, none⟩ = some (.slice bk tkids.length e2) := hcell 4 _ (by omega) rfl
      have v0 : wr.cell? ⟨g2, off2 + k * 5, none⟩ = some (.int .i64 tkind) := hcell2 0 _ (by omega) rfl
      have v1 : wr.cell? ⟨g2, off2 + k * 5 + 1, none⟩ = some (.string tname) := hcell2 1 _ (by omega) rfl
      have v2 : wr.cell? ⟨g2, off2 + k * 5 + 2, none⟩ = some (.string ttext) := hcell2 2 _ (by omega) rfl
      have v3 : wr.cell? ⟨g2, off2 + k * 5 + 3, none⟩ = some (.slice ak2 tattrs.length e3) := hcell2 3 _ (by omega) rfl
      have v4 : wr.cell? ⟨g2, off2 + k * 5 + 4, none⟩ = some (.slice bk2 tkids.length e4) := hcell2 4 _ (by omega) rfl
      have hbd := hbwr.drew
      have HIK := Lib.hid (HIH.out (Tr.mk tkind tname ttext tattrs tkids) F G wr.drew (.slice ak tattrs.length e1) (.slice bk tkids.length e2) (.slice ak2 tattrs.length e3) (.slice bk2 tkids.length e4) (by omega) (TrIn.keep (fun j hj => hbd.block j (HF.out j hj)) (fun _ h => h) _ _ _ hTk) (TrIn.keep (fun j hj => hbd.block j (HG.out j hj)) (fun _ h => h) _ _ _ hTk2) (fun j hj => by have := HF.out j hj; have := hbd.size; omega) (fun j hj => by have := HG.out j hj; have := hbd.size; omega))
      have hk0 : (0 : Int) ≤ k := by omega
      have hkl2 : (k : Int) < kids.length := by omega
      have HBR := Lib.hid hbr
      clear hc hc2 hTk hTk2 hck hck2 hszk hbwr hcell hcell2 hbd hbr htk
      go_wp2_with fail
      go_still_tail 10, (by kernel_rfl)
      change wpList _ _ _ _ _ wr.drew
      go_wp2_with fail
      refine HIK.out.mono ?_
      rintro e w2 ⟨rfl, hb2⟩
      have HB2 := Lib.hid (HBR.out.drew.trans (hb2.mono HBR.out.drew.size))
      clear hb2
      go_wp2_with fail
      go_roundw
      case rel => exact ⟨k + 1, by omega, by go_num, HB2.out⟩
      case measure => simp [Lib.intOf]; omega
    · go_wp2_with fail
      go_ret
      exact ⟨rfl, HB.out.trans (hbr.mono HB.out.size)⟩
theorem same_upto : ∀ n, SameUpto n
  | 0 => fun t F G w av kv av2 kv2 h => by have := size_pos t; omega
  | n + 1 => same_step n (same_upto n)
end Go.Proofs.Ytinkjhkbaadbpaa
/- ViewPlants (15): the walk. -/
namespace Go.Proofs.Ytinkjhkbaadbpaa
open Go.RowKit
set_option linter.unusedVariables false
set_option linter.unusedSimpArgs false

theorem asN_mem {g : Int} {n : Nat} {i : Int} (h1 : g < i) (h2 : i ≤ g + n) : i ∈ asN g n :=
  List.mem_map.2 ⟨(i - g - 1).toNat, by rw [List.mem_range]; omega, by omega⟩
/-- what a view was told is no more than it was, and what was planted -/
theorem plant_count {o o2 : Owns} {cs cs2 : List Chn} {g : Int} {n : Nat} (h1 : ChnsOf o cs) (h2 : ChnsOf o2 cs2) (ha : Agree g (g + n) o o2) : cs2.length ≤ cs.length + n := by
  have := chns_len h2 (ks := cs.map (·.id) ++ asN g n) (fun id r hr => by
    rw [List.mem_append]
    by_cases hi : g < id ∧ id ≤ g + n
    · exact .inr (asN_mem hi.1 hi.2)
    · left
      rw [ha id hi] at hr
      exact List.mem_map.2 ⟨_, (h1.2 id r).2 hr, rfl⟩)
  rwa [List.length_append, List.length_map, asN_len] at this
theorem own_get {L : List Own} {id : Int} {r : Rec} (h : ownOf L id = some r) : ∃ e ∈ L, e.1 = id ∧ e.2 = r := by
  unfold ownOf at h
  obtain ⟨e, he, h2⟩ := Option.map_eq_some_iff.1 h
  have h3 := List.find?_some he
  simp at h3
  exact ⟨e, List.mem_of_find?_eq_some he, h3, h2⟩
set_option maxRecDepth 100000 in
set_option maxHeartbeats 8000000 in
theorem viewPlants_walk {w : World} {t : Tr} {av kv lv : Value} {xs : List Sp} (hT : TrIn (Old w.heap.size) w t av kv) (hsz : t.size ≤ 1048576) (hStr : Strs 1048576 t) (hX : SpsIn (Old w.heap.size) w lv xs) (hXok : ∀ x ∈ xs, SpOk x) (hXid : ∀ x ∈ xs, x.id ≤ 9223372036854775807) :
    Calls Try.prog 15 #[trV t av kv, lv] w fun e w' => e = .returned (.bool true) ∧ Below w.heap.size w w' := by
  have hT2 := hT
  obtain ⟨kind, name, text, attrs, kids⟩ := t
  simp only [TrIn] at hT2
  obtain ⟨⟨a1, c1, rfl, -, -⟩, tzs, ⟨a2, c2, rfl, -, -⟩, -⟩ := hT2
  obtain ⟨t, ht⟩ : ∃ t, Tr.mk kind name text attrs kids = t := ⟨_, rfl⟩
  have htr : trV t (.slice a1 attrs.length c1) (.slice a2 kids.length c2) = .agg #[.int .i64 kind, .string name, .string text, .slice a1 attrs.length c1, .slice a2 kids.length c2] := by rw [← ht]; rfl
  rw [ht] at hT hsz hStr
  obtain ⟨a3, c3, rfl, hxl, hx⟩ := hX
  obtain ⟨W, hW⟩ : ∃ W, w.alloc (.cells #[.int .i64 kind, .string name, .string text, .slice a1 attrs.length c1, .slice a2 kids.length c2] 25) = W := ⟨_, rfl⟩
  have hbB : Below w.heap.size w W := by rw [← hW]; exact (Below.refl _ _).alloc (Nat.le_refl _) _
  have hs1 : W.heap.size = w.heap.size + 1 := by rw [← hW]; simp
  have hx0 : W.heap[w.heap.size]? = some (.cells #[.int .i64 kind, .string name, .string text, .slice a1 attrs.length c1, .slice a2 kids.length c2] 25 (0, 0)) := by rw [← hW]; exact Go.heap_alloc_new _ _
  have hxc : ∀ W2 : World, W2.heap[w.heap.size]? = W.heap[w.heap.size]? → W2.cell? ⟨w.heap.size, 0, none⟩ = some (.int .i64 kind) ∧ W2.cell? ⟨w.heap.size, 1, none⟩ = some (.string name) ∧ W2.cell? ⟨w.heap.size, 2, none⟩ = some (.string text) ∧ W2.cell? ⟨w.heap.size, 3, none⟩ = some (.slice a1 attrs.length c1) ∧ W2.cell? ⟨w.heap.size, 4, none⟩ = some (.slice a2 kids.length c2) := fun W2 h2 => cellsN (h2.trans hx0)
  obtain ⟨x0, x1, x2, x3, x4⟩ := hxc W rfl
  have hTW : ∀ W2 : World, Keeps (Old w.heap.size) w W2 → TrIn (Old w.heap.size) W2 t (.slice a1 attrs.length c1) (.slice a2 kids.length c2) := fun W2 h2 => TrIn.keep h2 (fun _ h => h) _ _ _ hT
  have hfew := few_any (hTW W (keeps_below hbB)) (fun k hk => by have : k < w.heap.size := hk; omega)
  rw [htr] at hfew
  have HTE := Lib.hid ht
  have HFEW := Lib.hid hfew
  have HTW := Lib.hid hTW
  have HTR := Lib.hid htr
  have HW := Lib.hid hW
  have HXC := Lib.hid hxc
  have HBB := Lib.hid hbB
  have HS1 := Lib.hid hs1
  have HSZ := Lib.hid hsz
  have HSTR := Lib.hid hStr
  have HX := Lib.hid hx
  have HXK := Lib.hid hXok
  have HXI := Lib.hid hXid
  clear hT hW hs1 hx0 hbB hTW hfew htr ht hsz hStr hx hXok hXid hxc
  show Calls Try.prog 15 #[.agg #[.int .i64 kind, .string name, .string text, .slice a1 attrs.length c1, .slice a2 kids.length c2], .slice a3 xs.length c3] w _
  go_enter Try.func15, Try.ntmps15
  go_upto_region 1 with fail
  rw [HW.out]
  go_wp2_with fail
  refine HFEW.out.mono ?_
  rintro e w1 ⟨⟨b, rfl⟩, hbf⟩
  have hlw : w.heap.size < W.heap.size := by have := HS1.out; omega
  have HB1 := Lib.hid hbf
  clear hbf x0 x1 x2 x3 x4
  obtain ⟨x0, x1, x2, x3, x4⟩ := HXC.out w1 (HB1.out.block _ hlw)
  cases b with
  | false =>
    go_wp2_with (go_at_call 55; refine (vworks_any _).mono ?_; rintro e w5 ⟨rfl, hb5⟩)
    go_ret
    exact ⟨rfl, HBB.out.trans ((HB1.out.trans (hb5.mono HB1.out.size)).mono HBB.out.size)⟩
  | true =>
    have hbw1 := HBB.out.trans (HB1.out.mono HBB.out.size)
    have hrg := rright_any (w := w1) (HTW.out w1 (keeps_below hbw1)) (fun k hk => Nat.lt_of_lt_of_le hk hbw1.size) HSTR.out HSZ.out
    rw [HTR.out] at hrg
    have HRG := Lib.hid hrg
    have HBW1 := Lib.hid hbw1
    clear hrg hbw1
    go_wp2_with fail
    refine HRG.out.mono ?_
    rintro e w2 ⟨⟨b, rfl, hfit⟩, hb2⟩
    have HB2 := Lib.hid (HBW1.out.trans (hb2.mono HBW1.out.size))
    have hx2 := (hb2.block w.heap.size (by have := HB1.out.size; omega)).trans (HB1.out.block _ hlw)
    have hlw2 : w.heap.size < w2.heap.size := by have := HB1.out.size; have := hb2.size; omega
    clear hb2 x0 x1 x2 x3 x4
    obtain ⟨x0, x1, x2, x3, x4⟩ := HXC.out w2 hx2
    have HX2 := Lib.hid hx2
    clear hx2
    cases b with
    | false =>
      go_wp2_with (go_at_call 55; refine (vworks_any _).mono ?_; rintro e w5 ⟨rfl, hb5⟩)
      go_ret
      exact ⟨rfl, HB2.out.trans (hb5.mono HB2.out.size)⟩
    | true =>
      have HFIT := Lib.hid (hfit rfl)
      have hmd := made2_any (HTW.out w2 (keeps_below HB2.out)) (fun k hk => Nat.lt_of_lt_of_le hk HB2.out.size) (by have := HSZ.out; omega)
      rw [HTR.out] at hmd
      have HMD := Lib.hid hmd
      clear hmd hfit
      go_wp2_with fail
      refine HMD.out.mono ?_
      rintro e w3 ⟨R, Ds, Rd, Dd, p, v, m, s, v2, s2, S, d, rfl, hdu, hpc, hnp, hb3, hmid, hpas⟩
      clear x0 x1 x2 x3 x4
      have hst0 : StepB R Ds Rd Dd (w2.heap.size + 1) w3 v m s v2 s2 S d 0 := ⟨fun _ => none, [], hdu, rfl, Nat.le_refl _, by simp⟩
      -- what came in, the tree's box, and the pair stand aside
      have haF : Aside R Rd w3 v m v2 (fun k => (Old w.heap.size k ∨ k = w.heap.size) ∨ k = p) := fun k hk => by
        rcases hk with hk | rfl
        · exact hdu.aside (F := fun k => k < w2.heap.size + 1) (fun k h => h) k (hk.elim (fun h => by have h9 : k < w.heap.size := h; omega) (fun h => by omega))
        · exact hpas k rfl
      have HST0 := Lib.hid hst0
      have HMID := Lib.hid hmid
      have HAF := Lib.hid haF
      have HPC := Lib.hid hpc
      have HB3 := Lib.hid (HB2.out.trans (hb3.mono HB2.out.size))
      have HX3 := Lib.hid ((hb3.block w.heap.size hlw2).trans HX2.out)
      have HTU := Lib.hid hdu.turns
      have hlw3 : w.heap.size < w3.heap.size := by have := hb3.size; omega
      clear hdu hpc hb3 hmid hpas hst0 haF
      go_upto_block 0 with fail
      go_cut [6] from 24 to 45 (fun i wx => StepB R Ds Rd Dd (w2.heap.size + 1) wx v m s v2 s2 S d 20 ∧ Chg (Turns R Rd m v2) w3 wx)
      case first =>
        go_wp2_with fail
        go_loopw [6] (fun i wr => ∃ k : Nat, k ≤ xs.length ∧ k ≤ 20 ∧ i = .int .i64 k ∧ StepB R Ds Rd Dd (w2.heap.size + 1) wr v m s v2 s2 S d k ∧ Chg (Turns R Rd m v2) w3 wr) (fun i _ => 20 - (Lib.intOf i).toNat)
        case atStart => exact ⟨0, Nat.zero_le _, by omega, rfl, HST0.out, Chg.refl _ _⟩
        case round =>
          obtain ⟨k, hk, hk20, rfl, hst, hcr⟩ := hrel
          by_cases hgo : k < xs.length ∧ k < 20
          · obtain ⟨hlt, h20⟩ := hgo
            obtain ⟨x, hxk⟩ : ∃ x, xs[k]? = some x := ⟨_, List.getElem?_eq_getElem hlt⟩
            obtain ⟨g, off, rfl, hFg, hcc⟩ : ∃ g off, a3 = some ⟨g, off, none⟩ ∧ Old w.heap.size g ∧ ∀ (k : Nat) (x : Sp), xs[k]? = some x → ∃ kv av tav tkv, IntsIn (Old w.heap.size) w kv x.r.kids ∧ IntsIn (Old w.heap.size) w av x.r.attrs ∧ TrIn (Old w.heap.size) w x.n tav tkv ∧ ∀ j u, (spL x kv av tav tkv)[j]? = some u → w.cell? ⟨g, off + k * 14 + j, none⟩ = some u := by
              rcases HX.out with h | h
              · rw [h] at hlt; simp at hlt
              · exact h
            obtain ⟨xkv, xav, xtav, xtkv, i1, i2, i3, hce⟩ := hcc k x hxk
            have hokx := HXK.out x (List.mem_of_getElem? hxk)
            have hidx := HXI.out x (List.mem_of_getElem? hxk)
            have hkO : Keeps (Old w.heap.size) w wr := fun q hq => ((HAF.out.keeps hcr) q (.inl (.inl hq))).trans (HB3.out.block q hq)
            have hpr := ((HAF.out.keeps hcr) p (.inr rfl)).trans HPC.out
            have HSTEP := Lib.hid (fun hk0 => step_put hst hpr x (i1.keep hkO) (i2.keep hkO) hokx.1 (TrIn.keep hkO (fun _ h => h) _ _ _ i3) (F := Old w.heap.size) (fun q hq => HAF.out.later hcr.size q (hq.elim (fun h => .inl (.inl h)) .inr)) (by omega) hk0 hidx)
            obtain ⟨e0, e1, e2, e3, e4, e5, e6, e7, e8, e9, e10, e11, e12, e13⟩ := spCells hce (hkO g hFg)
            have HST := Lib.hid hst
            have HCR := Lib.hid hcr
            have hk0 : (0 : Int) ≤ k := by omega
            have hkl : (k : Int) < xs.length := by omega
            have hk6 : (k : Int) < 20 := by omega
            obtain ⟨b1, d1, rfl, -, -, -⟩ := i1
            obtain ⟨b2, d2, rfl, -, -, -⟩ := i2
            have hnk := i3
            obtain ⟨xkind, xid, ⟨rkind, rname, rtext, rparent, rkids, rattrs, rgone⟩, ⟨nkind, nname, ntext, nattrs, nkids⟩⟩ := x
            simp only [TrIn] at hnk
            obtain ⟨⟨b3, d3, rfl, -, -⟩, xzs, ⟨b4, d4, rfl, -, -⟩, -⟩ := hnk
            simp only at *
            clear hcc hce hxk hst hcr hokx hkO hpr i3 hidx
            by_cases hx0 : xkind = 0
            · have hstep := HSTEP.out hx0
              subst hx0
              unfold spV at hstep
              have HSP := Lib.hid hstep
              clear hstep HSTEP
              go_wp2_with (go_at_call 57; refine HSP.out.mono ?_; rintro e w5 ⟨⟨bb, rfl⟩, hst5, hc5⟩; have HST5 := Lib.hid hst5; have HC5 := Lib.hid hc5; clear hst5 hc5)
              go_roundw
              case rel => exact ⟨k + 1, by omega, by omega, by go_num, HST5.out, HCR.out.trans HC5.out⟩
              case measure => simp [Lib.intOf]; omega
            · have hx0' : (xkind == 0) = false := by rw [beq_eq_false_iff_ne]; exact hx0
              clear hx0 HSTEP
              go_wp2_with fail
              go_roundw
              case rel => exact ⟨k + 1, by omega, by omega, by go_num, HST.out.mono (by omega), HCR.out⟩
              case measure => simp [Lib.intOf]; omega
          · have hnot : ¬ ((k : Int) < xs.length) ∨ (((k : Int) < xs.length) ∧ ¬ ((k : Int) < 20)) := by
              by_cases h1 : k < xs.length
              · right; exact ⟨by omega, fun h2 => hgo ⟨h1, by omega⟩⟩
              · left; omega
            have HST := Lib.hid hst
            have HCR := Lib.hid hcr
            clear hgo hst hcr
            rcases hnot with hn9 | ⟨hn0, hn9⟩
            all_goals
              go_wp2_with fail
              go_meet
              exact ⟨HST.out.mono (by omega), HCR.out⟩
      case rest =>
        obtain ⟨hst, hcr⟩ := hcut
        obtain ⟨W1, rfl⟩ : ∃ W1, W1 = wc := ⟨_, rfl⟩
        obtain ⟨o, L2, hd, hown, hlen, hids⟩ := hst
        have hg1 := HMID.out.given.1
        have hgvn := plantT_g putO t 1 (1, fun _ => none)
        have hgb : 1 ≤ S.given ∧ S.given ≤ 1 + t.size := by rw [hg1]; exact hgvn
        have hsz9 := HSZ.out
        have hbc : Below w.heap.size w W1 := below_of_chg ((chg_new HB3.out).trans (hcr.mono (fun q hq => by
          have h9 := HTU.out q hq
          show w.heap.size ≤ q
          omega)))
        have hkp := HAF.out.keeps hcr
        have hp1 := (hkp p (.inr rfl)).trans HPC.out
        have hlw4 : w.heap.size < W1.heap.size := by have := hcr.size; omega
        have hpl : p < W1.heap.size := (Array.getElem?_eq_some_iff.1 hp1).1
        have hxw := (hkp w.heap.size (.inl (.inr rfl))).trans HX3.out
        have hAW := HAF.out.later hcr.size
        obtain ⟨D, D2, hDX⟩ := id hd
        have hch1 := changes_maybe hDX.vs.view (fun k hk => (hDX.vs.dl k hk).1) (ks := L2.map (·.1)) (fun id r hr => by
          rw [← hown] at hr
          obtain ⟨e, he, h1, -⟩ := own_get hr
          rw [← h1]
          exact hids e he) (fun id r hr => by
          rw [← hown] at hr
          obtain ⟨e, he, h1, -⟩ := own_get hr
          exact List.mem_map.2 ⟨e, he, h1⟩) (by rw [List.length_map]; omega)
        obtain ⟨y0, y1⟩ : W1.cell? ⟨p, 0, none⟩ = some (ptr v) ∧ W1.cell? ⟨p, 1, none⟩ = some (ptr v2) := by constructor <;> simp [World.cell?, hp1]
        have HCH1 := Lib.hid hch1
        have HD := Lib.hid hd
        have HOWN := Lib.hid hown
        have HIDS := Lib.hid hids
        have HGB := Lib.hid hgb
        have HBC := Lib.hid hbc
        have HP1 := Lib.hid hp1
        have HXW := Lib.hid hxw
        have HAW := Lib.hid hAW
        have HLEN := Lib.hid hlen
        clear hd hown hlen hids hg1 hgvn hgb hsz9 hbc hkp hp1 hxw hAW hDX hch1 hcr
        go_wp2_with fail
        refine HCH1.out.mono ?_
        rintro e w4 ⟨⟨u1, cs1, rfl, hcs1, hof1⟩, hb4⟩
        obtain ⟨ua, uc, rfl, -, -, -⟩ := hcs1
        have HOF1 := Lib.hid hof1
        have hs4 := hb4.size
        have hb4d := hb4.drew
        have hxc4 := HXC.out w4 ((hb4.block w.heap.size hlw4).trans HXW.out)
        have hp4 := (hb4.block p hpl).trans HP1.out
        have hplant := (HD.out.below hb4d).plant (t := t) (F := Old w.heap.size) (av := .slice a1 attrs.length c1) (kv := .slice a2 kids.length c2) 1 (HTW.out w4.drew ((keeps_below HBC.out).trans (fun k hk => hb4d.block k (Nat.lt_of_lt_of_le hk HBC.out.size)))) (fun k hk => HAW.out.later hb4d.size k (.inl (.inl hk))) (by have := HGB.out; omega) (by have := HGB.out; have := HSZ.out; omega)
        rw [HTR.out] at hplant
        obtain ⟨y0', y1'⟩ : w4.cell? ⟨p, 0, none⟩ = some (ptr v) ∧ w4.cell? ⟨p, 1, none⟩ = some (ptr v2) := by constructor <;> simp [World.cell?, hp4]
        obtain ⟨x0, x1, x2, x3, x4⟩ := hxc4
        have HPL := Lib.hid hplant
        have HB4 := Lib.hid hb4
        clear hof1 hb4 hb4d hp4 hplant y0 y1
        go_wp2_with fail
        go_still_tail 5, (by kernel_rfl)
        change wpList _ _ _ _ _ w4.drew
        go_wp2_with fail
        refine HPL.out.mono ?_
        rintro e w5 ⟨rfl, hd5, hc5⟩
        obtain ⟨f1, f2, f3, f4⟩ := plantT_fit t 1 S.given o HFIT.out (by have := HGB.out; omega)
        obtain ⟨o2, ho2⟩ : ∃ o2, (plantT putO t 1 (S.given, o)).2.2 = o2 := ⟨_, rfl⟩
        rw [ho2] at f3 f4
        have hd5' : Duo R Ds Rd Dd (w2.heap.size + 1) w5 v m s v2 s2 ⟨o2, 3⟩ { S with given := S.given + t.size } ⟨L2, 3⟩ d := by
          have h9 := hd5
          rw [← ho2, ← f2]
          exact h9
        have hwf : ({ S with given := S.given + (t.size : Int) } : Store).Wf := ⟨HMID.out.wf.rise, HMID.out.wf.last, HMID.out.wf.ok, HMID.out.wf.len⟩
        obtain ⟨Rb, hRl, hRk⟩ := hd5'.readsK hwf
        have hpln : Planted ((⟨o2, 3⟩ : Vw).get { S with given := S.given + (t.size : Int) }) t S.given := Planted.congr t S.given f4 (fun i r _ _ hr hgn => by
          unfold Vw.get
          simp only
          rw [hr]
          simp [hgn])
        have hnode := node_any hRk hRl HSZ.out HFIT.out hpln
        have hs5 := hc5.size
        have hAW5 := HAW.out.later (w' := w4.drew) (by have := HB4.out.drew.size; omega)
        have hkp5 := hAW5.keeps hc5
        have hb14 : ∀ k, k < W1.heap.size → w4.drew.heap[k]? = W1.heap[k]? := fun k hk => HB4.out.drew.block k hk
        have hp5 := (hkp5 p (.inr rfl)).trans ((hb14 p hpl).trans HP1.out)
        have hx5 := (hkp5 w.heap.size (.inl (.inr rfl))).trans ((hb14 w.heap.size hlw4).trans HXW.out)
        have hpl5 : p < w5.heap.size := (Array.getElem?_eq_some_iff.1 hp5).1
        have hold5 : Keeps (Old w.heap.size) w w5 := fun k hk => (hkp5 k (.inl (.inl hk))).trans ((hb14 k (by have h9 : k < w.heap.size := hk; omega)).trans (HBC.out.block k hk))
        have hbw5 : Below w.heap.size w w5 := below_of_chg (((chg_new HBC.out).trans (chg_new HB4.out.drew)).trans (hc5.mono (fun q hq => by
          have h9 := HTU.out q hq
          show w.heap.size ≤ q
          omega)))
        have hlw5 : w.heap.size < w5.heap.size := by
          have h1 := hs5
          simp only [World.drew] at h1
          omega
        rw [f1]
        obtain ⟨y0, y1⟩ : w5.cell? ⟨p, 0, none⟩ = some (ptr v) ∧ w5.cell? ⟨p, 1, none⟩ = some (ptr v2) := by constructor <;> simp [World.cell?, hp5]
        have HND := Lib.hid hnode
        have HD5 := Lib.hid hd5'
        have HF3 := Lib.hid f3
        have HP5 := Lib.hid hp5
        have HX5 := Lib.hid hx5
        have HO5 := Lib.hid hold5
        have HBW5 := Lib.hid hbw5
        clear hd5 hd5' f1 f2 f3 f4 ho2 hwf hRl hRk hpln hnode hs5 hAW5 hkp5 hb14 hp5 hx5 hold5 hbw5 y0' y1' x0 x1 x2 x3 x4 HPL
        go_wp2_with fail
        refine HND.out.mono ?_
        rintro e w6 ⟨⟨av6, kv6, rfl, hT6⟩, hb6⟩
        have ht := HTE.out
        subst ht
        have hT60 := hT6
        simp only [TrIn] at hT60
        obtain ⟨⟨b1, d1, rfl, -, -⟩, zs6, ⟨b2, d2, rfl, -, -⟩, -⟩ := hT60
        have HT6 := Lib.hid hT6
        have HB6 := Lib.hid hb6
        clear hT6 hb6 y0 y1
        go_upto_region 14 with fail
        show Code.wp _ _ _ _ (w6.alloc (.cells #[.int .i64 kind, .string name, .string text, .slice b1 attrs.length d1, .slice b2 kids.length d2] 25))
        obtain ⟨W7, hW7⟩ : ∃ W7, w6.alloc (.cells #[.int .i64 kind, .string name, .string text, .slice b1 attrs.length d1, .slice b2 kids.length d2] 25) = W7 := ⟨_, rfl⟩
        have hb7 : Below w6.heap.size w6 W7 := by rw [← hW7]; exact (Below.refl _ _).alloc (Nat.le_refl _) _
        have hs7 : w6.heap.size < W7.heap.size := by rw [← hW7]; simp
        have hy7 : W7.heap[w6.heap.size]? = some (.cells #[.int .i64 kind, .string name, .string text, .slice b1 attrs.length d1, .slice b2 kids.length d2] 25 (0, 0)) := by rw [← hW7]; exact Go.heap_alloc_new _ _
        rw [hW7]
        have hs6 := HB6.out.size
        have hb57 : Below w5.heap.size w5 W7 := HB6.out.trans (hb7.mono hs6)
        have hs57 := hb57.size
        have hlt5 := HD5.out.lt
        have HKP := Lib.hid (show ∀ W2 : World, Below W7.heap.size W7 W2 → (W2.cell? ⟨w.heap.size, 0, none⟩ = some (.int .i64 kind) ∧ W2.cell? ⟨w.heap.size, 1, none⟩ = some (.string name) ∧ W2.cell? ⟨w.heap.size, 2, none⟩ = some (.string text) ∧ W2.cell? ⟨w.heap.size, 3, none⟩ = some (.slice a1 attrs.length c1) ∧ W2.cell? ⟨w.heap.size, 4, none⟩ = some (.slice a2 kids.length c2)) ∧
            (W2.cell? ⟨w6.heap.size, 0, none⟩ = some (.int .i64 kind) ∧ W2.cell? ⟨w6.heap.size, 1, none⟩ = some (.string name) ∧ W2.cell? ⟨w6.heap.size, 2, none⟩ = some (.string text) ∧ W2.cell? ⟨w6.heap.size, 3, none⟩ = some (.slice b1 attrs.length d1) ∧ W2.cell? ⟨w6.heap.size, 4, none⟩ = some (.slice b2 kids.length d2)) ∧ W2.cell? ⟨p, 0, none⟩ = some (ptr v) from fun W2 h2 => by
          have e1 := (h2.block p (by omega)).trans ((hb57.block p hpl5).trans HP5.out)
          exact ⟨HXC.out W2 ((h2.block w.heap.size (by omega)).trans ((hb57.block w.heap.size hlw5).trans HX5.out)), cellsN ((h2.block w6.heap.size hs7).trans hy7), by simp [World.cell?, e1]⟩)
        have HSAME := Lib.hid (show ∀ W2 : World, Below W7.heap.size W7 W2 → Calls Try.prog 64 #[.agg #[.int .i64 kind, .string name, .string text, .slice a1 attrs.length c1, .slice a2 kids.length c2], .agg #[.int .i64 kind, .string name, .string text, .slice b1 attrs.length d1, .slice b2 kids.length d2]] W2 (fun e w' => e = .returned (.bool true) ∧ Below W2.heap.size W2 w') from fun W2 h2 =>
          same_upto _ (Tr.mk kind name text attrs kids) (Old w.heap.size) (fun k => w5.heap.size ≤ k ∧ k < w6.heap.size) W2 _ _ _ _ (Nat.le_refl _) (HTW.out W2 (HO5.out.trans (fun k hk => (h2.block k (by have h9 : k < w.heap.size := hk; omega)).trans (hb57.block k (by have h9 : k < w.heap.size := hk; omega)))))
            (TrIn.keep (fun k hk => (h2.block k (by have := hk.2; omega)).trans (hb7.block k hk.2)) (fun _ h => h) _ _ _ HT6.out) (fun k hk => by have h9 : k < w.heap.size := hk; have := h2.size; omega) (fun k hk => by have := hk.2; have := h2.size; omega))
        have HSIZE := Lib.hid (show ∀ W2 : World, Below W7.heap.size W7 W2 → Calls Try.prog 65 #[.agg #[.int .i64 kind, .string name, .string text, .slice a1 attrs.length c1, .slice a2 kids.length c2]] W2 (fun e w' => e = .returned (iv (Tr.mk kind name text attrs kids).size) ∧ Below W2.heap.size W2 w') from fun W2 h2 =>
          size_upto _ (Tr.mk kind name text attrs kids) (Old w.heap.size) W2 _ _ (Nat.le_refl _) HSZ.out HFIT.out (HTW.out W2 (HO5.out.trans (fun k hk => (h2.block k (by have h9 : k < w.heap.size := hk; omega)).trans (hb57.block k (by have h9 : k < w.heap.size := hk; omega))))) (fun k hk => by have h9 : k < w.heap.size := hk; have := h2.size; omega))
        have HCH2 := Lib.hid (show ∀ W2 : World, Below W7.heap.size W7 W2 → Calls Try.prog 61 #[ptr v] W2 (fun e w' => (∃ u cs, e = .returned u ∧ ChnsIn (fun k => W2.heap.size ≤ k ∧ k < w'.heap.size) w' u cs ∧ ChnsOf o2 cs) ∧ Below W2.heap.size W2 w') from fun W2 h2 => by
          obtain ⟨D9, D8, hDX⟩ := HD5.out.below (hb57.trans (h2.mono hs57))
          have hgb := HGB.out
          have hsz9 := HSZ.out
          have key : ∀ id r, o2 id = some r → id ∈ L2.map (·.1) ++ asN S.given (Tr.mk kind name text attrs kids).size ∧ 0 ≤ id ∧ id ≤ 9223372036854775807 := fun id r hr => by
            rw [List.mem_append]
            by_cases hi : S.given < id ∧ id ≤ S.given + (Tr.mk kind name text attrs kids).size
            · exact ⟨.inr (asN_mem hi.1 hi.2), by omega, by omega⟩
            · rw [HF3.out id hi, ← HOWN.out] at hr
              obtain ⟨e, he, h1, -⟩ := own_get hr
              rw [← h1]
              exact ⟨.inl (List.mem_map.2 ⟨e, he, rfl⟩), HIDS.out e he⟩
          exact changes_maybe hDX.vs.view (fun k hk => (hDX.vs.dl k hk).1) (fun id r hr => (key id r hr).2) (fun id r hr => (key id r hr).1) (by rw [List.length_append, List.length_map, asN_len]; have := HLEN.out; omega))
        obtain ⟨tsz, htsz⟩ : ∃ n : Nat, (Tr.mk kind name text attrs kids).size = n := ⟨_, rfl⟩
        have hcnt : ∀ cs2, ChnsOf o2 cs2 → (cs2.length : Int) ≤ cs1.length + tsz := fun cs2 h2 => by
          have := plant_count HOF1.out h2 HF3.out
          omega
        have hcs1l : (cs1.length : Int) ≤ 20 := by
          have := chns_len HOF1.out (ks := L2.map (·.1)) (fun id r hr => by
            rw [← HOWN.out] at hr
            obtain ⟨e, he, h1, -⟩ := own_get hr
            exact List.mem_map.2 ⟨e, he, h1⟩)
          rw [List.length_map] at this
          have := HLEN.out
          omega
        have htsl : (tsz : Int) ≤ 1048576 := by have := HSZ.out; omega
        have hts0 : (0 : Int) ≤ tsz := by omega
        have hcs0 : (0 : Int) ≤ cs1.length := by omega
        rw [htsz] at HSIZE
        have hwr : IntKind.i64.wrap ((cs1.length : Int) + tsz) = (cs1.length : Int) + tsz := by rw [IntKind.wrap_i64]; omega
        have HCNT := Lib.hid hcnt
        have HB57 := Lib.hid hb57
        have hcur : Below W7.heap.size W7 W7.drew := (Below.refl _ _).drew
        clear hcnt hW7 hb7 hs7 hy7 hs6 hb57 hs57 hlt5 htsz
        go_region_held3 (fun W2 => (W2.cell? ⟨w.heap.size, 0, none⟩ = some (.int .i64 kind) ∧ W2.cell? ⟨w.heap.size, 1, none⟩ = some (.string name) ∧ W2.cell? ⟨w.heap.size, 2, none⟩ = some (.string text) ∧ W2.cell? ⟨w.heap.size, 3, none⟩ = some (.slice a1 attrs.length c1) ∧ W2.cell? ⟨w.heap.size, 4, none⟩ = some (.slice a2 kids.length c2)) ∧
            (W2.cell? ⟨w6.heap.size, 0, none⟩ = some (.int .i64 kind) ∧ W2.cell? ⟨w6.heap.size, 1, none⟩ = some (.string name) ∧ W2.cell? ⟨w6.heap.size, 2, none⟩ = some (.string text) ∧ W2.cell? ⟨w6.heap.size, 3, none⟩ = some (.slice b1 attrs.length d1) ∧ W2.cell? ⟨w6.heap.size, 4, none⟩ = some (.slice b2 kids.length d2)) ∧ W2.cell? ⟨p, 0, none⟩ = some (ptr v))
          (exact HKP.out _ hcur)
          (first
            | ((go_at_call 64; (with_reducible refine (HSAME.out _ hcur).mono ?_); rintro e w8 ⟨rfl, hb8⟩; have hcur := hcur.trans (hb8.mono hcur.size); clear hb8))
            | ((go_at_call 61; (with_reducible refine (HCH2.out _ hcur).mono ?_); rintro e w9 ⟨⟨u9, cs9, rfl, hcs9, hof9⟩, hb9⟩; have hcur := hcur.trans (hb9.mono hcur.size); have hle9 := HCNT.out cs9 hof9; have hle8 : cs9.length ≤ cs1.length + tsz := (by omega); obtain ⟨f9, g9, rfl, -, -, -⟩ := hcs9; clear hb9 hof9))
            | ((go_at_call 65; (with_reducible refine (HSIZE.out _ hcur).mono ?_); rintro e w10 ⟨rfl, hb10⟩; have hcur := hcur.trans (hb10.mono hcur.size); clear hb10))
            | ((go_at_call 55; (with_reducible refine (vworks_any _).mono ?_); rintro e w11 ⟨rfl, hb11⟩; have hcur := hcur.trans (hb11.mono hcur.size); clear hb11)))
        all_goals
          go_wp2_with fail
          go_ret
          exact ⟨rfl, HBW5.out.trans ((HB57.out.trans (hcur.mono HB57.out.size)).mono HBW5.out.size)⟩
end Go.Proofs.Ytinkjhkbaadbpaa
