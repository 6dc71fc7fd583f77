import Derived.Test.YtinkjhkbaadbpaaV3
import Derived.Test.YtinkjhkbaadbpaaPU
import Derived.Test.YtinkjhkbaadbpaaCO
import Derived.Shelf.SlSortCmp.NoneTotal
/- Changes (61) of a view whether something was put or not; two views of one store. -/
namespace Go.Proofs.Ytinkjhkbaadbpaa
open Go.RowKit
set_option linter.unusedVariables false
set_option linter.unusedSimpArgs false

theorem sortc_none (cap : Nat) (w : World) : Calls Try.prog 99 #[.slice none 0 cap, .func (.func 100) #[] #[]] w fun e w' => e = .returned (.tuple #[]) ∧ w = w' := by
  have h := AnyF.slices_SortFunc_none (P := Try.prog) Try.laysF6 none cap (.func (.func 100) #[] #[]) w
  change Calls Try.prog 99 #[.slice none 0 cap, .func (.func 100) #[] #[]] _ _ at h
  exact h.mono (fun e w' ⟨h1, h2⟩ => ⟨h1, h2.symm⟩)

set_option maxRecDepth 100000 in
set_option maxHeartbeats 4000000 in
theorem changes_none {D : Nat → Prop} {w : World} {v m : Nat} {sp : Value} {V : Vw} (h : VIn D w v m sp V) (hno2 : ∀ id, V.own id = none) :
    Calls Try.prog 61 #[ptr v] w fun e w' => e = .returned (.slice none 0 0) ∧ Below w.heap.size w w' := by
  obtain ⟨f, hf, hf1, -⟩ := h.map
  have hfn : ∀ id, f id = none := fun id => by
    cases e : f id with
    | none => rfl
    | some x => obtain ⟨r, hr, -⟩ := hf1 id x e; rw [hno2] at hr; cases hr
  have hvl := h.lt
  have c2 : w.cell? ⟨v, 2, none⟩ = some (.map (some m)) := by simp [World.cell?, h.cell]
  have HNONE := Lib.hid (vnone_any h.cell)
  have HF := Lib.hid hf
  have HFN := Lib.hid hfn
  clear h hf hf1 hfn hvl hno2
  go_enter Try.func61, Try.ntmps61
  go_wp2_with ((first
    | (go_at_call 84; refine HNONE.out.mono ?_; rintro e w0 ⟨rfl, rfl⟩)
    | (refine wpList_mapRange rfl _ 117 rfl Try.underlying117 rfl HF.out ?_; intro ob n0 hit)))
  have hB0 : Below w.heap.size w (w.alloc ob) := (Below.refl _ w).alloc (Nat.le_refl _) _
  have HIT := Lib.hid hit
  clear hit
  go_simp
  go_loopw [3] (fun u wr => ∃ (n : Nat), u = .slice none 0 0 ∧ Iter iv wr w.heap.size m f (fun x => (f x).isSome) n ∧ Below w.heap.size w wr) (fun _ wr => iterLeft w.heap.size m wr)
  case atStart => exact ⟨n0, rfl, by simpa using HIT.out, hB0⟩
  case round =>
    obtain ⟨n, rfl, hit, hbel⟩ := hrel
    have HIT2 := Lib.hid hit
    have HBEL := Lib.hid hbel
    clear hit hbel
    go_wp2_with ((first
      | (go_at_call 99; refine (sortc_none 0 _).mono ?_; rintro e w2 ⟨rfl, rfl⟩)
      | (refine wpList_mapNext rfl _ rfl key3 rfl HIT2.out (fun hno => ?_) (fun x vx w1 ob' n' hLx hfx hst hob hi' hlt hen => ?_); rotate_left; (rw [HFN.out] at hfx; cases hfx))))
    go_ret
    exact ⟨rfl, HBEL.out⟩
theorem changes_maybe {D : Nat → Prop} {w : World} {v m : Nat} {sp : Value} {V : Vw} (h : VIn D w v m sp V) (hD : ∀ k, D k → k < w.heap.size) (hid : ∀ id r, V.own id = some r → 0 ≤ id ∧ id ≤ 9223372036854775807)
    {ks : List Int} (hks : ∀ id r, V.own id = some r → id ∈ ks) (hkl : ks.length ≤ 1000000000) :
    Calls Try.prog 61 #[ptr v] w fun e w' => (∃ u cs, e = .returned u ∧ ChnsIn (fun k => w.heap.size ≤ k ∧ k < w'.heap.size) w' u cs ∧ ChnsOf V.own cs) ∧ Below w.heap.size w w' := by
  by_cases hne : ∃ id r, V.own id = some r
  · exact changes_any h hD hid hks hkl hne
  · have hno2 : ∀ id, V.own id = none := fun id => by
      cases e : V.own id with
      | none => rfl
      | some r => exact absurd ⟨id, r, e⟩ hne
    refine (changes_none h hno2).mono ?_
    rintro e w' ⟨rfl, hb⟩
    exact ⟨⟨_, [], rfl, ⟨none, 0, rfl, by simp, by simp, .inl rfl⟩, by simp, fun id r => by simp [hno2 id]⟩, hb⟩
theorem chns_len {o : Owns} {cs : List Chn} (h : ChnsOf o cs) {ks : List Int} (hks : ∀ id r, o id = some r → id ∈ ks) : cs.length ≤ ks.length := by
  have := nodup_len h.1 (m := ks) (fun x hx => by
    obtain ⟨c, hc, rfl⟩ := List.mem_map.1 hx
    exact hks c.id c.r ((h.2 c.id c.r).1 hc))
  rwa [List.length_map] at this

/-- two views of one store: what was put in one is o; the other one has nothing of its own -/
structure Twin (R Ds D : Nat → Prop) (n0 : Nat) (w : World) (va ma vb mb s : Nat) (o : Owns) (S : Store) : Prop where
  a : VS R Ds D w va ma (ptr s) ⟨o, 0⟩ S
  b : VS R Ds (fun _ => False) w vb mb (ptr s) ⟨fun _ => none, 0⟩ S
  ap : vb ≠ ma ∧ mb ≠ ma
  le : n0 ≤ ma ∧ n0 ≤ va ∧ ∀ k, R k → n0 ≤ k
section
variable {R Ds D D' : Nat → Prop} {n0 : Nat} {w w' : World} {va ma vb mb s : Nat} {o o' : Owns} {S S' : Store}
theorem Twin.next (h : Twin R Ds D n0 w va ma vb mb s o S) (ha : VS R Ds D' w' va ma (ptr s) ⟨o', 0⟩ S') (hc : Chg (fun k => k = ma ∨ R k) w w') : Twin R Ds D' n0 w' va ma vb mb s o' S' := by
  obtain ⟨hv, hm⟩ := h.b.view.lt
  exact ⟨ha, ⟨h.b.view.keep (hc.block vb hv (fun hk => hk.elim h.ap.1 (fun hR => (h.b.rl vb hR).2.1 rfl))) (hc.block mb hm (fun hk => hk.elim h.ap.2 (fun hR => (h.b.rl mb hR).2.2.1 rfl))) (fun k hk => hk.elim), ha.store, fun k hk => ⟨(ha.rl k hk).1, (h.b.rl k hk).2⟩, fun k hk => hk.elim, fun k hk => ⟨(ha.dsl k hk).1, (h.b.dsl k hk).2⟩⟩, h.ap, h.le⟩
theorem Twin.below (h : Twin R Ds D n0 w va ma vb mb s o S) (hb : Below w.heap.size w w') : Twin R Ds D n0 w' va ma vb mb s o S := h.next (h.a.below hb) (chg_new hb)
/-- what is put -/
theorem VS.putv {v m : Nat} {sp : Value} {V : Vw} {F : Nat → Prop} (h : VS R Ds D w v m sp V S) (id : Int) {r : Rec} {x : Value} (hok : RecOk r) (hx : RecV F w x r) (hF : ∀ k, F k → k < w.heap.size) :
    Calls Try.prog 66 #[ptr v, iv id, x] w fun e w' => e = .returned (.int .i64 (if putOk id r then 0 else 2)) ∧ (∃ D', VS R Ds D' w' v m sp (if putOk id r then setV V id r else V) S) ∧ Chg (fun k => k = m) w w' := by
  refine (put_any h.view (fun k hk => ⟨(h.dl k hk).1, (h.dl k hk).2.1⟩) id hok hx hF).mono ?_
  rintro e w' (⟨hbad, he, hb⟩ | ⟨h1, h2, he, hv, hc⟩)
  · have hno : putOk id r = false := by
      unfold putOk
      rcases hbad with h9 | h9
      · rw [decide_eq_false (by omega)]; rfl
      · rw [h9]; simp
    rw [hno]
    exact ⟨he, ⟨D, h.below hb⟩, chg_new hb⟩
  · have hyes : putOk id r = true := by unfold putOk; rw [h2, decide_eq_true h1]; rfl
    rw [hyes]
    have hz := hc.size
    have hvl := h.view.lt
    refine ⟨he, ⟨_, hv, h.store.keep (hc.keeps (fun k hk => ⟨(h.rl k hk).1, (h.rl k hk).2.2.1⟩)) (hc.keeps (fun k hk => ⟨(h.dsl k hk).1, (h.dsl k hk).2.1⟩)), fun k hk => ?_, fun k hk => ?_, fun k hk => ?_⟩, hc⟩
    · have h9 := h.rl k hk
      exact ⟨Nat.lt_of_lt_of_le h9.1 hz, h9.2.1, h9.2.2.1, fun hd => hd.elim h9.2.2.2.1 (fun h8 => by omega), h9.2.2.2.2⟩
    · rcases hk with hk | hk
      · have h9 := h.dl k hk
        exact ⟨Nat.lt_of_lt_of_le h9.1 hz, h9.2⟩
      · exact ⟨hk.2, by omega, by omega⟩
    · have h9 := h.dsl k hk
      exact ⟨Nat.lt_of_lt_of_le h9.1 hz, h9.2⟩
theorem VS.readsK {v m s : Nat} {V : Vw} (h : VS R Ds D w v m (ptr s) V S) (hS : S.Wf) : ∃ Rb : Nat → Prop, (∀ k, Rb k → k < w.heap.size) ∧ ReadsK Rb w v (V.get S) := by
  refine ⟨fun k => k = v ∨ k = m ∨ R k ∨ Ds k ∨ D k, fun k hk => ?_, fun W hW hs id => ?_⟩
  · rcases hk with rfl | rfl | hk | hk | hk
    · exact h.view.lt.1
    · exact h.view.lt.2
    · exact (h.rl k hk).1
    · exact (h.dsl k hk).1
    · exact (h.dl k hk).1
  · have hv := h.view.keep (hW v (.inl rfl)) (hW m (.inr (.inl rfl))) (fun k hk => hW k (.inr (.inr (.inr (.inr hk)))))
    have hst := h.store.keep (fun k hk => hW k (.inr (.inr (.inl hk)))) (fun k hk => hW k (.inr (.inr (.inr (.inl hk)))))
    refine (get_any hv hst hS (fun k hk => hs k (.inr (.inr (.inr (.inr hk))))) (fun k hk => hs k (.inr (.inr (.inl hk)))) (fun k hk => hs k (.inr (.inr (.inr (.inl hk))))) id).mono ?_
    rintro e w' ⟨⟨kv, av, he, h1, h2⟩, hb⟩
    exact ⟨⟨kv, av, he, h1.bound.mono (fun k hk => hk), h2.bound.mono (fun k hk => hk)⟩, hb⟩
end
/-- what is told at the time 0 -/
def rootO (id : Int) : Option Rec := if id = 1 then some Rec.root else none
/-- a view without changes at the time 0, of a store that had just a root then -/
def BSt (w : World) (vb s : Nat) : Prop := ∃ R Ds mb S, VS R Ds (fun _ => False) w vb mb (ptr s) ⟨fun _ => none, 0⟩ S ∧ S.Wf ∧ ∀ id, S.at id 0 = rootO id
theorem BSt.below {w w' : World} {vb s : Nat} (h : BSt w vb s) (hb : Below w.heap.size w w') : BSt w' vb s := by
  obtain ⟨R, Ds, mb, S, h1, h2, h3⟩ := h
  exact ⟨R, Ds, mb, S, h1.below hb, h2, h3⟩
theorem BSt.get {w : World} {vb s : Nat} (h : BSt w vb s) : Calls Try.prog 29 #[ptr vb, iv 1] w fun e w' => (∃ a c a' c', e = .returned (.tuple #[recV Rec.root (.slice a 0 c) (.slice a' 0 c'), .bool true])) ∧ Below w.heap.size w w' := by
  obtain ⟨R, Ds, mb, S, h1, h2, h3⟩ := h
  have hg : (⟨fun _ => none, 0⟩ : Vw).get S 1 = some Rec.root := h3 1
  have h9 := get_any h1.view h1.store h2 (fun k hk => hk.elim) (fun k hk => (h1.rl k hk).1) (fun k hk => (h1.dsl k hk).1) 1
  rw [hg] at h9
  refine h9.mono ?_
  rintro e w' ⟨⟨kv, av, he, hk, ha⟩, hb⟩
  obtain ⟨a, c, rfl, -⟩ := hk
  obtain ⟨a', c', rfl, -⟩ := ha
  exact ⟨⟨a, c, a', c', he⟩, hb⟩
theorem BSt.all {w : World} {vb s : Nat} (h : BSt w vb s) : Calls Try.prog 28 #[ptr vb] w (AxPost w [1]) := by
  obtain ⟨R, Ds, mb, S, h1, h2, h3⟩ := h
  obtain ⟨Rb, hRl, hR⟩ := h1.readsK h2
  have hg : (⟨fun _ => none, 0⟩ : Vw).get S = rootO := funext fun id => h3 id
  rw [hg] at hR
  have h9 := all_any hR hRl (keys := [1]) (fun id hid => by
    unfold rootO at hid
    split at hid
    · simp [*]
    · exact absurd rfl hid) (by simp)
  have e : allF rootO (([1] : List Int).length + 1) = [1] := by rfl
  rw [e] at h9
  exact h9
theorem rootO_fresh {S : Store} (h : S.N = Store.fresh.N) (id : Int) : S.at id 0 = rootO id := by
  unfold Store.at rootO
  rw [h]
  unfold Store.fresh
  by_cases h1 : id = 1
  · simp [h1, Rec.root]
  · simp [h1]
theorem rootO_put {S : Store} (h : S.N = Store.fresh.N) (cs : List Chn) (id : Int) : (S.put 9 cs).at id 0 = rootO id := by
  rw [← rootO_fresh h id]
  unfold Store.at
  have e : ((S.put 9 cs).N id).filter (fun v => decide (v.time ≤ 0)) = (S.N id).filter (fun v => decide (v.time ≤ 0)) := by
    show (cs.foldl (putN 9) S.N id).filter _ = _
    rw [putN_fold, List.filter_append]
    have e2 : (versOf id (cs.map (entOf 9))).filter (fun v => decide (v.time ≤ 0)) = [] := by
      rw [List.filter_eq_nil_iff]
      intro v hv
      unfold versOf at hv
      obtain ⟨x, hx, rfl⟩ := List.mem_map.1 hv
      obtain ⟨c, -, rfl⟩ := List.mem_map.1 (List.mem_filter.1 hx).1
      simp [entOf]
    rw [e2, List.append_nil]
  rw [e]
/-- the twin views after some calls -/
def TwinSt (R Ds : Nat → Prop) (n0 : Nat) (w : World) (va ma vb mb s : Nat) (S : Store) (B : Nat) : Prop :=
  ∃ (D : Nat → Prop) (o : Owns) (ks : List Int), Twin R Ds D n0 w va ma vb mb s o S ∧ (∀ id r, o id = some r → id ∈ ks ∧ 0 ≤ id ∧ id ≤ 9223372036854775807) ∧ ks.length ≤ B
section
variable {R Ds : Nat → Prop} {n0 : Nat} {w w' : World} {va ma vb mb s : Nat} {S : Store} {B B' : Nat}
theorem TwinSt.below (h : TwinSt R Ds n0 w va ma vb mb s S B) (hb : Below w.heap.size w w') : TwinSt R Ds n0 w' va ma vb mb s S B := by
  obtain ⟨D, o, ks, h1, h2⟩ := h
  exact ⟨D, o, ks, h1.below hb, h2⟩
theorem TwinSt.mono (h : TwinSt R Ds n0 w va ma vb mb s S B) (hb : B ≤ B') : TwinSt R Ds n0 w va ma vb mb s S B' := by
  obtain ⟨D, o, ks, h1, h2, h3⟩ := h
  exact ⟨D, o, ks, h1, h2, by omega⟩
theorem TwinSt.put {F : Nat → Prop} (h : TwinSt R Ds n0 w va ma vb mb s S B) (id : Int) (hid : id ≤ 9223372036854775807) {r : Rec} {x : Value} (hok : RecOk r) (hx : RecV F w x r) (hF : ∀ k, F k → k < w.heap.size) :
    Calls Try.prog 66 #[ptr va, iv id, x] w fun e w' => (∃ n, e = .returned (iv n)) ∧ TwinSt R Ds n0 w' va ma vb mb s S (B + 1) ∧ Chg (fun k => k = ma ∨ R k) w w' := by
  obtain ⟨D, o, ks, h1, h2, h3⟩ := h
  refine (h1.a.putv id hok hx hF).mono ?_
  rintro e w' ⟨he, ⟨D', hvs⟩, hc⟩
  have hc2 : Chg (fun k => k = ma ∨ R k) w w' := hc.mono (fun k hk => .inl hk)
  refine ⟨⟨_, he⟩, ?_, hc2⟩
  by_cases hp : putOk id r = true
  · rw [if_pos hp] at hvs
    refine ⟨D', fun j => if j = id then some r else o j, id :: ks, h1.next hvs hc2, fun j r' hj => ?_, by simp; omega⟩
    unfold putOk at hp
    simp at hp
    by_cases e : j = id
    · exact ⟨by simp [e], by omega, by omega⟩
    · simp only [if_neg e] at hj
      have := h2 j r' hj
      exact ⟨by simp [this.1], this.2⟩
  · rw [if_neg hp] at hvs
    exact ⟨D', o, ks, h1.next hvs hc2, h2, by omega⟩
theorem TwinSt.fresh (h : TwinSt R Ds n0 w va ma vb mb s S B) (h0 : 0 ≤ S.given) (hg : S.given < 9223372036854775807) :
    Calls Try.prog 54 #[ptr s] w fun e w' => e = .returned (iv (S.given + 1)) ∧ TwinSt R Ds n0 w' va ma vb mb s { S with given := S.given + 1 } B ∧ Chg R w w' := by
  obtain ⟨D, o, ks, h1, h2⟩ := h
  refine (h1.a.fresh h0 hg).mono ?_
  rintro e w' ⟨he, hvs, hc⟩
  exact ⟨he, ⟨D, o, ks, h1.next hvs (hc.mono (fun k hk => .inr hk)), h2⟩, hc⟩
end
/-- a row of changes that the call laid, as it is handed on -/
theorem chns_of_row {B : Nat} {Dl F : Nat → Prop} {w : World} {u : Value} {L : List Own} {xs : List Value} (hown : w.ownsRow B 125 8 u L.length xs) (hare : OwnsAre Dl w L xs) (hDl : ∀ k, Dl k → F k) (hu : ∀ g, u.ownBlock = some g → F g) :
    ChnsIn F w u (L.map (fun e => (⟨e.1, e.2⟩ : Chn))) := by
  obtain ⟨hll, ⟨e1, h0⟩ | ⟨g, cap, cur, e1, hbg, hgg, h1, h2, h3, h4⟩⟩ := hown
  · have hz : L = [] := List.eq_nil_of_length_eq_zero h0
    subst hz
    rw [e1]
    exact ⟨none, 0, rfl, by simp, by simp, .inl rfl⟩
  · refine ⟨some ⟨g, 0, none⟩, cap, by rw [e1]; simp, by simpa using h1, h2, .inr ⟨g, 0, rfl, hu g (by rw [e1]; rfl), fun k c hk => ?_⟩⟩
    rw [List.getElem?_map] at hk
    obtain ⟨e, he, rfl⟩ := Option.map_eq_some_iff.1 hk
    obtain ⟨kv, av, i1, i2, hc⟩ := hare.get k e he
    refine ⟨kv, av, i1.mono hDl, i2.mono hDl, fun j x hj => ?_⟩
    have hj8 : j < 8 := by have := (List.getElem?_eq_some_iff.1 hj).1; simpa using this
    have h5 := (hc j hj8).trans hj
    have hkl := (List.getElem?_eq_some_iff.1 he).1
    have h4' : cur.toList.take (L.length * 8) = xs := h4
    rw [← h4', List.getElem?_take_of_lt (by omega)] at h5
    simp only [World.cell?, hgg, Nat.zero_add]
    rw [Array.getElem?_toList] at h5
    exact h5
/-- a store and two views of it, made -/
theorem twin_fresh {w w1 w2 w3 : World} {s : Nat} (hp : StoreIn (New w.heap.size) (fun _ => False) w1 (ptr s) Store.fresh) (hb1 : Below w.heap.size w w1)
    (hv : VIn (fun _ => False) w2 (w1.heap.size + 1) w1.heap.size (ptr s) ⟨fun _ => none, 0⟩) (hb2 : Below w1.heap.size w1 w2) (hv2 : VIn (fun _ => False) w3 (w2.heap.size + 1) w2.heap.size (ptr s) ⟨fun _ => none, 0⟩) (hb3 : Below w2.heap.size w2 w3) :
    ∃ R, Twin R (fun _ => False) (fun _ => False) w.heap.size w3 (w1.heap.size + 1) w1.heap.size (w2.heap.size + 1) w2.heap.size s (fun _ => none) Store.fresh := by
  have hp1 := storeIn_bound hp
  have hvl := hv.lt
  have hvl2 := hv2.lt
  have hs1 := hb1.size
  have hs2 := hb2.size
  have hs3 := hb3.size
  have hb13 : Below w1.heap.size w1 w3 := hb2.trans (hb3.mono hb2.size)
  have hst : StoreIn (fun k => New w.heap.size k ∧ k < w1.heap.size) (fun _ => False) w3 (ptr s) Store.fresh := hp1.keep (fun k hk => hb13.block k hk.2) (fun k hk => hk.elim)
  refine ⟨fun k => New w.heap.size k ∧ k < w1.heap.size, ⟨⟨hv.keep (hb3.block _ hvl.1) (hb3.block _ hvl.2) (fun k hk => hk.elim), hst, fun k hk => ?_, fun k hk => hk.elim, fun k hk => hk.elim⟩, ⟨hv2, hst, fun k hk => ?_, fun k hk => hk.elim, fun k hk => hk.elim⟩, ⟨by omega, by omega⟩, ⟨by omega, by omega, fun k hk => hk.1⟩⟩⟩
  · have := hk.2
    exact ⟨by omega, by omega, by omega, fun h => h, fun h => h⟩
  · have := hk.2
    exact ⟨by omega, by omega, by omega, fun h => h, fun h => h⟩
/-- the numbers up to g -/
def upTo (g : Nat) : List Int := (List.range g).map (fun (k : Nat) => (k : Int) + 1)
theorem mem_upTo {g : Nat} {id : Int} (h1 : 1 ≤ id) (h2 : id ≤ g) : id ∈ upTo g := List.mem_map.2 ⟨(id - 1).toNat, by rw [List.mem_range]; omega, by omega⟩
theorem ids_one {S : Store} (h : S.N = Store.fresh.N) {zs : List Int} (hz : IdsOf S zs) : countOf S zs = 1 := by
  have hm : ∀ id, id ∈ zs ↔ id = 1 := fun id => by
    rw [hz.2 id, h]
    unfold Store.fresh
    by_cases e : id = 1 <;> simp [e]
  have hz1 : zs = [1] := by
    match zs, hz.1, hm with
    | [], _, hm => exact absurd ((hm 1).2 rfl) (by simp)
    | [x], _, hm => rw [(hm x).1 (by simp)]
    | x :: y :: r, hp, hm =>
      have h1 := (hm x).1 (by simp)
      have h2 := (hm y).1 (by simp)
      have := (List.pairwise_cons.1 hp).1 y (by simp)
      omega
  rw [hz1]
  unfold countOf
  rw [h]
  simp [Store.fresh]
end Go.Proofs.Ytinkjhkbaadbpaa
/- Two views of one store: what they and the store answer. -/
namespace Go.Proofs.Ytinkjhkbaadbpaa
open Go.RowKit
set_option linter.unusedVariables false
set_option linter.unusedSimpArgs false

/-- a store in which nothing was installed -/
structure Fr (S : Store) (B : Int) : Prop where
  N : S.N = Store.fresh.N
  last : S.last = 0
  g0 : 1 ≤ S.given
  g1 : S.given ≤ B
theorem Fr.wf {S : Store} {B : Int} (h : Fr S B) : S.Wf := by
  obtain ⟨h1, h2, -, -⟩ := h
  obtain ⟨N, g, l⟩ := S
  simp only at h1 h2
  subst h1 h2
  exact ⟨Store.fresh_wf.rise, Store.fresh_wf.last, Store.fresh_wf.ok, Store.fresh_wf.len⟩
theorem Fr.keys {S : Store} {B : Int} (h : Fr S B) : S.Keys := fun id hid => by
  rw [h.N] at hid
  unfold Store.fresh at hid
  by_cases e : id = 1
  · subst e; exact ⟨Int.le_refl _, h.g0⟩
  · simp [e] at hid
theorem Fr.len {S : Store} {B : Int} (h : Fr S B) (id : Int) : (S.N id).length ≤ 1 := by
  rw [h.N]
  unfold Store.fresh
  by_cases e : id = 1 <;> simp [e]
theorem Fr.next {S : Store} {B : Int} (h : Fr S B) : Fr { S with given := S.given + 1 } (B + 1) := ⟨h.N, h.last, by have := h.g0; show 1 ≤ S.given + 1; omega, by have := h.g1; show S.given + 1 ≤ B + 1; omega⟩
section
variable {R Ds F : Nat → Prop} {n0 : Nat} {w w' : World} {va ma vb mb s : Nat} {S : Store} {B : Nat} {G : Int}
theorem Twin.quiet {M D : Nat → Prop} {o : Owns} (h : Twin R Ds D n0 w va ma vb mb s o S) (hb : Chg M w w') (hM : ∀ k, M k → k ≠ va ∧ k ≠ ma ∧ k ≠ vb ∧ k ≠ mb ∧ ¬ R k ∧ ¬ D k ∧ ¬ Ds k) : Twin R Ds D n0 w' va ma vb mb s o S :=
  ⟨h.a.quiet hb (fun k hk => by have := hM k hk; exact ⟨this.1, this.2.1, this.2.2.2.2⟩), h.b.quiet hb (fun k hk => by have := hM k hk; exact ⟨this.2.2.1, this.2.2.2.1, this.2.2.2.2.1, fun h => h, this.2.2.2.2.2.2⟩), h.ap, h.le⟩
theorem Twin.fresh {D : Nat → Prop} {o : Owns} (h : Twin R Ds D n0 w va ma vb mb s o S) (h0 : 0 ≤ S.given) (hg : S.given < 9223372036854775807) :
    Calls Try.prog 54 #[ptr s] w fun e w' => e = .returned (iv (S.given + 1)) ∧ Twin R Ds D n0 w' va ma vb mb s o { S with given := S.given + 1 } ∧ Chg R w w' := by
  refine (h.a.fresh h0 hg).mono ?_
  rintro e w' ⟨he, hvs, hc⟩
  exact ⟨he, h.next hvs (hc.mono (fun k hk => .inr hk)), hc⟩
theorem Twin.lt {D : Nat → Prop} {o : Owns} (h : Twin R Ds D n0 w va ma vb mb s o S) : va < w.heap.size ∧ ma < w.heap.size ∧ vb < w.heap.size ∧ mb < w.heap.size ∧ (∀ k, R k → k < w.heap.size) ∧ (∀ k, D k → k < w.heap.size) ∧ (∀ k, Ds k → k < w.heap.size) :=
  ⟨h.a.view.lt.1, h.a.view.lt.2, h.b.view.lt.1, h.b.view.lt.2, fun k hk => (h.a.rl k hk).1, fun k hk => (h.a.dl k hk).1, fun k hk => (h.a.dsl k hk).1⟩
theorem TwinSt.bchanges (h : TwinSt R Ds n0 w va ma vb mb s S B) : Calls Try.prog 61 #[ptr vb] w fun e w' => e = .returned (.slice none 0 0) ∧ Below w.heap.size w w' := by
  obtain ⟨D, o, ks, h1, -⟩ := h
  exact changes_none h1.b.view (fun _ => rfl)
theorem TwinSt.bst (h : TwinSt R Ds n0 w va ma vb mb s S B) (hf : Fr S G) : BSt w vb s := by
  obtain ⟨D, o, ks, h1, -⟩ := h
  exact ⟨R, Ds, mb, S, h1.b, hf.wf, rootO_fresh hf.N⟩
theorem TwinSt.count (h : TwinSt R Ds n0 w va ma vb mb s S B) (hf : Fr S G) (hG : G ≤ 1099511627776) : Calls Try.prog 49 #[ptr s] w fun e w' => e = .returned (iv 1) ∧ Below w.heap.size w w' := by
  obtain ⟨D, o, ks, h1, -⟩ := h
  have h0 := hf.g0
  have h2 := hf.g1
  refine (count_any h1.b.store hf.keys (fun k hk => (h1.b.rl k hk).1) (fun k hk => (h1.b.dsl k hk).1) (by omega) (by omega) (fun id => by have := hf.len id; omega)).mono ?_
  rintro e w' ⟨⟨zs, hz, he⟩, hb⟩
  rw [ids_one hf.N hz] at he
  exact ⟨he, hb⟩
theorem TwinSt.changes (h : TwinSt R Ds n0 w va ma vb mb s S B) (hB : B ≤ 1000000000) :
    Calls Try.prog 61 #[ptr va] w fun e w' => (∃ u cs, e = .returned u ∧ ChnsIn (fun k => w.heap.size ≤ k ∧ k < w'.heap.size) w' u cs ∧ cs.length ≤ B ∧ ∀ c ∈ cs, RecOk c.r) ∧ Below w.heap.size w w' := by
  obtain ⟨D, o, ks, h1, h2, h3⟩ := h
  refine (changes_maybe h1.a.view (fun k hk => (h1.a.dl k hk).1) (fun id r hr => (h2 id r hr).2) (ks := ks) (fun id r hr => (h2 id r hr).1) (by omega)).mono ?_
  rintro e w' ⟨⟨u, cs, he, hc, hof⟩, hb⟩
  have := chns_len hof (ks := ks) (fun id r hr => (h2 id r hr).1)
  exact ⟨⟨u, cs, he, hc, by omega, fun c hcc => h1.a.view.ok c.id c.r ((hof.2 c.id c.r).1 hcc)⟩, hb⟩
theorem Twin.install {D : Nat → Prop} {o : Owns} (h1 : Twin R Ds D n0 w va ma vb mb s o S) (hf : Fr S G) {u : Value} {cs : List Chn} (hu : ChnsIn F w u cs) (hF : ∀ k, F k → k < w.heap.size ∧ ¬ R k) (hok : ∀ c ∈ cs, RecOk c.r) :
    Calls Try.prog 42 #[ptr s, .int .u64 9, u] w fun e w' => (∃ n, e = .returned (iv n)) ∧ BSt w' vb s ∧ Chg R w w' := by
  refine (install_any h1.b.store hf.wf 9 (by rw [hf.last]; omega) cs u hu hF (fun k hk => (h1.b.rl k hk).1) (fun k hk => (h1.b.dsl k hk).1) (fun k hk => (h1.b.rl k hk).2.2.2.2) (fun id => by have := hf.len id; omega) hok).mono ?_
  rintro e w' (⟨-, he, hb⟩ | ⟨hy, he, hc, R', D', hst, hR', hD'⟩)
  · exact ⟨⟨_, he⟩, ⟨R, Ds, mb, S, h1.b.below hb, hf.wf, rootO_fresh hf.N⟩, chg_new hb⟩
  · have hvl := h1.b.view.lt
    refine ⟨⟨_, he⟩, ⟨R', D', mb, S.put 9 cs, ⟨h1.b.view.keep (hc.block vb hvl.1 (fun hk => (h1.b.rl vb hk).2.1 rfl)) (hc.block mb hvl.2 (fun hk => (h1.b.rl mb hk).2.2.1 rfl)) (fun k hk => hk.elim), hst.is, fun k hk => ?_, fun k hk => hk.elim, fun k hk => ?_⟩, put_wf hf.wf (by rw [hf.last]; omega) hy hok (fun id => by have := hf.len id; omega), rootO_put hf.N cs⟩, hc⟩
    · have h9 := hst.rlt k hk
      rcases hR' k hk with h8 | h8
      · exact ⟨h9, (h1.b.rl k h8).2.1, (h1.b.rl k h8).2.2.1, fun h => h, hst.rd k hk⟩
      · exact ⟨h9, by omega, by omega, fun h => h, hst.rd k hk⟩
    · have h9 := hst.dlt k hk
      rcases hD' k hk with h8 | h8
      · exact ⟨h9, (h1.b.dsl k h8).2.1, (h1.b.dsl k h8).2.2⟩
      · exact ⟨h9, by omega, by omega⟩
end
end Go.Proofs.Ytinkjhkbaadbpaa
/- ViewApart (17): the walk. -/
namespace Go.Proofs.Ytinkjhkbaadbpaa
open Go.RowKit
set_option linter.unusedVariables false
set_option linter.unusedSimpArgs false

set_option maxRecDepth 100000 in
set_option maxHeartbeats 8000000 in
theorem viewApart_walk {w : World} {t : Tr} {av kv lv : Value} {xs : List Sp} (hT : TrIn (Old w.heap.size) w t av kv) (hsz : t.size ≤ 1048576) (hX : SpsIn (Old w.heap.size) w lv xs) (hXok : ∀ x ∈ xs, SpOk x) (hXid : ∀ x ∈ xs, x.id ≤ 9223372036854775807) :
    Calls Try.prog 17 #[trV t av kv, lv] w fun e w' => e = .returned (.bool true) ∧ Below w.heap.size w w' := by
  have hT2 := hT
  obtain ⟨kind, name, text, attrs, kids⟩ := t
  simp only [TrIn] at hT2
  obtain ⟨⟨a1, c1, rfl, -, -⟩, tzs, ⟨a2, c2, rfl, -, -⟩, -⟩ := hT2
  obtain ⟨t, ht⟩ : ∃ t, Tr.mk kind name text attrs kids = t := ⟨_, rfl⟩
  have htr : trV t (.slice a1 attrs.length c1) (.slice a2 kids.length c2) = .agg #[.int .i64 kind, .string name, .string text, .slice a1 attrs.length c1, .slice a2 kids.length c2] := by rw [← ht]; rfl
  rw [ht] at hT hsz
  obtain ⟨a3, c3, rfl, hxl, hx⟩ := hX
  obtain ⟨W, hW⟩ : ∃ W, w.alloc (.cells #[.int .i64 kind, .string name, .string text, .slice a1 attrs.length c1, .slice a2 kids.length c2] 25) = W := ⟨_, rfl⟩
  have hbB : Below w.heap.size w W := by rw [← hW]; exact (Below.refl _ _).alloc (Nat.le_refl _) _
  have hs1 : W.heap.size = w.heap.size + 1 := by rw [← hW]; simp
  have hx0 : W.heap[w.heap.size]? = some (.cells #[.int .i64 kind, .string name, .string text, .slice a1 attrs.length c1, .slice a2 kids.length c2] 25 (0, 0)) := by rw [← hW]; exact Go.heap_alloc_new _ _
  have hxc : ∀ W2, Below W.heap.size W W2 → W2.cell? ⟨w.heap.size, 0, none⟩ = some (.int .i64 kind) ∧ W2.cell? ⟨w.heap.size, 1, none⟩ = some (.string name) ∧ W2.cell? ⟨w.heap.size, 2, none⟩ = some (.string text) ∧ W2.cell? ⟨w.heap.size, 3, none⟩ = some (.slice a1 attrs.length c1) ∧ W2.cell? ⟨w.heap.size, 4, none⟩ = some (.slice a2 kids.length c2) := fun W2 h2 => by
    have e := (h2.block w.heap.size (by omega)).trans hx0
    refine ⟨?_, ?_, ?_, ?_, ?_⟩ <;> simp [World.cell?, e]
  obtain ⟨x0, x1, x2, x3, x4⟩ := hxc W (Below.refl _ _)
  have hTW : ∀ W2, Below W.heap.size W W2 → TrIn (Old w.heap.size) W2 t (.slice a1 attrs.length c1) (.slice a2 kids.length c2) := fun W2 h2 => TrIn.keep (keeps_below (hbB.trans (h2.mono hbB.size))) (fun _ h => h) _ _ _ hT
  have hfew := few_any (hTW W (Below.refl _ _)) (fun k hk => by have : k < w.heap.size := hk; omega)
  rw [htr] at hfew
  have HFEW := Lib.hid hfew
  have HTW := Lib.hid hTW
  have HTR := Lib.hid htr
  have HW := Lib.hid hW
  have HXC := Lib.hid hxc
  have HBB := Lib.hid hbB
  have HS1 := Lib.hid hs1
  have HSZ := Lib.hid hsz
  have HX := Lib.hid hx
  have HXK := Lib.hid hXok
  have HXI := Lib.hid hXid
  clear hT hW hs1 hx0 hbB hTW hfew htr ht hsz hx hXok hXid hxc
  show Calls Try.prog 17 #[.agg #[.int .i64 kind, .string name, .string text, .slice a1 attrs.length c1, .slice a2 kids.length c2], .slice a3 xs.length c3] w _
  go_enter Try.func17, Try.ntmps17
  go_upto_region 1 with fail
  rw [HW.out]
  go_wp2_with fail
  refine HFEW.out.mono ?_
  rintro e w1 ⟨⟨b, rfl⟩, hbf⟩
  have HB1 := Lib.hid hbf
  clear hbf x0 x1 x2 x3 x4
  cases b with
  | false =>
    go_wp2_with (go_at_call 55; refine (vworks_any _).mono ?_; rintro e w5 ⟨rfl, hb5⟩)
    go_ret
    exact ⟨rfl, HBB.out.trans ((HB1.out.trans (hb5.mono HB1.out.size)).mono HBB.out.size)⟩
  | true =>
    obtain ⟨x0, x1, x2, x3, x4⟩ := HXC.out w1 HB1.out
    have HMD := Lib.hid (show ∀ W2, Below W.heap.size W W2 → Calls Try.prog 56 #[.agg #[.int .i64 kind, .string name, .string text, .slice a1 attrs.length c1, .slice a2 kids.length c2]] W2 (MadePost2 W2.heap.size W2 t) from fun W2 h2 => by
      have := made2_any (HTW.out W2 h2) (fun k hk => Nat.lt_of_lt_of_le hk (HBB.out.trans (h2.mono HBB.out.size)).size) (by have := HSZ.out; omega)
      rw [HTR.out] at this
      exact this)
    have hcur : Below W.heap.size W w1.drew := HB1.out.drew
    clear x0 x1 x2 x3 x4
    go_upto_region 3 with fail
    go_region_held3 (fun wz => wz.cell? ⟨w.heap.size, 0, none⟩ = some (.int .i64 kind) ∧ wz.cell? ⟨w.heap.size, 1, none⟩ = some (.string name) ∧ wz.cell? ⟨w.heap.size, 2, none⟩ = some (.string text) ∧ wz.cell? ⟨w.heap.size, 3, none⟩ = some (.slice a1 attrs.length c1) ∧ wz.cell? ⟨w.heap.size, 4, none⟩ = some (.slice a2 kids.length c2))
      (exact HXC.out _ hcur)
      ((go_at_call 56; (with_reducible refine (HMD.out _ hcur).mono ?_); rintro e w2 ⟨R2, Ds2, Rd2, Dd2, p2, v2, m2, s2, v22, s22, S2, d2, rfl, -, -, -, hb2, -, -⟩; have hcur := hcur.trans (hb2.mono hcur.size); clear hb2))
    go_upto_region 6 with fail
    go_wp2_with fail
    refine (new_any (fun _ => False) _).mono ?_
    rintro e w3 ⟨⟨ps, rfl, hp⟩, hb3⟩
    obtain ⟨s, rfl⟩ : ∃ s, ps = ptr s := by obtain ⟨s, _, _, e, -⟩ := hp; exact ⟨s, e⟩
    have HP := Lib.hid hp
    have HB3 := Lib.hid hb3
    clear hp hb3
    go_wp2_with fail
    refine (vnew_any s 0 _).mono ?_
    rintro e w4 ⟨rfl, hv4, hb4⟩
    have HV4 := Lib.hid hv4
    have HB4 := Lib.hid hb4
    clear hv4 hb4
    go_wp2_with fail
    refine (vnew_any s 0 _).mono ?_
    rintro e w5 ⟨rfl, hv5, hb5⟩
    obtain ⟨R, htw⟩ := twin_fresh HP.out HB3.out HV4.out HB4.out hv5 hb5
    have hb25 : Below w2.heap.size w2 w5 := HB3.out.trans ((HB4.out.trans (hb5.mono HB4.out.size)).mono HB3.out.size)
    have hbW5 : Below W.heap.size W w5 := hcur.trans (hb25.mono hcur.size)
    have h2l : w.heap.size < w2.heap.size := by have h1 := HS1.out; have h2 := hcur.size; omega
    have hgvn := plantT_g putO t 1 (1, fun _ => none)
    have hrt := plantT_right t 1 1 (fun _ => none) (by omega) (fun id r h => by cases h)
    have hpl := plant_any (t := t) 1 htw.a (HTW.out w5 hbW5) (fun k hk => ⟨by have h9 : k < w.heap.size := hk; have := hb25.size; omega, by have h9 : k < w.heap.size := hk; have := htw.le.1; omega, by have h9 : k < w.heap.size := hk; have := htw.le.2.1; omega, fun hR => by have h9 : k < w.heap.size := hk; have := htw.le.2.2 k hR; omega⟩) (by decide) (by show (1 : Int) + t.size ≤ _; have := HSZ.out; omega)
    rw [HTR.out] at hpl
    obtain ⟨x0, x1, x2, x3, x4⟩ := HXC.out w5 hbW5
    have HPL := Lib.hid hpl
    have HTW5 := Lib.hid htw
    have HGV := Lib.hid hgvn
    have HRT := Lib.hid hrt
    have HB25 := Lib.hid hb25
    have HBW5 := Lib.hid hbW5
    obtain ⟨va, hva⟩ : ∃ va, w3.heap.size + 1 = va := ⟨_, rfl⟩
    obtain ⟨vb, hvb⟩ : ∃ vb, w4.heap.size + 1 = vb := ⟨_, rfl⟩
    obtain ⟨ma, hma⟩ : ∃ ma, w3.heap.size = ma := ⟨_, rfl⟩
    obtain ⟨mb, hmb⟩ : ∃ mb, w4.heap.size = mb := ⟨_, rfl⟩
    rw [hva, hma] at HPL
    rw [hva, hvb, hma, hmb] at HTW5
    rw [hva, hvb]
    clear hpl htw hgvn hrt hb25 hbW5 hv5 hb5 HV4 HB4 HP HB3 hva hvb hma hmb
    go_wp2_with fail
    refine HPL.out.mono ?_
    rintro e w6 ⟨rfl, ⟨D', hvs, -⟩, hc6⟩
    have htw6 := HTW5.out.next hvs hc6
    obtain ⟨g1, hg1⟩ : ∃ g1, (plantT putO t 1 (1, fun _ => none)).2.1 = g1 := ⟨_, rfl⟩
    have hgv : 1 ≤ g1 ∧ g1 ≤ 1 + t.size := by rw [← hg1]; exact HGV.out
    have hrt := HRT.out
    rw [hg1] at hrt
    have hsz9 := HSZ.out
    have hst6 : TwinSt R (fun _ => False) w2.heap.size w6 va ma vb mb s { Store.fresh with given := g1 } 1048577 := ⟨D', _, upTo g1.toNat, (by rw [← hg1]; exact htw6), fun id r hr => by
      have h9 := hrt id r hr
      exact ⟨mem_upTo h9.2.1 (by omega), by omega, by omega⟩, by unfold upTo; rw [List.length_map, List.length_range]; omega⟩
    have hfr : Fr { Store.fresh with given := g1 } 1048577 := ⟨rfl, rfl, hgv.1, by show g1 ≤ _; omega⟩
    obtain ⟨S1, hS1⟩ : ∃ S1, ({ Store.fresh with given := g1 } : Store) = S1 := ⟨_, rfl⟩
    rw [hS1] at hst6 hfr
    have hc56 : Chg (New w.heap.size) w w6 := (chg_new (HBB.out.trans (HBW5.out.mono HBB.out.size))).trans (hc6.mono (fun k hk => by
      rcases hk with rfl | hk
      · have := HTW5.out.le.1; show w.heap.size ≤ _; omega
      · have := HTW5.out.le.2.2 k hk; show w.heap.size ≤ _; omega))
    have hla := HTW5.out.le
    have HST6 := Lib.hid hst6
    have HFR := Lib.hid hfr
    have HC6 := Lib.hid hc56
    have HLE := Lib.hid hla
    clear x0 x1 x2 x3 x4 hvs hc6 htw6 hg1 hgv hrt hsz9 hst6 hfr hS1 hc56 hla HPL HTW5 HGV HRT HB25 HBW5
    go_wp2_with fail
    refine HST6.out.bchanges.mono ?_
    rintro e w7 ⟨rfl, hb7⟩
    have HST7 := Lib.hid (HST6.out.below hb7)
    have HC7 := Lib.hid (HC6.out.trans (chg_new hb7))
    clear hb7
    go_upto_block 0 with fail
    go_cut [11] from 42 to 69 (fun i wx => TwinSt R (fun _ => False) w2.heap.size wx va ma vb mb s S1 1048600 ∧ Chg (New w.heap.size) w wx)
    case first =>
      go_wp2_with fail
      go_loopw [11] (fun i wr => ∃ k : Nat, k ≤ xs.length ∧ k ≤ 20 ∧ i = .int .i64 k ∧ TwinSt R (fun _ => False) w2.heap.size wr va ma vb mb s S1 (1048577 + k) ∧ Chg (New w.heap.size) w wr) (fun i _ => 20 - (Lib.intOf i).toNat)
      case atStart => exact ⟨0, Nat.zero_le _, by omega, rfl, HST7.out, HC7.out⟩
      case round =>
        obtain ⟨k, hk, hk20, rfl, hst, hcr⟩ := hrel
        by_cases hgo : k < xs.length ∧ k < 20
        · obtain ⟨hlt, h20⟩ := hgo
          obtain ⟨x, hxk⟩ : ∃ x, xs[k]? = some x := ⟨_, List.getElem?_eq_getElem hlt⟩
          obtain ⟨g, off, rfl, hFg, hcc⟩ : ∃ g off, a3 = some ⟨g, off, none⟩ ∧ Old w.heap.size g ∧ ∀ (k : Nat) (x : Sp), xs[k]? = some x → ∃ kv av tav tkv, IntsIn (Old w.heap.size) w kv x.r.kids ∧ IntsIn (Old w.heap.size) w av x.r.attrs ∧ TrIn (Old w.heap.size) w x.n tav tkv ∧ ∀ j u, (spL x kv av tav tkv)[j]? = some u → w.cell? ⟨g, off + k * 14 + j, none⟩ = some u := by
            rcases HX.out with h | h
            · rw [h] at hlt; simp at hlt
            · exact h
          obtain ⟨xkv, xav, xtav, xtkv, i1, i2, i3, hce⟩ := hcc k x hxk
          have hokx := HXK.out x (List.mem_of_getElem? hxk)
          have hidx := HXI.out x (List.mem_of_getElem? hxk)
          have hkO : Keeps (Old w.heap.size) w wr := hcr.keeps (fun q hq => ⟨hq, fun h9 => by have h8 : q < w.heap.size := hq; have h7 : w.heap.size ≤ q := h9; omega⟩)
          have hput := hst.put (F := Old w.heap.size) x.id hidx hokx.1 (x := recV x.r xkv xav) ⟨xkv, xav, rfl, i1.keep hkO, i2.keep hkO⟩ (fun q hq => Nat.lt_of_lt_of_le hq hcr.size)
          obtain ⟨e0, e1, e2, e3, e4, e5, e6, e7, e8, e9, e10, e11, e12, e13⟩ := spCells hce (hkO g hFg)
          have HPUT := Lib.hid (show Calls Try.prog 66 _ wr.drew _ from (hst.below (Below.refl _ _).drew).put (F := Old w.heap.size) x.id hidx hokx.1 (x := recV x.r xkv xav) ⟨xkv, xav, rfl, i1.keep hkO, i2.keep hkO⟩ (fun q hq => Nat.lt_of_lt_of_le hq hcr.size))
          have HST := Lib.hid hst
          have HCR := Lib.hid hcr
          have hk0 : (0 : Int) ≤ k := by omega
          have hkl : (k : Int) < xs.length := by omega
          have hk6 : (k : Int) < 20 := by omega
          obtain ⟨b1, d1, rfl, -, -, -⟩ := i1
          obtain ⟨b2, d2, rfl, -, -, -⟩ := i2
          obtain ⟨xkind, xid, ⟨rkind, rname, rtext, rparent, rkids, rattrs, rgone⟩, xn⟩ := x
          simp only at *
          clear e9 e10 e11 e12 e13 hput hcc hce hxk hst hcr hokx hkO i3 hidx
          by_cases hx0 : xkind = 0
          · subst hx0
            go_wp2_with fail
            go_still_tail 11, (by kernel_rfl)
            change wpList _ _ _ _ _ wr.drew
            go_wp2_with fail
            refine HPUT.out.mono ?_
            rintro e w8 ⟨⟨n8, rfl⟩, hst8, hc8⟩
            have HST8 := Lib.hid hst8
            have HC8 := Lib.hid hc8
            clear hst8 hc8 e0 e1 e2 e3 e4 e5 e6 e7 e8
            go_wp2_with fail
            go_roundw
            case rel => exact ⟨k + 1, by omega, by omega, by go_num, HST8.out, (HCR.out.trans (chg_new (Below.refl _ _).drew)).trans (HC8.out.mono (fun q hq => by
              have h9 := HLE.out
              rcases hq with rfl | hq
              · show w.heap.size ≤ _; omega
              · have := h9.2.2 q hq; show w.heap.size ≤ _; omega))⟩
            case measure => simp [Lib.intOf]; omega
          · have hx0' : (xkind == 0) = false := by rw [beq_eq_false_iff_ne]; exact hx0
            go_wp2_with fail
            go_roundw
            case rel => exact ⟨k + 1, by omega, by omega, by go_num, HST.out.mono (by omega), HCR.out⟩
            case measure => simp [Lib.intOf]; omega
        · have hnot : ¬ ((k : Int) < xs.length) ∨ (((k : Int) < xs.length) ∧ ¬ ((k : Int) < 20)) := by
            by_cases h1 : k < xs.length
            · right; exact ⟨by omega, fun h2 => hgo ⟨h1, by omega⟩⟩
            · left; omega
          have HST := Lib.hid hst
          have HCR := Lib.hid hcr
          clear hgo hst hcr
          rcases hnot with hn9 | ⟨hn0, hn9⟩
          all_goals
            go_wp2_with fail
            go_meet
            exact ⟨HST.out.mono (by omega), HCR.out⟩
    case rest =>
      obtain ⟨hst, hcr⟩ := hcut
      have HST := Lib.hid hst
      have HCR := Lib.hid hcr
      clear hst hcr HST7 HC7 HST6 HC6
      go_wp2_with fail
      refine HST.out.bchanges.mono ?_
      rintro e w8 ⟨rfl, hb8⟩
      have HST8 := Lib.hid (HST.out.below hb8)
      have HC8 := Lib.hid (HCR.out.trans (chg_new hb8))
      clear hb8
      go_wp2_with fail
      refine (HST8.out.bst HFR.out).all.mono ?_
      rintro e w9 ⟨⟨u9, rfl, hu9⟩, hb9⟩
      obtain ⟨a9, c9, rfl, -, -, -⟩ := hu9
      have HST9 := Lib.hid (HST8.out.below hb9)
      have HC9 := Lib.hid (HC8.out.trans (chg_new hb9))
      clear hb9
      go_wp2_with fail
      refine (HST9.out.count HFR.out (by omega)).mono ?_
      rintro e w10 ⟨rfl, hb10⟩
      have HST10 := Lib.hid (HST9.out.below hb10)
      have HC10 := Lib.hid (HC9.out.trans (chg_new hb10))
      clear hb10
      go_wp2_with fail
      refine (HST10.out.changes (by omega)).mono ?_
      rintro e w11 ⟨⟨u, cs, rfl, hcs, hcl, hco⟩, hb11⟩
      have hs11 := hb11.size
      have hlt10 : ∀ k, R k → k < w10.heap.size := by
        obtain ⟨D, o, ks, h1, -⟩ := HST10.out
        exact fun k hk => (h1.a.rl k hk).1
      obtain ⟨aA, cA, rfl, hcA1, hcA2, hcA⟩ := hcs
      have HST11 := Lib.hid (HST10.out.below hb11)
      have HC11 := Lib.hid (HC10.out.trans (chg_new hb11))
      have HCA := Lib.hid hcA
      have HCO := Lib.hid hco
      have HLT := Lib.hid hlt10
      have h0g := HFR.out.g0
      have h1g := HFR.out.g1
      have hNg := HFR.out.N
      have hLg := HFR.out.last
      obtain ⟨D, o, ks, htw, hks, hkl⟩ := HST11.out
      have htl := htw.lt
      have HTL := Lib.hid htl
      have HTWW := Lib.hid htw
      clear htw hks hkl htl
      obtain ⟨NN, gg, ll⟩ := S1
      simp only at h0g h1g hNg hLg
      subst hNg hLg
      have H0G := Lib.hid h0g
      have H1G := Lib.hid h1g
      obtain ⟨i0, hi, hz0, hz1, hz2⟩ := info_parts Try.info125
      clear hb11 hcA hco hlt10 h0g h1g HST10 HC10 HST9 HC9 HST8 HC8 HST HCR hcA1 hcA2 HFR
      go_wp2_with fail
      go_loopw [12, 14] (fun u i wr => ∃ (k : Nat) (L : List Own) (ys : List Value), k ≤ cs.length ∧ i = .int .i64 k ∧ L.length ≤ k ∧ wr.ownsRow w11.heap.size 125 8 u L.length ys ∧ OwnsAre (fun j => w10.heap.size ≤ j ∧ j < w11.heap.size) wr L ys ∧ (∀ e ∈ L, RecOk e.2) ∧ Twin R (fun _ => False) D w2.heap.size wr va ma vb mb s o ⟨Store.fresh.N, gg + k, 0⟩ ∧ Chg R w11 wr) (fun _ i _ => cs.length - (Lib.intOf i).toNat)
      case atStart => exact ⟨0, [], [], Nat.zero_le _, rfl, Nat.le_refl _, World.ownsRow_nil _ _ _ _, rfl, by simp, by simpa using HTWW.out, Chg.refl _ _⟩
      case round =>
        obtain ⟨k, L, ys, hk, rfl, hLk, hown, hare, hLo, hst, hcr⟩ := hrel
        obtain ⟨au, cu, rfl⟩ := ownsRow_shape hown
        have hsr := hcr.size
        by_cases hlt : k < cs.length
        · obtain ⟨c, hck⟩ : ∃ c, cs[k]? = some c := ⟨_, List.getElem?_eq_getElem hlt⟩
          obtain ⟨g, off, rfl, hg, hcc⟩ : ∃ g off, aA = some ⟨g, off, none⟩ ∧ (w10.heap.size ≤ g ∧ g < w11.heap.size) ∧ ∀ (k : Nat) (c : Chn), cs[k]? = some c → ∃ kv av, IntsIn (fun j => w10.heap.size ≤ j ∧ j < w11.heap.size) w11 kv c.r.kids ∧ IntsIn (fun j => w10.heap.size ≤ j ∧ j < w11.heap.size) w11 av c.r.attrs ∧ ∀ j x, (chL c kv av)[j]? = some x → w11.cell? ⟨g, off + k * 8 + j, none⟩ = some x := by
            rcases HCA.out with h | h
            · rw [h] at hlt; simp at hlt
            · exact h
          obtain ⟨kv, av, i1, i2, hce⟩ := hcc k c hck
          have hRn : ∀ j, w10.heap.size ≤ j → ¬ R j := fun j h1 h2 => by have := HLT.out j h2; omega
          have hcells : ∀ W2, Chg R w11 W2 → ∀ j x, (chL c kv av)[j]? = some x → W2.cell? ⟨g, off + k * 8 + j, none⟩ = some x := fun W2 h2 j x hj => (World.cell?_of_block (a := ⟨g, off + k * 8 + j, none⟩) (h2.block g hg.2 (hRn g hg.1))).trans (hce j x hj)
          have hco := HCO.out c (List.mem_of_getElem? hck)
          have hfresh := (hst.below (Below.refl _ _).drew).fresh (by show (0 : Int) ≤ gg + k; have := H0G.out; omega) (by show gg + (k : Int) < _; have := H1G.out; omega)
          have HFS := Lib.hid hfresh
          have HCELLS := Lib.hid hcells
          have HI1 := Lib.hid i1
          have HI2 := Lib.hid i2
          have HOWN := Lib.hid hown
          have HARE := Lib.hid hare
          have HLO := Lib.hid hLo
          have HCR := Lib.hid hcr
          have HRN := Lib.hid hRn
          have hcur : Chg R w11 wr.drew := hcr.trans (chg_new (Below.refl _ _).drew)
          obtain ⟨ka, kc, rfl, -, -, -⟩ := i1
          obtain ⟨aa, ac, rfl, -, -, -⟩ := i2
          obtain ⟨cid, ⟨rkind, rname, rtext, rparent, rkids, rattrs, rgone⟩⟩ := c
          simp only at *
          have hk0 : (0 : Int) ≤ k := by omega
          have hkl : (k : Int) < cs.length := by omega
          have hkb : (k : Int) ≤ 1048600 := by omega
          have h0g := H0G.out
          have h1g := H1G.out
          clear hown hare hLo hst hcr hcc hce hck hRn hcells hfresh
          go_wp2_with fail
          go_region_held3 (fun wz => wz.cell? ⟨g, off + k * 8, none⟩ = some (.int .i64 cid))
            (exact HCELLS.out _ hcur 0 _ rfl)
            ((go_at_call 54; (with_reducible refine HFS.out.mono ?_); rintro e w12 ⟨rfl, hst12, hc12⟩; have HST12 := Lib.hid hst12; have hcur := hcur.trans hc12; have HC12 := Lib.hid hc12; clear hst12 hc12))
          have hcr12 := HCR.out.size
          have hs12 := hcur.size
          have HCUR := Lib.hid hcur
          by_cases hle : cid ≤ IntKind.i64.wrap (gg + k)
          · obtain ⟨f0, f1, f2, f3, f4, f5, f6, f7⟩ : w12.cell? ⟨g, off + k * 8, none⟩ = some (.int .i64 cid) ∧ w12.cell? ⟨g, off + k * 8 + 1, none⟩ = some (.int .i64 rkind) ∧ w12.cell? ⟨g, off + k * 8 + 2, none⟩ = some (.string rname) ∧ w12.cell? ⟨g, off + k * 8 + 3, none⟩ = some (.string rtext) ∧ w12.cell? ⟨g, off + k * 8 + 4, none⟩ = some (.int .i64 rparent) ∧ w12.cell? ⟨g, off + k * 8 + 5, none⟩ = some (.slice ka rkids.length kc) ∧ w12.cell? ⟨g, off + k * 8 + 6, none⟩ = some (.slice aa rattrs.length ac) ∧ w12.cell? ⟨g, off + k * 8 + 7, none⟩ = some (.bool rgone) :=
              ⟨HCELLS.out _ hcur 0 _ rfl, HCELLS.out _ hcur 1 _ rfl, HCELLS.out _ hcur 2 _ rfl, HCELLS.out _ hcur 3 _ rfl, HCELLS.out _ hcur 4 _ rfl, HCELLS.out _ hcur 5 _ rfl, HCELLS.out _ hcur 6 _ rfl, HCELLS.out _ hcur 7 _ rfl⟩
            have HOWN12 := Lib.hid (ownsRow_keeps HOWN.out (fun j hj => by
              have h9 := ownsRow_base HOWN.out hj
              have h8 := HC12.out.block j (by simpa using h9.2) (HRN.out j (by omega))
              exact h8.trans rfl))
            clear hcur
            go_wp2_with ((at_builtin; refine wpList_append_own_at _ rfl _ _ 67 rfl w11.heap.size 125 i0 (.agg #[.int .i64 0, .int .i64 0, .string ⟨#[]⟩, .string ⟨#[]⟩, .int .i64 0, .slice none 0 0, .slice none 0 0, .bool false]) 8 112 Try.underlying67 hi hz0 hz1 hz2 rfl (by decide) _ _ _ rfl (ownsRow_alloc HOWN12.out _) ⟨w12.heap.size, 0, none⟩ 1 1 (ownL (cid, ⟨rkind, rname, rtext, rparent, rkids, rattrs, rgone⟩) (.slice ka rkids.length kc) (.slice aa rattrs.length ac)) rfl rfl cells_new (by simp [Value.oneCell']) (by unfold maxLen; omega) (by omega) (by simp; omega) ?_; intro v' w13 hown13 hgrow hnil hloc; obtain ⟨a8, c8, rfl⟩ := ownsRow_shape hown13))
            go_roundw
            case rel =>
              have hs13 := hgrow.size
              simp only [World.size_alloc] at hs13
              have hc13 : Chg (fun j => (Value.slice au L.length cu).ownBlock = some j) w12 w13 := (chg_alloc w12 _).trans (chg_grown hgrow (fun k h => h))
              have hub : ∀ j, (Value.slice au L.length cu).ownBlock = some j → w11.heap.size ≤ j := fun j hj => (ownsRow_base HOWN.out hj).1
              have hk12 : Keeps (fun j => w10.heap.size ≤ j ∧ j < w11.heap.size) w12 w13 := hc13.keeps (fun j hj => ⟨by omega, fun h => by have := hub j h; omega⟩)
              have hk11 : Keeps (fun j => w10.heap.size ≤ j ∧ j < w11.heap.size) w11 w13 := (HCUR.out.keeps (fun j hj => ⟨hj.2, HRN.out j hj.1⟩)).trans hk12
              have hkr : Keeps (fun j => w10.heap.size ≤ j ∧ j < w11.heap.size) wr w13 := fun j hj => (hk12 j hj).trans (HC12.out.block j (by show j < wr.heap.size; omega) (HRN.out j hj.1))
              have htl := HTL.out
              refine ⟨k + 1, L ++ [(cid, ⟨rkind, rname, rtext, rparent, rkids, rattrs, rgone⟩)], _, by omega, by go_num, by simp; omega, by simpa using hown13, OwnsAre.snoc (v := (cid, ⟨rkind, rname, rtext, rparent, rkids, rattrs, rgone⟩)) (HI1.out.keep hk11) (HI2.out.keep hk11) (HARE.out.keep hkr (fun _ h => h)), fun e he => ?_, ?_, HCUR.out.andThen hc13 (fun j hj h => by have := hub j h; omega)⟩
              · rcases List.mem_append.1 he with h | h
                · exact HLO.out e h
                · simp at h; subst h; exact hco
              · have h9 := HST12.out.quiet hc13 (fun j hj => by
                  have h8 := hub j hj
                  exact ⟨by omega, by omega, by omega, by omega, fun h => by have := htl.2.2.2.2.1 j h; omega, fun h => by have := htl.2.2.2.2.2.1 j h; omega, fun h => h⟩)
                have e9 : gg + (k : Int) + 1 = gg + ((k + 1 : Nat) : Int) := by omega
                rw [← e9]
                exact h9
            case measure => simp [Lib.intOf]; omega
          · clear hcur
            go_wp2_with fail
            go_roundw
            case rel =>
              have hkr : Keeps (fun j => w10.heap.size ≤ j ∧ j < w11.heap.size) wr w12 := fun j hj => HC12.out.block j (by show j < wr.heap.size; omega) (HRN.out j hj.1)
              refine ⟨k + 1, L, ys, by omega, by go_num, by omega, ownsRow_keeps HOWN.out (fun j hj => by
                have h9 := ownsRow_base HOWN.out hj
                exact HC12.out.block j (by simpa using h9.2) (HRN.out j (by omega))), HARE.out.keep hkr (fun _ h => h), HLO.out, ?_, HCUR.out⟩
              have h9 := HST12.out
              have e9 : gg + (k : Int) + 1 = gg + ((k + 1 : Nat) : Int) := by omega
              rw [← e9]
              exact h9
            case measure => simp [Lib.intOf]; omega
        · obtain rfl : k = cs.length := by omega
          have hru : ∀ j, (Value.slice au L.length cu).ownBlock = some j → w10.heap.size ≤ j ∧ j < wr.heap.size := fun j hj => by
            have := ownsRow_base hown hj; omega
          have hch : ChnsIn (fun j => w10.heap.size ≤ j ∧ j < wr.heap.size) wr (.slice au L.length cu) (L.map (fun e => (⟨e.1, e.2⟩ : Chn))) := chns_of_row hown hare (fun j hj => ⟨hj.1, by have := hj.2; omega⟩) hru
          have hfr : Fr ⟨Store.fresh.N, gg + cs.length, 0⟩ (gg + cs.length) := ⟨rfl, rfl, by show (1 : Int) ≤ gg + cs.length; have := H0G.out; omega, Int.le_refl _⟩
          have hins := hst.install hfr hch (fun j hj => ⟨hj.2, fun h => by have := HLT.out j h; omega⟩) (fun c hc => by
            obtain ⟨e, he, rfl⟩ := List.mem_map.1 hc
            exact hLo e he)
          have HINS := Lib.hid hins
          have HCR := Lib.hid hcr
          clear hown hare hLo hst hcr hru hch hfr hins hlt
          go_wp2_with fail
          refine HINS.out.mono ?_
          rintro e w14 ⟨⟨n14, rfl⟩, hbs, hc14⟩
          have hcF : Chg (New w.heap.size) w w14 := HC11.out.trans ((HCR.out.trans hc14).mono (fun j hj => by
            have := HLE.out.2.2 j hj; show w.heap.size ≤ j; omega))
          have HCF := Lib.hid hcF
          have HBS := Lib.hid hbs
          clear hcF hbs hc14
          go_wp2_with fail
          refine HBS.out.get.mono ?_
          rintro e w15 ⟨⟨a15, c15, a16, c16, rfl⟩, hb15⟩
          have HB15 := Lib.hid hb15
          clear hb15
          go_upto_region 26 with fail
          show Code.wp _ _ _ _ (w15.alloc (.cells #[.int .i64 1, .string ⟨#[]⟩, .string ⟨#[]⟩, .int .i64 0, .slice a15 0 c15, .slice a16 0 c16, .bool false] 52))
          obtain ⟨W6, hW6⟩ : ∃ W6, w15.alloc (.cells #[.int .i64 1, .string ⟨#[]⟩, .string ⟨#[]⟩, .int .i64 0, .slice a15 0 c15, .slice a16 0 c16, .bool false] 52) = W6 := ⟨_, rfl⟩
          have hb6 : Below w15.heap.size w15 W6 := by rw [← hW6]; exact (Below.refl _ _).alloc (Nat.le_refl _) _
          have ht6 : W6.heap[w15.heap.size]? = some (.cells #[.int .i64 1, .string ⟨#[]⟩, .string ⟨#[]⟩, .int .i64 0, .slice a15 0 c15, .slice a16 0 c16, .bool false] 52 (0, 0)) := by rw [← hW6]; exact Go.heap_alloc_new _ _
          rw [hW6]
          have hb146 : Below w14.heap.size w14 W6 := HB15.out.trans (hb6.mono HB15.out.size)
          have HBA := Lib.hid (HBS.out.below hb146).all
          obtain ⟨u0, u1, u2, u3, u4, u5, u6⟩ := cells7 ht6
          have HB6 := Lib.hid hb146
          clear hW6 hb6 ht6 hb146
          go_wp2_with fail
          refine HBA.out.mono ?_
          rintro e w16 ⟨⟨u16, rfl, hu16⟩, hb16⟩
          obtain ⟨a17, c17, rfl, -, -, -⟩ := hu16
          have HB16 := Lib.hid hb16
          clear hb16 u0 u1 u2 u3 u4 u5 u6
          go_wp2_with (go_at_call 55; refine (vworks_any _).mono ?_; rintro e w17 ⟨rfl, hb17⟩)
          go_ret
          refine ⟨rfl, below_of_chg (HCF.out.trans (chg_new ?_))⟩
          exact HB6.out.trans ((HB16.out.trans (hb17.mono HB16.out.size)).mono HB6.out.size)
end Go.Proofs.Ytinkjhkbaadbpaa
/- The arguments of the statements on views, opened: with bounds on numbers and on texts. -/
namespace Go.Proofs.Ytinkjhkbaadbpaa
open Go.Joins Go.ChangeShapes Go.WideShapes Go.RowKit Go.Deep
set_option linter.unusedVariables false

mutual
/-- no text of a tree is longer than B -/
def Strs (B : Nat) : Tr → Prop
  | .mk _ name text attrs kids => name.size ≤ B ∧ text.size ≤ B ∧ (∀ p ∈ attrs, p.1.size ≤ B ∧ p.2.size ≤ B) ∧ StrsL B kids
def StrsL (B : Nat) : List Tr → Prop
  | [] => True
  | t :: ts => Strs B t ∧ StrsL B ts
end
theorem StrsL.get {B : Nat} : ∀ {ts : List Tr} {k : Nat} {t : Tr}, StrsL B ts → ts[k]? = some t → Strs B t
  | [], k, t, _, h => by simp at h
  | t0 :: ts, 0, t, hf, h => by simp at h; subst h; simp only [StrsL] at hf; exact hf.1
  | t0 :: ts, k + 1, t, hf, h => by simp only [StrsL] at hf; exact StrsL.get hf.2 (by simpa using h)
section
variable {H : Type} {enc : TypeId × Value → H} {W : World} {b0 : Nat}
set_option maxRecDepth 100000 in
theorem sp_cells2 {n : Nat} {cs : List Value} {x : DataW H × List MemPlace} (h : DataW.trod enc Try.prog W 0 (fun _ => true) true n 106 cs = some x) (hb : Rows.uptoBulk x.1 ≤ 1048576) :
    ∃ (y : Sp) (kv av tav tkv : Value), cs = spL y kv av tav tkv ∧ IntsIn (Old W.heap.size) W kv y.r.kids ∧ IntsIn (Old W.heap.size) W av y.r.attrs ∧ TrIn (Old W.heap.size) W y.n tav tkv ∧ SpOk y ∧ y.id ≤ 9223372036854775807 := by
  obtain ⟨xs, m, hm, rfl, hl, hxl, hg⟩ := DataW.trod_struct Try.underlying106 h
  have q106 : Try.prog.cellsOf 106 = 14 := by kernel_rfl
  have q25 : Try.prog.cellsOf 25 = 5 := by kernel_rfl
  rw [q106] at hl
  obtain ⟨c0, c1, c2, c3, c4, c5, c6, c7, c8, c9, c10, c11, c12, c13, rfl⟩ := list14 hl
  match xs, hxl with
  | [y0, y1, y2, y3], _ =>
    have h0 : DataW.trod enc Try.prog W 0 (fun _ => true) true m 3 [c0] = some y0 := by simpa [Try.int_cells] using hg 0 _ rfl
    have h1 : DataW.trod enc Try.prog W 0 (fun _ => true) true m 3 [c1] = some y1 := by simpa [Try.int_cells] using hg 1 _ rfl
    have h2 : DataW.trod enc Try.prog W 0 (fun _ => true) true m 52 [c2, c3, c4, c5, c6, c7, c8] = some y2 := by simpa [Try.int_cells, Try.rec_cells] using hg 2 _ rfl
    have h3 : DataW.trod enc Try.prog W 0 (fun _ => true) true m 25 [c9, c10, c11, c12, c13] = some y3 := by simpa [Try.int_cells, Try.rec_cells, q25] using hg 3 _ rfl
    simp only [Rows.uptoBulk, List.map_cons, List.map_nil, Rows.uptoBulkAll] at hb
    obtain ⟨k, e0, -⟩ := DataW.trod_int Try.underlying3 h0
    obtain ⟨id, e1, -, hwf⟩ := DataW.trod_int Try.underlying3 h1
    have hid : id ≤ 9223372036854775807 := by
      rw [Lit.wf, Bool.and_eq_true] at hwf
      exact of_decide_eq_true hwf.2
    obtain ⟨r, kv, av, e2, i1, i2, ok⟩ := rec_bulk h2 (by omega)
    obtain ⟨t, tav, tkv, e3, i3, b3⟩ := tree_in m h3
    simp at e0 e1
    subst e0 e1
    refine ⟨⟨k, id, r, t⟩, kv, av, tav, tkv, ?_, i1, i2, i3, ⟨ok, by show t.size ≤ _; omega⟩, hid⟩
    show [_, _, c2, c3, c4, c5, c6, c7, c8, c9, c10, c11, c12, c13] = _ :: _ :: (recL r kv av ++ trL t tav tkv)
    rw [← e2, ← e3]
    rfl
/-- a slice of calls that came in -/
theorem sps_in2 {n : Nat} {v : Value} {x : DataW H × List MemPlace} (h : DataW.trod enc Try.prog W 0 (fun _ => true) true n 101 [v] = some x) (hb : Rows.uptoBulk x.1 ≤ 1048576) :
    ∃ xs, SpsIn (Old W.heap.size) W v xs ∧ ∀ y ∈ xs, SpOk y ∧ y.id ≤ 9223372036854775807 := by
  obtain ⟨a, len, cap, el, rfl, l1, l2, l3, l4, h3⟩ := slice_elems (C := 14) Try.underlying101 (by kernel_rfl : Try.prog.cellsOf 106 = 14) (by omega) h
  rcases h3 with h3 | ⟨g, off, m, hm, rfl, hg, hk⟩
  · subst h3
    exact ⟨[], ⟨a, cap, rfl, by simp, .inl rfl⟩, by simp⟩
  · have key : ∀ k : Fin len, ∃ y : Sp, (∃ kv av tav tkv, IntsIn (Old W.heap.size) W kv y.r.kids ∧ IntsIn (Old W.heap.size) W av y.r.attrs ∧ TrIn (Old W.heap.size) W y.n tav tkv ∧ ∀ j u, (spL y kv av tav tkv)[j]? = some u → W.cell? ⟨g, off + k * 14 + j, none⟩ = some u) ∧ SpOk y ∧ y.id ≤ 9223372036854775807 := fun k => by
      have hkl : (k : Nat) < el.length := by have := k.2; omega
      obtain ⟨cs, ht, hl, hc⟩ := hk k el[(k : Nat)] (List.getElem?_eq_getElem hkl)
      have hbe : Rows.uptoBulk (el[(k : Nat)]).1 ≤ Rows.uptoBulkAll (el.map (·.1)) := bulk_mem (List.mem_map.2 ⟨_, List.getElem_mem hkl, rfl⟩)
      obtain ⟨y, kv, av, tav, tkv, rfl, i1, i2, i3, ok⟩ := sp_cells2 ht (by omega)
      refine ⟨y, ⟨kv, av, tav, tkv, i1, i2, i3, fun j u hj => ?_⟩, ok⟩
      rw [hc j (by have := (List.getElem?_eq_some_iff.1 hj).1; simpa using this), hj]
    refine ⟨List.ofFn (fun k => Classical.choose (key k)), ⟨_, cap, by rw [List.length_ofFn], by rw [List.length_ofFn]; unfold maxLen at l2; omega, .inr ⟨g, off, rfl, hg, fun k y hy => ?_⟩⟩, fun y hy => ?_⟩
    · rw [List.getElem?_ofFn] at hy
      split at hy
      · rename_i hlt
        cases hy
        exact (Classical.choose_spec (key ⟨k, hlt⟩)).1
      · cases hy
    · obtain ⟨k, hk⟩ := List.getElem?_of_mem hy
      rw [List.getElem?_ofFn] at hk
      split at hk
      · rename_i hlt
        cases hk
        exact (Classical.choose_spec (key ⟨k, hlt⟩)).2
      · cases hk
theorem attrs_build2 {g B : Nat} : ∀ (elems : List (DataW H × List MemPlace)) (off : Nat), (∀ (k : Nat) (y : DataW H × List MemPlace), elems[k]? = some y → ∃ p : ByteArray × ByteArray, W.cell? ⟨g, off + k * 2, none⟩ = some (.string p.1) ∧ W.cell? ⟨g, off + k * 2 + 1, none⟩ = some (.string p.2) ∧ p.1.size ≤ B ∧ p.2.size ≤ B) →
    ∃ al : List (ByteArray × ByteArray), al.length = elems.length ∧ (∀ j u, (attrL al)[j]? = some u → W.cell? ⟨g, off + j, none⟩ = some u) ∧ ∀ p ∈ al, p.1.size ≤ B ∧ p.2.size ≤ B
  | [], off, _ => ⟨[], rfl, fun j u h => by simp [attrL] at h, by simp⟩
  | y :: ys, off, h => by
    obtain ⟨p, h1, h2, hb⟩ := h 0 y rfl
    obtain ⟨al, hl, hc, hq⟩ := attrs_build2 ys (off + 2) (fun k z hz => by
      obtain ⟨q, h3, h4, h5⟩ := h (k + 1) z (by simpa using hz)
      have e : off + 2 + k * 2 = off + (k + 1) * 2 := by omega
      exact ⟨q, by rw [e]; exact h3, by rw [e]; exact h4, h5⟩)
    refine ⟨p :: al, by simp [hl], fun j u hu => ?_, fun r hr => by
      rcases List.mem_cons.1 hr with rfl | hr
      · exact hb
      · exact hq r hr⟩
    have e : attrL (p :: al) = .string p.1 :: .string p.2 :: attrL al := by simp [attrL]
    rw [e] at hu
    match j, hu with
    | 0, hu => simp at hu; subst hu; simpa using h1
    | 1, hu => simp at hu; subst hu; simpa using h2
    | j + 2, hu =>
      have := hc j u (by simpa using hu)
      rw [show off + (j + 2) = off + 2 + j by omega]
      exact this
theorem kids_build2 {g B : Nat} : ∀ (elems : List (DataW H × List MemPlace)) (off : Nat), (∀ (k : Nat) (y : DataW H × List MemPlace), elems[k]? = some y → ∃ (t : Tr) (av kv : Value), (∀ c, c < 5 → W.cell? ⟨g, off + k * 5 + c, none⟩ = (trL t av kv)[c]?) ∧ TrIn (Old W.heap.size) W t av kv ∧ t.size ≤ Rows.uptoBulk y.1 ∧ Strs B t) →
    ∃ (ts : List Tr) (zs : List Value), ts.length = elems.length ∧ KidsAre (Old W.heap.size) W ts zs ∧ (∀ j u, zs[j]? = some u → W.cell? ⟨g, off + j, none⟩ = some u) ∧ Tr.sizes ts ≤ Rows.uptoBulkAll (elems.map (·.1)) ∧ StrsL B ts
  | [], off, _ => ⟨[], [], rfl, by simp [KidsAre], fun j u h => by simp at h, by simp [Tr.sizes], by simp [StrsL]⟩
  | y :: ys, off, h => by
    obtain ⟨t, av, kv, h1, h2, h3, h7⟩ := h 0 y rfl
    obtain ⟨ts, zs, hl, hk, hc, hs, hq⟩ := kids_build2 ys (off + 5) (fun k z hz => by
      obtain ⟨t', av', kv', h4, h5, h6, h8⟩ := h (k + 1) z (by simpa using hz)
      have e : off + 5 + k * 5 = off + (k + 1) * 5 := by omega
      exact ⟨t', av', kv', fun c hcc => by rw [e]; exact h4 c hcc, h5, h6, h8⟩)
    refine ⟨t :: ts, trL t av kv ++ zs, by simp [hl], ?_, fun j u hu => ?_, ?_, by simp only [StrsL]; exact ⟨h7, hq⟩⟩
    · simp only [KidsAre]
      exact ⟨av, kv, zs, rfl, h2, hk⟩
    · by_cases hj : j < 5
      · rw [List.getElem?_append_left (by simpa using hj)] at hu
        have := h1 j hj
        rw [hu] at this
        simpa using this
      · rw [List.getElem?_append_right (by simpa using hj)] at hu
        have := hc (j - 5) u (by simpa using hu)
        rw [show off + j = off + 5 + (j - 5) by omega]
        exact this
    · simp only [Tr.sizes, List.map_cons, Rows.uptoBulkAll]
      omega
set_option maxRecDepth 100000 in
theorem str_bulk {s : ByteArray} : s.size + 1 ≤ Rows.uptoBulk (.lit (.string s.data.toList) : DataW H) := by
  show s.size + 1 ≤ s.data.toList.length + 1
  rw [Array.length_toList]
  exact Nat.le_refl _
set_option maxRecDepth 100000 in
theorem tree_in2 {B : Nat} : ∀ (fuel : Nat) {cs : List Value} {x : DataW H × List MemPlace}, DataW.trod enc Try.prog W 0 (fun _ => true) true fuel 25 cs = some x → Rows.uptoBulk x.1 ≤ B →
    ∃ (t : Tr) (av kv : Value), cs = trL t av kv ∧ TrIn (Old W.heap.size) W t av kv ∧ t.size ≤ Rows.uptoBulk x.1 ∧ Strs B t := by
  intro fuel
  induction fuel using Nat.strongRecOn with
  | ind fuel ih =>
    intro cs x h hB
    have hC : Try.prog.cellsOf 25 = 5 := by kernel_rfl
    obtain ⟨xs, m, hm, rfl, hl, hxl, hg⟩ := DataW.trod_struct Try.underlying25 h
    rw [hC] at hl
    obtain ⟨c0, c1, c2, c3, c4, rfl⟩ := list5 hl
    have q22 : Try.prog.cellsOf 22 = 1 := by kernel_rfl
    have q23 : Try.prog.cellsOf 23 = 1 := by kernel_rfl
    have q9 : Try.prog.cellsOf 9 = 1 := by kernel_rfl
    have hx5 : xs.length = 5 := hxl
    obtain ⟨y0, y1, y2, y3, y4, rfl⟩ := list5 hx5
    have h0' : DataW.trod enc Try.prog W 0 (fun _ => true) true m 3 [c0] = some y0 := by simpa [Try.int_cells] using hg 0 _ rfl
    have h1' : DataW.trod enc Try.prog W 0 (fun _ => true) true m 9 [c1] = some y1 := by simpa [q9] using hg 1 _ rfl
    have h2' : DataW.trod enc Try.prog W 0 (fun _ => true) true m 9 [c2] = some y2 := by simpa [q9] using hg 2 _ rfl
    have h3' : DataW.trod enc Try.prog W 0 (fun _ => true) true m 22 [c3] = some y3 := by simpa [q22] using hg 3 _ rfl
    have h4' : DataW.trod enc Try.prog W 0 (fun _ => true) true m 23 [c4] = some y4 := by simpa [q23] using hg 4 _ rfl
    obtain ⟨k, e0, -⟩ := DataW.trod_int Try.underlying3 h0'
    obtain ⟨nm, e1, f1, -⟩ := DataW.trod_string Try.underlying9 h1'
    obtain ⟨tx, e2, f2, -⟩ := DataW.trod_string Try.underlying9 h2'
    simp at e0 e1 e2
    subst e0 e1 e2
    have s1 := str_bulk (H := H) (s := nm)
    have s2 := str_bulk (H := H) (s := tx)
    simp only [Rows.uptoBulk, List.map_cons, List.map_nil, Rows.uptoBulkAll, f1, f2] at hB s1 s2
    obtain ⟨a3, len3, cap3, el3, rfl, l3, m3, n3, b3, h3⟩ := slice_elems (C := 2) Try.underlying22 (by kernel_rfl) (by omega) h3'
    obtain ⟨a4, len4, cap4, el4, rfl, l4, m4, n4, b4, h4⟩ := slice_elems (C := 5) Try.underlying23 hC (by omega) h4'
    unfold maxLen at m3 m4
    have hA : ∃ al : List (ByteArray × ByteArray), al.length = len3 ∧ CellsIn (Old W.heap.size) W (.slice a3 len3 cap3) al.length (attrL al) ∧ ∀ p ∈ al, p.1.size ≤ B ∧ p.2.size ≤ B := by
      rcases h3 with h3 | ⟨g, off, n, hn, rfl, hgl, h3⟩
      · subst h3
        exact ⟨[], rfl, ⟨a3, cap3, rfl, by simp, .inl rfl⟩, by simp⟩
      · obtain ⟨al, hal, hac, haq⟩ := attrs_build2 (g := g) (B := B) el3 off (fun j y hy => by
          obtain ⟨cs, ht, hcl, hcc⟩ := h3 j y hy
          obtain ⟨ys, m2, -, hy2e, hl2, hxl2, hg2⟩ := DataW.trod_struct Try.underlying155 ht
          obtain ⟨d0, d1, rfl⟩ := list2 hcl
          have hx2 : ys.length = 2 := hxl2
          obtain ⟨z0, z1, rfl⟩ := list2 hx2
          have g0 : DataW.trod enc Try.prog W 0 (fun _ => true) true m2 9 [d0] = some z0 := by simpa [q9] using hg2 0 _ rfl
          have g1 : DataW.trod enc Try.prog W 0 (fun _ => true) true m2 9 [d1] = some z1 := by simpa [q9] using hg2 1 _ rfl
          obtain ⟨p0, f0, u0, -⟩ := DataW.trod_string Try.underlying9 g0
          obtain ⟨p1, f1, u1, -⟩ := DataW.trod_string Try.underlying9 g1
          simp at f0 f1
          subst f0 f1
          have hbe := bulk_mem (List.mem_map.2 ⟨y, List.mem_of_getElem? hy, rfl⟩ : y.1 ∈ el3.map (·.1))
          have v0 := str_bulk (H := H) (s := p0)
          have v1 := str_bulk (H := H) (s := p1)
          rw [hy2e] at hbe
          simp only [Rows.uptoBulk, List.map_cons, List.map_nil, Rows.uptoBulkAll, u0, u1] at hbe v0 v1
          exact ⟨(p0, p1), hcc 0 (by omega), hcc 1 (by omega), by show p0.size ≤ B; omega, by show p1.size ≤ B; omega⟩)
        have hlen : al.length = len3 := by omega
        exact ⟨al, hlen, ⟨some ⟨g, off, none⟩, cap3, by rw [hlen], by omega, .inr ⟨g, off, rfl, hgl, hac⟩⟩, haq⟩
    obtain ⟨al, hal, hCA, hAQ⟩ := hA
    have hK : ∃ (ts : List Tr) (zs : List Value), ts.length = len4 ∧ CellsIn (Old W.heap.size) W (.slice a4 len4 cap4) ts.length zs ∧ KidsAre (Old W.heap.size) W ts zs ∧ Tr.sizes ts ≤ Rows.uptoBulkAll (el4.map (·.1)) ∧ StrsL B ts := by
      rcases h4 with h4 | ⟨g, off, n, hn, rfl, hgl, h4⟩
      · subst h4
        exact ⟨[], [], rfl, ⟨a4, cap4, rfl, by simp, .inl rfl⟩, by simp [KidsAre], by simp [Tr.sizes], by simp [StrsL]⟩
      · obtain ⟨ts, zs, htl, hkk, hkc, hks, hkq⟩ := kids_build2 (g := g) (B := B) el4 off (fun j y hy => by
          obtain ⟨cs, ht, hcl, hcc⟩ := h4 j y hy
          have hbe := bulk_mem (List.mem_map.2 ⟨y, List.mem_of_getElem? hy, rfl⟩ : y.1 ∈ el4.map (·.1))
          obtain ⟨t, av, kv, rfl, h5, h6, h7⟩ := ih n (by omega) ht (by omega)
          exact ⟨t, av, kv, fun c hc => hcc c hc, h5, h6, h7⟩)
        have hlen : ts.length = len4 := by omega
        exact ⟨ts, zs, hlen, ⟨some ⟨g, off, none⟩, cap4, by rw [hlen], by omega, .inr ⟨g, off, rfl, hgl, hkc⟩⟩, hkk, hks, hkq⟩
    obtain ⟨ts, zs, htl, hCK, hKK, hKS, hKQ⟩ := hK
    refine ⟨.mk k nm tx al ts, .slice a3 len3 cap3, .slice a4 len4 cap4, rfl, ?_, ?_, by simp only [Strs]; exact ⟨by omega, by omega, hAQ, hKQ⟩⟩
    · simp only [TrIn]
      exact ⟨hCA, zs, hCK, hKK⟩
    · have hlb : ∀ (l : List (DataW H)), l.length ≤ Rows.uptoBulkAll l := by
        intro l
        induction l with
        | nil => simp
        | cons d r ih2 => have := bulk_pos d; simp only [Rows.uptoBulkAll, List.length_cons]; omega
      have h9 := hlb (el3.map (·.1))
      simp only [List.length_map] at h9
      simp only [Tr.size, Rows.uptoBulk, List.map_cons, List.map_nil, Rows.uptoBulkAll]
      omega
set_option maxRecDepth 100000 in
theorem tree_arg2 {B : Nat} {v : Value} {d : DataW H} {p : List MemPlace} (hv : Value.okWide Try.prog W .any b0 25 v) (h : DataW.Trod enc Try.prog W 0 (fun _ => true) true 25 v d p) (hB : Rows.uptoBulk d ≤ B) :
    ∃ (t : Tr) (av kv : Value), v = trV t av kv ∧ TrIn (Old W.heap.size) W t av kv ∧ t.size ≤ Rows.uptoBulk d ∧ Strs B t := by
  obtain ⟨cs, rfl, hsz⟩ := okWide_struct Try.underlying25 hv
  obtain ⟨l, rfl, hl⟩ := array_list (hsz.trans (by kernel_rfl : Try.prog.cellsOf 25 = 5))
  obtain ⟨c0, c1, c2, c3, c4, rfl⟩ := list5 hl
  obtain ⟨fuel, hf⟩ := h
  have hf' : DataW.trod enc Try.prog W 0 (fun _ => true) true fuel 25 [c0, c1, c2, c3, c4] = some (d, p) := by simpa [Value.cells] using hf
  obtain ⟨t, av, kv, e, h1, h2, h3⟩ := tree_in2 fuel hf' hB
  refine ⟨t, av, kv, ?_, h1, h2, h3⟩
  have : (#[c0, c1, c2, c3, c4] : Array Value) = (trL t av kv).toArray := by rw [← e]
  rw [show ([c0, c1, c2, c3, c4] : List Value).toArray = #[c0, c1, c2, c3, c4] from rfl, this]
end
end Go.Proofs.Ytinkjhkbaadbpaa
