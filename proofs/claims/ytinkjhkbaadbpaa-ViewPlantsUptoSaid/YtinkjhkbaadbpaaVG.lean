/- A view in memory; New (71), none (84), Get (29). -/
import Derived.Test.YtinkjhkbaadbpaaDA
import Derived.Deep.RegionHeld3
import Derived.Deep.CutBlock
import Derived.Deep.CutRange
import Derived.Deep.DeepCutAuto
import Derived.Outline
namespace Go.Proofs.Ytinkjhkbaadbpaa
open Go.RowKit
open Go.ChangeMaps (setBlock)
set_option linter.unusedVariables false

/-- a view: its own changes, its time -/
structure Vw where
  own : Int → Option Rec
  time : Nat
def Vw.get (V : Vw) (S : Store) (id : Int) : Option Rec :=
  match V.own id with
  | some r => if r.gone then none else some r
  | none => S.at id V.time
/-- a record by value -/
def RecV (D : Nat → Prop) (w : World) (v : Value) (r : Rec) : Prop := ∃ kv av, v = recV r kv av ∧ IntsIn D w kv r.kids ∧ IntsIn D w av r.attrs
theorem RecV.keep {D : Nat → Prop} {w w' : World} {v : Value} {r : Rec} (h : RecV D w v r) (hk : Keeps D w w') : RecV D w' v r := by
  obtain ⟨kv, av, e, h1, h2⟩ := h
  exact ⟨kv, av, e, h1.keep hk, h2.keep hk⟩
theorem RecV.mono {D E : Nat → Prop} {w : World} {v : Value} {r : Rec} (h : RecV D w v r) (hk : ∀ k, D k → E k) : RecV E w v r := by
  obtain ⟨kv, av, e, h1, h2⟩ := h
  exact ⟨kv, av, e, h1.mono hk, h2.mono hk⟩
/-- a view in memory: block v, and its map in block m; the lists lie in D -/
structure VIn (D : Nat → Prop) (w : World) (v m : Nat) (sp : Value) (V : Vw) : Prop where
  cell : w.heap[v]? = some (.cells #[sp, .int .u64 V.time, .map (some m)] 119 (0, 0))
  map : ∃ f, MapIs iv w m f ∧ (∀ id x, f id = some x → ∃ r, V.own id = some r ∧ RecV D w x r) ∧ (∀ id, f id = none → V.own id = none)
  ok : ∀ id r, V.own id = some r → RecOk r
theorem VIn.ne {D : Nat → Prop} {w : World} {v m : Nat} {sp : Value} {V : Vw} (h : VIn D w v m sp V) : v ≠ m := by
  rintro rfl
  obtain ⟨f, ⟨es, c, hb, _⟩, _⟩ := h.map
  rw [h.cell] at hb; cases hb
theorem VIn.lt {D : Nat → Prop} {w : World} {v m : Nat} {sp : Value} {V : Vw} (h : VIn D w v m sp V) : v < w.heap.size ∧ m < w.heap.size := by
  obtain ⟨f, hm, _⟩ := h.map
  exact ⟨(Array.getElem?_eq_some_iff.1 h.cell).1, hm.lt⟩
theorem VIn.keep {D : Nat → Prop} {w w' : World} {v m : Nat} {sp : Value} {V : Vw} (h : VIn D w v m sp V) (hv : w'.heap[v]? = w.heap[v]?) (hm : w'.heap[m]? = w.heap[m]?) (hk : Keeps D w w') : VIn D w' v m sp V := by
  obtain ⟨f, h1, h2, h3⟩ := h.map
  refine ⟨hv.trans h.cell, ⟨f, h1.keep hm, fun id x hx => ?_, h3⟩, h.ok⟩
  obtain ⟨r, e, hr⟩ := h2 id x hx
  exact ⟨r, e, hr.keep hk⟩

theorem id_ {p : Prop} (h : p) : p := h
theorem vnone_any {w : World} {v m : Nat} {sp tv : Value} (h : w.heap[v]? = some (.cells #[sp, tv, .map (some m)] 119 (0, 0))) : Calls Try.prog 84 #[.pointer (some ⟨v, 0, none⟩)] w fun e w' => e = .returned (.bool false) ∧ w = w' := by
  have c2 : w.cell? ⟨v, 2, none⟩ = some (.map (some m)) := by simp [World.cell?, h]
  have hq := fun w => run_eql_map_nil (P := Try.prog) w 117 3 52 (some m) Try.underlying117
  clear h
  go_enter Try.func84, Try.ntmps84
  go_wp2
  go_ret
  exact ⟨rfl, rfl⟩
theorem Try.zero52 (w : World) : (zeroValue 52).run Try.prog w = .ok (recV Rec.zero (.slice none 0 0) (.slice none 0 0)) w := by kernel_rfl

/-- view.New -/
theorem vnew_any (s : Nat) (T : Nat) (w : World) : Calls Try.prog 71 #[.pointer (some ⟨s, 0, none⟩), .int .u64 T] w fun e w' => e = .returned (.pointer (some ⟨w.heap.size + 1, 0, none⟩)) ∧ VIn (fun _ => False) w' (w.heap.size + 1) w.heap.size (.pointer (some ⟨s, 0, none⟩)) ⟨fun _ => none, T⟩ ∧ Below w.heap.size w w' := by
  have hmm := @run_makeMap Try.prog
  go_enter Try.func71, Try.ntmps71
  go_wp2
  go_ret
  refine ⟨rfl, ⟨?_, ?_, fun id r h => by cases h⟩, ?_⟩
  · have := Go.heap_alloc_new (w.alloc (.map #[] 0)) (.cells #[.pointer (some ⟨s, 0, none⟩), .int .u64 T, .map (some w.heap.size)] 119)
    rw [World.size_alloc] at this
    exact this
  · exact ⟨fun _ => none, (mapIs_new iv w).keep (Go.heap_alloc_old _ _ (by simp)), (fun id x h => by cases h), fun _ _ => rfl⟩
  · exact ((Below.refl _ _).alloc (Nat.le_refl _) _).alloc (by simp) _

set_option maxRecDepth 100000 in
set_option maxHeartbeats 4000000 in
theorem get_own {D : Nat → Prop} {w : World} {v m : Nat} {sp : Value} {V : Vw} (hv : VIn D w v m sp V) (hD : ∀ k, D k → k < w.heap.size) (id : Int) {r : Rec} (hr : V.own id = some r) :
    Calls Try.prog 29 #[.pointer (some ⟨v, 0, none⟩), iv id] w fun e w' => RecOut w.heap.size w' (if r.gone then none else some r) e ∧ Below w.heap.size w w' := by
  obtain ⟨f, hm, hf1, hf2⟩ := hv.map
  obtain ⟨x, hx⟩ : ∃ x, f id = some x := by
    cases e : f id with
    | none => rw [hf2 id e] at hr; cases hr
    | some x => exact ⟨x, rfl⟩
  obtain ⟨r', hr', kv, av, rfl, hk, ha⟩ := hf1 id x hx
  rw [hr] at hr'
  obtain rfl := Option.some.inj hr'
  have hok := hv.ok id r hr
  obtain ⟨hvl, hml⟩ := hv.lt
  have c2 : w.cell? ⟨v, 2, none⟩ = some (.map (some m)) := by simp [World.cell?, hv.cell]
  have hlk := ((hm.keep (w' := w.alloc (.cells #[.int .i64 0, .string ⟨#[]⟩, .string ⟨#[]⟩, .int .i64 0, .slice none 0 0, .slice none 0 0, .bool false] 52)) (Go.heap_alloc_old _ _ hml)).look key3 Try.underlying117 Try.zero52 id true)
  rw [hx] at hlk
  simp only [if_true, Option.getD_some, Option.isSome_some] at hlk
  have HNO := Lib.hid (vnone_any (w := w.alloc (.cells #[.int .i64 0, .string ⟨#[]⟩, .string ⟨#[]⟩, .int .i64 0, .slice none 0 0, .slice none 0 0, .bool false] 52)) ((Go.heap_alloc_old _ _ hvl).trans hv.cell))
  have HK := Lib.hid hk
  have HA := Lib.hid ha
  have HD := Lib.hid hD
  have HOK := Lib.hid hok
  obtain ⟨kind, name, text, parent, kids, attrs, gone⟩ := r
  obtain ⟨ka, kc, rfl, -, -, -⟩ := id_ hk
  obtain ⟨aa, ac, rfl, -, -, -⟩ := id_ ha
  simp only at hlk HK HA HOK ⊢
  have hb0 := Go.heap_alloc_new w (.cells #[.int .i64 0, .string ⟨#[]⟩, .string ⟨#[]⟩, .int .i64 0, .slice none 0 0, .slice none 0 0, .bool false] 52)
  have hbl0 : Below w.heap.size w (w.alloc (.cells #[.int .i64 0, .string ⟨#[]⟩, .string ⟨#[]⟩, .int .i64 0, .slice none 0 0, .slice none 0 0, .bool false] 52)) := (Below.refl _ _).alloc (Nat.le_refl _) _
  have HB0 := Lib.hid hb0
  have HBL0 := Lib.hid hbl0
  clear hv hm hf1 hf2 hx hr hr' hk ha hD hok hb0 hbl0
  cases gone with
  | true =>
    go_enter Try.func29, Try.ntmps29
    go_wp2_with (go_at_call 84; refine HNO.out.mono ?_; rintro e w1 ⟨rfl, rfl⟩)
    refine bodyPost_ret (v := .tuple #[recV Rec.zero (.slice none 0 0) (.slice none 0 0), .bool false]) (by simp [results, Try.results29, go_sem, Rec.zero, *]) rfl ⟨recOut_none _ _, ?_⟩
    exact HBL0.out.alloc (by simp) _
  | false =>
    have hbl1 : Below w.heap.size w ((w.alloc (.cells #[.int .i64 0, .string ⟨#[]⟩, .string ⟨#[]⟩, .int .i64 0, .slice none 0 0, .slice none 0 0, .bool false] 52)).alloc (.cells #[.int .i64 kind, .string name, .string text, .int .i64 parent, .slice ka kids.length kc, .slice aa attrs.length ac, .bool false] 52)) := HBL0.out.alloc (by simp) _
    have hcp := vcopied_any ⟨kind, name, text, parent, kids, attrs, false⟩ (.slice ka kids.length kc) (.slice aa attrs.length ac) D ((w.alloc (.cells #[.int .i64 0, .string ⟨#[]⟩, .string ⟨#[]⟩, .int .i64 0, .slice none 0 0, .slice none 0 0, .bool false] 52)).alloc (.cells #[.int .i64 kind, .string name, .string text, .int .i64 parent, .slice ka kids.length kc, .slice aa attrs.length ac, .bool false] 52)) (HK.out.keep ((keeps_below hbl1).mono HD.out)) (HA.out.keep ((keeps_below hbl1).mono HD.out)) (fun k hk => Nat.lt_of_lt_of_le (HD.out k hk) hbl1.size) HOK.out.1 HOK.out.2
    have HCP := Lib.hid hcp
    have HBL1 := Lib.hid hbl1
    clear hcp hbl1
    go_enter Try.func29, Try.ntmps29
    go_wp2_with (first
      | (go_at_call 85; refine HCP.out.mono ?_; rintro e w2 ⟨⟨kv', av', rfl, hk', ha'⟩, hb2⟩; have g0 := (hb2.block w.heap.size (by simp; omega)).trans ((Go.heap_alloc_old _ _ (by simp)).trans HB0.out); obtain ⟨p0, p1, p2, p3, p4, p5, p6⟩ := cells7 g0; have hfr0 := free_block g0; have HK' := Lib.hid hk'; have HA' := Lib.hid ha'; obtain ⟨ka', kc', rfl, -, -, -⟩ := hk'; obtain ⟨aa', ac', rfl, -, -, -⟩ := ha'; clear g0)
      | (go_at_call 84; refine HNO.out.mono ?_; rintro e w1 ⟨rfl, rfl⟩))
    refine bodyPost_ret (v := .tuple #[recV ⟨kind, name, text, parent, kids, attrs, false⟩ (.slice ka' kids.length kc') (.slice aa' attrs.length ac'), .bool true]) (by simp [results, Try.results29, go_sem, *]) rfl ?_
    have hs2 := hb2.size
    simp only [World.size_alloc] at hs2
    have hn : ¬ New (w.heap.size + 2) w.heap.size := by simp
    have hl : w.heap.size ≤ w.heap.size := Nat.le_refl _
    refine ⟨⟨_, _, rfl, ?_, ?_⟩, ?_⟩
    · exact ((HK'.out.mono (fun k hk => by have : _ ≤ k := hk; simp at this; exact this : ∀ k, New _ k → New (w.heap.size + 2) k)).keep ((((((((Keeps.refl (New (w.heap.size + 2)) w2).setAt hn 0 _).setAt hn 1 _).setAt hn 2 _).setAt hn 3 _).setAt hn 4 _).setAt hn 5 _).setAt hn 6 _)).mono (fun k hk => Nat.le_trans (Nat.le_add_right _ _) hk)
    · exact ((HA'.out.mono (fun k hk => by have : _ ≤ k := hk; simp at this; exact this : ∀ k, New _ k → New (w.heap.size + 2) k)).keep ((((((((Keeps.refl (New (w.heap.size + 2)) w2).setAt hn 0 _).setAt hn 1 _).setAt hn 2 _).setAt hn 3 _).setAt hn 4 _).setAt hn 5 _).setAt hn 6 _)).mono (fun k hk => Nat.le_trans (Nat.le_add_right _ _) hk)
    · exact below_setAt (below_setAt (below_setAt (below_setAt (below_setAt (below_setAt (below_setAt (HBL1.out.trans (hb2.mono HBL1.out.size)) hl 0 _) hl 1 _) hl 2 _) hl 3 _) hl 4 _) hl 5 _) hl 6 _

set_option maxRecDepth 100000 in
set_option maxHeartbeats 4000000 in
theorem get_store {D R Ds : Nat → Prop} {w : World} {v m s : Nat} {V : Vw} {S : Store} (hv : VIn D w v m (.pointer (some ⟨s, 0, none⟩)) V) (hs : StoreIn R Ds w (.pointer (some ⟨s, 0, none⟩)) S) (hS : S.Wf) (hR : ∀ k, R k → k < w.heap.size) (hDs : ∀ k, Ds k → k < w.heap.size) (id : Int) (hr : V.own id = none) :
    Calls Try.prog 29 #[.pointer (some ⟨v, 0, none⟩), iv id] w fun e w' => RecOut w.heap.size w' (S.at id V.time) e ∧ Below w.heap.size w w' := by
  obtain ⟨f, hm, hf1, hf2⟩ := hv.map
  have hx : f id = none := by
    cases e : f id with
    | none => rfl
    | some x => obtain ⟨r, h, _⟩ := hf1 id x e; rw [hr] at h; cases h
  obtain ⟨hvl, hml⟩ := hv.lt
  have c0 : w.cell? ⟨v, 0, none⟩ = some (.pointer (some ⟨s, 0, none⟩)) := by simp [World.cell?, hv.cell]
  have c1 : w.cell? ⟨v, 1, none⟩ = some (.int .u64 V.time) := by simp [World.cell?, hv.cell]
  have c2 : w.cell? ⟨v, 2, none⟩ = some (.map (some m)) := by simp [World.cell?, hv.cell]
  have hlk := ((hm.keep (w' := w.alloc (.cells #[.int .i64 0, .string ⟨#[]⟩, .string ⟨#[]⟩, .int .i64 0, .slice none 0 0, .slice none 0 0, .bool false] 52)) (Go.heap_alloc_old _ _ hml)).look key3 Try.underlying117 Try.zero52 id true)
  rw [hx] at hlk
  simp only [if_true, Option.getD_none, Option.isSome_none] at hlk
  have HNO := Lib.hid (vnone_any (w := w.alloc (.cells #[.int .i64 0, .string ⟨#[]⟩, .string ⟨#[]⟩, .int .i64 0, .slice none 0 0, .slice none 0 0, .bool false] 52)) ((Go.heap_alloc_old _ _ hvl).trans hv.cell))
  have hb0 := Go.heap_alloc_new w (.cells #[.int .i64 0, .string ⟨#[]⟩, .string ⟨#[]⟩, .int .i64 0, .slice none 0 0, .slice none 0 0, .bool false] 52)
  have hbl0 : Below w.heap.size w (w.alloc (.cells #[.int .i64 0, .string ⟨#[]⟩, .string ⟨#[]⟩, .int .i64 0, .slice none 0 0, .slice none 0 0, .bool false] 52)) := (Below.refl _ _).alloc (Nat.le_refl _) _
  have hat : ∀ W, Below w.heap.size w W → Calls Try.prog 51 #[.pointer (some ⟨s, 0, none⟩), .int .i64 id, .int .u64 V.time] W fun e w' => RecOut W.heap.size w' (S.at id V.time) e ∧ Below W.heap.size W w' := fun W hW => at_any (hs.keep ((keeps_below hW).mono hR) ((keeps_below hW).mono hDs)) hS (fun k hk => Nat.lt_of_lt_of_le (hDs k hk) hW.size) id V.time
  have HAT := Lib.hid hat
  have HB0 := Lib.hid hb0
  have HBL0 := Lib.hid hbl0
  have hbl1 : Below w.heap.size w ((w.alloc (.cells #[.int .i64 0, .string ⟨#[]⟩, .string ⟨#[]⟩, .int .i64 0, .slice none 0 0, .slice none 0 0, .bool false] 52)).alloc (.cells #[.int .i64 0, .string ⟨#[]⟩, .string ⟨#[]⟩, .int .i64 0, .slice none 0 0, .slice none 0 0, .bool false] 52)) := hbl0.alloc (by simp) _
  have HBL1 := Lib.hid hbl1
  obtain ⟨T, hT⟩ : ∃ T, V.time = T := ⟨_, rfl⟩
  rw [hT] at c1 HAT ⊢
  obtain ⟨o, ho⟩ : ∃ o, S.at id T = o := ⟨_, rfl⟩
  rw [ho] at HAT ⊢
  clear hv hm hf1 hf2 hx hr hs hS hR hDs hb0 hbl0 hat hT ho hbl1
  go_enter Try.func29, Try.ntmps29
  go_wp2_with (go_at_call 84; refine HNO.out.mono ?_; rintro e w1 ⟨rfl, rfl⟩)
  go_region_with (go_at_call 51; refine (HAT.out _ HBL1.out.drew).mono ?_; rintro e w2 ⟨⟨kv', av', rfl, hk', ha'⟩, hb2⟩; have g0 := (hb2.block w.heap.size (by simp; omega)).trans ((Go.heap_alloc_old _ _ (by simp)).trans HB0.out); obtain ⟨p0, p1, p2, p3, p4, p5, p6⟩ := cells7 g0; have hfr0 := free_block g0; have HK' := Lib.hid hk'; have HA' := Lib.hid ha'; obtain ⟨ka', kc', rfl, -, -, -⟩ := hk'; obtain ⟨aa', ac', rfl, -, -, -⟩ := ha'; clear g0)
  all_goals
    go_wp2
    refine bodyPost_ret (v := .tuple #[recV (o.getD Rec.zero) (.slice ka' (o.getD Rec.zero).kids.length kc') (.slice aa' (o.getD Rec.zero).attrs.length ac'), .bool o.isSome]) (by simp [results, Try.results29, go_sem, *]) rfl ?_
    have hs2 := hb2.size
    simp only [World.drew, World.size_alloc] at hs2
    have hn : ¬ New (w.heap.size + 2) w.heap.size := by simp
    have hl : w.heap.size ≤ w.heap.size := Nat.le_refl _
    refine ⟨⟨_, _, rfl, ?_, ?_⟩, ?_⟩
    · exact ((HK'.out.mono (fun k hk => by have : _ ≤ k := hk; simp at this; exact this : ∀ k, New _ k → New (w.heap.size + 2) k)).keep ((((((((Keeps.refl (New (w.heap.size + 2)) w2).setAt hn 0 _).setAt hn 1 _).setAt hn 2 _).setAt hn 3 _).setAt hn 4 _).setAt hn 5 _).setAt hn 6 _)).mono (fun k hk => Nat.le_trans (Nat.le_add_right _ _) hk)
    · exact ((HA'.out.mono (fun k hk => by have : _ ≤ k := hk; simp at this; exact this : ∀ k, New _ k → New (w.heap.size + 2) k)).keep ((((((((Keeps.refl (New (w.heap.size + 2)) w2).setAt hn 0 _).setAt hn 1 _).setAt hn 2 _).setAt hn 3 _).setAt hn 4 _).setAt hn 5 _).setAt hn 6 _)).mono (fun k hk => Nat.le_trans (Nat.le_add_right _ _) hk)
    · exact below_setAt (below_setAt (below_setAt (below_setAt (below_setAt (below_setAt (below_setAt (HBL1.out.drew.trans (hb2.mono HBL1.out.drew.size)) hl 0 _) hl 1 _) hl 2 _) hl 3 _) hl 4 _) hl 5 _) hl 6 _
theorem get_any {D R Ds : Nat → Prop} {w : World} {v m s : Nat} {V : Vw} {S : Store} (hv : VIn D w v m (.pointer (some ⟨s, 0, none⟩)) V) (hs : StoreIn R Ds w (.pointer (some ⟨s, 0, none⟩)) S) (hS : S.Wf) (hD : ∀ k, D k → k < w.heap.size) (hR : ∀ k, R k → k < w.heap.size) (hDs : ∀ k, Ds k → k < w.heap.size) (id : Int) :
    Calls Try.prog 29 #[.pointer (some ⟨v, 0, none⟩), iv id] w fun e w' => RecOut w.heap.size w' (V.get S id) e ∧ Below w.heap.size w w' := by
  cases hr : V.own id with
  | none =>
    have := get_store hv hs hS hR hDs id hr
    unfold Vw.get; rw [hr]; exact this
  | some r =>
    have := get_own hv hD id hr
    unfold Vw.get; rw [hr]; exact this
end Go.Proofs.Ytinkjhkbaadbpaa
