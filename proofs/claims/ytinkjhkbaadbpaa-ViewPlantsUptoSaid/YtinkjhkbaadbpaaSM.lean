/- The document's Same and All, of what is the same. -/
import Derived.Test.YtinkjhkbaadbpaaDS
import Derived.Test.YtinkjhkbaadbpaaIT
import Derived.Deep.RegionHeld3
namespace Go.Proofs.Ytinkjhkbaadbpaa
open Go.RowKit
set_option linter.unusedVariables false

theorem below_of_drewN {w w' : World} (h : ∃ n, w.drewN n = w') {B : Nat} : Below B w w' := by
  obtain ⟨n, rfl⟩ := h
  exact below_drewN (Below.refl _ _) n
theorem ints_same (xs : List Int) (F G : Nat → Prop) (v u : Value) (w : World) (h : IntsIn F w v xs) (h' : IntsIn G w u xs) :
    Calls Try.prog 21 #[v, u] w fun e w' => e = .returned (.bool true) ∧ ∃ n, w.drewN n = w' :=
  (ints_any xs xs F G v u w h h').mono fun e w' ⟨h1, h2⟩ => ⟨h1.trans (by rw [decide_eq_true rfl]), h2⟩
set_option maxRecDepth 100000 in
theorem same_any {F G : Nat → Prop} {w : World} (r : Rec) (kv av kv' av' : Value) (hk : IntsIn F w kv r.kids) (ha : IntsIn F w av r.attrs) (hk' : IntsIn G w kv' r.kids) (ha' : IntsIn G w av' r.attrs)
    (hF : ∀ k, F k → k < w.heap.size) (hG : ∀ k, G k → k < w.heap.size) :
    Calls Try.prog 53 #[recV r kv av, recV r kv' av'] w fun e w' => e = .returned (.bool true) ∧ Below w.heap.size w w' := by
  have hb0 : ∀ o o', Below w.heap.size w ((w.alloc o).alloc o') := fun o o' => ((Below.refl _ w).alloc (Nat.le_refl _) _).alloc (by simp) _
  have HK := Lib.hid (fun (w' : World) (hb : Below w.heap.size w w') => ints_same r.kids F G kv kv' w' (hk.keep ((keeps_below hb).mono hF)) (hk'.keep ((keeps_below hb).mono hG)))
  have HA := Lib.hid (fun (w' : World) (hb : Below w.heap.size w w') => ints_same r.attrs F G av av' w' (ha.keep ((keeps_below hb).mono hF)) (ha'.keep ((keeps_below hb).mono hG)))
  have HB := Lib.hid hb0
  obtain ⟨ka, kc, rfl, -, -, -⟩ := hk
  obtain ⟨aa, ac, rfl, -, -, -⟩ := ha
  obtain ⟨ka', kc', rfl, -, -, -⟩ := hk'
  obtain ⟨aa', ac', rfl, -, -, -⟩ := ha'
  obtain ⟨kind, name, text, parent, kids, attrs, gone⟩ := r
  simp only at *
  clear hb0 hF hG
  obtain ⟨W, hW⟩ : ∃ W, (w.alloc (.cells #[.int .i64 kind, .string name, .string text, .int .i64 parent, .slice ka kids.length kc, .slice aa attrs.length ac, .bool gone] 52)).alloc (.cells #[.int .i64 kind, .string name, .string text, .int .i64 parent, .slice ka' kids.length kc', .slice aa' attrs.length ac', .bool gone] 52) = W := ⟨_, rfl⟩
  have hbW := HB.out (.cells #[.int .i64 kind, .string name, .string text, .int .i64 parent, .slice ka kids.length kc, .slice aa attrs.length ac, .bool gone] 52) (.cells #[.int .i64 kind, .string name, .string text, .int .i64 parent, .slice ka' kids.length kc', .slice aa' attrs.length ac', .bool gone] 52)
  have hz0 : ((w.alloc (.cells #[.int .i64 kind, .string name, .string text, .int .i64 parent, .slice ka kids.length kc, .slice aa attrs.length ac, .bool gone] 52)).alloc (.cells #[.int .i64 kind, .string name, .string text, .int .i64 parent, .slice ka' kids.length kc', .slice aa' attrs.length ac', .bool gone] 52)).heap[w.heap.size]? = some (.cells #[.int .i64 kind, .string name, .string text, .int .i64 parent, .slice ka kids.length kc, .slice aa attrs.length ac, .bool gone] 52 (0, 0)) := (Go.heap_alloc_old _ _ (by simp)).trans (Go.heap_alloc_new w _)
  have hz1 : ((w.alloc (.cells #[.int .i64 kind, .string name, .string text, .int .i64 parent, .slice ka kids.length kc, .slice aa attrs.length ac, .bool gone] 52)).alloc (.cells #[.int .i64 kind, .string name, .string text, .int .i64 parent, .slice ka' kids.length kc', .slice aa' attrs.length ac', .bool gone] 52)).heap[w.heap.size + 1]? = some (.cells #[.int .i64 kind, .string name, .string text, .int .i64 parent, .slice ka' kids.length kc', .slice aa' attrs.length ac', .bool gone] 52 (0, 0)) := by simpa using Go.heap_alloc_new (w.alloc (.cells #[.int .i64 kind, .string name, .string text, .int .i64 parent, .slice ka kids.length kc, .slice aa attrs.length ac, .bool gone] 52)) (.cells #[.int .i64 kind, .string name, .string text, .int .i64 parent, .slice ka' kids.length kc', .slice aa' attrs.length ac', .bool gone] 52)
  simp only [recV]
  go_enter Try.func53, Try.ntmps53
  go_upto_region 1 with fail
  rw [hW] at hz0 hz1 hbW
  have hl0 := (Array.getElem?_eq_some_iff.1 hz0).1
  have hl1 := (Array.getElem?_eq_some_iff.1 hz1).1
  obtain ⟨p0, p1, p2, p3, p4, p5, p6⟩ := cells7 hz0
  obtain ⟨q0, q1, q2, q3, q4, q5, q6⟩ := cells7 hz1
  have HBW := Lib.hid hbW
  clear hz0 hz1 hW hbW
  go_wp2_with (first
    | (go_at_call_of 21 (Value.slice ka kids.length kc); refine (HK.out _ HBW.out).mono ?_; rintro e w1 ⟨rfl, hdr⟩; have hb1 := below_of_drewN hdr (B := W.heap.size); have p5 := (hb1.cell (p := ⟨w.heap.size, 5, none⟩) hl0).trans p5; have q5 := (hb1.cell (p := ⟨w.heap.size + 1, 5, none⟩) hl1).trans q5; have HB1 := Lib.hid hb1; clear hb1 hdr)
    | (go_at_call 21; refine (HA.out _ (HBW.out.trans (HB1.out.mono HBW.out.size))).mono ?_; rintro e w2 ⟨rfl, hdr⟩; have hb2 := below_of_drewN hdr (B := w1.heap.size); have HB2 := Lib.hid hb2; clear hb2 hdr))
  go_ret
  exact ⟨rfl, HBW.out.trans ((HB1.out.trans (HB2.out.mono HB1.out.size)).mono HBW.out.size)⟩

/-- a slice of versions in memory, all of it in blocks of F -/
def VersIn (F : Nat → Prop) (w : World) (v : Value) (vs : List Ver) : Prop :=
  ∃ a cap, v = .slice a vs.length cap ∧ vs.length ≤ maxLen ∧ (vs = [] ∨ ∃ g off, a = some ⟨g, off, none⟩ ∧ F g ∧
    ∀ (k : Nat) (u : Ver), vs[k]? = some u → ∃ kv av, IntsIn F w kv u.r.kids ∧ IntsIn F w av u.r.attrs ∧ ∀ j x, (verL u kv av)[j]? = some x → w.cell? ⟨g, off + k * 8 + j, none⟩ = some x)
theorem VersIn.keep {F : Nat → Prop} {w w' : World} {v : Value} {vs : List Ver} (h : VersIn F w v vs) (hk : Keeps F w w') : VersIn F w' v vs := by
  obtain ⟨a, cap, rfl, h1, rfl | ⟨g, off, rfl, hg, hc⟩⟩ := h
  · exact ⟨a, cap, rfl, h1, .inl rfl⟩
  · refine ⟨_, cap, rfl, h1, .inr ⟨g, off, rfl, hg, fun k c e => ?_⟩⟩
    obtain ⟨kv, av, i1, i2, h3⟩ := hc k c e
    exact ⟨kv, av, i1.keep hk, i2.keep hk, fun j x hx => (hk.cell (p := ⟨g, off + k * 8 + j, none⟩) hg).trans (h3 j x hx)⟩
theorem VersIn.mono {F G : Nat → Prop} {w : World} {v : Value} {vs : List Ver} (h : VersIn F w v vs) (hf : ∀ k, F k → G k) : VersIn G w v vs := by
  obtain ⟨a, cap, rfl, h1, rfl | ⟨g, off, rfl, hg, hc⟩⟩ := h
  · exact ⟨a, cap, rfl, h1, .inl rfl⟩
  · refine ⟨_, cap, rfl, h1, .inr ⟨g, off, rfl, hf _ hg, fun k c e => ?_⟩⟩
    obtain ⟨kv, av, i1, i2, h3⟩ := hc k c e
    exact ⟨kv, av, i1.mono hf, i2.mono hf, h3⟩
theorem versIn_row {D : Nat → Prop} {w : World} {B : Nat} {v : Value} {vs : List Ver} {xs : List Value} (h : w.ownsRow B 93 8 v vs.length xs) (hx : VersAre D w vs xs) : VersIn (fun k => D k ∨ v.ownBlock = some k) w v vs := by
  obtain ⟨hl, h⟩ := h
  rcases h with ⟨rfl, h0⟩ | ⟨g, cap, cur, rfl, hb, hg, h1, h2, h3, h4⟩
  · obtain rfl : vs = [] := List.eq_nil_of_length_eq_zero h0
    exact ⟨none, 0, rfl, by simp, .inl rfl⟩
  · refine ⟨_, cap, rfl, Nat.le_trans h1 h2, .inr ⟨g, 0, rfl, .inr rfl, fun k u hu => ?_⟩⟩
    obtain ⟨kv, av, i1, i2, hc⟩ := hx.get k u hu
    refine ⟨kv, av, i1.mono (fun k hk => .inl hk), i2.mono (fun k hk => .inl hk), fun j x hj => ?_⟩
    have hj8 : j < 8 := by have := (List.getElem?_eq_some_iff.1 hj).1; simpa using this
    have hk : k < vs.length := (List.getElem?_eq_some_iff.1 hu).1
    have e := hc j hj8
    rw [hj, ← h4, List.getElem?_take_of_lt (by omega)] at e
    simpa [World.cell?, hg] using e
end Go.Proofs.Ytinkjhkbaadbpaa
