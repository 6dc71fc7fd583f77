/- The reference's Put (74). -/
import Derived.Test.YtinkjhkbaadbpaaVL
import Derived.Test.YtinkjhkbaadbpaaRR
namespace Go.Proofs.Ytinkjhkbaadbpaa
open Go.RowKit
set_option linter.unusedVariables false

def RPutPost (R D : Nat → Prop) (w : World) (v : Nat) (q : Value) (V : RVw) (id : Int) (r : Rec) (rb : Bool) (e : Ending) (w' : World) : Prop :=
  ((id < 1 ∨ rb = false) ∧ e = .returned (.int .i64 2) ∧ Below w.heap.size w w') ∨
      (1 ≤ id ∧ rb = true ∧ e = .returned (.int .i64 0) ∧ RVIn (fun k => R k ∨ (w.heap.size ≤ k ∧ k < w'.heap.size)) D w' v q ⟨layL id r V.own, V.time⟩ ∧ Chg (fun k => k = v) w w')
set_option maxRecDepth 100000 in
set_option maxHeartbeats 4000000 in
theorem rput_any {R D : Nat → Prop} {w : World} {v : Nat} {q : Value} {V : RVw} (h : RVIn R D w v q V) (hR : ∀ k, R k → k < w.heap.size) (hD : ∀ k, D k → k < w.heap.size ∧ k ≠ v) (hl : V.own.length ≤ 1000000000) (id : Int) {r : Rec} {x : Value} (hok : RecOk r) (hx : RecV D w x r) :
    Calls Try.prog 74 #[.pointer (some ⟨v, 0, none⟩), iv id, x] w (RPutPost R D w v q V id r (rightR r)) := by
  obtain ⟨a, cap, hb, -⟩ := h.read
  have hvl : v < w.heap.size := (Array.getElem?_eq_some_iff.1 hb).1
  obtain ⟨kv, av, rfl, hrk, hra⟩ := hx
  obtain ⟨rr, hrr⟩ : ∃ rr, r = rr := ⟨_, rfl⟩
  obtain ⟨kind, name, text, parent, kids, attrs, gone⟩ := r
  obtain ⟨ka, kc, rfl, -, -, -⟩ := id_ hrk
  obtain ⟨aa, ac, rfl, -, -, -⟩ := id_ hra
  simp only at hrk hra ⊢
  obtain ⟨W, hW⟩ : ∃ W, w.alloc (.cells #[.int .i64 kind, .string name, .string text, .int .i64 parent, .slice ka kids.length kc, .slice aa attrs.length ac, .bool gone] 52) = W := ⟨_, rfl⟩
  have hbW : Below w.heap.size w W := by rw [← hW]; exact (Below.refl _ _).alloc (Nat.le_refl _) _
  have hlW : w.heap.size < W.heap.size := by rw [← hW]; simp
  have hkp := fun W' (hb : Below w.heap.size w W') => (keeps_below hb).mono (fun k hk => (hD k hk).1 : ∀ k, D k → Old w.heap.size k)
  have HRI := Lib.hid (refRight_any ⟨kind, name, text, parent, kids, attrs, gone⟩ (.slice ka kids.length kc) (.slice aa attrs.length ac) D W (hrk.keep (hkp W hbW)) (hra.keep (hkp W hbW)) (fun k hk => Nat.lt_of_lt_of_le (hD k hk).1 hbW.size))
  have hlay := fun W' (hb : Below w.heap.size w W') => lay_any (R := R) (D := D) (h.keep (hb.block v hvl) ((keeps_below hb).mono hR) (hkp W' hb)) (fun k hk => ⟨Nat.lt_of_lt_of_le (hD k hk).1 hb.size, (hD k hk).2⟩) hl id hok (x := recV ⟨kind, name, text, parent, kids, attrs, gone⟩ (.slice ka kids.length kc) (.slice aa attrs.length ac)) ⟨_, _, rfl, hrk.keep (hkp W' hb), hra.keep (hkp W' hb)⟩
  have HLAY := Lib.hid hlay
  have HWW := Lib.hid hW
  have HBW := Lib.hid hbW
  clear h hR hD hok hW hbW hrk hra hkp hlay hb hrr
  by_cases h1 : id < 1
  · go_enter Try.func74, Try.ntmps74
    go_wp2_with fail
    go_ret
    rw [HWW.out]
    exact .inl ⟨.inl h1, rfl, HBW.out⟩
  · have hd1 : decide (id < 1) = false := decide_eq_false h1
    obtain ⟨rb, hrb⟩ : ∃ rb, rightR ⟨kind, name, text, parent, kids, attrs, gone⟩ = rb := ⟨_, rfl⟩
    rw [hrb] at HRI ⊢
    have e5 : ∀ W', Below W.heap.size W W' → W'.heap[w.heap.size]? = some (.cells #[.int .i64 kind, .string name, .string text, .int .i64 parent, .slice ka kids.length kc, .slice aa attrs.length ac, .bool gone] 52 (0, 0)) := fun W' hb => (hb.block _ hlW).trans (by rw [← HWW.out]; exact Go.heap_alloc_new _ _)
    have E5 := Lib.hid e5
    obtain ⟨x0, x1, x2, x3, x4, x5, x6⟩ := cells7 (e5 W (Below.refl _ _))
    have H1 := Lib.hid h1
    clear hrb e5 h1
    go_enter Try.func74, Try.ntmps74
    go_wp2_with fail
    rw [HWW.out]
    go_wp2_with fail
    refine HRI.out.mono ?_
    rintro e w2 ⟨rfl, hb2⟩
    cases rb with
    | false =>
      go_wp2
      go_ret
      exact .inl ⟨.inr rfl, rfl, HBW.out.trans (hb2.mono HBW.out.size)⟩
    | true =>
      have hb3 : Below w.heap.size w w2 := HBW.out.trans (hb2.mono HBW.out.size)
      obtain ⟨y0, y1, y2, y3, y4, y5, y6⟩ := cells7 (E5.out w2 hb2)
      have HLP := Lib.hid (HLAY.out w2 hb3)
      have HB3 := Lib.hid hb3
      clear hb2 hb3
      go_wp2_with (go_at_call 106; refine HLP.out.mono ?_; rintro e w4 ⟨rfl, hv4, hc4⟩)
      go_ret
      refine .inr ⟨by have := H1.out; omega, rfl, rfl, hv4.mono (fun k hk => ?_) (fun _ h => h), (chg_new HB3.out).trans hc4⟩
      rcases hk with hk | ⟨hk, hk'⟩
      · exact .inl hk
      · exact .inr ⟨Nat.le_trans HB3.out.size hk, hk'⟩
end Go.Proofs.Ytinkjhkbaadbpaa
