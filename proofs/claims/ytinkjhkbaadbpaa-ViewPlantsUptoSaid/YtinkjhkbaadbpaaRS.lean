/- The reference's view and its store together; Fresh and Lay over them. -/
import Derived.Test.YtinkjhkbaadbpaaPL
namespace Go.Proofs.Ytinkjhkbaadbpaa
open Go.RowKit
set_option linter.unusedVariables false

/-- the reference's view and store in memory: D what the view reads, Rd what the store turns, Dd what it reads -/
structure RVS (D Rd Dd : Nat → Prop) (w : World) (v : Nat) (q : Value) (V : RVw) (d : Doc) : Prop where
  view : RVIn D D w v q V
  doc : DocIn Rd Dd w q d
  dl : ∀ k, D k → k < w.heap.size ∧ k ≠ v ∧ ¬ Rd k
  rl : ∀ k, Rd k → k < w.heap.size ∧ k ≠ v ∧ ¬ Dd k
  ddl : ∀ k, Dd k → k < w.heap.size ∧ k ≠ v
theorem RVS.lt {D Rd Dd : Nat → Prop} {w : World} {v : Nat} {q : Value} {V : RVw} {d : Doc} (h : RVS D Rd Dd w v q V d) : v < w.heap.size := by
  obtain ⟨a, cap, hb, -⟩ := h.view.read
  exact (Array.getElem?_eq_some_iff.1 hb).1
theorem RVS.quiet {D Rd Dd M : Nat → Prop} {w w' : World} {v : Nat} {q : Value} {V : RVw} {d : Doc} (h : RVS D Rd Dd w v q V d) (hb : Chg M w w') (hM : ∀ k, M k → k ≠ v ∧ ¬ D k ∧ ¬ Rd k ∧ ¬ Dd k) : RVS D Rd Dd w' v q V d := by
  have hv := h.lt
  have hs := hb.size
  have hD : Keeps D w w' := hb.keeps (fun k hk => ⟨(h.dl k hk).1, fun hm => (hM k hm).2.1 hk⟩)
  exact ⟨h.view.keep (hb.block v hv (fun hm => (hM v hm).1 rfl)) hD hD,
    h.doc.keep (hb.keeps (fun k hk => ⟨(h.rl k hk).1, fun hm => (hM k hm).2.2.1 hk⟩)) (hb.keeps (fun k hk => ⟨(h.ddl k hk).1, fun hm => (hM k hm).2.2.2 hk⟩)),
    fun k hk => ⟨Nat.lt_of_lt_of_le (h.dl k hk).1 hs, (h.dl k hk).2⟩, fun k hk => ⟨Nat.lt_of_lt_of_le (h.rl k hk).1 hs, (h.rl k hk).2⟩, fun k hk => ⟨Nat.lt_of_lt_of_le (h.ddl k hk).1 hs, (h.ddl k hk).2⟩⟩
theorem RVS.below {D Rd Dd : Nat → Prop} {w w' : World} {v : Nat} {q : Value} {V : RVw} {d : Doc} (h : RVS D Rd Dd w v q V d) (hb : Below w.heap.size w w') : RVS D Rd Dd w' v q V d :=
  h.quiet (M := fun _ => False) (chg_new hb) (fun _ h => h.elim)
theorem RVS.cellS {D Rd Dd : Nat → Prop} {w : World} {v : Nat} {q : Value} {V : RVw} {d : Doc} (h : RVS D Rd Dd w v q V d) : w.cell? ⟨v, 0, none⟩ = some q := by
  obtain ⟨a, cap, hb, -⟩ := h.view.read
  simp [World.cell?, hb]
/-- a number is given -/
theorem RVS.fresh {D Rd Dd : Nat → Prop} {w : World} {v : Nat} {q : Value} {V : RVw} {d : Doc} (h : RVS D Rd Dd w v q V d) (h0 : 0 ≤ d.given) (hg : d.given < 9223372036854775807) :
    Calls Try.prog 88 #[q] w fun e w' => e = .returned (.int .i64 (d.given + 1)) ∧ RVS D Rd Dd w' v q V { d with given := d.given + 1 } ∧ Chg Rd w w' := by
  refine (docFresh_any h.doc (fun k hk => (h.rl k hk).2.2) h0 hg).mono ?_
  rintro e w' ⟨he, hd, hc⟩
  have hv := h.lt
  have hz := hc.size
  have hD : Keeps D w w' := hc.keeps (fun k hk => ⟨(h.dl k hk).1, (h.dl k hk).2.2⟩)
  exact ⟨he, ⟨h.view.keep (hc.block v hv (fun hR => (h.rl v hR).2.1 rfl)) hD hD, hd, fun k hk => ⟨Nat.lt_of_lt_of_le (h.dl k hk).1 hz, (h.dl k hk).2⟩, fun k hk => ⟨Nat.lt_of_lt_of_le (h.rl k hk).1 hz, (h.rl k hk).2⟩, fun k hk => ⟨Nat.lt_of_lt_of_le (h.ddl k hk).1 hz, (h.ddl k hk).2⟩⟩, hc⟩
/-- a change is laid -/
theorem RVS.lay {D Rd Dd E : Nat → Prop} {w : World} {v : Nat} {q : Value} {V : RVw} {d : Doc} (h : RVS D Rd Dd w v q V d) (hl : V.own.length ≤ 1000000000) (id : Int) {r : Rec} {x : Value} (hok : RecOk r) (hx : RecV E w x r) (hE : ∀ k, E k → k < w.heap.size ∧ k ≠ v ∧ ¬ Rd k) :
    Calls Try.prog 106 #[.pointer (some ⟨v, 0, none⟩), iv id, x] w fun e w' => e = .returned (.tuple #[]) ∧ RVS (fun k => (D k ∨ E k) ∨ (w.heap.size ≤ k ∧ k < w'.heap.size)) Rd Dd w' v q ⟨layL id r V.own, V.time⟩ d ∧ Chg (fun k => k = v) w w' := by
  have hDE : ∀ k, (D k ∨ E k) → k < w.heap.size ∧ k ≠ v := fun k hk => hk.elim (fun h9 => ⟨(h.dl k h9).1, (h.dl k h9).2.1⟩) (fun h9 => ⟨(hE k h9).1, (hE k h9).2.1⟩)
  have hv9 : RVIn (fun k => D k ∨ E k) (fun k => D k ∨ E k) w v q V := h.view.mono (fun k hk => .inl hk) (fun k hk => .inl hk)
  refine (lay_any hv9 hDE hl id hok (hx.mono (fun k hk => .inr hk))).mono ?_
  rintro e w' ⟨he, hv, hc⟩
  have hz := hc.size
  have hvl := h.lt
  refine ⟨he, ⟨hv.mono (fun k hk => hk) (fun k hk => .inl hk), h.doc.keep (hc.keeps (fun k hk => ⟨(h.rl k hk).1, (h.rl k hk).2.1⟩)) (hc.keeps (fun k hk => h.ddl k hk)), ?_, fun k hk => ⟨Nat.lt_of_lt_of_le (h.rl k hk).1 hz, (h.rl k hk).2⟩, fun k hk => ⟨Nat.lt_of_lt_of_le (h.ddl k hk).1 hz, (h.ddl k hk).2⟩⟩, hc⟩
  rintro k (hk | hk)
  · refine ⟨Nat.lt_of_lt_of_le (hDE k hk).1 hz, (hDE k hk).2, ?_⟩
    exact hk.elim (fun h9 => (h.dl k h9).2.2) (fun h9 => (hE k h9).2.2)
  · exact ⟨hk.2, by omega, fun hR => by have := (h.rl k hR).1; omega⟩
def RPlantPost (D Rd Dd : Nat → Prop) (w : World) (v : Nat) (q : Value) (T : Nat) (d : Doc) (res : Int × Int × List Own) (e : Ending) (w' : World) : Prop :=
  e = .returned (.int .i64 res.1) ∧ (∃ D', RVS D' Rd Dd w' v q ⟨res.2.2, T⟩ { d with given := res.2.1 } ∧ ∀ k, D' k → D k ∨ (w.heap.size ≤ k ∧ k < w'.heap.size)) ∧ Chg (fun k => k = v ∨ Rd k) w w'
end Go.Proofs.Ytinkjhkbaadbpaa
