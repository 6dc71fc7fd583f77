/- How a table in memory turns. -/
import Derived.Test.YtamjopgpmeeheaaLT
namespace Go.Proofs.Ytamjopgpmeeheaa
open Go.RowKit
set_option linter.unusedVariables false

theorem TabF.keepChg {M R : Nat → Prop} {w w' : World} {s m : Nat} {f : Int → Option Value} {T : Tb} {c : Nat} (h : TabF M R w s m f T c) (hM : ∀ k, M k → k < w.heap.size) (hR : ∀ k, R k → k < w.heap.size) {X : Nat → Prop} (hc : Chg X w w') (hX : ∀ k, X k → ¬ M k ∧ ¬ R k) : TabF M R w' s m f T c :=
  h.keep (fun k hk => hc.block k (hM k hk) (fun hx => (hX k hx).1 hk)) (fun k hk => hc.block k (hR k hk) (fun hx => (hX k hx).2 hk))
theorem TabF.keepNew {M R : Nat → Prop} {w w' : World} {s m : Nat} {f : Int → Option Value} {T : Tb} {c : Nat} (h : TabF M R w s m f T c) (hM : ∀ k, M k → k < w.heap.size) (hR : ∀ k, R k → k < w.heap.size) (hb : Below w.heap.size w w') : TabF M R w' s m f T c :=
  h.keep (fun k hk => hb.block k (hM k hk)) (fun k hk => hb.block k (hR k hk))
/-- a node's queue turns -/
theorem tab_q {M R R' : Nat → Prop} {w w' : World} {s m : Nat} {f : Int → Option Value} {T : Tb} {c : Nat} (h : TabF M R w s m f T c) {id : Int} {hb : Nat} {qv qv' : Value} {q' : List W2} (hf : f id = some (.agg #[.map (some hb), qv])) (hM : ∀ k, M k → k < w.heap.size) (hR : ∀ k, R k → k < w.heap.size ∧ ¬ M k)
    (hc : Chg (fun k => k = m) w w') (hm : MapIs iv w' m (upd f id (some (.agg #[.map (some hb), qv'])))) (hq : PairsIn R' w' qv' q') (hRR : ∀ k, R k → R' k) :
    TabF M R' w' s m (upd f id (some (.agg #[.map (some hb), qv']))) (setT T id ⟨(T id).hs, q'⟩) c := by
  have hkR : Keeps R w w' := fun k hk => hc.block k (hR k hk).1 (fun e => (hR k hk).2 (e ▸ h.mm))
  obtain ⟨hb0, qv0, e0, n1, n2, n3, n4, n5⟩ := h.node id _ hf
  simp only [Value.agg.injEq, Array.mk.injEq, List.cons.injEq, Value.map.injEq, Option.some.injEq] at e0
  obtain ⟨rfl, -⟩ := e0
  refine ⟨h.ms, h.mm, h.sm, (hc.block s (hM _ h.ms) h.sm).trans h.cell, hm, ?_, ?_, ?_, ?_⟩
  · intro id' v hv
    by_cases e : id' = id
    · subst e
      rw [upd_same] at hv
      cases hv
      exact ⟨hb, _, rfl, n1, n2, n3, by rw [setT_same]; exact n4.keep (hc.block _ (hM _ n1) n3), by rw [setT_same]; exact hq⟩
    · rw [upd_other _ _ e] at hv
      obtain ⟨hb', qv2, e1, h1, h2, h3, h4, h5⟩ := h.node id' v hv
      exact ⟨hb', qv2, e1, h1, h2, h3, by rw [setT_other _ _ e]; exact h4.keep (hc.block _ (hM _ h1) h3), by rw [setT_other _ _ e]; exact (h5.keep hkR).mono hRR⟩
  · intro id' hv
    by_cases e : id' = id
    · subst e; rw [upd_same] at hv; cases hv
    · rw [upd_other _ _ e] at hv; rw [setT_other _ _ e]; exact h.none _ hv
  · intro i1 i2 hb' q1 q2 h1 h2
    have key : ∀ i q1, upd f id (some (.agg #[.map (some hb), qv'])) i = some (.agg #[.map (some hb'), q1]) → ∃ q3, f i = some (.agg #[.map (some hb'), q3]) := by
      intro i q1 h1
      by_cases e : i = id
      · subst e
        rw [upd_same] at h1
        cases h1
        exact ⟨qv, hf⟩
      · rw [upd_other _ _ e] at h1; exact ⟨q1, h1⟩
    obtain ⟨q3, g1⟩ := key i1 q1 h1
    obtain ⟨q4, g2⟩ := key i2 q2 h2
    exact h.apart _ _ _ _ _ g1 g2
  · obtain ⟨ks, h1, h2⟩ := h.few
    refine ⟨ks, h1, fun id' hv => ?_⟩
    by_cases e : id' = id
    · subst e; exact h2 _ (by rw [hf]; rfl)
    · rw [upd_other _ _ e] at hv; exact h2 _ hv
/-- a node's holders turn -/
theorem tab_h {M R : Nat → Prop} {w w' : World} {s m : Nat} {f : Int → Option Value} {T : Tb} {c : Nat} (h : TabF M R w s m f T c) {id : Int} {hb : Nat} {qv : Value} {hs' : List W2} (hf : f id = some (.agg #[.map (some hb), qv])) (hM : ∀ k, M k → k < w.heap.size) (hR : ∀ k, R k → k < w.heap.size ∧ ¬ M k)
    (hc : Chg (fun k => k = hb) w w') (hm : MapIs iv w' hb (hF hs')) :
    TabF M R w' s m f (setT T id ⟨hs', (T id).q⟩) c := by
  obtain ⟨hb0, qv0, e0, n1, n2, n3, n4, n5⟩ := h.node id _ hf
  simp only [Value.agg.injEq, Array.mk.injEq, List.cons.injEq, Value.map.injEq, Option.some.injEq] at e0
  obtain ⟨rfl, rfl, -⟩ := e0
  have hkR : Keeps R w w' := fun k hk => hc.block k (hR k hk).1 (fun e => (hR k hk).2 (e ▸ n1))
  refine ⟨h.ms, h.mm, h.sm, (hc.block s (hM _ h.ms) (fun e => n2 e.symm)).trans h.cell, h.map.keep (hc.block m (hM _ h.mm) (fun e => n3 e.symm)), ?_, ?_, h.apart, h.few⟩
  · intro id' v hv
    by_cases e : id' = id
    · subst e
      rw [hf] at hv
      cases hv
      exact ⟨hb, _, rfl, n1, n2, n3, by rw [setT_same]; exact hm, by rw [setT_same]; exact n5.keep hkR⟩
    · obtain ⟨hb', qv2, e1, h1, h2, h3, h4, h5⟩ := h.node id' v hv
      have hne : hb' ≠ hb := by
        rintro rfl
        rw [e1] at hv
        exact e (h.apart _ _ _ _ _ hv hf)
      exact ⟨hb', qv2, e1, h1, h2, h3, by rw [setT_other _ _ e]; exact h4.keep (hc.block _ (hM _ h1) hne), by rw [setT_other _ _ e]; exact h5.keep hkR⟩
  · intro id' hv
    by_cases e : id' = id
    · subst e; rw [hf] at hv; cases hv
    · rw [setT_other _ _ e]; exact h.none _ hv
/-- a node that has nothing goes out -/
theorem tab_del {M R : Nat → Prop} {w w' : World} {s m : Nat} {f : Int → Option Value} {T : Tb} {c : Nat} (h : TabF M R w s m f T c) {id : Int} (hT : T id = Nd.nil) (hM : ∀ k, M k → k < w.heap.size) (hR : ∀ k, R k → k < w.heap.size ∧ ¬ M k)
    (hc : Chg (fun k => k = m) w w') (hm : MapIs iv w' m (upd f id none)) :
    TabF M R w' s m (upd f id none) T c := by
  have hkR : Keeps R w w' := fun k hk => hc.block k (hR k hk).1 (fun e => (hR k hk).2 (e ▸ h.mm))
  have hupd : ∀ i v, upd f id none i = some v → f i = some v := by
    intro i v hv
    by_cases e : i = id
    · subst e; rw [upd_same] at hv; cases hv
    · rw [upd_other _ _ e] at hv; exact hv
  refine ⟨h.ms, h.mm, h.sm, (hc.block s (hM _ h.ms) h.sm).trans h.cell, hm, ?_, ?_, ?_, ?_⟩
  · intro id' v hv
    obtain ⟨hb', qv2, e1, h1, h2, h3, h4, h5⟩ := h.node id' v (hupd _ _ hv)
    exact ⟨hb', qv2, e1, h1, h2, h3, h4.keep (hc.block _ (hM _ h1) h3), h5.keep hkR⟩
  · intro id' hv
    by_cases e : id' = id
    · subst e; exact hT
    · rw [upd_other _ _ e] at hv; exact h.none _ hv
  · intro i1 i2 hb' q1 q2 h1 h2
    exact h.apart _ _ _ _ _ (hupd _ _ h1) (hupd _ _ h2)
  · obtain ⟨ks, h1, h2⟩ := h.few
    refine ⟨ks, h1, fun id' hv => ?_⟩
    obtain ⟨v, hv'⟩ := Option.isSome_iff_exists.1 hv
    exact h2 _ (by rw [hupd _ _ hv']; rfl)
end Go.Proofs.Ytamjopgpmeeheaa
