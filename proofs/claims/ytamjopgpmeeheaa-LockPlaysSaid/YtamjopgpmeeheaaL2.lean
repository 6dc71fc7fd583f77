/- of (29). -/
import Derived.Test.YtamjopgpmeeheaaL1
import Derived.RegionTactic
import Derived.ChangeAlike
namespace Go.Proofs.Ytamjopgpmeeheaa
open Go.RowKit
open Go.ChangeMaps (setBlock)
set_option linter.unusedVariables false

theorem Try.zero60 (w : World) : (zeroValue 60).run Try.prog w = .ok (.agg #[.map none, .slice none 0 0]) w := by kernel_rfl
theorem Try.zero3 (w : World) : (zeroValue 3).run Try.prog w = .ok (.int .i64 0) w := by kernel_rfl

/-- a node comes in, that has nothing -/
theorem tab_add {M R : Nat → Prop} {w w' : World} {s m : Nat} {f : Int → Option Value} {T : Tb} {c : Nat} (h : TabF M R w s m f T c) {id : Int} (hf : f id = none) {hb : Nat} (hbn : w.heap.size ≤ hb) (hM : ∀ k, M k → k < w.heap.size) (hR : ∀ k, R k → k < w.heap.size ∧ ¬ M k)
    (hc : Chg (fun k => k = m) w w') (hm : MapIs iv w' m (upd f id (some (.agg #[.map (some hb), .slice none 0 0])))) (hh : MapIs iv w' hb (fun _ => none)) :
    TabF (fun k => M k ∨ k = hb) R w' s m (upd f id (some (.agg #[.map (some hb), .slice none 0 0]))) T (c + 1) := by
  have hms := hM _ h.ms
  have hmm := hM _ h.mm
  refine ⟨.inl h.ms, .inl h.mm, h.sm, (hc.block s hms h.sm).trans h.cell, hm, ?_, ?_, ?_, ?_⟩
  · intro id' v hv
    by_cases e : id' = id
    · subst e
      rw [upd_same] at hv
      cases hv
      have hT := h.none _ hf
      exact ⟨hb, _, rfl, .inr rfl, by omega, by omega, by rw [hT]; exact hh, by rw [hT]; exact pairsIn_nil _ _⟩
    · rw [upd_other _ _ e] at hv
      obtain ⟨hb', qv, e1, h1, h2, h3, h4, h5⟩ := h.node id' v hv
      exact ⟨hb', qv, e1, .inl h1, h2, h3, h4.keep (hc.block _ (hM _ h1) h3), h5.keep (fun k hk => hc.block k (hR k hk).1 (fun e => (hR k hk).2 (e ▸ h.mm)))⟩
  · intro id' hv
    by_cases e : id' = id
    · subst e; exact h.none _ hf
    · rw [upd_other _ _ e] at hv; exact h.none _ hv
  · intro i1 i2 hb' qv qv' h1 h2
    by_cases e1 : i1 = id
    · by_cases e2 : i2 = id
      · rw [e1, e2]
      · exfalso
        subst e1
        rw [upd_same] at h1; rw [upd_other _ _ e2] at h2
        cases h1
        obtain ⟨hb2, qv2, e3, h3, -⟩ := h.node _ _ h2
        simp only [Value.agg.injEq, Array.mk.injEq, List.cons.injEq, Value.map.injEq, Option.some.injEq] at e3
        have := hM _ h3; omega
    · by_cases e2 : i2 = id
      · exfalso
        subst e2
        rw [upd_same] at h2; rw [upd_other _ _ e1] at h1
        cases h2
        obtain ⟨hb2, qv2, e3, h3, -⟩ := h.node _ _ h1
        simp only [Value.agg.injEq, Array.mk.injEq, List.cons.injEq, Value.map.injEq, Option.some.injEq] at e3
        have := hM _ h3; omega
      · rw [upd_other _ _ e1] at h1; rw [upd_other _ _ e2] at h2
        exact h.apart _ _ _ _ _ h1 h2
  · obtain ⟨ks, h1, h2⟩ := h.few
    refine ⟨id :: ks, by simp; omega, fun id' hv => ?_⟩
    by_cases e : id' = id
    · simp [e]
    · rw [upd_other _ _ e] at hv; exact List.mem_cons_of_mem _ (h2 _ hv)

set_option maxRecDepth 100000 in
set_option maxHeartbeats 1000000 in
theorem of_any {M R : Nat → Prop} {w : World} {s m : Nat} {f : Int → Option Value} {T : Tb} {c : Nat} (h : TabF M R w s m f T c) (hM : ∀ k, M k → k < w.heap.size) (hR : ∀ k, R k → k < w.heap.size ∧ ¬ M k) (id : Int) :
    Calls Try.prog 29 #[.pointer (some ⟨s, 0, none⟩), iv id] w fun e w' => ∃ M' f' hb qv, e = .returned (.agg #[.map (some hb), qv]) ∧ (∀ k, M k → M' k) ∧ (∀ k, M' k → M k ∨ (w.heap.size ≤ k ∧ k < w'.heap.size)) ∧
      TabF M' R w' s m f' T (c + 1) ∧ f' id = some (.agg #[.map (some hb), qv]) ∧ Chg (fun k => k = m) w w' := by
  have c0 : w.cell? ⟨s, 0, none⟩ = some (.map (some m)) := by simp [World.cell?, h.cell]
  have hms := hM _ h.ms
  have hmm := hM _ h.mm
  have HT := Lib.hid h
  have HM := Lib.hid h.map
  have hmk := @run_makeMap Try.prog
  have b0 : Below w.heap.size w (w.alloc (.cells #[.map none, .slice none 0 0] 60)) := (Below.refl _ w).alloc (Nat.le_refl _) _
  have c1 := (b0.cell (p := ⟨s, 0, none⟩) hms).trans c0
  have hlk := (h.map.keep (b0.block m hmm)).look key3 Try.underlying49 Try.zero60 id true
  clear h
  cases hf : f id with
  | some v =>
    obtain ⟨hb, qv, rfl, -, -, -, -, aq, cq, rfl, -⟩ := HT.out.node id v hf
    rw [hf] at hlk
    simp only [if_true, Option.getD_some, Option.isSome_some] at hlk
    have HFI := Lib.hid hf
    clear hf
    obtain ⟨nq, hnq⟩ : ∃ nq, (T id).q.length = nq := ⟨_, rfl⟩
    rw [hnq] at hlk HFI
    go_enter Try.func29, Try.ntmps29
    go_wp2
    refine bodyPost_ret (v := .agg #[.map (some hb), .slice aq nq cq]) (by simp [results, Try.results29, go_sem]) rfl ⟨M, f, hb, _, rfl, fun _ h => h, fun _ h => .inl h, ?_, HFI.out, ?_⟩
    · exact (HT.out.keep (fun k hk => (Go.heap_alloc_old _ _ (Nat.lt_of_lt_of_le (hM k hk) (by simp))).trans (Go.heap_alloc_old _ _ (hM k hk))) (fun k hk => (Go.heap_alloc_old _ _ (Nat.lt_of_lt_of_le (hR k hk).1 (by simp))).trans (Go.heap_alloc_old _ _ (hR k hk).1))).mono (fun _ h => h) (fun _ h => h) (Nat.le_succ _)
    · exact (chg_alloc _ _).trans (chg_alloc _ _)
  | none =>
    rw [hf] at hlk
    simp only [if_true, Option.getD_none, Option.isSome_none] at hlk
    have HFI := Lib.hid hf
    obtain ⟨W3, hW3⟩ : ∃ W3 : World, W3 = (((w.alloc (.cells #[.map none, .slice none 0 0] 60)).alloc (.cells #[.map (some (w.heap.size + 1 + 1)), .slice none 0 0] 60)).alloc (.map #[] 0)) := ⟨_, rfl⟩
    have hb3 : Below w.heap.size w W3 := by rw [hW3]; exact (b0.alloc (by simp) _).alloc (by simp; omega) _
    have hs3 : W3.heap.size = w.heap.size + 3 := by rw [hW3]; simp
    have hh3 : W3.heap[w.heap.size + 1 + 1]? = some (.map #[] 0) := by
      rw [hW3]
      have := Go.heap_alloc_new ((w.alloc (.cells #[.map none, .slice none 0 0] 60)).alloc (.cells #[.map (some (w.heap.size + 1 + 1)), .slice none 0 0] 60)) (.map #[] 0)
      simpa using this
    have hn3 : W3.heap[w.heap.size + 1]? = some (.cells #[.map (some (w.heap.size + 1 + 1)), .slice none 0 0] 60) := by
      rw [hW3]
      have := Go.heap_alloc_new (w.alloc (.cells #[.map none, .slice none 0 0] 60)) (.cells #[.map (some (w.heap.size + 1 + 1)), .slice none 0 0] 60)
      exact (Go.heap_alloc_old _ _ (by simp)).trans (by simpa using this)
    have hr3 : W3.heap[w.heap.size]? = some (.cells #[.map none, .slice none 0 0] 60) := by
      rw [hW3]
      exact (Go.heap_alloc_old _ _ (by simp; omega)).trans ((Go.heap_alloc_old _ _ (by simp)).trans (Go.heap_alloc_new w _))
    have HR3 := Lib.hid hr3
    have d0 : W3.cell? ⟨w.heap.size + 1, 0, none⟩ = some (.map (some (w.heap.size + 1 + 1))) := by simp [World.cell?, hn3]
    have d1 : W3.cell? ⟨w.heap.size + 1, 1, none⟩ = some (.slice none 0 0) := by simp [World.cell?, hn3]
    have c3 := (hb3.cell (p := ⟨s, 0, none⟩) hms).trans c0
    obtain ⟨es', ck', hmu, hview⟩ := (HM.out.keep (w' := W3.drew) (hb3.block m hmm)).store key3 Try.underlying49 id (.agg #[.map (some (w.heap.size + 1 + 1)), .slice none 0 0])
    have HV := Lib.hid hview
    have HB3 := Lib.hid hb3
    have HH3 := Lib.hid hh3
    have HN3 := Lib.hid hn3
    have HW3 := Lib.hid hW3
    clear hf hview hb3 hh3 hn3 hW3 hr3
    go_enter Try.func29, Try.ntmps29
    go_wp2
    rw [← HW3.out]
    go_region
    obtain ⟨ob, hob⟩ : ∃ ob, Obj.map es' ck' = ob := ⟨_, rfl⟩
    obtain ⟨W4, hW4⟩ : ∃ W4, setBlock W3.drew m ob = W4 := ⟨_, rfl⟩
    have hch4 : Chg (fun k => k = m) W3 W4 := by rw [← hW4]; exact (chg_drewN (M := fun k => k = m) W3 1).trans (chg_setBlock (M := fun k => k = m) (w := W3.drewN 1) (b := m) rfl ob)
    have hv4 : MapIs iv W4 m (upd f id (some (.agg #[.map (some (w.heap.size + 1 + 1)), .slice none 0 0]))) := by
      rw [← hW4, ← hob]
      exact ⟨es', ck', heap_setBlock_same (w := W3.drew) (by show m < W3.heap.size; omega) _, HV.out⟩
    have e0 := (World.cell?_of_block (a := ⟨w.heap.size + 1, 0, none⟩) (hch4.block (w.heap.size + 1) (by omega) (by omega))).trans d0
    have e1 := (World.cell?_of_block (a := ⟨w.heap.size + 1, 1, none⟩) (hch4.block (w.heap.size + 1) (by omega) (by omega))).trans d1
    have hr4 := (hch4.block w.heap.size (by omega) (by omega)).trans HR3.out
    have e2 : W4.cell? ⟨w.heap.size, 0, none⟩ = some (.map none) := by simp [World.cell?, hr4]
    have e3 : W4.cell? ⟨w.heap.size, 1, none⟩ = some (.slice none 0 0) := by simp [World.cell?, hr4]
    have e4 := free_block hr4 0
    have e5 := free_block hr4 1
    have HCH4 := Lib.hid hch4
    have HV4 := Lib.hid hv4
    rw [hob, hW4]
    clear hob hW4 hch4 hv4 hmu d0 d1 hr4
    go_wp2
    have hch5 : Chg (fun k => k = w.heap.size) W4 ((W4.setCell ⟨w.heap.size, 0, none⟩ (.map (some (w.heap.size + 1 + 1)))).setCell ⟨w.heap.size, 1, none⟩ (.slice none 0 0)) := (chg_set (M := fun k => k = w.heap.size) (w := W4) (b := w.heap.size) rfl 0 _).trans (chg_set (M := fun k => k = w.heap.size) (w := W4.setCell ⟨w.heap.size, 0, none⟩ (.map (some (w.heap.size + 1 + 1)))) (b := w.heap.size) rfl 1 _)
    have hs4 := HCH4.out.size
    refine bodyPost_ret (v := .agg #[.map (some (w.heap.size + 1 + 1)), .slice none 0 0]) (by simp [results, Try.results29, go_sem, e2, e3]) rfl ⟨fun k => M k ∨ k = w.heap.size + 1 + 1, upd f id (some (.agg #[.map (some (w.heap.size + 1 + 1)), .slice none 0 0])), w.heap.size + 1 + 1, _, rfl, fun _ h => .inl h, ?_, ?_, upd_same _ _ _, ?_⟩
    · rintro k (h | rfl)
      · exact .inl h
      · refine .inr ⟨by omega, ?_⟩
        have := hch5.size; omega
    · have hcw : Chg (fun k => k = m) w ((W4.setCell ⟨w.heap.size, 0, none⟩ (.map (some (w.heap.size + 1 + 1)))).setCell ⟨w.heap.size, 1, none⟩ (.slice none 0 0)) := ((chg_new HB3.out).trans HCH4.out).andThen hch5 (fun k hk e => by omega)
      refine tab_add HT.out HFI.out (by omega) hM hR hcw (HV4.out.keep (hch5.block m (by omega) (by omega))) ⟨#[], 0, ?_, ⟨by simp, by simp, by simp⟩, by simp, by simp⟩
      exact (hch5.block _ (by omega) (by omega)).trans ((HCH4.out.block _ (by omega) (by omega)).trans HH3.out)
    · exact ((chg_new HB3.out).trans HCH4.out).andThen hch5 (fun k hk e => by omega)
end Go.Proofs.Ytamjopgpmeeheaa
