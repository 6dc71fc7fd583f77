/- Versions. -/
import Derived.Test.YtinkjhkbaadbpaaDV
import Derived.Test.YtinkjhkbaadbpaaSA
import Derived.Deep.AppendLies
namespace Go.Proofs.Ytinkjhkbaadbpaa
open Go.RowKit
set_option linter.unusedVariables false

set_option maxRecDepth 100000 in
set_option maxHeartbeats 4000000 in
theorem versions_any {R D : Nat → Prop} {w : World} {p : Value} {S : Store} (h : StoreIn R D w p S) (hS : S.Wf) (hR : ∀ k, R k → k < w.heap.size) (hD : ∀ k, D k → k < w.heap.size) (id : Int) (hlen : (S.N id).length ≤ 1000000) :
    Calls Try.prog 46 #[p, .int .i64 id] w fun e w' => (∃ v, e = .returned v ∧ VersIn (fun k => w.heap.size ≤ k ∧ k < w'.heap.size) w' v (S.N id)) ∧ Below w.heap.size w w' := by
  obtain ⟨s, m, f, rfl, hs, hm, hb, hf, h1, h2, h3⟩ := h
  obtain ⟨i0, hi, hz0, hz1, hz2⟩ := info_parts Try.info93
  have c0 : w.cell? ⟨s, 0, none⟩ = some (.map (some m)) := by simp [World.cell?, hb]
  obtain ⟨va, n, cap, xs0, hV, hn, hown0, hvers0, hVR⟩ := row_or_nil h1 h2 id
  subst hn
  have hl : (Instr.lookup 96 (.map (some m)) (.int .i64 id) false).run Try.prog w = .ok (.slice va (S.N id).length cap) w := by
    have := hf.look key3 Try.underlying96 Try.zero79 id false
    rw [hV] at this
    exact this
  have hvi := versIn_row hown0 hvers0
  have hvF : ∀ k, (D k ∨ (Value.slice va (S.N id).length cap).ownBlock = some k) → k < w.heap.size := fun k hk => by
    rcases hk with h | h
    · exact hD k h
    · exact hR k (hVR k h)
  have HV := Lib.hid hvi
  have HF := Lib.hid hvF
  have HOK := Lib.hid (fun k v hk => hS.ok id v (List.mem_of_getElem? (i := k) hk))
  clear hb hf h1 h2 h3 hV hown0 hvers0 hVR hvi hvF hS hR hD
  generalize S.N id = vs at *
  go_enter Try.func46, Try.ntmps46
  go_wp2_with (go_at_call 91; refine (none_no s m _ c0).mono ?_; rintro e w' ⟨rfl, rfl⟩)
  go_loopw [5, 17] (fun v i wr => ∃ k : Nat, k ≤ vs.length ∧ i = .int .i64 k ∧ ∃ xs D', wr.ownsRow w.heap.size 93 8 v (vs.take k).length xs ∧ VersAre D' wr (vs.take k) xs ∧ (∀ j, D' j → w.heap.size ≤ j ∧ j < wr.heap.size ∧ v.ownBlock ≠ some j) ∧ Below w.heap.size w wr) (fun _ i _ => vs.length - (Lib.intOf i).toNat)
  case atStart => exact ⟨0, Nat.zero_le _, rfl, [], fun _ => False, World.ownsRow_nil _ _ _ _, rfl, fun _ h => h.elim, Below.refl _ _⟩
  case round =>
    obtain ⟨k, hk, rfl, xs, D', hown, hvers, hdl, hbel⟩ := hrel
    by_cases hlt : k < vs.length
    · obtain ⟨u, huk⟩ : ∃ u, vs[k]? = some u := ⟨_, List.getElem?_eq_getElem hlt⟩
      obtain ⟨va', cap', eva, -, hx⟩ := HV.out
      cases eva
      rcases hx with rfl | ⟨g, off, rfl, hgF, hc⟩
      · simp at hlt
      obtain ⟨kv, av, ik, ia, hcl⟩ := hc k u huk
      have hok := HOK.out k u huk
      obtain ⟨e0, e1, e2, e3, e4, e5, e6, e7⟩ := verCells hcl (hbel.block g (HF.out g hgF))
      have hk0 : (0 : Int) ≤ k := by omega
      have hkl : (k : Int) < vs.length := by omega
      have hwk : wrap64 (k : Int) = k := by unfold wrap64; omega
      have htk : vs.take (k + 1) = vs.take k ++ [u] := by rw [List.take_add_one, huk]; simp
      have hlk : (vs.take k).length = k := by rw [List.length_take]; omega
      rw [hlk] at hown
      have IK := Lib.hid ik
      have IA := Lib.hid ia
      obtain ⟨ka, kc, rfl, -, -, -⟩ := ik
      obtain ⟨aa, ac, rfl, -, -, -⟩ := ia
      have HOKR := Lib.hid hok
      have HOWN := Lib.hid hown
      have HVERS := Lib.hid hvers
      have HDL := Lib.hid hdl
      have HBEL := Lib.hid hbel
      have HTK := Lib.hid htk
      clear hok hown hvers hdl hbel htk hcl hc huk hlk
      obtain ⟨tm, kind, name, text, parent, kids, attrs, gone⟩ := u
      simp only at *
      go_upto_region 7 with fail
      obtain ⟨W1, hW1⟩ : ∃ W1, wr.alloc (Obj.cells #[.int .u64 tm, .int .i64 kind, .string name, .string text, .int .i64 parent, .slice ka kids.length kc, .slice aa attrs.length ac, .bool gone] 93) = W1 := ⟨_, rfl⟩
      have hg1 := Go.heap_alloc_new wr (Obj.cells #[.int .u64 tm, .int .i64 kind, .string name, .string text, .int .i64 parent, .slice ka kids.length kc, .slice aa attrs.length ac, .bool gone] 93)
      have hbw1 : Below wr.heap.size wr (wr.alloc (Obj.cells #[.int .u64 tm, .int .i64 kind, .string name, .string text, .int .i64 parent, .slice ka kids.length kc, .slice aa attrs.length ac, .bool gone] 93)) := (Below.refl _ _).alloc (Nat.le_refl _) _
      have hsz1 : (wr.alloc (Obj.cells #[.int .u64 tm, .int .i64 kind, .string name, .string text, .int .i64 parent, .slice ka kids.length kc, .slice aa attrs.length ac, .bool gone] 93)).heap.size = wr.heap.size + 1 := by simp
      rw [hW1] at hg1 hbw1 hsz1 ⊢
      clear hW1
      have hltd : wr.heap.size < W1.heap.size := by omega
      have hss : ∀ w' : World, w'.heap[wr.heap.size]? = W1.heap[wr.heap.size]? → (w'.cell? ⟨wr.heap.size, 0, none⟩ = some (.int .u64 tm) ∧ w'.cell? ⟨wr.heap.size, 1, none⟩ = some (.int .i64 kind) ∧ w'.cell? ⟨wr.heap.size, 2, none⟩ = some (.string name) ∧ w'.cell? ⟨wr.heap.size, 3, none⟩ = some (.string text) ∧ w'.cell? ⟨wr.heap.size, 4, none⟩ = some (.int .i64 parent) ∧ w'.cell? ⟨wr.heap.size, 5, none⟩ = some (.slice ka kids.length kc) ∧ w'.cell? ⟨wr.heap.size, 6, none⟩ = some (.slice aa attrs.length ac) ∧ w'.cell? ⟨wr.heap.size, 7, none⟩ = some (.bool gone)) := fun w' hw' => by
        have hbx := hw'.trans hg1
        simp [World.cell?, hbx]
      have HSS := Lib.hid hss
      have hF0 : ∀ j, (D j ∨ Value.ownBlock (.slice (some ⟨g, off, none⟩) vs.length cap) = some j) → j < W1.drew.heap.size := fun j hj => Nat.lt_of_lt_of_le (HF.out j hj) (Nat.le_trans HBEL.out.size hbw1.size)
      have hkW : Keeps (fun j => D j ∨ Value.ownBlock (.slice (some ⟨g, off, none⟩) vs.length cap) = some j) w W1.drew := (keeps_below (HBEL.out.trans (hbw1.mono HBEL.out.size)).drew).mono HF.out
      have hcp := copied_any ⟨kind, name, text, parent, kids, attrs, gone⟩ (.slice ka kids.length kc) (.slice aa attrs.length ac) _ W1.drew (IK.out.keep hkW) (IA.out.keep hkW) hF0 HOKR.out.1 HOKR.out.2
      have HCP := Lib.hid hcp
      have HBW := Lib.hid hbw1
      have hneb : ¬ (some wr.heap.size = Value.ownBlock u5) := fun e => by have := (ownsRow_base HOWN.out e.symm).2; omega
      clear hss hcp hg1 hF0 hkW e0 e1 e2 e3 e4 e5 e6 e7
      go_region_held3 (fun w' => w'.cell? ⟨wr.heap.size, 0, none⟩ = some (.int .u64 tm) ∧ w'.cell? ⟨wr.heap.size, 1, none⟩ = some (.int .i64 kind) ∧ w'.cell? ⟨wr.heap.size, 2, none⟩ = some (.string name) ∧ w'.cell? ⟨wr.heap.size, 3, none⟩ = some (.string text) ∧ w'.cell? ⟨wr.heap.size, 4, none⟩ = some (.int .i64 parent) ∧ w'.cell? ⟨wr.heap.size, 5, none⟩ = some (.slice ka kids.length kc) ∧ w'.cell? ⟨wr.heap.size, 6, none⟩ = some (.slice aa attrs.length ac) ∧ w'.cell? ⟨wr.heap.size, 7, none⟩ = some (.bool gone))
        (first
          | exact HSS.out _ ((hgrow.block _ (Nat.lt_of_lt_of_le hltd (Nat.le_trans hb2.size (by simp))) hneb).trans ((Go.heap_alloc_old w2 _ (Nat.lt_of_lt_of_le hltd hb2.size)).trans (hb2.block _ hltd)))
          | exact HSS.out _ ((Go.heap_alloc_old w2 _ (Nat.lt_of_lt_of_le hltd hb2.size)).trans (hb2.block _ hltd))
          | exact HSS.out _ (hb2.block _ hltd)
          | exact HSS.out _ rfl)
        (first
          | (go_at_call 92; refine HCP.out.mono ?_; rintro e w2 ⟨⟨kv', av', rfl, j1, j2⟩, hb2⟩; have J1 := Lib.hid j1; have J2 := Lib.hid j2; obtain ⟨ka', kc', rfl, -, -, -⟩ := j1; obtain ⟨aa', ac', rfl, -, -, -⟩ := j2; simp only [recV])
          | (refine step_append_lies _ (by rfl) _ _ 79 (by rfl) w.heap.size 93 i0 _ 8 112 Try.underlying79 hi hz0 hz1 hz2 rfl (by decide) u5 k xs (by rfl) (ownsRow_keeps HOWN.out (fun j hj => (Go.heap_alloc_old w2 _ (Nat.lt_of_lt_of_le (Nat.lt_trans (ownsRow_base HOWN.out hj).2 hltd) hb2.size)).trans ((hb2.block j (Nat.lt_trans (ownsRow_base HOWN.out hj).2 hltd)).trans (HBW.out.block j (ownsRow_base HOWN.out hj).2)))) ⟨w2.heap.size, 0, none⟩ 1 1 (verL ⟨tm, ⟨kind, name, text, parent, kids, attrs, gone⟩⟩ (.slice ka' kids.length kc') (.slice aa' attrs.length ac')) (by rfl) (by rfl) (cells_new (xs := verL ⟨tm, ⟨kind, name, text, parent, kids, attrs, gone⟩⟩ (.slice ka' kids.length kc') (.slice aa' attrs.length ac'))) (by simp [Value.oneCell']) (by omega) (by unfold maxLen; omega) (by omega) (by have h1 := HBEL.out.size; have h2 := HBW.out.size; have h3 := hb2.size; simp at h3 ⊢; omega) (w2.heap.size + 1) (by simp) ?_; intro g2 cap2 w3 hown3 hgrow hloc hlt3))
      all_goals
        go_wp2_with fail
        go_roundw
        case measure => simp [Lib.intOf]; omega
        case rel =>
          have hs1 := HBEL.out.size
          have hs2 := HBW.out.size
          have hs3 : W1.heap.size ≤ w2.heap.size := hb2.size
          have hs4 : w2.heap.size + 1 ≤ w3.heap.size := by have := hgrow.size; simpa using this
          have hrow := fun j (hj : Value.ownBlock u5 = some j) => ownsRow_base HOWN.out hj
          have hold : ∀ j, j < w2.heap.size → Value.ownBlock u5 ≠ some j → w3.heap[j]? = w2.heap[j]? := fun j hj hn => (hgrow.block j (by simp; omega) (fun e => hn e.symm)).trans (Go.heap_alloc_old w2 _ hj)
          have hold0 : ∀ j, j < wr.heap.size → Value.ownBlock u5 ≠ some j → w3.heap[j]? = wr.heap[j]? := fun j hj hn => (hold j (by omega) hn).trans ((hb2.block j (show j < W1.heap.size by omega)).trans (HBW.out.block j hj))
          refine ⟨k + 1, by omega, by go_num, xs ++ verL ⟨tm, ⟨kind, name, text, parent, kids, attrs, gone⟩⟩ (.slice ka' kids.length kc') (.slice aa' attrs.length ac'), fun j => D' j ∨ (W1.heap.size ≤ j ∧ j < w2.heap.size), ?_, ?_, ?_, ?_⟩
          · rw [List.length_take, Nat.min_eq_left (by omega)]
            exact hown3
          · rw [HTK.out]
            have kk : Keeps (fun j => New W1.drew.heap.size j ∧ j < w2.heap.size) w2 w3 := fun j hj => hold j hj.2 (fun e => by have h1 := (hrow j e).2; have h2 : W1.heap.size ≤ j := hj.1; omega)
            exact VersAre.snoc (v := ⟨tm, ⟨kind, name, text, parent, kids, attrs, gone⟩⟩) ((J1.out.bound.keep kk).mono (fun j hj => .inr hj)) ((J2.out.bound.keep kk).mono (fun j hj => .inr hj)) (HVERS.out.keep (fun j hj => hold0 j (HDL.out j hj).2.1 (HDL.out j hj).2.2) (fun j hj => .inl hj))
          · rintro j (hj | hj)
            · obtain ⟨q1, q2, q3⟩ := HDL.out j hj
              refine ⟨q1, by omega, fun e => ?_⟩
              obtain rfl : g2 = j := Option.some.inj e
              rcases hloc with h | h
              · exact q3 h
              · omega
            · refine ⟨by omega, by omega, fun e => ?_⟩
              obtain rfl : g2 = j := Option.some.inj e
              rcases hloc with h | h
              · have := (hrow _ h).2; omega
              · omega
          · refine HBEL.out.trans ⟨hgrow.os.trans (hb2.os.trans HBW.out.os), hgrow.tape.trans (hb2.tape.trans HBW.out.tape), hgrow.output.trans (hb2.output.trans HBW.out.output), by omega, fun j hj => hold0 j (by omega) (fun e => by have := (hrow j e).1; omega)⟩
    · obtain rfl : k = vs.length := by omega
      have HOWN := Lib.hid hown
      have HVERS := Lib.hid hvers
      have HDL := Lib.hid hdl
      have HBEL := Lib.hid hbel
      clear hown hvers hdl hbel
      go_wp2
      go_ret
      have hx := versIn_row HOWN.out HVERS.out
      rw [List.take_length] at hx
      refine ⟨⟨_, rfl, hx.mono fun k hk => ?_⟩, HBEL.out⟩
      rcases hk with hk | hk
      · exact ⟨(HDL.out k hk).1, (HDL.out k hk).2.1⟩
      · exact ownsRow_base HOWN.out hk
end Go.Proofs.Ytinkjhkbaadbpaa
