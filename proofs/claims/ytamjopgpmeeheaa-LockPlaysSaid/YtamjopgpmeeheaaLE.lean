/- leave (38). -/
import Derived.Test.YtamjopgpmeeheaaLD
import Derived.Test.YtamjopgpmeeheaaL2
import Derived.Test.YtamjopgpmeeheaaTB
import Derived.Test.YtamjopgpmeeheaaIS
namespace Go.Proofs.Ytamjopgpmeeheaa
open Go.RowKit
open Go.ChangeMaps (setBlock)
set_option linter.unusedVariables false

/-- a transaction is in no queue -/
def outQ (q : List W2) (t : Int) : List W2 := q.filter (fun x => x.1 != t)
def leaveT (T : Tb) (t : Int) : Tb := fun id => ⟨(T id).hs, outQ (T id).q t⟩
theorem outQ_none {q : List W2} {t : Int} (h : ∀ x ∈ q, x.1 ≠ t) : outQ q t = q := List.filter_eq_self.2 (fun x hx => by simpa using h x hx)
theorem outQ_at {q : List W2} {t : Int} {k : Nat} {e : W2} (hn : (q.map (·.1)).Nodup) (he : q[k]? = some e) (ht : e.1 = t) : outQ q t = q.take k ++ q.drop (k + 1) := by
  obtain ⟨hk, rfl⟩ := List.getElem?_eq_some_iff.1 he
  have hsp : q = q.take k ++ q[k] :: q.drop (k + 1) := by rw [List.getElem_cons_drop]; exact (List.take_append_drop k q).symm
  have hne : ∀ x ∈ q.take k ++ q.drop (k + 1), x.1 ≠ t := by
    intro x hx hxt
    rw [hsp, List.map_append, List.map_cons] at hn
    obtain ⟨h1, h2, h3⟩ := List.nodup_append.1 hn
    rcases List.mem_append.1 hx with hx | hx
    · exact h3 x.1 (List.mem_map.2 ⟨x, hx, rfl⟩) q[k].1 (by simp) (by rw [hxt, ht])
    · exact (List.nodup_cons.1 h2).1 (List.mem_map.2 ⟨x, hx, by rw [hxt, ht]⟩)
  have h1 := outQ_none (q := q.take k) (t := t) (fun x hx => hne x (List.mem_append_left _ hx))
  have h2 := outQ_none (q := q.drop (k + 1)) (t := t) (fun x hx => hne x (List.mem_append_right _ hx))
  have : outQ q t = outQ (q.take k) t ++ outQ (q[k] :: q.drop (k + 1)) t := by
    conv => lhs; rw [hsp]
    unfold outQ
    rw [List.filter_append]
  rw [this, h1]
  congr 1
  unfold outQ
  rw [List.filter_cons, if_neg (by simp [ht])]
  exact h2

set_option maxRecDepth 100000 in
set_option maxHeartbeats 4000000 in
theorem leave_any {M R : Nat → Prop} {w : World} {s m : Nat} {f : Int → Option Value} {T : Tb} {c : Nat} (h : TabF M R w s m f T c) (hM : ∀ k, M k → k < w.heap.size) (hR : ∀ k, R k → k < w.heap.size ∧ ¬ M k) (hOK : ∀ id, NdOk (T id)) (t : Int) :
    Calls Try.prog 38 #[.pointer (some ⟨s, 0, none⟩), iv t] w fun e w' => ∃ R' f' b, e = .returned (.bool b) ∧ (b = true ↔ ∃ id, ∃ x ∈ (T id).q, x.1 = t) ∧ (∀ k, R k → R' k) ∧ (∀ k, R' k → R k ∨ (w.heap.size ≤ k ∧ k < w'.heap.size)) ∧
      TabF M R' w' s m f' (leaveT T t) c ∧ Chg (fun k => k = m) w w' := by
  have hms := hM _ h.ms
  have hmm := hM _ h.mm
  have c0 : w.cell? ⟨s, 0, none⟩ = some (.map (some m)) := by simp [World.cell?, h.cell]
  have b0 : Below w.heap.size w (w.alloc (.cells #[iv t] 3)) := (Below.refl _ w).alloc (Nat.le_refl _) _
  have c1 := (b0.cell (p := ⟨s, 0, none⟩) hms).trans c0
  have HT := Lib.hid h
  have H0 := Lib.hid (h.map.keep (b0.block m hmm))
  have hmf : ∀ (fn : Fn) (first cap : Array Value) (w : World), (Instr.makeFunc fn first cap).run Try.prog w = .ok (.func fn first cap) w := fun _ _ _ _ => rfl
  clear h
  go_enter Try.func38, Try.ntmps38
  go_wp2_with (refine wpList_mapRange rfl _ 49 rfl Try.underlying49 rfl H0.out ?_; intro ob n0 hit)
  have HIT := Lib.hid hit
  have hne : m ≠ w.heap.size + 1 := by omega
  clear hit
  go_simp
  go_loopw [5] (fun was wr => ∃ (L : Int → Prop) (n : Nat) (f' : Int → Option Value) (Tc : Tb) (R' : Nat → Prop) (b : Bool), was = .bool b ∧ Iter iv wr (w.heap.size + 1) m f' L n ∧ TabF M R' wr s m f' Tc c ∧ (∀ id, ¬ L id → Tc id = leaveT T t id) ∧ (∀ id, L id → Tc id = T id) ∧
    (b = false → ∀ id, ¬ L id → ∀ x ∈ (T id).q, x.1 ≠ t) ∧ (b = true → ∃ id, ∃ x ∈ (T id).q, x.1 = t) ∧ (∀ k, R k → R' k) ∧ (∀ k, R' k → R k ∨ (w.heap.size + 2 ≤ k ∧ k < wr.heap.size)) ∧ wr.heap[w.heap.size]? = some (.cells #[iv t] 3) ∧ Chg (fun k => k = m) w wr) (fun _ wr => iterLeft (w.heap.size + 1) m wr)
  case atStart =>
    have hb2 : Below w.heap.size w ((w.alloc (.cells #[iv t] 3)).alloc ob) := b0.alloc (by simp) ob
    refine ⟨_, n0, f, T, R, false, rfl, by simpa using HIT.out, HT.out.keepNew hM (fun k hk => (hR k hk).1) hb2, fun id hn => ?_, fun _ _ => rfl, fun _ id hn => ?_, (fun h => by cases h), fun _ h => h, fun _ h => .inl h, (Go.heap_alloc_old _ _ (by simp)).trans (Go.heap_alloc_new w _), chg_new hb2⟩
    · have : T id = Nd.nil := HT.out.none id (by simpa using hn)
      unfold leaveT
      rw [this]; rfl
    · have : T id = Nd.nil := HT.out.none id (by simpa using hn)
      rw [this]; intro x hx; cases hx
  case round =>
    obtain ⟨L, n, f', Tc, R', b, rfl, hit, htab, h1, h2, h3, h4, h5, h6, h7, hch⟩ := hrel
    have hleft := hit.left
    have HIT2 := Lib.hid hit
    have HTAB := Lib.hid htab
    have G1 := Lib.hid h1
    have G2 := Lib.hid h2
    have G3 := Lib.hid h3
    have G4 := Lib.hid h4
    have G5 := Lib.hid h5
    have G6 := Lib.hid h6
    have G7 := Lib.hid h7
    have GC := Lib.hid hch
    have hsr := hch.size
    clear hit htab h1 h2 h3 h4 h5 h6 h7 hch
    go_wp2_with (first
      | (refine wpList_mapNext rfl _ rfl key3 rfl HIT2.out (fun hno => ?_) (fun x v w1 ob' n' hLx hfx hst hob hi' hlt' hen => ?_); rotate_left; (obtain ⟨hb, qv, rfl, hnM, hns, hnm, hnmap, hqin⟩ := HTAB.out.node x v hfx; have hen1 := hen w1 (hst.2.2.2.2 m hne) hob; have HST := Lib.hid hst; have HI2 := Lib.hid hi'; have HLX := Lib.hid hLx; have HFX := Lib.hid hfx; have HQ := Lib.hid hqin; obtain ⟨aq, cq, rfl, -, -, -⟩ := hqin; clear hst hi' hLx hen hnmap hfx); rotate_left; (have HNO2 := Lib.hid hno; clear hno)))
    · go_ret
      refine ⟨R', f', b, rfl, ⟨G4.out, fun ⟨id, x, hx, ht⟩ => ?_⟩, G5.out, fun k hk => (G6.out k hk).imp id (fun h => by omega), ?_, GC.out⟩
      · cases b with
        | true => rfl
        | false => exact absurd ht (G3.out rfl id (HNO2.out id) x hx)
      · have : Tc = leaveT T t := funext (fun id => G1.out id (HNO2.out id))
        rw [← this]; exact HTAB.out
    · have hlx := HI2.out.lt
      have hs1 : wr.heap.size = w1.heap.size := HST.out.2.2.2.1.symm
      have HTX := Lib.hid (show Tc x = T x from G2.out x HLX.out)
      have hMw : ∀ k, M k → k < wr.heap.size := fun k hk => Nat.lt_of_lt_of_le (hM k hk) hsr
      have hRw : ∀ k, R' k → k < wr.heap.size ∧ ¬ M k := fun k hk => (G6.out k hk).elim (fun h => ⟨Nat.lt_of_lt_of_le (hR k h).1 hsr, (hR k h).2⟩) (fun h => ⟨h.2, fun hm => by have := hM k hm; omega⟩)
      have hnotM : ¬ M (w.heap.size + 1) := fun h => by have := hM _ h; omega
      have hnotR : ¬ R' (w.heap.size + 1) := fun h => by rcases G6.out _ h with h | h; have := (hR _ h).1; omega; omega
      obtain ⟨box, hbox⟩ : ∃ box, box = Obj.cells #[.map (some hb), .slice aq (Tc x).q.length cq] 60 := ⟨_, rfl⟩
      obtain ⟨W2, hW2⟩ : ∃ W2, w1.alloc box = W2 := ⟨_, rfl⟩
      have hch2 : Chg (fun k => k = w.heap.size + 1) wr W2 := by
        rw [← hW2]
        exact (show Chg (fun k => k = w.heap.size + 1) wr w1 from ⟨HST.out.1, HST.out.2.1, HST.out.2.2.1, by omega, fun k _ hn => HST.out.2.2.2.2 k hn⟩).trans (chg_alloc _ _)
      have hs2 : W2.heap.size = w1.heap.size + 1 := by rw [← hW2]; simp
      have htab2 : TabF M R' W2 s m f' Tc c := HTAB.out.keepChg hMw (fun k hk => (hRw k hk).1) hch2 (fun k hk => by subst hk; exact ⟨hnotM, hnotR⟩)
      have hit2 : Iter iv W2 (w.heap.size + 1) m f' (fun y => L y ∧ y ≠ x) n' := by rw [← hW2]; exact HI2.out.keep (Go.heap_alloc_old _ _ hlx.1) (Go.heap_alloc_old _ _ hlx.2)
      have hbx2 : W2.heap[w1.heap.size]? = some box := by rw [← hW2]; exact Go.heap_alloc_new _ _
      have ht2 : W2.heap[w.heap.size]? = some (.cells #[iv t] 3) := (hch2.block _ (by omega) (by omega)).trans G7.out
      have hq2 : PairsIn R' W2 (.slice aq (Tc x).q.length cq) (Tc x).q := HQ.out.keep (fun k hk => hch2.block k (hRw k hk).1 (fun e => hnotR (e ▸ hk)))
      have hidx := indexFunc_any hq2 (fun k hk => by have := (hRw k hk).1; omega) (cb := w.heap.size) (t := t) (by simp [World.cell?, ht2])
      rw [← hbox, hW2]
      have HTAB2 := Lib.hid htab2
      have HIT3 := Lib.hid hit2
      have HBX2 := Lib.hid hbx2
      have HT2 := Lib.hid ht2
      have HQ2 := Lib.hid hq2
      have HCH2 := Lib.hid hch2
      have HBOX := Lib.hid hbox
      have HNR := Lib.hid (And.intro hnotM hnotR)
      have HRW := Lib.hid hRw
      clear htab2 hit2 hbx2 ht2 hq2 hch2 hW2 hbox hnotM hnotR hen1 hob hRw
      refine hidx.mono ?_
      rintro r w3 ⟨hr, hb3⟩
      have HB3 := Lib.hid hb3
      have hs3 := hb3.size
      clear hidx hb3
      rcases hr with ⟨k, e, hk, het, -, rfl⟩ | ⟨hno, rfl⟩
      · have hokx : NdOk (Tc x) := by rw [HTX.out]; exact hOK x
        have hkl : k < (Tc x).q.length := (List.getElem?_eq_some_iff.1 hk).1
        have hout := outQ_at hokx.once hk het
        have hq1000 := hokx.few_q
        obtain ⟨Q, hQ⟩ : ∃ Q, Q = (Tc x).q.take k ++ (Tc x).q.drop (k + 1) := ⟨_, rfl⟩
        rw [← hQ] at hout
        have HQQ := Lib.hid hQ
        have HOUT := Lib.hid hout
        have hmem : ∃ y ∈ (T x).q, y.1 = t := ⟨e, by rw [← HTX.out]; exact List.mem_of_getElem? hk, het⟩
        have HMEM := Lib.hid hmem
        have hq3 := HQ2.out.keep (w' := w3) (fun j hj => HB3.out.block j (by have := (HRW.out j hj).1; omega))
        have hcl := cloneW_any (Tc x).q R' _ w3 hq3 (fun j hj => by have := (HRW.out j hj).1; omega) hq1000
        have HCL := Lib.hid hcl
        have hbx3 := (HB3.out.block w1.heap.size (by omega)).trans HBX2.out
        rw [HBOX.out] at hbx3
        have e1 : w3.cell? ⟨w1.heap.size, 1, none⟩ = some (.slice aq (Tc x).q.length cq) := by simp [World.cell?, hbx3]
        have HBX3 := Lib.hid hbx3
        have hk0 : (0 : Int) ≤ (k : Int) := by omega
        have hk1 : (k : Int) < 1000 := by omega
        clear hout hmem hq3 hcl hbx3 hk het hokx hQ
        go_wp2_with (first
          | (go_at_call 58; refine HDL.out.mono ?_; rintro e w5 ⟨⟨v5, rfl, hp5⟩, hc5⟩; obtain ⟨a5, c5, e5, _⟩ := id hp5; rw [e5] at hp5; subst e5; have HP5 := Lib.hid hp5; have HC5 := Lib.hid hc5; have hbx5 := ((hc5.block w1.heap.size (by omega) (by omega)).trans (HB4.out.block w1.heap.size (by omega))).trans HBX3.out; have HBX5 := Lib.hid hbx5; have f1 : w5.cell? ⟨w1.heap.size, 1, none⟩ = some (.slice aq (Tc x).q.length cq) := (by simp [World.cell?, hbx5]); have f2 := free_block hbx5 1; have hs5 := hc5.size; clear hp5 hc5 hbx5)
          | (go_at_call 34; refine HCL.out.mono ?_; rintro e w4 ⟨⟨v4, rfl, hown4⟩, hb4⟩; have hdl := delete_any hown4 hq1000 hkl; rw [← HQQ.out] at hdl; have HDL := Lib.hid hdl; clear hdl; have HB4 := Lib.hid hb4; have hs4 := hb4.size; clear hown4 hb4))
        obtain ⟨W6, hW6⟩ : ∃ W6, W6 = w5.setCell ⟨w1.heap.size, 1, none⟩ (.slice a5 Q.length c5) := ⟨_, rfl⟩
        have hch6 : Chg (fun j => j = w1.heap.size) w5 W6 := by rw [hW6]; exact chg_set (M := fun j => j = w1.heap.size) rfl 1 _
        have hb36 : Below w3.heap.size w3 w5 := HB4.out.trans ⟨HC5.out.os, HC5.out.tape, HC5.out.output, HC5.out.size, fun j hj => HC5.out.block j (by omega) (by omega)⟩
        have hc36 : Chg (fun j => j = w1.heap.size) w3 W6 := (chg_new hb36).trans hch6
        have hc26 : Chg (fun j => j = w1.heap.size) W2 W6 := (chg_new HB3.out).trans hc36
        have hs6 := hc26.size
        have hbx6 : W6.heap[w1.heap.size]? = some (.cells #[.map (some hb), .slice a5 Q.length c5] 60) := by rw [hW6]; exact heap_setCell_same _ _ _ _ _ _ HBX5.out
        have hlt2 := HIT3.out.lt
        have hit6 : Iter iv W6 (w.heap.size + 1) m f' (fun y => L y ∧ y ≠ x) n' := HIT3.out.keep (hc26.block _ hlt2.1 (by omega)) (hc26.block _ hlt2.2 (by omega))
        have htab6 : TabF M R' W6 s m f' Tc c := HTAB2.out.keepChg (fun j hj => by have := hMw j hj; omega) (fun j hj => by have := (HRW.out j hj).1; omega) hc26 (fun j hj => ⟨fun hm => by have := hMw _ hm; omega, fun hr => by have := (HRW.out _ hr).1; omega⟩)
        have g0 : W6.cell? ⟨w1.heap.size, 0, none⟩ = some (.map (some hb)) := by simp [World.cell?, hbx6]
        have g1 : W6.cell? ⟨w1.heap.size, 1, none⟩ = some (.slice a5 Q.length c5) := by simp [World.cell?, hbx6]
        have g2 : W6.cell? ⟨s, 0, none⟩ = some (.map (some m)) := by simp [World.cell?, htab6.cell]
        obtain ⟨ob6, hmu, hit7⟩ := (hit6.keep (w' := W6.drew) rfl rfl).set key3 Try.underlying49 x HFX.out (.agg #[.map (some hb), .slice a5 Q.length c5])
        have HW6 := Lib.hid hW6
        have HCH6 := Lib.hid hch6
        have HC26 := Lib.hid hc26
        have HTAB6 := Lib.hid htab6
        have HIT7 := Lib.hid hit7
        clear hW6 hch6 hb36 hc36 hc26 hbx6 hit6 htab6 hit7 f1 f2
        rw [← HW6.out]
        go_region
        go_wp2
        go_roundw
        case rel =>
          have hc7 : Chg (fun j => j = m) W6 (setBlock W6.drew m ob6) := (chg_drewN (M := fun j => j = m) W6 1).trans (chg_setBlock (M := fun j => j = m) (w := W6.drewN 1) (b := m) rfl ob6)
          have hs7 := hc7.size
          have hs56 := HCH6.out.size
          have hR6 : ∀ j, R' j → j < W6.heap.size ∧ ¬ M j := fun j hj => ⟨by have := (HRW.out j hj).1; omega, (HRW.out j hj).2⟩
          have hM6 : ∀ j, M j → j < W6.heap.size := fun j hj => by have := hMw j hj; omega
          have hp7 : PairsIn (fun j => w3.heap.size ≤ j ∧ j < w5.heap.size) (setBlock W6.drew m ob6) (.slice a5 Q.length c5) Q := HP5.out.keep (fun j hj => (hc7.block j (by omega) (by omega)).trans (HCH6.out.block j hj.2 (by omega)))
          have htq := tab_q HTAB6.out HFX.out hM6 hR6 hc7 HIT7.out.map (R' := fun j => R' j ∨ (w3.heap.size ≤ j ∧ j < w5.heap.size)) (hp7.mono (fun j hj => .inr hj)) (fun j hj => .inl hj)
          refine ⟨_, n', _, _, (fun j => R' j ∨ (w3.heap.size ≤ j ∧ j < w5.heap.size)), true, rfl, HIT7.out, htq, fun id hn => ?_, fun id hl => ?_, (fun h => by cases h), fun _ => ⟨x, HMEM.out⟩, fun j hj => .inl (G5.out j hj), ?_, ?_, ?_⟩
          · by_cases e : id = x
            · subst e
              rw [setT_same]
              unfold leaveT
              rw [← HTX.out, HOUT.out]
            · rw [setT_other _ _ e]; exact G1.out id (fun h => hn ⟨h, e⟩)
          · rw [setT_other _ _ hl.2]; exact G2.out id hl.1
          · rintro j (hj | hj)
            · exact (G6.out j hj).imp id (fun h => by omega)
            · exact .inr (by omega)
          · exact (hc7.block _ (by omega) (by omega)).trans ((HC26.out.block _ (by omega) (by omega)).trans HT2.out)
          · have hall : Chg (fun k => k = m ∨ w.heap.size + 1 ≤ k) wr (setBlock W6.drew m ob6) := (HCH2.out.mono (fun k hk => .inr (by omega))).trans ((HC26.out.mono (fun k hk => .inr (by omega))).trans (hc7.mono (fun k hk => .inl hk)))
            exact GC.out.andThen hall (fun k hk e => by omega)
        case measure =>
          rw [HIT7.out.left]; omega
      · have HNOQ := Lib.hid hno
        clear hno
        go_wp2
        go_roundw
        case rel =>
          refine ⟨_, n', f', Tc, R', b, rfl, HIT3.out.keep (HB3.out.block _ HIT3.out.lt.1) (HB3.out.block _ HIT3.out.lt.2), HTAB2.out.keepNew (fun k hk => by have := hMw k hk; omega) (fun k hk => by have := (HRW.out k hk).1; omega) HB3.out, fun id hn => ?_, fun id hl => G2.out id hl.1, fun hb id hn => ?_, G4.out, G5.out, fun k hk => (G6.out k hk).imp id (fun h => by omega), (HB3.out.block _ (by omega)).trans HT2.out, GC.out.andThen (HCH2.out.trans (chg_new HB3.out)) (fun k hk e => by omega)⟩
          · by_cases e : id = x
            · subst e
              unfold leaveT
              rw [HTX.out, outQ_none (by rw [← HTX.out]; exact HNOQ.out)]
            · exact G1.out id (fun h => hn ⟨h, e⟩)
          · by_cases e : id = x
            · subst e; rw [← HTX.out]; exact HNOQ.out
            · exact G3.out hb id (fun h => hn ⟨h, e⟩)
        case measure =>
          rw [(HIT3.out.keep (w' := w3) (HB3.out.block _ HIT3.out.lt.1) (HB3.out.block _ HIT3.out.lt.2)).left]; omega
end Go.Proofs.Ytamjopgpmeeheaa
