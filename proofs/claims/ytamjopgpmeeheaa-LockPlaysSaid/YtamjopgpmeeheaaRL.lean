/- Release (13), Cancel (26). -/
import Derived.Test.YtamjopgpmeeheaaSE
import Derived.Test.YtamjopgpmeeheaaLE
namespace Go.Proofs.Ytamjopgpmeeheaa
open Go.RowKit
open Go.ChangeMaps (setBlock)
set_option linter.unusedVariables false

def freeT (T : Tb) (t : Int) : Tb := fun id => ⟨dropH (T id).hs t, (T id).q⟩
theorem ok_leave {T : Tb} (h : ∀ id, NdOk (T id)) (t : Int) : ∀ id, NdOk (leaveT T t id) := fun id =>
  ⟨(h id).rise, (h id).held, fun x hx => (h id).wait x (List.mem_filter.1 hx).1, (h id).once.sublist ((List.filter_sublist ..).map _)⟩
theorem ok_free {T : Tb} (h : ∀ id, NdOk (T id)) (t : Int) : ∀ id, NdOk (freeT T t id) := fun id =>
  ⟨rise_drop (h id).rise, fun x hx => (h id).held x (List.mem_filter.1 hx).1, (h id).wait, (h id).once⟩
theorem ok_serveQ : ∀ (q hs : List W2), NdOk ⟨hs, q⟩ → NdOk ⟨(serveQ hs q).2.1, (serveQ hs q).2.2⟩
  | [], hs, h => h
  | e :: q, hs, h => by
    cases hc : canB hs e.1 e.2 with
    | false => rw [serveQ_no hc]; exact h
    | true =>
      rw [serveQ_yes hc]
      exact ok_serveQ q _ ⟨rise_put h.rise, okW_put h.held (h.wait e (List.mem_cons_self ..)), fun y hy => h.wait y (List.mem_cons_of_mem _ hy), (List.nodup_cons.1 h.once).2⟩
theorem ok_serve {T : Tb} (h : ∀ id, NdOk (T id)) : ∀ id, NdOk (serveT T id) := fun id => ok_serveQ _ _ (h id)
/-- the numbers of the nodes that have something, rising -/
def Supp (T : Tb) (ks : List Int) : Prop := ks.Pairwise (· < ·) ∧ ∀ id, T id ≠ Nd.nil → id ∈ ks
theorem supp_of {M R : Nat → Prop} {w : World} {s m : Nat} {f : Int → Option Value} {T : Tb} {c : Nat} (h : TabF M R w s m f T c) {ks : List Int} (hk : RiseKeys f ks) : Supp T ks :=
  ⟨hk.1, fun id hn => (hk.2 id).2 (by
    cases hf : f id with
    | some v => rfl
    | none => exact absurd (h.none id hf) hn)⟩

set_option maxRecDepth 100000 in
set_option maxHeartbeats 4000000 in
theorem release_any {M R : Nat → Prop} {w : World} {s m : Nat} {f : Int → Option Value} {T : Tb} {c : Nat} (h : TabF M R w s m f T c) (hM : ∀ k, M k → k < w.heap.size) (hR : ∀ k, R k → k < w.heap.size ∧ ¬ M k) (hOK : ∀ id, NdOk (T id)) (hc : c ≤ 1000000) (t : Int) :
    Calls Try.prog 13 #[.pointer (some ⟨s, 0, none⟩), iv t] w fun e w' => ∃ R' ks f' v, Supp (freeT (leaveT T t) t) ks ∧ e = .returned v ∧ TrisIn (fun k => w.heap.size ≤ k ∧ k < w'.heap.size) w' v (grantsT (freeT (leaveT T t) t) ks) ∧
      (∀ k, R' k → R k ∨ (w.heap.size ≤ k ∧ k < w'.heap.size)) ∧ (∀ k, R' k → ¬ M k) ∧ TabF M R' w' s m f' (serveT (freeT (leaveT T t) t)) c ∧ Chg M w w' := by
  have hms := hM _ h.ms
  have hmm := hM _ h.mm
  have c0 : w.cell? ⟨s, 0, none⟩ = some (.map (some m)) := by simp [World.cell?, h.cell]
  have HNO := Lib.hid (none_any c0)
  have HLV := Lib.hid (leave_any h hM hR hOK t)
  have HT := Lib.hid h
  have HM := Lib.hid hM
  have HR := Lib.hid hR
  have HOK := Lib.hid hOK
  clear h hM hR hOK
  go_enter Try.func13, Try.ntmps13
  go_wp2_with (first
    | (refine wpList_mapRange rfl _ 49 rfl Try.underlying49 rfl HT1.out.map ?_; intro ob n0 hit)
    | (go_at_call 38; refine HLV.out.mono ?_; rintro e w1 ⟨R1, f1, b, rfl, -, hRR, hR1, ht1, hc1⟩; have HT1 := Lib.hid ht1; have HR1 := Lib.hid hR1; have HC1 := Lib.hid hc1; have hs1 := hc1.size; have c1 : w1.cell? ⟨s, 0, none⟩ = some (.map (some m)) := (by simp [World.cell?, ht1.cell]); clear ht1 hR1 hc1 hRR)
    | (go_at_call 27; refine HNO.out.mono ?_; rintro e w' ⟨rfl, rfl⟩))
  have HIT := Lib.hid hit
  clear hit
  have hR1M : ∀ k, R1 k → k < w1.heap.size ∧ ¬ M k := fun k hk => (HR1.out k hk).elim (fun h => ⟨by have := (HR.out k h).1; omega, (HR.out k h).2⟩) (fun h => ⟨h.2, fun hm => by have := HM.out k hm; omega⟩)
  have hM1 : ∀ k, M k → k < w1.heap.size := fun k hk => by have := HM.out k hk; omega
  have hnm1 : ¬ M w1.heap.size := fun h => by have := hM1 _ h; omega
  have HR1M := Lib.hid hR1M
  have HM1 := Lib.hid hM1
  have hne : m ≠ w1.heap.size := by omega
  have HC01 := Lib.hid (HC1.out.mono (fun k hk => by rw [hk]; exact HT.out.mm : ∀ k, k = m → M k))
  clear hR1M hM1 hnm1
  go_simp
  go_loopw [6] (fun _ wr => ∃ (L : Int → Prop) (n : Nat) (Tc : Tb), Iter iv wr w1.heap.size m f1 L n ∧ TabF M R1 wr s m f1 Tc c ∧ (∀ id, ¬ L id → Tc id = freeT (leaveT T t) t id) ∧ (∀ id, L id → Tc id = leaveT T t id) ∧ Chg M w1 wr ∧ w1.heap.size < wr.heap.size) (fun _ wr => iterLeft w1.heap.size m wr)
  case atStart =>
    refine ⟨_, n0, leaveT T t, by simpa using HIT.out, HT1.out.keepNew HM1.out (fun k hk => (HR1M.out k hk).1) ((Below.refl _ _).alloc (Nat.le_refl _) _), fun id hn => ?_, fun _ _ => rfl, chg_alloc _ _, by simp⟩
    have : leaveT T t id = Nd.nil := HT1.out.none id (by simpa using hn)
    unfold freeT
    rw [this]; rfl
  case round =>
    obtain ⟨L, n, Tc, hit, htab, h1, h2, hch, hlt⟩ := hrel
    have hleft := hit.left
    have HIT2 := Lib.hid hit
    have HTAB := Lib.hid htab
    have G1 := Lib.hid h1
    have G2 := Lib.hid h2
    have GC := Lib.hid hch
    clear hit htab h1 h2 hch
    have hMw : ∀ k, M k → k < wr.heap.size := fun k hk => by have := HM1.out k hk; omega
    have hRw : ∀ k, R1 k → k < wr.heap.size := fun k hk => by have := (HR1M.out k hk).1; omega
    have HMW := Lib.hid hMw
    have HRW := Lib.hid hRw
    clear hMw hRw
    go_wp2_with (first
      | (refine wpList_mapDrop rfl _ _ 57 3 rfl key3 Try.underlying57 rfl (HMAP.out.keep (Go.heap_alloc_old _ _ hbl)) t rfl ?_; intro ob2 hmap; have HMP := Lib.hid hmap; clear hmap)
      | (refine wpList_mapNext rfl _ rfl key3 rfl HIT2.out (fun hno => ?_) (fun x v w3 ob' n' hLx hfx hst hob hi' hlt' hen => ?_); rotate_left; (obtain ⟨hb, qv, rfl, hnM, hns, hnm, hnmap, hqin⟩ := HTAB.out.node x v hfx; have hen1 := hen w3 (hst.2.2.2.2 m hne) hob; have hsz3 : wr.heap.size = w3.heap.size := hst.2.2.2.1.symm; have hbl : hb < w3.heap.size := (by have := HMW.out hb hnM; omega); have hb1 : hb < w1.heap.size := HM1.out hb hnM; have HST := Lib.hid hst; have HI2 := Lib.hid hi'; have HLX := Lib.hid hLx; have HFX := Lib.hid hfx; have HMAP := Lib.hid (hnmap.keep (w' := w3) (hst.2.2.2.2 hb (by omega))); obtain ⟨aq, cq, rfl, -, -, -⟩ := hqin; clear hst hi' hLx hen hnmap hfx); rotate_left; (have HNO2 := Lib.hid hno; clear hno))
)
    · have e : Tc = freeT (leaveT T t) t := funext (fun id => G1.out id (HNO2.out id))
      have htab := HTAB.out
      rw [e] at htab
      refine (serve_any htab HMW.out HRW.out (fun k hk => (HR1M.out k hk).2) (ok_free (ok_leave HOK.out t) t) hc).mono ?_
      rintro e w4 ⟨ks, f4, v4, hrk, rfl, htr, ht4, hc4⟩
      have HRK := Lib.hid hrk
      have HTR := Lib.hid htr
      have HT4 := Lib.hid ht4
      have HC4 := Lib.hid hc4
      have HTB := Lib.hid htab
      have hs4 := hc4.size
      obtain ⟨a4, cp4, rfl, -⟩ := id htr
      clear hrk htr ht4 hc4 htab
      go_wp2
      go_ret
      exact ⟨R1, ks, f4, _, supp_of HTB.out HRK.out, rfl, HTR.out.mono (fun k hk => ⟨by have := hk.1; omega, hk.2⟩), fun k hk => (HR1.out k hk).imp id (fun h => by omega), fun k hk => (HR1M.out k hk).2, HT4.out, (HC01.out.andThen GC.out (fun _ _ h => h)).andThen HC4.out (fun _ _ h => h)⟩
    · obtain ⟨box, hbox⟩ : ∃ box, Obj.cells #[.map (some hb), .slice aq (Tc x).q.length cq] 60 = box := ⟨_, rfl⟩
      rw [hbox] at HMP ⊢
      have hlx := HI2.out.lt
      have hr0 : Chg (fun k => k = w1.heap.size) wr (w3.alloc box) := (show Chg (fun k => k = w1.heap.size) wr w3 from ⟨HST.out.1, HST.out.2.1, HST.out.2.2.1, by omega, fun k _ hn => HST.out.2.2.2.2 k hn⟩).trans (chg_alloc _ _)
      have hch5 : Chg (fun k => k = hb) (w3.alloc box) (setBlock (w3.alloc box) hb ob2) := chg_setBlock (M := fun k => k = hb) rfl ob2
      have hnR : ∀ k, R1 k → k ≠ w1.heap.size := fun k hk => by have := (HR1M.out k hk).1; omega
      have ht3 := HTAB.out.keepChg HMW.out HRW.out hr0 (fun k hk => by rw [hk]; exact ⟨fun h => by have := HM1.out _ h; omega, fun h => hnR _ h rfl⟩)
      have hsz4 : (w3.alloc box).heap.size = wr.heap.size + 1 := by simp; omega
      have ht5 := tab_h ht3 HFX.out (hs' := dropH (Tc x).hs t) (fun k hk => by have := HMW.out k hk; omega) (fun k hk => ⟨by have := HRW.out k hk; omega, (HR1M.out k hk).2⟩) hch5 (by rw [hF_drop]; exact HMP.out)
      have hit5 : Iter iv (setBlock (w3.alloc box) hb ob2) w1.heap.size m f1 (fun y => L y ∧ y ≠ x) n' := HI2.out.keep ((hch5.block m (by simp; omega) (fun e => hnm e.symm)).trans (Go.heap_alloc_old _ _ hlx.1)) ((hch5.block w1.heap.size (by simp; omega) (by omega)).trans (Go.heap_alloc_old _ _ hlx.2))
      dsimp only [Act.put]
      go_roundw
      case rel =>
        refine ⟨_, n', _, hit5, ht5, fun id hn => ?_, fun id hl => ?_, GC.out.andThen (M' := fun k => k = w1.heap.size ∨ k = hb) ((hr0.mono (fun k h => .inl h)).trans (hch5.mono (fun k h => .inr h))) (fun k hk h => by
          rcases h with h | h
          · omega
          · rw [h]; exact hnM), by simp; omega⟩
        · by_cases e : id = x
          · subst e
            rw [setT_same]
            unfold freeT
            rw [← G2.out id HLX.out]
          · rw [setT_other _ _ e]; exact G1.out id (fun h => hn ⟨h, e⟩)
        · rw [setT_other _ _ hl.2]; exact G2.out id hl.1
      case measure => rw [hit5.left]; omega

set_option maxRecDepth 100000 in
set_option maxHeartbeats 4000000 in
theorem cancel_any {M R : Nat → Prop} {w : World} {s m : Nat} {f : Int → Option Value} {T : Tb} {c : Nat} (h : TabF M R w s m f T c) (hM : ∀ k, M k → k < w.heap.size) (hR : ∀ k, R k → k < w.heap.size ∧ ¬ M k) (hOK : ∀ id, NdOk (T id)) (hc : c ≤ 1000000) (t : Int) :
    Calls Try.prog 26 #[.pointer (some ⟨s, 0, none⟩), iv t] w fun e w' => (∃ R' f', (∀ k, R' k → R k ∨ (w.heap.size ≤ k ∧ k < w'.heap.size)) ∧ (∀ k, R' k → ¬ M k) ∧
      ((∃ ks v, (∃ id, ∃ x ∈ (T id).q, x.1 = t) ∧ Supp (leaveT T t) ks ∧ e = .returned (.tuple #[v, .bool true]) ∧ TrisIn (fun k => w.heap.size ≤ k ∧ k < w'.heap.size) w' v (grantsT (leaveT T t) ks) ∧ TabF M R' w' s m f' (serveT (leaveT T t)) c) ∨
       ((¬ ∃ id, ∃ x ∈ (T id).q, x.1 = t) ∧ e = .returned (.tuple #[.slice none 0 0, .bool false]) ∧ TabF M R' w' s m f' (leaveT T t) c))) ∧ Chg M w w' := by
  have hms := hM _ h.ms
  have hmm := hM _ h.mm
  have c0 : w.cell? ⟨s, 0, none⟩ = some (.map (some m)) := by simp [World.cell?, h.cell]
  have hno : ∀ w', Below w.heap.size w w' → Calls Try.prog 27 #[.pointer (some ⟨s, 0, none⟩)] w' fun e w'' => e = .returned (.bool false) ∧ w' = w'' := fun w' hb => none_any ((hb.cell (p := ⟨s, 0, none⟩) hms).trans c0)
  have hlv := leave_any h hM hR hOK t
  have HNO := Lib.hid hno
  have HLV := Lib.hid hlv
  have HT := Lib.hid h
  have HM := Lib.hid hM
  have HR := Lib.hid hR
  have HOK := Lib.hid hOK
  clear h hM hR hOK hno hlv
  go_enter Try.func26, Try.ntmps26
  go_wp2_with (first
    | (go_at_call 39; refine HSE.out.mono ?_; rintro e w4 ⟨ks, f4, v4, hrk, rfl, htr, ht4, hc4⟩)
    | (go_at_call 38; refine HLV.out.mono ?_; rintro e w1 ⟨R1, f1, b, rfl, hbt, hRR, hR1, ht1, hc1⟩)
    | (go_at_call 27; refine (HNO.out _ (Below.refl _ _)).mono ?_; rintro e w' ⟨rfl, rfl⟩))
  · have hb : b = false := by cases b with | false => rfl | true => simp_all
    subst hb
    refine bodyPost_ret (results_tmp2 rfl _ _ _) rfl ?_
    exact ⟨⟨R1, f1, hR1, fun k hk => (hR1 k hk).elim (fun h => (HR.out k h).2) (fun h hm => by have := HM.out k hm; omega), .inr ⟨fun h => (by have := hbt.2 h; cases this), rfl, ht1⟩⟩, hc1.mono (fun k hk => by rw [hk]; exact HT.out.mm)⟩
  · have hb : b = true := by cases b with | true => rfl | false => simp_all
    subst hb
    have hs1 := hc1.size
    have hR1M : ∀ k, R1 k → ¬ M k := fun k hk => (hR1 k hk).elim (fun h => (HR.out k h).2) (fun h hm => by have := HM.out k hm; omega)
    have hR1s : ∀ k, R1 k → k < w1.heap.size := fun k hk => (hR1 k hk).elim (fun h => by have := (HR.out k h).1; omega) (fun h => h.2)
    have HT1 := Lib.hid ht1
    have HC1 := Lib.hid hc1
    have HR1 := Lib.hid hR1
    have HR1M := Lib.hid hR1M
    have HBT := Lib.hid (hbt.1 rfl)
    have hse := serve_any ht1 (fun k hk => by have := HM.out k hk; omega) hR1s hR1M (ok_leave HOK.out t) hc
    clear ht1 hc1 hR1 hR1M hbt hRR hR1s
    refine hse.mono ?_
    rintro e w4 ⟨ks, f4, v4, hrk, rfl, htr, ht4, hc4⟩
    have HRK := Lib.hid hrk
    have HTR := Lib.hid htr
    have HT4 := Lib.hid ht4
    have HC4 := Lib.hid hc4
    have hs4 := hc4.size
    obtain ⟨a4, cp4, rfl, -⟩ := id htr
    clear hrk htr ht4 hc4 hse
    go_wp2
    refine bodyPost_ret (results_tmp2 rfl _ _ _) rfl ?_
    exact ⟨⟨R1, f4, fun k hk => (HR1.out k hk).imp id (fun h => by omega), HR1M.out, .inl ⟨ks, _, HBT.out, supp_of HT1.out HRK.out, rfl, HTR.out.mono (fun k hk => ⟨by have := hk.1; omega, hk.2⟩), HT4.out⟩⟩, (HC1.out.mono (fun k hk => by rw [hk]; exact HT.out.mm)).andThen HC4.out (fun _ _ h => h)⟩
end Go.Proofs.Ytamjopgpmeeheaa
