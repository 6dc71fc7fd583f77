/- Wants (14). -/
import Derived.Test.YtamjopgpmeeheaaL2
namespace Go.Proofs.Ytamjopgpmeeheaa
open Go.RowKit
open Go.ChangeMaps (setBlock)
set_option linter.unusedVariables false

theorem set3 {w : World} {b t : Nat} {v0 v1 v2 : Value} (h : w.heap[b]? = some (.cells #[v0, v1, v2] t)) (x0 x1 x2 : Value) (o : Obj) :
    ((((w.setCell ⟨b, 0, none⟩ x0).setCell ⟨b, 1, none⟩ x1).setCell ⟨b, 2, none⟩ x2).alloc o).heap[b]? = some (.cells #[x0, x1, x2] t) := by
  have hb := (Array.getElem?_eq_some_iff.1 h).1
  have h0 := heap_setCell_same w b 0 _ _ x0 h
  have h1 := heap_setCell_same (w.setCell ⟨b, 0, none⟩ x0) b 1 _ _ x1 h0
  have h2 := heap_setCell_same ((w.setCell ⟨b, 0, none⟩ x0).setCell ⟨b, 1, none⟩ x1) b 2 _ _ x2 h1
  refine (Go.heap_alloc_old _ o (by simpa [World.setCell] using hb)).trans ?_
  simpa using h2
set_option maxRecDepth 100000 in
set_option maxHeartbeats 4000000 in
theorem wants_any {M R : Nat → Prop} {w : World} {s m : Nat} {f : Int → Option Value} {T : Tb} {c : Nat} (h : TabF M R w s m f T c) (hM : ∀ k, M k → k < w.heap.size) (hR : ∀ k, R k → k < w.heap.size) (t : Int) :
    Calls Try.prog 14 #[.pointer (some ⟨s, 0, none⟩), iv t] w fun e w' => ((∃ id mo, (t, mo) ∈ (T id).q ∧ e = .returned (.tuple #[.agg #[iv t, iv id, iv mo], .bool true])) ∨
      ((∀ id mo, (t, mo) ∉ (T id).q) ∧ e = .returned (.tuple #[.agg #[iv 0, iv 0, iv 0], .bool false]))) ∧ Below w.heap.size w w' := by
  have hms := hM _ h.ms
  have hmm := hM _ h.mm
  have c0 : w.cell? ⟨s, 0, none⟩ = some (.map (some m)) := by simp [World.cell?, h.cell]
  have b0 : Below w.heap.size w (w.alloc (.cells #[iv 0, iv 0, iv 0] 34)) := (Below.refl _ w).alloc (Nat.le_refl _) _
  have c1 := (b0.cell (p := ⟨s, 0, none⟩) hms).trans c0
  have HT := Lib.hid h
  have H0 := Lib.hid (h.map.keep (b0.block m hmm))
  have HNO := Lib.hid (none_any c1)
  clear h
  go_enter Try.func14, Try.ntmps14
  go_wp2_with (first
    | (go_at_call 27; refine HNO.out.mono ?_; rintro e w' ⟨rfl, rfl⟩)
    | (refine wpList_mapRange rfl _ 49 rfl Try.underlying49 rfl H0.out ?_; intro ob n0 hit))
  have HIT := Lib.hid hit
  have hne : m ≠ w.heap.size + 1 := by omega
  clear hit
  go_simp
  go_loopw [6] (fun _ wr => ∃ (L : Int → Prop) (n : Nat), Iter iv wr (w.heap.size + 1) m f L n ∧ (∀ id mo, (t, mo) ∈ (T id).q → L id) ∧ wr.heap[w.heap.size]? = some (.cells #[iv 0, iv 0, iv 0] 34) ∧ Below w.heap.size w wr) (fun _ wr => iterLeft (w.heap.size + 1) m wr)
  case atStart =>
    refine ⟨_, n0, by simpa using HIT.out, fun id mo hx => ?_, (Go.heap_alloc_old _ _ (by simp)).trans (Go.heap_alloc_new w _), by simpa using b0.alloc (by simp) ob⟩
    cases hf : f id with
    | none => rw [HT.out.none id hf] at hx; cases hx
    | some v => rfl
  case round =>
    obtain ⟨L, n, hit, hall, hres, hbel⟩ := hrel
    have hleft := hit.left
    have HIT2 := Lib.hid hit
    have HALL := Lib.hid hall
    have HRES := Lib.hid hres
    have HBEL := Lib.hid hbel
    have r0 : wr.cell? ⟨w.heap.size, 0, none⟩ = some (iv 0) := by simp [World.cell?, hres]
    have r1 : wr.cell? ⟨w.heap.size, 1, none⟩ = some (iv 0) := by simp [World.cell?, hres]
    have r2 : wr.cell? ⟨w.heap.size, 2, none⟩ = some (iv 0) := by simp [World.cell?, hres]
    have z0 := free_block hres 0
    have z1 := free_block hres 1
    have z2 := free_block hres 2
    clear hit hall hbel hres
    go_wp2_with (first
      | (refine wpList_mapNext rfl _ rfl key3 rfl HIT2.out (fun hno => ?_) (fun x v w1 ob' n' hLx hfx hst hob hi' hlt' hen => ?_); rotate_left; (obtain ⟨hb, qv, rfl, hnM, hns, hnm, hnmap, aq, cq, rfl, hq1, hq2, hqc⟩ := HT.out.node x v hfx; have hen1 := hen w1 (hst.2.2.2.2 m hne) hob; have HST := Lib.hid hst; have HI2 := Lib.hid hi'; have HLX := Lib.hid hLx; have HQC := Lib.hid hqc; have hql : (T x).q.length ≤ 9223372036854775807 := (by unfold maxLen at hq2; omega); clear hst hi' hLx hen hfx hnM hns hnm hnmap hq1 hq2 hqc); rotate_left; (have HNO2 := Lib.hid hno; clear hno)))
    · refine bodyPost_ret (v := .tuple #[.agg #[iv 0, iv 0, iv 0], .bool false]) (by simp [results, Try.results14, go_sem, r0, r1, r2]) rfl ⟨.inr ⟨fun id mo hx => HNO2.out id (HALL.out id mo hx), rfl⟩, ?_⟩
      exact below_setAt (below_setAt (below_setAt HBEL.out (Nat.le_refl _) 0 _) (Nat.le_refl _) 1 _) (Nat.le_refl _) 2 _
    · have hbw : Below w.heap.size w (w1.alloc (.cells #[.map (some hb), .slice aq (T x).q.length cq] 60)) := (HBEL.out.trans (below_stepped HST.out (by omega))).alloc (by have := HI2.out.lt.2; omega) _
      have hit2 : Iter iv (w1.alloc (.cells #[.map (some hb), .slice aq (T x).q.length cq] 60)) (w.heap.size + 1) m f (fun y => L y ∧ y ≠ x) n' := HI2.out.keep (Go.heap_alloc_old _ _ HI2.out.lt.1) (Go.heap_alloc_old _ _ HI2.out.lt.2)
      have hres2 : (w1.alloc (.cells #[.map (some hb), .slice aq (T x).q.length cq] 60)).heap[w.heap.size]? = some (.cells #[iv 0, iv 0, iv 0] 34) := (Go.heap_alloc_old _ _ (by have := HI2.out.lt.2; omega)).trans ((HST.out.2.2.2.2 _ (by omega)).trans HRES.out)
      obtain ⟨W2, hW2⟩ : ∃ W2, w1.alloc (.cells #[.map (some hb), .slice aq (T x).q.length cq] 60) = W2 := ⟨_, rfl⟩
      rw [hW2] at hbw hit2 hres2 ⊢
      have HBW := Lib.hid hbw
      have HIT3 := Lib.hid hit2
      have HRES2 := Lib.hid hres2
      have hsw := hbw.size
      have hlt2 := hit2.lt
      have hlt3 := hlt'
      have hleft3 := HIT3.out.left
      clear hW2 hbw hit2 hres2 r0 r1 r2 z0 z1 z2 hen1 hob
      go_loopw [26] (fun i wx => ∃ k : Nat, k ≤ (T x).q.length ∧ i = .int .i64 k ∧ (∀ mo, (t, mo) ∉ (T x).q.take k) ∧ Below W2.heap.size W2 wx) (fun i _ => (T x).q.length - (Lib.intOf i).toNat)
      case atStart => exact ⟨0, Nat.zero_le _, rfl, by simp, Below.refl _ _⟩
      case round =>
        obtain ⟨k, hk, rfl, hnot, hb3⟩ := hrel
        have HNOT := Lib.hid hnot
        have HB3 := Lib.hid hb3
        have hs3 := hb3.size
        clear hnot hb3
        by_cases hkl : k < (T x).q.length
        · obtain ⟨e, he⟩ : ∃ e, (T x).q[k]? = some e := ⟨_, List.getElem?_eq_getElem hkl⟩
          have HE := Lib.hid he
          rcases HQC.out with h | ⟨g, off, rfl, hgR, hc⟩
          · rw [h] at hkl; simp at hkl
          obtain ⟨e0, e1⟩ := hc k e he
          have hgl := hR g hgR
          have d0 := ((HB3.out.cell (p := ⟨g, off + k * 2, none⟩) (by simp; omega)).trans (HBW.out.cell (p := ⟨g, off + k * 2, none⟩) hgl)).trans e0
          have d1 := ((HB3.out.cell (p := ⟨g, off + k * 2 + 1, none⟩) (by simp; omega)).trans (HBW.out.cell (p := ⟨g, off + k * 2 + 1, none⟩) hgl)).trans e1
          obtain ⟨et, em⟩ := e
          simp only at d0 d1
          have q0 : (0 : Int) ≤ (k : Int) := by omega
          have q1 : (k : Int) < ((T x).q.length : Int) := by omega
          clear hc he e0 e1
          by_cases het : et = t
          · have hres4 := (HB3.out.block w.heap.size (by omega)).trans HRES2.out
            have r0 : wr.cell? ⟨w.heap.size, 0, none⟩ = some (iv 0) := by simp [World.cell?, hres4]
            have r1 : wr.cell? ⟨w.heap.size, 1, none⟩ = some (iv 0) := by simp [World.cell?, hres4]
            have r2 : wr.cell? ⟨w.heap.size, 2, none⟩ = some (iv 0) := by simp [World.cell?, hres4]
            have z0 := free_block hres4 0
            have z1 := free_block hres4 1
            have z2 := free_block hres4 2
            have hlw : w.heap.size < wr.heap.size := by omega
            have hmem : (t, em) ∈ (T x).q := by rw [← het]; exact List.mem_of_getElem? HE.out
            have HMEM := Lib.hid hmem
            subst het
            have HRES5 := Lib.hid hres4
            clear hres4 hmem
            go_wp2
            have hfin := set3 HRES5.out (iv et) (iv x) (iv em) (.cells #[iv et, iv em] 63)
            have y0 : ((((wr.setCell ⟨w.heap.size, 0, none⟩ (iv et)).setCell ⟨w.heap.size, 1, none⟩ (iv x)).setCell ⟨w.heap.size, 2, none⟩ (iv em)).alloc (.cells #[iv et, iv em] 63)).cell? ⟨w.heap.size, 0, none⟩ = some (iv et) := by simp only [World.cell?, hfin]; rfl
            have y1 : ((((wr.setCell ⟨w.heap.size, 0, none⟩ (iv et)).setCell ⟨w.heap.size, 1, none⟩ (iv x)).setCell ⟨w.heap.size, 2, none⟩ (iv em)).alloc (.cells #[iv et, iv em] 63)).cell? ⟨w.heap.size, 1, none⟩ = some (iv x) := by simp only [World.cell?, hfin]; rfl
            have y2 : ((((wr.setCell ⟨w.heap.size, 0, none⟩ (iv et)).setCell ⟨w.heap.size, 1, none⟩ (iv x)).setCell ⟨w.heap.size, 2, none⟩ (iv em)).alloc (.cells #[iv et, iv em] 63)).cell? ⟨w.heap.size, 2, none⟩ = some (iv em) := by simp only [World.cell?, hfin]; rfl
            refine bodyPost_ret (v := .tuple #[.agg #[iv et, iv x, iv em], .bool true]) (by simp [results, Try.results14, go_sem, y0, y1, y2]) rfl ⟨.inl ⟨x, em, HMEM.out, rfl⟩, ?_⟩
            exact (below_setAt (below_setAt (below_setAt (HBW.out.trans (HB3.out.mono hsw)) (Nat.le_refl _) 0 _) (Nat.le_refl _) 1 _) (Nat.le_refl _) 2 _).alloc (by simp [World.setCell]; omega) _
          · have hetb : (et == t) = false := beq_false_of_ne het
            go_wp2
            go_roundw
            case rel => exact ⟨k + 1, by omega, by go_num, fun mo hx => by
              rw [List.take_add_one, HE.out] at hx
              rcases List.mem_append.1 hx with hx | hx
              · exact HNOT.out mo hx
              · simp at hx; exact het hx.1.symm, HB3.out.alloc hs3 _⟩
            case measure => simp [Lib.intOf]; omega
        · obtain rfl : k = (T x).q.length := by omega
          rw [List.take_length] at HNOT
          go_wp2
          go_roundw
          case rel => exact ⟨_, n', HIT3.out.keep (HB3.out.block _ hlt2.1) (HB3.out.block _ hlt2.2), fun id mo hx => ⟨HALL.out id mo hx, fun e => by rw [e] at hx; exact HNOT.out mo hx⟩, (HB3.out.block _ (by omega)).trans HRES2.out, HBW.out.trans (HB3.out.mono hsw)⟩
          case measure =>
            have e1 := (HIT3.out.keep (w' := wr) (HB3.out.block _ hlt2.1) (HB3.out.block _ hlt2.2)).left
            rw [e1]; omega
end Go.Proofs.Ytamjopgpmeeheaa
