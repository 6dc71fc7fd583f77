/- Waits (17). -/
import Derived.Test.YtamjopgpmeeheaaLW
import Derived.Test.YtamjopgpmeeheaaLC
import Derived.Test.YtamjopgpmeeheaaL2
import Derived.Test.YtamjopgpmeeheaaSC
import Derived.Test.YtamjopgpmeeheaaAS
import Derived.RegionTactic
import Derived.ChangeAlike
import Derived.Outline
import Derived.Deep.CutBlock
import Derived.Deep.CutRange
import Derived.Deep.DeepCutAuto
namespace Go.Proofs.Ytamjopgpmeeheaa
open Go.RowKit
open Go.ChangeMaps (setBlock)
set_option linter.unusedVariables false

theorem takeWhile_take {α : Type} {p : α → Bool} : ∀ {l : List α} {k : Nat}, k ≤ l.length → (∀ x ∈ l.take k, p x = true) → (k = l.length ∨ ∃ e, l[k]? = some e ∧ p e = false) → l.takeWhile p = l.take k
  | [], k, hk, _, _ => by simp
  | a :: l, 0, _, _, h => by
    rcases h with h | ⟨e, he, hp⟩
    · simp at h
    · simp at he; subst he; simp [List.takeWhile, hp]
  | a :: l, k + 1, hk, ha, h => by
    have h1 : p a = true := ha a (by simp)
    rw [List.takeWhile_cons_of_pos h1, List.take_succ_cons, takeWhile_take (l := l) (k := k) (by simpa using hk) (fun x hx => ha x (by simp [hx])) (h.imp (fun h => by simpa using h) (fun ⟨e, he, hp⟩ => ⟨e, by simpa using he, hp⟩))]
theorem no_snoc2 {α : Type} {p : α → Bool} {l : List α} {k : Nat} {x : α} (hno : ∀ g ∈ l.take k, p g = true) (hx : l[k]? = some x) (h : p x = true) : ∀ g ∈ l.take (k + 1), p g = true := fun g hg => by
  rw [List.take_add_one, hx] at hg
  rcases List.mem_append.1 hg with hg | hg
  · exact hno g hg
  · simp at hg; subst hg; exact h
/-- who stands in the way of one that waits -/
def inWay (n : Nd) (t mo x : Int) : Prop := (∃ m', findH n.hs x = some m' ∧ x ≠ t ∧ compB m' mo = false)
def aheadQ (n : Nd) (t : Int) : List Int := (n.q.takeWhile (fun y => y.1 != t)).map (·.1)
def WaitsOf (T : Tb) (t : Int) (zs : List Int) : Prop := zs.Pairwise (· < ·) ∧ ((∃ nd mo, (t, mo) ∈ (T nd).q ∧ ∀ x, x ∈ zs ↔ inWay (T nd) t mo x ∨ x ∈ aheadQ (T nd) t) ∨ ((∀ nd mo, (t, mo) ∉ (T nd).q) ∧ zs = []))

set_option maxRecDepth 100000 in
set_option maxHeartbeats 8000000 in
theorem waits_any {M R : Nat → Prop} {w : World} {s m : Nat} {f : Int → Option Value} {T : Tb} {c : Nat} (h : TabF M R w s m f T c) (hM : ∀ k, M k → k < w.heap.size) (hR : ∀ k, R k → k < w.heap.size) (hOK : ∀ id, NdOk (T id)) (t : Int) :
    Calls Try.prog 17 #[.pointer (some ⟨s, 0, none⟩), iv t] w fun e w' => (∃ v zs, e = .returned v ∧ IntsIn (fun k => w.heap.size ≤ k ∧ k < w'.heap.size) w' v zs ∧ WaitsOf T t zs) ∧ Below w.heap.size w w' := by
  obtain ⟨i0, hi, hz0, hz1, hz2⟩ := info_parts Try.info3
  have hms := hM _ h.ms
  have hmm := hM _ h.mm
  have c0 : w.cell? ⟨s, 0, none⟩ = some (.map (some m)) := by simp [World.cell?, h.cell]
  have HC0 := Lib.hid c0
  have HT := Lib.hid h
  have HWT := Lib.hid (wants_any h hM hR t)
  have HM := Lib.hid hM
  have HR := Lib.hid hR
  clear h hM hR c0
  go_enter Try.func17, Try.ntmps17
  go_wp2_with fail
  refine HWT.out.mono ?_
  rintro e w1 ⟨⟨nd, mo, hin, rfl⟩ | ⟨hno, rfl⟩, hb1⟩
  rotate_left
  · have HNO := Lib.hid hno
    clear hno
    go_wp2
    go_ret
    exact ⟨⟨_, [], rfl, intsIn_nil _ _, List.Pairwise.nil, .inr ⟨HNO.out, rfl⟩⟩, hb1.alloc hb1.size _⟩
  obtain ⟨v0, hf⟩ : ∃ v0, f nd = some v0 := by
    cases hf : f nd with
    | none => rw [HT.out.none nd hf] at hin; cases hin
    | some v => exact ⟨v, rfl⟩
  obtain ⟨hb, qv, rfl, hbM, -, -, hmap, aq, cq, rfl, hq1, hq2, hqc⟩ := HT.out.node nd v0 hf
  have hbl := HM.out _ hbM
  have hs1 := hb1.size
  have hb2 : Below w.heap.size w (w1.alloc (.cells #[iv t, iv nd, iv mo] 34)) := hb1.alloc hs1 _
  have c1 := (hb2.cell (p := ⟨s, 0, none⟩) hms).trans HC0.out
  have b0 := Go.heap_alloc_new w1 (.cells #[iv t, iv nd, iv mo] 34)
  have d1 : (w1.alloc (.cells #[iv t, iv nd, iv mo] 34)).cell? ⟨w1.heap.size, 1, none⟩ = some (iv nd) := by simp only [World.cell?, b0]; rfl
  have hs2 : s < w1.heap.size := by omega
  have hlkA := ((HT.out.map.keep (hb2.block _ hmm)).keep (w' := (w1.alloc (.cells #[iv t, iv nd, iv mo] 34)).drew) rfl).look key3 Try.underlying49 Try.zero60 nd false
  have hlkB := ((HT.out.map.keep (hb2.block _ hmm)).keep (w' := ((w1.alloc (.cells #[iv t, iv nd, iv mo] 34)).alloc (.cells #[.map none, .slice none 0 0] 60)).drew) (Go.heap_alloc_old _ _ (by simp; omega))).look key3 Try.underlying49 Try.zero60 nd false
  simp only [hf, Bool.false_eq_true, if_false, Option.getD_some] at hlkA hlkB
  have HB1 := Lib.hid hb1
  have HB2 := Lib.hid hb2
  have HIN := Lib.hid hin
  have HMAP := Lib.hid hmap
  have HQC := Lib.hid hqc
  have B0 := Lib.hid b0
  obtain ⟨ql, hql⟩ : ∃ ql, (T nd).q.length = ql := ⟨_, rfl⟩
  rw [hql] at hlkA hlkB
  have HQL := Lib.hid hql
  have hqs := (hOK nd).few_q
  rw [hql] at hqs
  clear hb1 hb2 hf hin hmap hqc b0 hq1 hq2 hql
  go_upto_region 4 with fail
  go_cut [7] (fun p wx => p = .pointer (some ⟨w1.heap.size + 1, 0, none⟩) ∧ wx.heap[w1.heap.size]? = some (.cells #[iv t, iv nd, iv mo] 34) ∧ wx.heap[w1.heap.size + 1]? = some (.cells #[.map (some hb), .slice aq ql cq] 60) ∧ Below w.heap.size w wx ∧ wx.heap.size = w1.heap.size + 2)
  case first =>
    go_region
    all_goals
      go_wp2
      go_meet
      exact ⟨rfl, (Go.heap_alloc_old _ _ (by simp)).trans B0.out, by have := Go.heap_alloc_new (w1.alloc (.cells #[iv t, iv nd, iv mo] 34)) (.cells #[.map (some hb), .slice aq ql cq] 60); rw [World.size_alloc] at this; exact this, (HB2.out.alloc HB2.out.size _).drew, by simp⟩
  case rest =>
    obtain ⟨rfl, hx1, hx2, hbx, hsx⟩ := hcut
    have y2 : wc.cell? ⟨w1.heap.size, 2, none⟩ = some (iv mo) := by simp only [World.cell?, hx1]; rfl
    have y3 : wc.cell? ⟨w1.heap.size + 1, 0, none⟩ = some (.map (some hb)) := by simp only [World.cell?, hx2]; rfl
    have y4 : wc.cell? ⟨w1.heap.size + 1, 1, none⟩ = some (.slice aq ql cq) := by simp only [World.cell?, hx2]; rfl
    have HBX := Lib.hid hbx
    have HX := Lib.hid (And.intro hx1 hx2)
    have HMC := Lib.hid (HMAP.out.keep (hbx.block _ hbl))
    have Y2 := Lib.hid y2
    have Y4 := Lib.hid y4
    have HSX := Lib.hid hsx
    have hlw : w1.heap.size + 1 < wc.heap.size := by omega
    have hl2 : w1.heap.size < wc.heap.size := by omega
    have hwwc : w.heap.size ≤ wc.heap.size := by omega
    have hbw : hb < wc.heap.size := by omega
    clear hx1 hx2 hbx hsx y2 y4 c1 d1 hlkA hlkB
    go_wp2_with (refine wpList_mapRange rfl _ 57 rfl Try.underlying57 rfl HMC.out ?_; intro ob n0 hit)
    have HIT := Lib.hid hit
    have hne : hb ≠ wc.heap.size := by omega
    clear hit y3
    go_simp
    go_loopw [8] (fun v wr => ∃ (L : Int → Prop) (n : Nat) (zs : List Int), Iter iv wr wc.heap.size hb (hF (T nd).hs) L n ∧ wr.ownsRow (wc.heap.size + 1) 3 1 v zs.length (zs.map iv) ∧ (zs.Nodup ∧ (∀ x ∈ zs, ¬ L x ∧ inWay (T nd) t mo x) ∧ (∀ x, inWay (T nd) t mo x → x ∈ zs ∨ L x)) ∧ Below wc.heap.size wc wr ∧ wc.heap.size < wr.heap.size) (fun _ wr => iterLeft wc.heap.size hb wr)
    case atStart => exact ⟨_, n0, [], by simpa using HIT.out, World.ownsRow_nil _ _ _ _, ⟨List.nodup_nil, (fun x hx => by cases hx), fun x ⟨m', hm', _⟩ => .inr (by simp [hF, hm'])⟩, (Below.refl _ _).alloc (Nat.le_refl _) _, by simp⟩
    case round =>
      obtain ⟨L, n, zs, hit, hown, hzs, hbr, hlt⟩ := hrel
      have hleft := hit.left
      have hz1000 : zs.length ≤ 1000 := by
        have h1 := nodup_sub_length (l := zs) (m := (T nd).hs.map (·.1)) hzs.1 (fun x hx => by
          obtain ⟨m', hm', -⟩ := (hzs.2.1 x hx).2
          exact List.mem_map.2 ⟨_, findH_mem hm', rfl⟩)
        have h2 := (hOK nd).few_hs
        rw [List.length_map] at h1; omega
      have HIT2 := Lib.hid hit
      obtain ⟨av, cv, rfl⟩ := own_form hown
      have HOWN := Lib.hid hown
      have HZS := Lib.hid hzs
      have HBR := Lib.hid hbr
      have x2 := (hbr.cell (p := ⟨w1.heap.size, 2, none⟩) hl2).trans Y2.out
      have x4 := (hbr.cell (p := ⟨w1.heap.size + 1, 1, none⟩) hlw).trans Y4.out
      clear hit hown hzs hbr
      go_wp2_with (first
        | (refine wpList_mapNext rfl _ rfl key3 rfl HIT2.out (fun hno => ?_) (fun x v w3 ob' n' hLx hfx hst hob hi' hlt' hen => ?_); rotate_left; (have hen1 := hen w3 (hst.2.2.2.2 hb hne) hob; have HST := Lib.hid hst; have HI2 := Lib.hid hi'; have HLX := Lib.hid hLx; obtain ⟨vm, hvm, rfl⟩ := hF_some hfx; have HFX := Lib.hid hvm; have hs3 : w3.heap.size = wr.heap.size := hst.2.2.2.1; have x2' := (World.cell?_of_block (a := ⟨w1.heap.size, 2, none⟩) (hst.2.2.2.2 w1.heap.size (by omega))).trans x2; clear hst hi' hLx hen hfx hvm); rotate_left; (have HNO := Lib.hid hno; clear hno)))
      · obtain ⟨W0, rfl⟩ : ∃ W0, W0 = wr := ⟨wr, rfl⟩
        have HNL := HNO
        have hs0 := HBR.out.size
        go_loopw [8, 53] (fun v i wx => ∃ k : Nat, k ≤ ql ∧ i = .int .i64 k ∧ wx.ownsRow (wc.heap.size + 1) 3 1 v (zs ++ ((T nd).q.take k).map (·.1)).length ((zs ++ ((T nd).q.take k).map (·.1)).map iv) ∧ (∀ e ∈ (T nd).q.take k, (e.1 != t) = true) ∧ Below wc.heap.size wc wx) (fun v i _ => ql - (Lib.intOf i).toNat)
        case atStart => exact ⟨0, Nat.zero_le _, rfl, by simpa using HOWN.out, (fun e he => by simp at he), HBR.out⟩
        case round =>
          obtain ⟨k, hk, rfl, hown, hno, hbr⟩ := hrel
          obtain ⟨av2, cv2, rfl⟩ := own_form hown
          have HOWN2 := Lib.hid hown
          have HNO2 := Lib.hid hno
          have HBR2 := Lib.hid hbr
          have hs5 := hbr.size
          obtain ⟨nz, hnz⟩ : ∃ nz, (zs ++ ((T nd).q.take k).map (·.1)).length = nz := ⟨_, rfl⟩
          have hnzb : nz ≤ 2000 := by
            have : ((T nd).q.take k).length ≤ k := List.length_take_le _ _
            rw [← hnz]; simp only [List.length_append, List.length_map]; omega
          rw [hnz] at HOWN2 ⊢
          have HNZ := Lib.hid hnz
          clear hown hno hbr hnz x2 x4
          by_cases hlt2 : k < ql
          · obtain ⟨e, he⟩ : ∃ e, (T nd).q[k]? = some e := ⟨_, List.getElem?_eq_getElem (by rw [HQL.out]; exact hlt2)⟩
            rcases HQC.out with h | ⟨g, off, rfl, hgR, hqc⟩
            · rw [← HQL.out, h] at hlt2; simp at hlt2
            obtain ⟨d0, d1⟩ := hqc k e he
            have hgl := HR.out g hgR
            have y0 := ((HBR2.out.cell (p := ⟨g, off + k * 2, none⟩) (by simp; omega)).trans (HBX.out.cell (p := ⟨g, off + k * 2, none⟩) hgl)).trans d0
            have y1 := ((HBR2.out.cell (p := ⟨g, off + k * 2 + 1, none⟩) (by simp; omega)).trans (HBX.out.cell (p := ⟨g, off + k * 2 + 1, none⟩) hgl)).trans d1
            have k0 : (0 : Int) ≤ (k : Int) := by omega
            have k1 : (k : Int) < (ql : Int) := by omega
            have HE := Lib.hid he
            obtain ⟨et, em⟩ := e
            simp only at y0 y1
            clear hqc d0 d1 he
            by_cases het : et = t
            · have hetb : (et == t) = true := by simp [het]
              have HAH := Lib.hid (show aheadQ (T nd) t = ((T nd).q.take k).map (·.1) by
                unfold aheadQ
                rw [takeWhile_take (k := k) (by rw [HQL.out]; omega) HNO2.out (.inr ⟨_, HE.out, by simp [het]⟩)])
              have HOWNF := Lib.hid (ownsRow_alloc HOWN2.out (.cells #[iv et, iv em] 63))
              have hbE := HBR2.out.alloc hs5 (.cells #[iv et, iv em] 63)
              clear het
              have hmemZ : ∀ x, x ∈ zs ++ ((T nd).q.take k).map (·.1) ↔ inWay (T nd) t mo x ∨ x ∈ aheadQ (T nd) t := fun x => by
                rw [HAH.out, List.mem_append]
                exact or_congr ⟨fun h => (HZS.out.2.1 x h).2, fun h => (HZS.out.2.2 x h).resolve_right (HNL.out x)⟩ Iff.rfl
              have HMZ := Lib.hid hmemZ
              obtain ⟨Z, hZ⟩ : ∃ Z, zs ++ ((T nd).q.take k).map (·.1) = Z := ⟨_, rfl⟩
              have hown := HOWNF.out
              have hnZ : nz = Z.length := by rw [← HNZ.out, hZ]
              rw [hZ] at HMZ hown
              clear hZ hmemZ HNZ
              subst hnZ
              obtain ⟨hll, ⟨hv, hl0⟩ | ⟨g, cap, cur, hv, hbg, hgg, hlc, hcm, hcs, htake⟩⟩ := hown
              · obtain rfl : Z = [] := List.eq_nil_of_length_eq_zero hl0
                rw [hv]
                have HBE := Lib.hid hbE
                clear hbE hv hll hl0
                go_wp2_with fail
                refine (sort_none none 0 _).mono ?_
                rintro e w5 ⟨rfl, rfl⟩
                go_wp2_with fail
                refine (compact_none none 0 _).mono ?_
                rintro e w6 ⟨rfl, rfl⟩
                go_wp2
                go_ret
                exact ⟨⟨_, [], rfl, intsIn_nil _ _, List.Pairwise.nil, .inl ⟨nd, mo, HIN.out, HMZ.out⟩⟩, HBX.out.trans (HBE.out.mono (by omega))⟩
              · rw [Nat.mul_one] at htake
                rw [hv]
                have HG := Lib.hid (And.intro hgg (And.intro hlc (And.intro hcm htake)))
                have HBE := Lib.hid hbE
                have hbg' := hbg
                have hsE := hbE.size
                clear hbE hv hll hgg hlc hcm hcs htake hbg
                go_wp2_with fail
                refine (sortH_any g cap Z cur _ HG.out.1 (by omega) HG.out.2.2.2).mono ?_
                rintro e w5 ⟨rfl, hc5, hH5⟩
                have HC5 := Lib.hid hc5
                have hcp := compact_any g cap (sorted Z) w5 hH5 (by rw [sorted_length]; omega) (by rw [sorted_length]; exact HG.out.2.1)
                rw [sorted_length] at hcp
                have HCP := Lib.hid hcp
                clear hc5 hH5 hcp
                go_wp2_with fail
                refine HCP.out.mono ?_
                rintro e w6 ⟨rfl, hc6, hcl6⟩
                have HC6 := Lib.hid hc6
                have HCL := Lib.hid hcl6
                clear hc6 hcl6
                go_wp2
                go_ret
                obtain ⟨cs1, cs2⟩ := compact_spec (sorted_rise Z)
                have s5 := HC5.out.size
                have s6 := HC6.out.size
                have hglt := (Array.getElem?_eq_some_iff.1 HG.out.1).1
                have hcl : (Lib.compact (sorted Z)).length ≤ cap := by
                  have := compact_len (sorted Z)
                  rw [sorted_length] at this
                  exact Nat.le_trans this HG.out.2.1
                refine ⟨⟨_, Lib.compact (sorted Z), rfl, ⟨_, cap, rfl, hcl, HG.out.2.2.1, .inr ⟨g, 0, rfl, ⟨by omega, by omega⟩, HCL.out⟩⟩, cs1, .inl ⟨nd, mo, HIN.out, fun x => (cs2 x).trans (((sorted_perm Z).mem_iff).trans (HMZ.out x))⟩⟩, ?_⟩
                have hb6 : Below wc.heap.size wc w6 := HBE.out.trans ⟨HC6.out.os.trans HC5.out.os, HC6.out.tape.trans HC5.out.tape, HC6.out.output.trans HC5.out.output, by omega, fun j hj => (HC6.out.block j (by omega) (by omega)).trans (HC5.out.block j (by omega) (by omega))⟩
                exact HBX.out.trans (hb6.mono (by omega))
            · have hetb : (et == t) = false := by simp [het]
              go_wp2_with (at_builtin; refine wpList_append_own_at _ rfl _ _ 44 rfl (wc.heap.size + 1) 3 i0 (.int .i64 0) 1 8 Try.underlying44 hi hz0 hz1 hz2 rfl (by decide) _ _ _ rfl (ownsRow_alloc (ownsRow_alloc HOWN2.out _) _) ⟨wr.heap.size + 1, 0, none⟩ 1 1 [iv et] rfl rfl (by have := cell_one_new (wr.alloc (.cells #[iv et, iv em] 63)) (iv et) 3; rw [World.size_alloc] at this; exact this) (by simp [Value.oneCell']) (by unfold maxLen; omega) (by omega) (by simp; omega) ?_; intro v' w7 hown7 hgrow hnil hloc; obtain ⟨a7, n7, c7, rfl⟩ := slice_form hown7)
              go_roundw
              case rel =>
                have e1 : zs ++ ((T nd).q.take (k + 1)).map (·.1) = (zs ++ ((T nd).q.take k).map (·.1)) ++ [et] := by
                  rw [List.take_add_one, HE.out]; simp
                refine ⟨k + 1, by omega, by go_num, ?_, no_snoc2 HNO2.out HE.out (by simp [het]), ?_⟩
                · rw [e1, List.map_append, List.length_append, HNZ.out]
                  exact hown7
                · exact ((HBR2.out.alloc hs5 _).alloc (by simp; omega) _).trans ⟨hgrow.os, hgrow.tape, hgrow.output, hgrow.size, fun j hj => hgrow.block j (by simp; omega) (fun e => by have := (ownsRow_base HOWN2.out e.symm).1; omega)⟩
              case measure => simp [Lib.intOf]; omega
          · obtain rfl : k = ql := by omega
            have HAH := Lib.hid (show aheadQ (T nd) t = ((T nd).q.take k).map (·.1) by
              unfold aheadQ
              rw [takeWhile_take (k := k) (by rw [HQL.out]; omega) HNO2.out (.inl HQL.out.symm)])
            have HOWNF := Lib.hid HOWN2.out
            have hbE := HBR2.out
            have hmemZ : ∀ x, x ∈ zs ++ ((T nd).q.take k).map (·.1) ↔ inWay (T nd) t mo x ∨ x ∈ aheadQ (T nd) t := fun x => by
              rw [HAH.out, List.mem_append]
              exact or_congr ⟨fun h => (HZS.out.2.1 x h).2, fun h => (HZS.out.2.2 x h).resolve_right (HNL.out x)⟩ Iff.rfl
            have HMZ := Lib.hid hmemZ
            obtain ⟨Z, hZ⟩ : ∃ Z, zs ++ ((T nd).q.take k).map (·.1) = Z := ⟨_, rfl⟩
            have hown := HOWNF.out
            have hnZ : nz = Z.length := by rw [← HNZ.out, hZ]
            rw [hZ] at HMZ hown
            clear hZ hmemZ HNZ
            subst hnZ
            obtain ⟨hll, ⟨hv, hl0⟩ | ⟨g, cap, cur, hv, hbg, hgg, hlc, hcm, hcs, htake⟩⟩ := hown
            · obtain rfl : Z = [] := List.eq_nil_of_length_eq_zero hl0
              rw [hv]
              have HBE := Lib.hid hbE
              clear hbE hv hll hl0
              go_wp2_with fail
              refine (sort_none none 0 _).mono ?_
              rintro e w5 ⟨rfl, rfl⟩
              go_wp2_with fail
              refine (compact_none none 0 _).mono ?_
              rintro e w6 ⟨rfl, rfl⟩
              go_wp2
              go_ret
              exact ⟨⟨_, [], rfl, intsIn_nil _ _, List.Pairwise.nil, .inl ⟨nd, mo, HIN.out, HMZ.out⟩⟩, HBX.out.trans (HBE.out.mono (by omega))⟩
            · rw [Nat.mul_one] at htake
              rw [hv]
              have HG := Lib.hid (And.intro hgg (And.intro hlc (And.intro hcm htake)))
              have HBE := Lib.hid hbE
              have hbg' := hbg
              have hsE := hbE.size
              clear hbE hv hll hgg hlc hcm hcs htake hbg
              go_wp2_with fail
              refine (sortH_any g cap Z cur _ HG.out.1 (by omega) HG.out.2.2.2).mono ?_
              rintro e w5 ⟨rfl, hc5, hH5⟩
              have HC5 := Lib.hid hc5
              have hcp := compact_any g cap (sorted Z) w5 hH5 (by rw [sorted_length]; omega) (by rw [sorted_length]; exact HG.out.2.1)
              rw [sorted_length] at hcp
              have HCP := Lib.hid hcp
              clear hc5 hH5 hcp
              go_wp2_with fail
              refine HCP.out.mono ?_
              rintro e w6 ⟨rfl, hc6, hcl6⟩
              have HC6 := Lib.hid hc6
              have HCL := Lib.hid hcl6
              clear hc6 hcl6
              go_wp2
              go_ret
              obtain ⟨cs1, cs2⟩ := compact_spec (sorted_rise Z)
              have s5 := HC5.out.size
              have s6 := HC6.out.size
              have hglt := (Array.getElem?_eq_some_iff.1 HG.out.1).1
              have hcl : (Lib.compact (sorted Z)).length ≤ cap := by
                have := compact_len (sorted Z)
                rw [sorted_length] at this
                exact Nat.le_trans this HG.out.2.1
              refine ⟨⟨_, Lib.compact (sorted Z), rfl, ⟨_, cap, rfl, hcl, HG.out.2.2.1, .inr ⟨g, 0, rfl, ⟨by omega, by omega⟩, HCL.out⟩⟩, cs1, .inl ⟨nd, mo, HIN.out, fun x => (cs2 x).trans (((sorted_perm Z).mem_iff).trans (HMZ.out x))⟩⟩, ?_⟩
              have hb6 : Below wc.heap.size wc w6 := HBE.out.trans ⟨HC6.out.os.trans HC5.out.os, HC6.out.tape.trans HC5.out.tape, HC6.out.output.trans HC5.out.output, by omega, fun j hj => (HC6.out.block j (by omega) (by omega)).trans (HC5.out.block j (by omega) (by omega))⟩
              exact HBX.out.trans (hb6.mono (by omega))
      case roundEnd =>
        have hxt : x = t := by assumption
        exact ⟨⟨_, n', zs, HI2.out, ownsRow_stepped HOWN.out HST.out (by omega), ⟨HZS.out.1, fun y hy => ⟨fun h => (HZS.out.2.1 y hy).1 h.1, (HZS.out.2.1 y hy).2⟩, fun y hy => (HZS.out.2.2 y hy).imp (fun h => h) (fun hl => ⟨hl, fun e => by obtain ⟨_, _, h2, _⟩ := hy; exact h2 (e.trans hxt)⟩)⟩, HBR.out.trans (below_stepped HST.out (Nat.le_refl _)), by omega⟩, by rw [HI2.out.left]; omega⟩
      · have hxt : ¬ x = t := by assumption
        refine (comp_any _ _ _).mono ?_
        rintro e w4 ⟨rfl, hb4⟩
        have hs4 := hb4.size
        have hi4 := HI2.out.keep (hb4.block _ HI2.out.lt.1) (hb4.block _ HI2.out.lt.2)
        have hown3 := ownsRow_stepped HOWN.out HST.out (by omega)
        have hown4 := ownsRow_keeps hown3 (fun g hg => hb4.block g (ownsRow_base hown3 hg).2)
        have hw4 : Below wc.heap.size wc w4 := (HBR.out.trans (below_stepped HST.out (Nat.le_refl _))).trans (hb4.mono (by omega))
        have HI4 := Lib.hid hi4
        have HOWN4 := Lib.hid hown4
        have HW4 := Lib.hid hw4
        clear hb4 hi4 hown3 hown4 hw4
        by_cases hc : compB vm mo = true
        · rw [hc]
          have HC := Lib.hid hc
          clear hc
          go_wp2
          go_roundw
          case rel => exact ⟨_, n', zs, HI4.out, HOWN4.out, ⟨HZS.out.1, fun y hy => ⟨fun h => (HZS.out.2.1 y hy).1 h.1, (HZS.out.2.1 y hy).2⟩, fun y hy => (HZS.out.2.2 y hy).imp (fun h => h) (fun hl => ⟨hl, fun e => by
            obtain ⟨m', h1, _, h3⟩ := hy
            rw [e, HFX.out] at h1
            cases h1
            rw [HC.out] at h3; cases h3⟩)⟩, HW4.out, by omega⟩
          case measure => rw [HI4.out.left]; omega
        · have hc : compB vm mo = false := by simpa using hc
          rw [hc]
          have HC := Lib.hid hc
          clear hc
          go_wp2_with (at_builtin; refine wpList_append_own_at _ rfl _ _ 44 rfl (wc.heap.size + 1) 3 i0 (.int .i64 0) 1 8 Try.underlying44 hi hz0 hz1 hz2 rfl (by decide) _ _ _ rfl (ownsRow_alloc HOWN4.out _) ⟨w4.heap.size, 0, none⟩ 1 1 [iv x] rfl rfl (cell_one_new _ _ _) (by simp [Value.oneCell']) (by unfold maxLen; omega) (by omega) (by simp; omega) ?_; intro v' w7 hown7 hgrow hnil hloc; obtain ⟨a7, n7, c7, rfl⟩ := slice_form hown7)
          have hi7 := HI4.out.keep (w' := w7) ((hgrow.block hb (by simp; omega) (fun e => by have := (ownsRow_base HOWN4.out e.symm).1; omega)).trans (Go.heap_alloc_old _ _ (by omega))) ((hgrow.block wc.heap.size (by simp; omega) (fun e => by have := (ownsRow_base HOWN4.out e.symm).1; omega)).trans (Go.heap_alloc_old _ _ (by omega)))
          have hsz7 := hgrow.size
          go_roundw
          case rel =>
            refine ⟨_, n', zs ++ [x], hi7, ?_, ⟨?_, ?_, ?_⟩, ?_, by simp at hsz7; omega⟩
            · rw [List.map_append, List.length_append]; exact hown7
            · exact List.nodup_append.2 ⟨HZS.out.1, by simp, fun a ha b hb' => by
                simp only [List.mem_singleton] at hb'
                subst hb'
                rintro rfl
                exact (HZS.out.2.1 a ha).1 HLX.out⟩
            · intro y hy
              rcases List.mem_append.1 hy with hy | hy
              · exact ⟨fun h => (HZS.out.2.1 y hy).1 h.1, (HZS.out.2.1 y hy).2⟩
              · obtain rfl := List.mem_singleton.1 hy
                exact ⟨fun h => h.2 rfl, ⟨vm, HFX.out, hxt, HC.out⟩⟩
            · intro y hy
              by_cases e : y = x
              · exact .inl (List.mem_append.2 (.inr (by simp [e])))
              · exact (HZS.out.2.2 y hy).imp (fun h => List.mem_append.2 (.inl h)) (fun hl => ⟨hl, e⟩)
            · exact (HW4.out.alloc HW4.out.size _).trans ⟨hgrow.os, hgrow.tape, hgrow.output, hgrow.size, fun j hj => hgrow.block j (by have := HW4.out.size; simp; omega) (fun e => by have := (ownsRow_base HOWN4.out e.symm).1; omega)⟩
          case measure => rw [hi7.left]; omega
end Go.Proofs.Ytamjopgpmeeheaa
