/- The walk of LockSafe (5). -/
import Derived.Test.YtamjopgpmeeheaaFE
import Derived.Test.YtamjopgpmeeheaaPC
namespace Go.Proofs.Ytamjopgpmeeheaa
open Go.RowKit
set_option linter.unusedVariables false

set_option maxRecDepth 100000 in
set_option maxHeartbeats 16000000 in
theorem lockSafe_any {F : Nat → Prop} {w : World} {v : Value} {l : List St4} (h : StIn F w v l) (hF : ∀ k, F k → k < w.heap.size) :
    Calls Try.prog 5 #[v] w fun e w' => e = .returned (.bool true) ∧ Below w.heap.size w w' := by
  obtain ⟨av, cv, rfl, hl1, hl2, hcells⟩ := h
  have HC := Lib.hid hcells
  have HN := Lib.hid (new_any w)
  clear hcells
  unfold maxLen at hl2
  go_enter Try.func5, Try.ntmps5
  go_wp2_with (go_at_call 8; refine HN.out.mono ?_; rintro e w1 ⟨⟨p, rfl, ⟨M, R, s, m, f, rfl, hMA, hRA, hRM, htab⟩⟩, hb1⟩)
  have HONE := Lib.hid (⟨M, R, f, htab, hMA, fun k hk => ⟨(hRA k hk).1, (hRA k hk).2, hRM k hk⟩⟩ : One w.heap.size w1 s m (fun _ => Nd.nil) 0)
  have HB1 := Lib.hid hb1
  clear hMA hRA hRM htab hb1
  go_loopw [4] (fun i wr => ∃ k : Nat, k ≤ 60 ∧ k ≤ l.length ∧ i = .int .i64 k ∧ (∃ T, One w.heap.size wr s m T k ∧ TbOk T ∧ Safe T) ∧ Below w.heap.size w wr) (fun i _ => 60 - (Lib.intOf i).toNat)
  case atStart => exact ⟨0, by omega, by omega, rfl, ⟨_, HONE.out, tbOk_nil, fun _ => safeN_nil⟩, HB1.out⟩
  case round =>
    obtain ⟨k, hk60, hkl, rfl, ⟨T0, hone, hT, hin⟩, hbr⟩ := hrel
    have hsr := hbr.size
    have HONE1 := Lib.hid hone
    have HT0 := Lib.hid hT
    have HIN := Lib.hid hin
    have HBR := Lib.hid hbr
    clear hone hT hin hbr
    go_upto_region 3 with fail
    obtain ⟨tb, htb⟩ : ∃ tb, decide (k < l.length ∧ k < 60) = tb := ⟨_, rfl⟩
    go_cut [20] from 13 to 87 (fun c wx => c = .bool tb ∧ wr = wx)
    case first =>
      by_cases h1 : k < l.length
      · have kd1 : decide ((k : Int) < (l.length : Int)) = true := decide_eq_true (by omega)
        by_cases h2 : k < 60
        · have kd2 : decide ((k : Int) < 60) = true := decide_eq_true (by omega)
          have htb' : tb = true := by rw [← htb]; exact decide_eq_true ⟨h1, h2⟩
          have HTB := Lib.hid htb'
          clear htb htb'
          go_wp2
          go_meet
          exact ⟨by rw [HTB.out], rfl⟩
        · have kd2 : decide ((k : Int) < 60) = false := decide_eq_false (by omega)
          have htb' : tb = false := by rw [← htb]; exact decide_eq_false (fun h => h2 h.2)
          have HTB := Lib.hid htb'
          clear htb htb'
          go_wp2
          go_meet
          exact ⟨by rw [HTB.out], rfl⟩
      · have kd1 : decide ((k : Int) < (l.length : Int)) = false := decide_eq_false (by omega)
        have htb' : tb = false := by rw [← htb]; exact decide_eq_false (fun h => h1 h.1)
        have HTB := Lib.hid htb'
        clear htb htb'
        go_wp2
        go_meet
        exact ⟨by rw [HTB.out], rfl⟩
    case rest =>
      obtain ⟨rfl, rfl⟩ := hcut
      cases tb with
      | false =>
        clear htb
        go_wp2_with (go_at_call 10; refine (works_any _).mono ?_; rintro e w7 ⟨rfl, hb7⟩)
        go_ret
        exact ⟨rfl, HBR.out.trans (hb7.mono hsr)⟩
      | true =>
        obtain ⟨hlt1, hlt2⟩ := of_decide_eq_true htb
        obtain ⟨⟨kd, t, n4, mo⟩, he⟩ : ∃ e, l[k]? = some e := ⟨_, List.getElem?_eq_getElem hlt1⟩
        rcases HC.out with h | ⟨g, off, rfl, hg, hcl⟩
        · rw [h] at hlt1; simp at hlt1
        have hgl := hF g hg
        obtain ⟨d0, d1, d2, d3⟩ := hcl k _ he
        have y0 := (HBR.out.cell (p := ⟨g, off + k * 4, none⟩) hgl).trans d0
        have y1 := (HBR.out.cell (p := ⟨g, off + k * 4 + 1, none⟩) hgl).trans d1
        have y2 := (HBR.out.cell (p := ⟨g, off + k * 4 + 2, none⟩) hgl).trans d2
        have y3 := (HBR.out.cell (p := ⟨g, off + k * 4 + 3, none⟩) hgl).trans d3
        simp only at y0 y1 y2 y3
        have hgr : g < wr.heap.size := by omega
        have k0 : (0 : Int) ≤ (k : Int) := by omega
        have k1 : (k : Int) < (l.length : Int) := by omega
        have HCL := Lib.hid hcl
        have HS := Lib.hid (HONE1.out.step hsr HT0.out (by omega) kd t n4 mo)
        clear d0 d1 d2 d3 hcl he htb
        go_wp2_with (go_at_call 12; refine HS.out.mono ?_; rintro e W1 ⟨b, T, rfl, h1, h2, -, h4, h5⟩; have HONE2 := Lib.hid h1; have HT := Lib.hid h2; have HSAFE := Lib.hid (safe_step HT0.out HIN.out h4); have HBW := Lib.hid (below_chgB HBR.out h5); clear h1 h2 h4 h5)
        have hsW := HBW.out.size
        obtain ⟨W0, rfl⟩ : ∃ W0, W0 = wr := ⟨wr, rfl⟩
        clear y0 y1 y2 y3
        go_loopw [5] (fun i wr => ∃ j : Nat, j ≤ k + 1 ∧ i = .int .i64 j ∧ Below W1.heap.size W1 wr) (fun i _ => k + 1 - (Lib.intOf i).toNat)
        case atStart => exact ⟨0, by omega, rfl, Below.refl _ _⟩
        case round =>
          obtain ⟨j, hjk, rfl, hbj⟩ := hrel
          have HBJ := Lib.hid hbj
          have hsj := hbj.size
          have HONE3 := Lib.hid (HONE2.out.keepNew hbj)
          have HBJW := Lib.hid (HBW.out.trans (hbj.mono hsW))
          clear hbj
          by_cases hlt : j ≤ k
          · have jd1 : decide ((j : Int) ≤ (k : Int)) = true := decide_eq_true (by omega)
            obtain ⟨⟨kd', t', n', mo'⟩, he⟩ : ∃ e, l[j]? = some e := ⟨_, List.getElem?_eq_getElem (by omega)⟩
            obtain ⟨d0, d1, d2, d3⟩ := HCL.out j _ he
            have y1 := (HBJW.out.cell (p := ⟨g, off + j * 4 + 1, none⟩) hgl).trans d1
            have y2 := (HBJW.out.cell (p := ⟨g, off + j * 4 + 2, none⟩) hgl).trans d2
            simp only at y1 y2
            have j0 : (0 : Int) ≤ (j : Int) := by omega
            have j1 : (j : Int) < (l.length : Int) := by omega
            have D1 := Lib.hid d1
            have HHO := Lib.hid (HONE3.out.holders HT.out n')
            clear d0 d1 d2 d3 he
            obtain ⟨Wj, rfl⟩ : ∃ Wj, Wj = wr := ⟨wr, rfl⟩
            go_wp2_with (go_at_call 15; refine HHO.out.mono ?_; rintro e Wh ⟨⟨v2, rfl, htr⟩, hb2⟩; have HB2 := Lib.hid hb2; have HTR := Lib.hid htr; obtain ⟨ah, ch, rfl, -, hch, hcx⟩ := htr; have HCX := Lib.hid hcx; clear hb2 hcx)
            obtain ⟨hs, hhs⟩ : ∃ hs, (T n').hs = hs := ⟨_, rfl⟩
            have hok := HT.out.1 n'
            have hsf := HSAFE.out n'
            have hpair : ∀ (a b : Nat) (x y : W2), hs[a]? = some x → hs[b]? = some y → b < a → compB x.2 y.2 = true := fun a b x y hx hy hba => by
              rw [← hhs] at hx hy
              refine hsf.pair x (List.mem_of_getElem? hx) y (List.mem_of_getElem? hy) (fun e => ?_)
              obtain ⟨ha', rfl⟩ := List.getElem?_eq_some_iff.1 hx
              obtain ⟨hb', rfl⟩ := List.getElem?_eq_some_iff.1 hy
              have := List.pairwise_iff_getElem.1 hok.rise b a hb' ha' hba
              omega
            have HPAIR := Lib.hid hpair
            have hfew := hok.few_hs
            rw [hhs] at HCX hfew ⊢
            obtain ⟨n, hn⟩ : ∃ n, hs.length = n := ⟨_, rfl⟩
            rw [hn]
            have HN2 := Lib.hid hn
            have hnb : n ≤ 1000 := by omega
            have hs2 := HB2.out.size
            clear hn hpair hok hsf hhs y1 y2 hch hfew
            go_loopw [7] (fun i wr => ∃ a : Nat, a ≤ n ∧ i = .int .i64 a ∧ Below Wh.heap.size Wh wr) (fun i _ => n - (Lib.intOf i).toNat)
            case atStart => exact ⟨0, by omega, rfl, Below.refl _ _⟩
            case round =>
              obtain ⟨a, han, rfl, hba⟩ := hrel
              have HBA := Lib.hid hba
              have hsa := hba.size
              clear hba
              obtain ⟨Wa, rfl⟩ : ∃ Wa, Wa = wr := ⟨wr, rfl⟩
              by_cases hlta : a < n
              · have a0 : (0 : Int) ≤ (a : Int) := by omega
                have a1 : (a : Int) < (n : Int) := by omega
                go_wp2
                go_loopw [8] (fun i wr => ∃ b : Nat, b ≤ a ∧ i = .int .i64 b ∧ Below Wh.heap.size Wh wr) (fun i _ => a - (Lib.intOf i).toNat)
                case atStart => exact ⟨0, by omega, rfl, HBA.out⟩
                case round =>
                  obtain ⟨b, hba, rfl, hbb⟩ := hrel
                  have HBB := Lib.hid hbb
                  have hsb := hbb.size
                  clear hbb
                  by_cases hltb : b < a
                  · have b0 : (0 : Int) ≤ (b : Int) := by omega
                    have b1 : (b : Int) < (n : Int) := by omega
                    have b2 : (b : Int) < (a : Int) := by omega
                    obtain ⟨xa, hxa⟩ : ∃ e, hs[a]? = some e := ⟨_, List.getElem?_eq_getElem (by rw [HN2.out]; exact hlta)⟩
                    obtain ⟨xb, hxb⟩ : ∃ e, hs[b]? = some e := ⟨_, List.getElem?_eq_getElem (by rw [HN2.out]; omega)⟩
                    rcases HCX.out with h | ⟨gh, oh, rfl, hgh, hcl⟩
                    · have h9 := congrArg List.length h
                      rw [List.length_map, HN2.out] at h9
                      simp at h9; omega
                    obtain ⟨-, -, z2⟩ := hcl a (xa.1, n', xa.2) (by rw [List.getElem?_map, hxa]; rfl)
                    obtain ⟨-, -, z3⟩ := hcl b (xb.1, n', xb.2) (by rw [List.getElem?_map, hxb]; rfl)
                    have hss : ∀ w', Below wr.heap.size wr w' → w'.cell? ⟨gh, oh + a * 3 + 2, none⟩ = some (iv xa.2) ∧ w'.cell? ⟨gh, oh + b * 3 + 2, none⟩ = some (iv xb.2) := fun w' h =>
                      ⟨((h.cell (p := ⟨gh, oh + a * 3 + 2, none⟩) (by have := hgh.2; simp; omega)).trans (HBB.out.cell (p := ⟨gh, oh + a * 3 + 2, none⟩) hgh.2)).trans z2, ((h.cell (p := ⟨gh, oh + b * 3 + 2, none⟩) (by have := hgh.2; simp; omega)).trans (HBB.out.cell (p := ⟨gh, oh + b * 3 + 2, none⟩) hgh.2)).trans z3⟩
                    have hcmp : ∀ w' : World, Calls Try.prog 16 #[.int .i64 xa.2, .int .i64 xb.2] w' fun e w'' => e = .returned (.bool true) ∧ Below w'.heap.size w' w'' := fun w' => by
                      have := rcomp_any xa.2 xb.2 w'
                      rw [HPAIR.out a b xa xb hxa hxb hltb] at this
                      exact this
                    have HSS := Lib.hid hss
                    have HCMP := Lib.hid hcmp
                    have hcur : Below wr.heap.size wr wr.drew := (Below.refl _ _).drew
                    obtain ⟨xa1, xa2⟩ := xa
                    obtain ⟨xb1, xb2⟩ := xb
                    simp only at HSS HCMP
                    clear hss hcmp z2 z3 hcl hxa hxb
                    go_upto_region 16 with fail
                    go_region_held3 (fun w' => w'.cell? ⟨gh, oh + a * 3 + 2, none⟩ = some (iv xa2) ∧ w'.cell? ⟨gh, oh + b * 3 + 2, none⟩ = some (iv xb2))
                      (exact HSS.out _ hcur)
                      (first
                        | (go_at_call 16; refine (HCMP.out _).mono ?_; rintro e w7 ⟨rfl, hb7⟩; have hcur := hcur.trans (hb7.mono hcur.size); clear hb7))
                    all_goals
                      have HCUR := Lib.hid hcur
                      clear hcur
                      go_wp2
                      go_roundw
                      case rel => exact ⟨b + 1, by omega, by go_num, HBB.out.trans (HCUR.out.mono hsb)⟩
                      case measure => simp [Lib.intOf]; omega
                  · obtain rfl : b = a := by omega
                    go_wp2
                    go_roundw
                    case rel => exact ⟨b + 1, by omega, by go_num, HBB.out⟩
                    case measure => simp [Lib.intOf]; omega
              · obtain rfl : a = n := by omega
                have hb3 := HB2.out.trans (HBA.out.mono hs2)
                have hone4 := HONE3.out.keepNew hb3
                have hbw4 := HBJW.out.trans (hb3.mono (Nat.le_trans hsW hsj))
                have y1 := (hbw4.cell (p := ⟨g, off + j * 4 + 1, none⟩) hgl).trans D1.out
                have HWT := Lib.hid (hone4.wants t')
                have HBW4 := Lib.hid hbw4
                have HB3 := Lib.hid hb3
                have HONE4 := Lib.hid hone4
                clear hb3 hone4 hbw4
                have hga : g < Wa.heap.size := by omega
                go_wp2_with (go_at_call 14; refine HWT.out.mono ?_; rintro e w6 ⟨x0, x1, x2, wb, hwb, rfl, hb6⟩; have y1' := ((hb6.alloc hb6.size (.cells #[iv x0, iv x1, iv x2] 34)).cell (p := ⟨g, off + j * 4 + 1, none⟩) hga).trans y1; have HWB := Lib.hid hwb; have HB6 := Lib.hid hb6; clear hwb hb6)
                have hb7 : Below Wa.heap.size Wa (w6.alloc (.cells #[iv x0, iv x1, iv x2] 34)) := HB6.out.alloc HB6.out.size _
                have hone5 := HONE4.out.keepNew hb7
                have HB7 := Lib.hid hb7
                have HWS := Lib.hid (hone5.waits HT.out t')
                clear hb7 hone5 y1 y1'
                refine HWS.out.mono ?_
                rintro e w8 ⟨⟨v8, zs, rfl, hin8, hwo⟩, hb8⟩
                have hws := waits_some HT.out HSAFE.out hwo
                have hbt : wb = true ↔ zs ≠ [] := HWB.out.trans hws
                obtain ⟨a8, c8, rfl, hz1, hz2, -⟩ := hin8
                unfold maxLen at hz2
                have HB8 := Lib.hid hb8
                clear hwo hws hb8
                have hbel : Below W1.heap.size W1 w8 := ((HBJ.out.trans (HB3.out.mono hsj)).trans (HB7.out.mono (by omega))).trans (HB8.out.mono (by have := HB7.out.size; omega))
                have HBEL := Lib.hid hbel
                clear hbel
                cases zs with
                | nil =>
                  obtain rfl : wb = false := by
                    cases wb with
                    | false => rfl
                    | true => exact absurd rfl (hbt.1 rfl)
                  clear hbt
                  go_wp2
                  go_roundw
                  case rel => exact ⟨j + 1, by omega, by go_num, HBEL.out⟩
                  case measure => simp [Lib.intOf]; omega
                | cons z zr =>
                  obtain rfl : wb = true := hbt.2 (by simp)
                  have hlz : decide ((0 : Int) < (((z :: zr).length : Nat) : Int)) = true := decide_eq_true (by simp)
                  clear hbt
                  go_wp2
                  go_roundw
                  case rel => exact ⟨j + 1, by omega, by go_num, HBEL.out⟩
                  case measure => simp [Lib.intOf]; omega
          · have jd1 : decide ((j : Int) ≤ (k : Int)) = false := decide_eq_false (by omega)
            go_wp2
            go_roundw
            case rel => exact ⟨k + 1, by omega, by omega, by go_num, ⟨T, HONE3.out, HT.out, HSAFE.out⟩, HBJW.out⟩
            case measure => simp [Lib.intOf]; omega
end Go.Proofs.Ytamjopgpmeeheaa
