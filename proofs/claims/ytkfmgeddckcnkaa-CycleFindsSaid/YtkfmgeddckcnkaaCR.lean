/- CycleBreaks (5): the walk. -/
import Derived.Test.YtkfmgeddckcnkaaPB
import Derived.Test.YtkfmgeddckcnkaaWK
import Derived.Test.YtkfmgeddckcnkaaED
namespace Go.Proofs.Ytkfmgeddckcnkaa
open Go.RowKit
open Go.ChangeMaps (setBlock)
set_option linter.unusedVariables false

theorem without_snoc (x : Int) (V : List Edge) (e : Edge) : without x (V ++ [e]) = without x V ++ (if touches x e then [] else [e]) := by
  unfold without
  rw [List.filter_append]
  cases h : touches x e <;> simp [h]
theorem EdgesIn.mono {F G : Nat → Prop} {w : World} {v : Value} {l : List Edge} (h : EdgesIn F w v l) (hf : ∀ k, F k → G k) : EdgesIn G w v l := by
  obtain ⟨a, cap, h0, h1, h2, h3⟩ := h
  refine ⟨a, cap, h0, h1, h2, h3.imp id fun ⟨g, off, e, hg, hc⟩ => ⟨g, off, e, hf g hg, hc⟩⟩
set_option maxRecDepth 100000 in
set_option maxHeartbeats 4000000 in
theorem cycleBreaks_any {F : Nat → Prop} {w : World} {v : Value} {l : List Edge} (h : EdgesIn F w v l) (hF : ∀ k, F k → k < w.heap.size) (t : Int) :
    Calls Try.prog 5 #[v, .int .i64 t] w fun e w' => e = .returned (.bool true) ∧ Below w.heap.size w w' := by
  have HE := Lib.hid h
  have HVI := Lib.hid (victims_any h hF t)
  have HW := Lib.hid works_any
  have HF := Lib.hid hF
  obtain ⟨a, cap, rfl, hlc, hcm, -⟩ := h
  obtain ⟨i0, hi, hz0, hz1, hz2⟩ := info_parts Try.info31
  clear hF hlc hcm
  by_cases hl : 200 < l.length
  · have hl' : (200 : Int) < (l.length : Int) := by omega
    go_enter Try.func5, Try.ntmps5
    go_wp2_with (go_at_call 7; refine (HW.out _).mono ?_; rintro e w' ⟨rfl, hb⟩)
    go_ret
    exact ⟨rfl, hb⟩
  · have hl' : ¬ ((200 : Int) < (l.length : Int)) := by omega
    obtain ⟨c, hc⟩ : ∃ c, findOf (edgesOf l) t = c := ⟨_, rfl⟩
    obtain ⟨vs, hvs⟩ : ∃ vs, victF t 200 (edgesOf l) = vs := ⟨_, rfl⟩
    have hvl : vs.length ≤ 200 := by rw [← hvs]; exact vict_length _ _
    have hcl : c.length ≤ 202 := by
      rcases find_spec (fine_edgesOf l) t with ⟨h, _⟩ | ⟨b, l', h, hb, hl2, hp, hd⟩
      · rw [← hc, h]; simp
      · rw [← hc, h]
        have := hd 0 _ (List.getElem?_eq_getElem (by omega))
        have := farOf_le this
        simp; omega
    have hcyc : ∀ x ∈ vs, findOf (edgesOf l) x ≠ [] := fun x hx => vict_cycle (fine_edgesOf l) 200 _ (fine_edgesOf l) (fun e he => he) x (by rw [hvs]; exact hx)
    have hend : findOf (edgesOf (withoutAll vs l)) t = [] := by rw [← hvs]; exact breaks_end (by omega) t
    have HCYC := Lib.hid hcyc
    have HEND := Lib.hid hend
    rw [hvs] at HVI
    have hcase : (c.length = 0 ∧ vs.length = 0) ∨ (c.length ≠ 0 ∧ vs.length ≠ 0 ∧ ∃ v0, vs[0]? = some v0 ∧ ∀ y ∈ c, y ≤ v0) := by
      by_cases hn : c = []
      · refine .inl ⟨by rw [hn]; rfl, ?_⟩
        rw [hn] at hc
        rw [← hvs, victF_nil hc]; rfl
      · obtain ⟨v0, vs', h1, h2⟩ := vict_head hc hn
        refine .inr ⟨fun h => hn (List.eq_nil_of_length_eq_zero h), ?_, v0, ?_, h2⟩
        · rw [← hvs, h1]; simp
        · rw [← hvs, h1]; rfl
    have hcase2 : ∃ b, ((c.length : Int) == 0) = b ∧ ((vs.length : Int) == 0) = b := by
      rcases hcase with ⟨h1, h2⟩ | ⟨h1, h2, -⟩
      · exact ⟨true, by simp [h1], by simp [h2]⟩
      · exact ⟨false, beq_false_of_ne (by omega), beq_false_of_ne (by omega)⟩
    have HCASE := Lib.hid hcase
    have HC := Lib.hid hc
    clear hcase hcyc hend hc hvs
    obtain ⟨b, z1, z2⟩ := hcase2
    cases b
    all_goals
      go_enter Try.func5, Try.ntmps5
      go_wp2_with (first
        | (go_at_call 9; refine HFI.out.mono ?_; rintro e w2 ⟨⟨r2, rfl, hi2⟩, hb2⟩; rw [HC.out] at hi2; obtain ⟨a2, c2, rfl, -, -, hx2⟩ := hi2; have HX2 := Lib.hid hx2; have HB2 := Lib.hid hb2; have hbs2 := hb2.size; clear hx2 hb2)
        | (go_at_call 11; refine HVI.out.mono ?_; rintro e w1 ⟨⟨r1, rfl, hi1⟩, hb1⟩; have HFI := Lib.hid (cycleFind_any (HE.out.keep (fun k hk => hb1.block k (HF.out k hk))) (fun k hk => Nat.lt_of_lt_of_le (HF.out k hk) hb1.size) t); obtain ⟨a1, c1, rfl, -, -, hx1⟩ := hi1; have HX1 := Lib.hid hx1; have HB1 := Lib.hid hb1; have hbs1 := hb1.size; clear hx1 hb1))
      clear z1 z2
      go_loopw [7] (fun i wx => ∃ (k n : Nat), k ≤ c.length ∧ i = .int .i64 k ∧ w2.drewN n = wx) (fun i _ => c.length - (Lib.intOf i).toNat)
      case atStart => exact ⟨0, 0, Nat.zero_le _, rfl, rfl⟩
      case round =>
        obtain ⟨k, n, hk, rfl, hwn⟩ := hrel
        have HWN := Lib.hid hwn
        have hkeep : ∀ g off j, g < w2.heap.size → wr.cell? ⟨g, off + j, none⟩ = w2.cell? ⟨g, off + j, none⟩ := fun g off j _ => by rw [← hwn]; rfl
        by_cases hlt : k < c.length
        · rcases HCASE.out with ⟨h0, -⟩ | ⟨-, hv0, v0, hv0', hle⟩
          · omega
          obtain ⟨y, hy⟩ : ∃ y, c[k]? = some y := ⟨_, List.getElem?_eq_getElem hlt⟩
          have hyv : ¬ v0 < y := by have := hle y (List.mem_of_getElem? hy); omega
          rcases HX2.out with rfl | ⟨g2, off2, rfl, hg2, hc2⟩
          · simp at hlt
          rcases HX1.out with rfl | ⟨g1, off1, rfl, hg1, hc1⟩
          · simp at hv0
          have d1 : wr.cell? ⟨g2, off2 + k, none⟩ = some (iv y) := by rw [hkeep _ _ _ hg2.2]; exact hc2 k y hy
          have d2 : wr.cell? ⟨g1, off1, none⟩ = some (iv v0) := by
            have := hkeep g1 off1 0 (by omega)
            rw [Nat.add_zero] at this
            rw [this, HB2.out.cell (p := ⟨g1, off1, none⟩) hg1.2]
            simpa using hc1 0 v0 hv0'
          have p0 : (0 : Int) ≤ (k : Int) := by omega
          have p1 : (k : Int) < (c.length : Int) := by omega
          have p2 : (0 : Int) < (vs.length : Int) := by omega
          clear hc2 hc1 hkeep hle hy hv0' hwn
          go_wp2_with fail
          go_quiet (fail)
          go_wp2
          go_roundw
          case rel => exact ⟨k + 1, _, by omega, by go_num, by rw [← HWN.out, drewN_drewN]⟩
          case measure => simp [Lib.intOf]; omega
        · obtain rfl : k = c.length := by omega
          clear hkeep
          have hbw : Below w2.heap.size w2 wr := by rw [← hwn]; exact below_drewN (Below.refl _ _) _
          have HBW := Lib.hid hbw
          clear hbw
          go_wp2
          obtain ⟨W1, rfl⟩ : ∃ W1, W1 = wr := ⟨wr, rfl⟩
          go_loopw [8, 9] (fun r i wx => ∃ k : Nat, k ≤ vs.length ∧ i = .int .i64 k ∧ EdgesIn (fun b => b < wx.heap.size) wx r (withoutAll (vs.take k) l) ∧ Below w2.heap.size w2 wx) (fun _ i _ => vs.length - (Lib.intOf i).toNat)
          case atStart => exact ⟨0, Nat.zero_le _, rfl, EdgesIn.mono (HE.out.keep (fun k hk => ((HBW.out.block k (by have := HF.out k hk; omega)).trans (HB2.out.block k (by have := HF.out k hk; omega))).trans (HB1.out.block k (HF.out k hk)))) (fun k hk => by have := HF.out k hk; have := HBW.out.size; omega), HBW.out⟩
          case round =>
            obtain ⟨k, hk, rfl, hir, hbx⟩ := hrel
            have HIR := Lib.hid hir
            have HBX := Lib.hid hbx
            clear hir hbx
            by_cases hlt : k < vs.length
            · obtain ⟨x, hx⟩ : ∃ x, vs[k]? = some x := ⟨_, List.getElem?_eq_getElem hlt⟩
              have hsn : withoutAll (vs.take (k + 1)) l = without x (withoutAll (vs.take k) l) := by
                rw [List.take_add_one, hx]; exact withoutAll_snoc _ _ _
              have HSN := Lib.hid hsn
              have hRl : (withoutAll (vs.take k) l).length ≤ 200 := Nat.le_trans (withoutAll_length _ _) (by omega)
              have HFK := Lib.hid (cycleFind_any (HE.out.keep (w' := wr) (fun k hk => ((HBX.out.block k (by have := HF.out k hk; omega)).trans (HB2.out.block k (by have := HF.out k hk; omega))).trans (HB1.out.block k (HF.out k hk)))) (fun k hk => by have := HF.out k hk; have := HBX.out.size; omega) x)
              have hfne : (((findOf (edgesOf l) x).length : Int) == 0) = false := beq_false_of_ne (by have := HCYC.out x (List.mem_of_getElem? hx); intro h; exact this (List.eq_nil_of_length_eq_zero (by omega)))
              obtain ⟨R, hR⟩ : ∃ R, withoutAll (vs.take k) l = R := ⟨_, rfl⟩
              rw [hR] at HSN hRl HIR
              rcases HX1.out with rfl | ⟨g1, off1, rfl, hg1, hc1⟩
              · simp at hlt
              have d1 : wr.cell? ⟨g1, off1 + k, none⟩ = some (iv x) := by
                rw [HBX.out.cell (p := ⟨g1, off1 + k, none⟩) (by have := hg1.2; simp; omega), HB2.out.cell (p := ⟨g1, off1 + k, none⟩) hg1.2]
                exact hc1 k x hx
              have D1 := Lib.hid d1
              have p0 : (0 : Int) ≤ (k : Int) := by omega
              have p1 : (k : Int) < (vs.length : Int) := by omega
              obtain ⟨ar, cr, rfl, hrc, hrm, hxr⟩ := HIR.out
              have HXR := Lib.hid hxr
              clear hc1 hx hsn hR hxr hrc hrm
              go_wp2_with (go_at_call 9; refine HFK.out.mono ?_; rintro e w4 ⟨⟨r4, rfl, hi4⟩, hb4⟩; obtain ⟨a4, c4, rfl, -, -, -⟩ := hi4; have HB4 := Lib.hid hb4; clear hb4)
              obtain ⟨W2, rfl⟩ : ∃ W2, W2 = wr := ⟨wr, rfl⟩
              have hbs4 := HB4.out.size
              have hbsx := HBX.out.size
              have HR4 := Lib.hid (show R = [] ∨ ∃ g off, ar = some ⟨g, off, none⟩ ∧ g < W2.heap.size ∧ ∀ (k : Nat) (e : Edge), R[k]? = some e → w4.cell? ⟨g, off + k * 2, none⟩ = some (iv e.1) ∧ w4.cell? ⟨g, off + k * 2 + 1, none⟩ = some (iv e.2) from HXR.out.imp id fun ⟨g, off, e0, hg, hc⟩ => ⟨g, off, e0, hg, fun k e he => ⟨(HB4.out.cell (p := ⟨g, off + k * 2, none⟩) hg).trans (hc k e he).1, (HB4.out.cell (p := ⟨g, off + k * 2 + 1, none⟩) hg).trans (hc k e he).2⟩⟩)
              have hd4 : w4.cell? ⟨g1, off1 + k, none⟩ = some (iv x) := (HB4.out.cell (p := ⟨g1, off1 + k, none⟩) (by have := hg1.2; simp; omega)).trans D1.out
              have hg14 : g1 < w4.heap.size := by have := hg1.2; omega
              have HD4 := Lib.hid hd4
              clear hd4 d1 hfne
              go_loopw [10, 11] (fun m i wx => ∃ j : Nat, j ≤ R.length ∧ i = .int .i64 j ∧ wx.ownsRow w4.heap.size 31 2 m (without x (R.take j)).length (flat (without x (R.take j))) ∧ Below w4.heap.size w4 wx) (fun _ i _ => R.length - (Lib.intOf i).toNat)
              case atStart => exact ⟨0, Nat.zero_le _, rfl, World.ownsRow_nil _ _ _ _, Below.refl _ _⟩
              case round =>
                obtain ⟨j, hj, rfl, hown, hbi⟩ := hrel
                have HOWN := Lib.hid hown
                have HBI := Lib.hid hbi
                have hbis := hbi.size
                have hfl : (without x (R.take j)).length ≤ 200 := Nat.le_trans (List.length_filter_le _ _) (by rw [List.length_take]; omega)
                clear hown hbi
                by_cases hjl : j < R.length
                · obtain ⟨e, hej⟩ : ∃ e, R[j]? = some e := ⟨_, List.getElem?_eq_getElem hjl⟩
                  have hnx : without x (R.take (j + 1)) = without x (R.take j) ++ (if touches x e then [] else [e]) := by
                    rw [List.take_add_one, hej]; exact without_snoc x _ e
                  have HNX := Lib.hid hnx
                  rcases HR4.out with h | ⟨g, off, rfl, hgw, hc⟩
                  · rw [h] at hej; simp at hej
                  obtain ⟨c0, c1⟩ := hc j e hej
                  have e0 := (HBI.out.cell (p := ⟨g, off + j * 2, none⟩) (by simp; omega)).trans c0
                  have e1 := (HBI.out.cell (p := ⟨g, off + j * 2 + 1, none⟩) (by simp; omega)).trans c1
                  have dv := (HBI.out.cell (p := ⟨g1, off1 + k, none⟩) hg14).trans HD4.out
                  obtain ⟨y, z⟩ := e
                  simp only at e0 e1
                  have q0 : (0 : Int) ≤ (j : Int) := by omega
                  have q1 : (j : Int) < (R.length : Int) := by omega
                  clear hc hej hnx c0 c1
                  by_cases hy : y = x
                  · subst hy
                    have hst : without y (R.take (j + 1)) = without y (R.take j) := by rw [HNX.out]; simp [touches]
                    have HST := Lib.hid hst
                    clear hst
                    go_wp2_with fail
                    go_quiet (fail)
                    go_wp2
                    go_roundw
                    case rel => exact ⟨j + 1, by omega, by go_num, by rw [HST.out]; exact HOWN.out, below_drewN HBI.out _⟩
                    case measure => simp [Lib.intOf]; omega
                  · have hyb : (y != x) = true := bne_iff_ne.2 hy
                    by_cases hz : z = x
                    · subst hz
                      have hst : without z (R.take (j + 1)) = without z (R.take j) := by rw [HNX.out]; simp [touches]
                      have HST := Lib.hid hst
                      clear hst hy
                      go_wp2_with fail
                      go_quiet (fail)
                      go_wp2
                      go_roundw
                      case rel => exact ⟨j + 1, by omega, by go_num, by rw [HST.out]; exact HOWN.out, below_drewN HBI.out _⟩
                      case measure => simp [Lib.intOf]; omega
                    · have hzb : (z != x) = true := bne_iff_ne.2 hz
                      have hst : without x (R.take (j + 1)) = without x (R.take j) ++ [(y, z)] := by rw [HNX.out]; simp [touches, hy, hz]
                      have HST := Lib.hid hst
                      clear hst hy hz
                      go_wp2_with fail
                      go_quiet (fail)
                      have HC1 := Lib.hid (@cells_new2 wr [iv y, iv z] 31)
                      go_wp2_with ((at_builtin; refine wpList_append_own_at _ rfl _ _ 22 rfl w4.heap.size 31 i0 (.agg #[.int .i64 0, .int .i64 0]) 2 16 Try.underlying22 hi hz0 hz1 hz2 rfl (by decide) _ _ _ rfl (ownsRow_alloc HOWN.out _) ⟨wr.heap.size, 0, none⟩ 1 1 [iv y, iv z] rfl rfl HC1.out (by simp [Value.oneCell']) (by unfold maxLen; omega) (by omega) (by simp; omega) ?_; intro v' w7 hown7 hgrow hnil hloc))
                      go_roundw
                      case rel =>
                        have hch : Chg (fun j => w4.heap.size ≤ j) _ w7 := chg_grown hgrow (fun k e => (ownsRow_base HOWN.out e).1)
                        have hbw := (below_drewN HBI.out nq).alloc (Nat.le_trans hbis (Nat.le_refl _)) (.cells #[iv y, iv z] 31)
                        have hb2 : Below w4.heap.size w4 w7 := hbw.trans ⟨hch.os, hch.tape, hch.output, hch.size, fun k hk => hch.block k (Nat.lt_of_lt_of_le hk hbw.size) (Nat.not_le_of_lt hk)⟩
                        exact ⟨j + 1, by omega, by go_num, by rw [HST.out, List.length_append, flat_snoc]; exact hown7, hb2⟩
                      case measure => simp [Lib.intOf]; omega
                · obtain rfl : j = R.length := by omega
                  rw [List.take_length] at HOWN
                  go_wp2
                  go_roundw
                  case rel => exact ⟨k + 1, by omega, by go_num, by rw [HSN.out]; exact (edgesIn_row HOWN.out).mono (fun b hb => hb.2), HBX.out.trans ((HB4.out.mono (by omega)).trans (HBI.out.mono (by omega)))⟩
                  case measure => simp [Lib.intOf]; omega
            · obtain rfl : k = vs.length := by omega
              have hir2 := HIR.out
              rw [List.take_length] at hir2
              have HFE := Lib.hid (cycleFind_any hir2 (fun k hk => hk) t)
              obtain ⟨a5, c5, rfl, -, -, -⟩ := hir2
              clear hlt hk
              go_wp2_with (first
                | (go_at_call 7; refine (HW.out _).mono ?_; rintro e w' ⟨rfl, hb⟩)
                | (go_at_call 9; refine HFE.out.mono ?_; rintro e w6 ⟨⟨r6, rfl, hi6⟩, hb6⟩; rw [HEND.out] at hi6; obtain ⟨a6, c6, rfl, -, -, -⟩ := hi6; have HB6 := Lib.hid hb6; clear hb6))
              go_ret
              exact ⟨rfl, (((HB1.out.trans (HB2.out.mono hbs1)).trans (HBX.out.mono (by omega))).trans (HB6.out.mono (by have := HBX.out.size; omega))).trans (hb.mono (by have := HBX.out.size; have := HB6.out.size; omega))⟩
end Go.Proofs.Ytkfmgeddckcnkaa
