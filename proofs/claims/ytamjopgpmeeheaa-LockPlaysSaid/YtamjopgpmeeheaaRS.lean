/- The reference's serve (51). -/
import Derived.Test.YtamjopgpmeeheaaPS
import Derived.Test.YtamjopgpmeeheaaHO
import Derived.Test.YtamjopgpmeeheaaRH
import Derived.Test.YtamjopgpmeeheaaHE
import Derived.Outline
import Derived.Deep.LoopGhost
import Derived.Deep.CutBlock
import Derived.Deep.CutRange
import Derived.Deep.DeepCutAuto
namespace Go.Proofs.Ytamjopgpmeeheaa
open Go.RowKit
set_option linter.unusedVariables false

def Aside (p : Prop) : Prop := p
theorem insG_few (g : G3) : ∀ l : List G3, (insG l g).length ≤ l.length + 1
  | [] => by rw [insG_nil]; simp
  | h :: r => by
    by_cases hs : sameG h g = true
    · rw [insG_same hs]; have := insG_few g r; simp only [List.length_cons]; omega
    · by_cases ha : aheadG h g = true
      · rw [insG_ahead hs ha]
        have : (outS r g).length ≤ r.length := List.length_filter_le ..
        simp only [List.length_cons]; omega
      · rw [insG_else hs ha]; have := insG_few g r; simp only [List.length_cons]; omega
theorem holdG_few (l : List G3) (g : G3) : (holdG l g).length ≤ l.length + 1 := by rw [holdG_ins]; exact insG_few g l
theorem dec3 (a b c a' b' c' : Int) : (decide (a = a') && (decide (b = b') && decide (c = c'))) = decide (((a, b, c) : G3) = (a', b', c')) := by
  rw [Bool.eq_iff_iff]
  simp [Prod.mk.injEq]
theorem or_cases {p q : Bool} (h : (p || q) = true) : p = true ∨ (p = false ∧ q = true) := by revert h; cases p <;> cases q <;> simp
theorem nor_cases {p q : Bool} (h : ¬ (p || q) = true) : p = false ∧ q = false := by revert h; cases p <;> cases q <;> simp
theorem box3 {w : World} {b : Nat} {x0 x1 x2 : Value} {t : TypeId} {c : Nat × Nat} (h : w.heap[b]? = some (.cells #[x0, x1, x2] t c)) : w.cell? ⟨b, 0, none⟩ = some x0 ∧ w.cell? ⟨b, 1, none⟩ = some x1 ∧ w.cell? ⟨b, 2, none⟩ = some x2 := by
  refine ⟨?_, ?_, ?_⟩ <;> simp only [World.cell?, h] <;> rfl

set_option maxRecDepth 100000 in
set_option maxHeartbeats 16000000 in
theorem rserve_any {F : Nat → Prop} {w : World} {s : Nat} {hd wt : List G3} (h : RTab F w s hd wt) (hF : ∀ k, F k → k < w.heap.size ∧ k ≠ s) (h0 : ∀ g ∈ wt, g.1 ≠ 0) (hl : hd.length + wt.length ≤ 1000) :
    Calls Try.prog 51 #[.pointer (some ⟨s, 0, none⟩)] w fun e w' => (∃ v, e = .returned v ∧ TrisIn (fun k => w.heap.size ≤ k ∧ k < w'.heap.size) w' v (serveW hd wt).1) ∧ RTab (fun k => (F k ∨ w.heap.size ≤ k) ∧ k < w'.heap.size ∧ k ≠ s) w' s (serveW hd wt).2.1 (serveW hd wt).2.2 ∧ Chg (fun k => k = s) w w' := by
  obtain ⟨i0, hi, hz0, hz1, hz2⟩ := info_parts Try.info34
  have hsl : s < w.heap.size := by obtain ⟨v1, v2, hc, -⟩ := h; exact (Array.getElem?_eq_some_iff.1 hc).1
  have HT := Lib.hid h
  have HF := Lib.hid hF
  have H0 := Lib.hid h0
  have heq := eql_grant
  clear h hF h0
  go_enter Try.func51, Try.ntmps51
  go_wp2
  go_loopg [3] wt.length (fun gm v wx => ∃ (F1 : Nat → Prop) (hd1 wt1 all : List G3) (av : Value), av = v ∧ RTab F1 wx s hd1 wt1 ∧ (∀ k, F1 k → (F k ∨ w.heap.size ≤ k) ∧ k < wx.heap.size ∧ k ≠ s ∧ av.ownBlock ≠ some k) ∧ wx.ownsRow w.heap.size 34 3 av all.length (flat3 all) ∧
    Aside (all ++ (serveW hd1 wt1).1 = (serveW hd wt).1 ∧ (serveW hd1 wt1).2 = (serveW hd wt).2) ∧ (∀ g ∈ wt1, g.1 ≠ 0) ∧ wt1.length ≤ gm ∧ all.length + wt1.length ≤ wt.length ∧ hd1.length + wt1.length ≤ 1000 ∧ Chg (fun k => k = s) w wx)
  case atStart => exact ⟨F, hd, wt, [], _, rfl, HT.out, fun k hk => ⟨.inl hk, (HF.out k hk).1, (HF.out k hk).2, by simp [Value.ownBlock]⟩, World.ownsRow_nil _ _ _ _, ⟨rfl, rfl⟩, H0.out, Nat.le_refl _, by simp, hl, Chg.refl _ _⟩
  case round =>
    obtain ⟨F1, hd1, wt1, all, av, rfl, htab, hF1, hown, HA, hn0, hgm, hal, hsum, hch⟩ := hrel
    have hsz := hch.size
    obtain ⟨aa, ca, rfl⟩ := own_form hown
    have HOWN := Lib.hid hown
    have HTAB := Lib.hid htab
    have HF1 := Lib.hid hF1
    have HN0 := Lib.hid hn0
    have HCH := Lib.hid hch
    obtain ⟨v1, v2, hcell, ht1, ht2⟩ := htab
    obtain ⟨a1, c1, rfl, -, -, -⟩ := ht1
    obtain ⟨a2, c2, rfl, hq1, hq2, hqc⟩ := ht2
    have HCELL := Lib.hid hcell
    have HQC := Lib.hid hqc
    unfold maxLen at hq2
    clear hown hF1 hn0 hch hcell hqc
    go_wp2_with fail
    obtain ⟨W0, rfl⟩ : ∃ W0, W0 = wr := ⟨wr, rfl⟩
    go_loopw [5] (fun i wx => ∃ k : Nat, k ≤ wt1.length ∧ i = .int .i64 k ∧ wx.heap[W0.heap.size]? = some (.cells #[iv (bestG hd1 wt1 (wt1.take k)).1, iv (bestG hd1 wt1 (wt1.take k)).2.1, iv (bestG hd1 wt1 (wt1.take k)).2.2] 34) ∧ Below W0.heap.size W0 wx) (fun i _ => wt1.length - (Lib.intOf i).toNat)
    case atStart => exact ⟨0, Nat.zero_le _, rfl, Go.heap_alloc_new _ _, (Below.refl _ _).alloc (Nat.le_refl _) _⟩
    case round =>
      obtain ⟨k, hk, rfl, hbx, hbr⟩ := hrel
      have hsr := hbr.size
      have hwl : W0.heap.size < wr.heap.size := (Array.getElem?_eq_some_iff.1 hbx).1
      have hs0 : s < W0.heap.size := by omega
      have hcs := (hbr.block s hs0).trans HCELL.out
      have x9 : wr.cell? ⟨s, 1, none⟩ = some (.slice a2 wt1.length c2) := by simp only [World.cell?, hcs]; rfl
      have x8 : wr.cell? ⟨s, 0, none⟩ = some (.slice a1 hd1.length c1) := by simp only [World.cell?, hcs]; rfl
      have HTR := Lib.hid (HTAB.out.keep (w' := wr) (hbr.block s hs0) (fun j hj => hbr.block j (HF1.out j hj).2.1))
      have HCS := Lib.hid hcs
      have X8 := Lib.hid x8
      have HBX := Lib.hid hbx
      have HBR := Lib.hid hbr
      clear hbx hbr hcs x8
      by_cases hlt : k < wt1.length
      · obtain ⟨⟨x0, x1, x2⟩, hx⟩ : ∃ x, wt1[k]? = some x := ⟨_, List.getElem?_eq_getElem hlt⟩
        rcases HQC.out with h | ⟨g, off, rfl, hg, hcl⟩
        · rw [h] at hlt; simp at hlt
        have hgl := (HF1.out g hg).2.1
        obtain ⟨q0, q1, q2⟩ := hcl k _ hx
        have d0 := (HBR.out.cell (p := ⟨g, off + k * 3, none⟩) hgl).trans q0
        have d1 := (HBR.out.cell (p := ⟨g, off + k * 3 + 1, none⟩) hgl).trans q1
        have d2 := (HBR.out.cell (p := ⟨g, off + k * 3 + 2, none⟩) hgl).trans q2
        simp only at d0 d1 d2
        have k0 : (0 : Int) ≤ (k : Int) := by omega
        have k1 : (k : Int) < (wt1.length : Int) := by omega
        have HX := Lib.hid hx
        have HST := Lib.hid (bestG_take (hd := hd1) (wt := wt1) hx)
        obtain ⟨⟨b0, b1, b2⟩, hb⟩ : ∃ b, bestG hd1 wt1 (wt1.take k) = b := ⟨_, rfl⟩
        rw [hb] at HBX HST
        simp only at HBX
        clear q0 q1 q2 hcl hx hb
        obtain ⟨fb, hfb⟩ : ∃ fb, firstG wt1 (x0, x1, x2) = fb := ⟨_, rfl⟩
        obtain ⟨cb, hcb⟩ : ∃ cb, canG hd1 x0 x1 x2 = cb := ⟨_, rfl⟩
        have HFB := Lib.hid hfb
        have HCB := Lib.hid hcb
        clear hfb hcb
        obtain ⟨⟨l0, l1, l2⟩, lr, hL⟩ : ∃ e r, atG wt1 x1 = e :: r := by
          have hm : ((x0, x1, x2) : G3) ∈ atG wt1 x1 := mem_at (g := (x0, x1, x2)) (List.mem_of_getElem? HX.out)
          cases hL : atG wt1 x1 with
          | nil => rw [hL] at hm; cases hm
          | cons e r => exact ⟨e, r, rfl⟩
        have hfd : fb = decide (((l0, l1, l2) : G3) = (x0, x1, x2)) := by
          rw [← HFB.out]; unfold firstG
          simp only [hL, List.head?_cons, Option.some.injEq]
        have HFD := Lib.hid hfd
        clear hfd
        have hwb : Below wr.heap.size wr (wr.alloc (.cells #[.int .i64 x0, .int .i64 x1, .int .i64 x2] 34)) := (Below.refl _ _).alloc (Nat.le_refl _) _
        have htx := HTR.out.keep (w' := wr.alloc (.cells #[.int .i64 x0, .int .i64 x1, .int .i64 x2] 34)) (Go.heap_alloc_old _ _ (by omega)) (fun j hj => Go.heap_alloc_old _ _ (by have := (HF1.out j hj).2.1; omega))
        have h22 : ∀ W : World, W.heap = (wr.alloc (.cells #[.int .i64 x0, .int .i64 x1, .int .i64 x2] 34)).heap → Calls Try.prog 22 #[.pointer (some ⟨s, 0, none⟩), iv x1] W fun e w' => (∃ a6 cp6 g6 o6, e = .returned (.slice (some ⟨g6, o6, none⟩) (lr.length + 1) cp6) ∧ a6 = lr.length ∧
            w'.cell? ⟨g6, o6, none⟩ = some (iv l0) ∧ w'.cell? ⟨g6, o6 + 1, none⟩ = some (iv l1) ∧ w'.cell? ⟨g6, o6 + 2, none⟩ = some (iv l2)) ∧ Below W.heap.size W w' := fun W hW => by
          have h1 := rqueue_any (w := W) (htx.keep (by rw [hW]) (fun j hj => by rw [hW])) (fun j hj => by rw [hW]; have := (HF1.out j hj).2.1; simp; omega) (by omega) x1
          rw [hL] at h1
          refine h1.mono ?_
          rintro e w6 ⟨⟨v6, rfl, a6, cp6, rfl, hz1, hz2, hxx | ⟨g6, o6, rfl, -, hcl6⟩⟩, hb6⟩
          · cases hxx
          obtain ⟨r0, r1, r2⟩ := hcl6 0 _ rfl
          simp only [Nat.zero_mul, Nat.add_zero] at r0 r1 r2
          exact ⟨⟨lr.length, cp6, g6, o6, rfl, rfl, r0, r1, r2⟩, hb6⟩
        have H22 := Lib.hid (h22 (wr.alloc (.cells #[.int .i64 x0, .int .i64 x1, .int .i64 x2] 34)).drew rfl)
        have h54 : ∀ W : World, Below (wr.heap.size + 1) (wr.alloc (.cells #[.int .i64 x0, .int .i64 x1, .int .i64 x2] 34)) W → Calls Try.prog 54 #[.pointer (some ⟨s, 0, none⟩), iv x0, iv x1, iv x2] W fun e w' => e = .returned (.bool cb) ∧ Below W.heap.size W w' := fun W hW => by
          have := rcan_any (w := W) (htx.keep (hW.block _ (by omega)) (fun j hj => hW.block _ (by have := (HF1.out j hj).2.1; omega))) (fun j hj => by have := (HF1.out j hj).2.1; have := hW.size; simp at this; omega) x0 x1 x2
          rw [HCB.out] at this
          exact this
        have H54 := Lib.hid h54
        have hbn := Go.heap_alloc_new wr (.cells #[.int .i64 x0, .int .i64 x1, .int .i64 x2] 34)
        obtain ⟨e0, e1, e2⟩ := box3 hbn
        have HBN := Lib.hid hbn
        have HWB := Lib.hid hwb
        clear htx h22 h54 hbn hwb hL
        go_upto_region 7 with fail
        go_cut [7] from 9 to 56 (fun c wx => c = .bool fb ∧ Below (wr.heap.size + 1) (wr.alloc (.cells #[.int .i64 x0, .int .i64 x1, .int .i64 x2] 34)) wx)
        case first =>
          go_region_with (go_at_call 22; refine H22.out.mono ?_; rintro e w6 ⟨⟨a6, cp6, g6, o6, rfl, -, r0, r1, r2⟩, hb6⟩; have f0 := (hb6.cell (p := ⟨wr.heap.size, 0, none⟩) (by simp)).trans e0; have f1 := (hb6.cell (p := ⟨wr.heap.size, 1, none⟩) (by simp)).trans e1; have f2 := (hb6.cell (p := ⟨wr.heap.size, 2, none⟩) (by simp)).trans e2)
          all_goals
            go_wp2_with fail
            go_meet
            have hw6 : Below (wr.heap.size + 1) (wr.alloc (.cells #[.int .i64 x0, .int .i64 x1, .int .i64 x2] 34)) w6 := ((Below.refl _ _).drew).trans (hb6.mono (by simp))
            exact ⟨by rw [HFD.out]; exact congrArg Value.bool (dec3 _ _ _ _ _ _), hw6⟩
        case rest =>
          obtain ⟨rfl, hb7⟩ := hcut
          have hs7 := hb7.size
          simp only [World.size_alloc] at hs7
          have hbn7 := (hb7.block wr.heap.size (by omega)).trans HBN.out
          have hbx7 := (hb7.block W0.heap.size (by omega)).trans ((Go.heap_alloc_old _ _ hwl).trans HBX.out)
          obtain ⟨e0, e1, e2⟩ := box3 hbn7
          obtain ⟨y0, y1, y2⟩ := box3 hbx7
          have H54' := Lib.hid (H54.out wc hb7)
          have hbc : Below W0.heap.size W0 wc := (HBR.out.trans (HWB.out.mono hsr)).trans (hb7.mono (by omega))
          have HBC := Lib.hid hbc
          have HBX7 := Lib.hid hbx7
          have HBN7 := Lib.hid hbn7
          clear hb7 hbn7 hbx7 hbc x9 d0 d1 d2
          cases fb with
          | false =>
            have hst : bestG hd1 wt1 (wt1.take (k + 1)) = (b0, b1, b2) := by
              rw [HST.out]; unfold bestStep; rw [if_neg (fun h => by rw [HFB.out] at h; cases h.1)]
            have HS2 := Lib.hid hst
            clear hst
            go_wp2
            go_roundw
            case rel => exact ⟨k + 1, by omega, by go_num, by rw [HS2.out]; exact HBX7.out, HBC.out⟩
            case measure => simp [Lib.intOf]; omega
          | true =>
            cases cb with
            | false =>
              have hst : bestG hd1 wt1 (wt1.take (k + 1)) = (b0, b1, b2) := by
                rw [HST.out]; unfold bestStep; rw [if_neg (fun h => by have := h.2.1; simp only at this; rw [HCB.out] at this; cases this)]
              have HS2 := Lib.hid hst
              clear hst
              go_wp2_with (go_at_call 54; refine H54'.out.mono ?_; rintro e w8 ⟨rfl, hb8⟩)
              go_roundw
              case rel => exact ⟨k + 1, by omega, by go_num, by rw [HS2.out]; exact (hb8.block _ (by omega)).trans HBX7.out, HBC.out.trans (hb8.mono HBC.out.size)⟩
              case measure => simp [Lib.intOf]; omega
            | true =>
              obtain ⟨p, hp⟩ : ∃ p, (b0 == 0) = p := ⟨_, rfl⟩
              obtain ⟨q, hq⟩ : ∃ q, decide (x1 < b1) = q := ⟨_, rfl⟩
              by_cases hpq : (p || q) = true
              · have hst : bestG hd1 wt1 (wt1.take (k + 1)) = (x0, x1, x2) := by
                  rw [HST.out]; unfold bestStep
                  rw [if_pos ⟨HFB.out, HCB.out, by
                    rw [← hp, ← hq, Bool.or_eq_true, beq_iff_eq, decide_eq_true_eq] at hpq
                    exact hpq⟩]
                have HS2 := Lib.hid hst
                have hcase := or_cases hpq
                clear hst hpq
                rcases hcase with rfl | ⟨rfl, rfl⟩
                all_goals
                  go_wp2_with (go_at_call 54; refine H54'.out.mono ?_; rintro e w8 ⟨rfl, hb8⟩; have hbn8 := (hb8.block wr.heap.size (by omega)).trans HBN7.out; have hbx8 := (hb8.block W0.heap.size (by omega)).trans HBX7.out; obtain ⟨e0, e1, e2⟩ := box3 hbn8; obtain ⟨y0, y1, y2⟩ := box3 hbx8; have z0 := free_block hbx8 0; have z1 := free_block hbx8 1; have z2 := free_block hbx8 2; have HBX8 := Lib.hid hbx8; clear hbn8 hbx8)
                  go_roundw
                  case rel => exact ⟨k + 1, by omega, by go_num, by rw [HS2.out]; exact set3' HBX8.out _ _ _, below_setAt (below_setAt (below_setAt (HBC.out.trans (hb8.mono HBC.out.size)) (Nat.le_refl _) 0 _) (Nat.le_refl _) 1 _) (Nat.le_refl _) 2 _⟩
                  case measure => simp [Lib.intOf]; omega
              · have hst : bestG hd1 wt1 (wt1.take (k + 1)) = (b0, b1, b2) := by
                  rw [HST.out]; unfold bestStep
                  rw [if_neg (fun h => hpq (by
                    rw [← hp, ← hq, Bool.or_eq_true, beq_iff_eq, decide_eq_true_eq]
                    exact h.2.2))]
                have HS2 := Lib.hid hst
                obtain ⟨rfl, rfl⟩ := nor_cases hpq
                clear hst hpq
                go_wp2_with (go_at_call 54; refine H54'.out.mono ?_; rintro e w8 ⟨rfl, hb8⟩; have hbn8 := (hb8.block wr.heap.size (by omega)).trans HBN7.out; have hbx8 := (hb8.block W0.heap.size (by omega)).trans HBX7.out; obtain ⟨e0, e1, e2⟩ := box3 hbn8; obtain ⟨y0, y1, y2⟩ := box3 hbx8; have HBX8 := Lib.hid hbx8; clear hbn8 hbx8)
                go_roundw
                case rel => exact ⟨k + 1, by omega, by go_num, by rw [HS2.out]; exact HBX8.out, HBC.out.trans (hb8.mono HBC.out.size)⟩
                case measure => simp [Lib.intOf]; omega
      · obtain rfl : k = wt1.length := by omega
        rw [List.take_length] at HBX
        obtain ⟨⟨b0, b1, b2⟩, hb⟩ : ∃ b, bestG hd1 wt1 wt1 = b := ⟨_, rfl⟩
        rw [hb] at HBX
        simp only at HBX
        have HB := Lib.hid hb
        obtain ⟨y0, y1, y2⟩ := box3 HBX.out
        have x8 := X8.out
        clear hb
        by_cases hz : b0 = 0
        · have hzb : (b0 == 0) = true := by simp [hz]
          have HZ := Lib.hid hz
          clear hz
          go_wp2
          go_ret
          have hsn := serveW_none (hd := hd1) (wt := wt1) (by rw [HB.out]; exact HZ.out)
          obtain ⟨hA1, hA2⟩ : all ++ (serveW hd1 wt1).1 = (serveW hd wt).1 ∧ (serveW hd1 wt1).2 = (serveW hd wt).2 := HA
          rw [hsn] at hA1 hA2
          rw [List.append_nil] at hA1
          have hs0 : s < W0.heap.size := by omega
          have hown2 := ownsRow_keeps HOWN.out (w' := wr) (fun g hg => HBR.out.block g (ownsRow_base HOWN.out hg).2)
          refine ⟨⟨_, rfl, ?_⟩, ?_, HCH.out.trans (chg_new HBR.out)⟩
          · rw [← hA1]; exact trisIn_row hown2
          · rw [← hA2]
            obtain ⟨u1, u2, t1, t2, t3⟩ := HTR.out
            exact ⟨u1, u2, t1, t2.mono (fun j hj => ⟨(HF1.out j hj).1, Nat.lt_of_lt_of_le (HF1.out j hj).2.1 hsr, (HF1.out j hj).2.2.1⟩), t3.mono (fun j hj => ⟨(HF1.out j hj).1, Nat.lt_of_lt_of_le (HF1.out j hj).2.1 hsr, (HF1.out j hj).2.2.1⟩)⟩
        · have hzb : (b0 == 0) = false := by simp [hz]
          have HZ := Lib.hid hz
          clear hz
          have hs0 : s < W0.heap.size := by omega
          have hFr : ∀ j, F1 j → j < wr.heap.size ∧ j ≠ s := fun j hj => ⟨Nat.lt_of_lt_of_le (HF1.out j hj).2.1 hsr, (HF1.out j hj).2.2.1⟩
          have HFR := Lib.hid hFr
          obtain ⟨t1, t2⟩ : TrisIn F1 wr (.slice a1 hd1.length c1) hd1 ∧ TrisIn F1 wr (.slice a2 wt1.length c2) wt1 := by
            obtain ⟨u1, u2, t1, t2, t3⟩ := HTR.out
            rw [HCS.out] at t1
            simp only [Option.some.injEq, Obj.cells.injEq, Array.mk.injEq, List.cons.injEq, and_true] at t1
            obtain ⟨rfl, rfl⟩ := t1
            exact ⟨t2, t3⟩
          have h50 := without_any (w := wr.drew) (t2.keep (fun j hj => rfl)) (fun j hj => (HFR.out j hj).1) (by omega) b0
          have h50' := without_any (w := wr) t2 (fun j hj => (HFR.out j hj).1) (by omega) b0
          have H50 := Lib.hid h50
          have H50' := Lib.hid h50'
          have T1 := Lib.hid t1
          have zs1 := free_block HCS.out 1
          clear h50 h50' hFr t1 t2
          have hsw : s < wr.heap.size := by omega
          go_upto_region 12 with fail
          go_cut [] from 8 to 77 (fun wx => (∃ v2, wx.heap[s]? = some (.cells #[.slice a1 hd1.length c1, v2] 39) ∧ TrisIn (fun j => wr.heap.size ≤ j ∧ j < wx.heap.size) wx v2 (outG wt1 b0)) ∧ Chg (fun j => j = s) wr wx)
          case first =>
            go_region_with (go_at_call 50; refine H50.out.mono ?_; rintro e w6 ⟨⟨v6, rfl, htr⟩, hb6⟩; have hc6 := (hb6.block s hsw).trans HCS.out; obtain ⟨a6, cp6, rfl, -, -, -⟩ := id htr; have x6 : w6.cell? ⟨s, 1, none⟩ = some (.slice a2 wt1.length c2) := (by simp only [World.cell?, hc6]; rfl); have z6 := free_block hc6 1)
            all_goals
              go_wp2_with fail
              go_meet
              have hb6' : Below wr.heap.size wr w6 := ((Below.refl _ _).drew).trans (hb6.mono (by simp))
              have hch : Chg (fun j => j = s) w6 (w6.setCell ⟨s, 1, none⟩ (.slice a6 (outG wt1 b0).length cp6)) := chg_set (M := fun j => j = s) rfl 1 _
              refine ⟨⟨_, by simpa using heap_setCell_same w6 s 1 _ _ _ hc6, ?_⟩, (chg_new hb6').trans hch⟩
              exact (htr.keep (fun j hj => hch.block j hj.2 (by have := hj.1; simp at this; omega))).mono (fun j hj => ⟨by have := hj.1; simp at this; omega, Nat.lt_of_lt_of_le hj.2 hch.size⟩)
          case rest =>
            obtain ⟨⟨v2, hc2, ht2⟩, hch2⟩ := hcut
            have hs2 := hch2.size
            obtain ⟨y0, y1, y2⟩ := box3 ((hch2.block W0.heap.size hwl (by omega)).trans HBX.out)
            have hrt : RTab (fun j => F1 j ∨ (wr.heap.size ≤ j ∧ j < wc.heap.size)) wc s hd1 (outG wt1 b0) :=
              ⟨_, v2, hc2, (T1.out.keep (fun j hj => hch2.block j (HFR.out j hj).1 (HFR.out j hj).2)).mono (fun j hj => .inl hj), ht2.mono (fun j hj => .inr hj)⟩
            have h55 := rhold_any hrt (fun j hj => hj.elim (fun h => Nat.lt_of_lt_of_le (HFR.out j h).1 hs2) (fun h => h.2)) (fun h => h.elim (fun h => (HFR.out s h).2 rfl) (fun h => by omega)) (by omega) b0 b1 b2
            have H55 := Lib.hid h55
            have hkeep8 : ∀ w8, Chg (fun j => j = s) wc w8 → w8.ownsRow w.heap.size 34 3 (.slice aa all.length ca) all.length (flat3 all) := fun w8 hc8 => ownsRow_keeps HOWN.out (fun g hg => by
              have hg' := ownsRow_base HOWN.out hg
              exact ((hc8.block g (by omega) (by omega)).trans (hch2.block g (by omega) (by omega))).trans (HBR.out.block g hg'.2))
            have HCH2 := Lib.hid hch2
            have hbx2 := (hch2.block W0.heap.size hwl (by omega)).trans HBX.out
            have HBX2 := Lib.hid hbx2
            clear hc2 ht2 hch2 hrt h55 hbx2 x9 x8 zs1
            go_wp2_with (first
              | (at_builtin; refine wpList_append_own_at _ rfl _ _ 31 rfl w.heap.size 34 i0 (.agg #[.int .i64 0, .int .i64 0, .int .i64 0]) 3 24 Try.underlying31 hi hz0 hz1 hz2 rfl (by decide) _ _ _ rfl (ownsRow_alloc HOWN8.out _) ⟨w8.heap.size, 0, none⟩ 1 1 [iv b0, iv b1, iv b2] rfl rfl (cells_new2 (xs := [iv b0, iv b1, iv b2])) (by simp [Value.oneCell']) (by unfold maxLen; omega) (by omega) (by simp; omega) ?_; intro v' w9 hown9 hgrow hnil hloc; obtain ⟨a9, n9, c9, rfl⟩ := slice_form hown9)
              | (go_at_call 55; refine H55.out.mono ?_; rintro e w8 ⟨⟨vr, rfl⟩, hr8, hch8⟩; have hs8 := hch8.size; obtain ⟨y0, y1, y2⟩ := box3 ((hch8.block W0.heap.size (by omega) (by omega)).trans HBX2.out); have HR8 := Lib.hid hr8; have HCH8 := Lib.hid hch8; have HOWN8 := Lib.hid (hkeep8 w8 hch8); clear hr8 hch8))
            have hb0m : bestG hd1 wt1 wt1 ∈ wt1 := (best_some HN0.out (by rw [HB.out]; exact HZ.out)).1
            have hlt0 : (outG wt1 b0).length < wt1.length := by
              have := outG_lt hb0m
              rw [HB.out] at this; exact this
            have hsv := serveW_some HN0.out (hd := hd1) (wt := wt1) (by rw [HB.out]; exact HZ.out)
            rw [HB.out] at hsv
            obtain ⟨hA1, hA2⟩ : all ++ (serveW hd1 wt1).1 = (serveW hd wt).1 ∧ (serveW hd1 wt1).2 = (serveW hd wt).2 := HA
            have hs9 := hgrow.size
            simp only [World.size_alloc] at hs9
            have hoB : ∀ j, (Value.slice aa all.length ca).ownBlock = some j → w.heap.size ≤ j ∧ j < W0.heap.size := fun j hj => ownsRow_base HOWN.out hj
            have hk9 : ∀ j, j < w8.heap.size → (Value.slice aa all.length ca).ownBlock ≠ some j → w9.heap[j]? = w8.heap[j]? := fun j h1 h2 => (hgrow.block j (by simp; omega) (fun e => h2 e.symm)).trans (Go.heap_alloc_old _ _ h1)
            have hF3 : ∀ j, ((F1 j ∨ (wr.heap.size ≤ j ∧ j < wc.heap.size)) ∨ (wc.heap.size ≤ j ∧ j < w8.heap.size)) → (F j ∨ w.heap.size ≤ j) ∧ j < w8.heap.size ∧ j ≠ s ∧ (Value.slice aa all.length ca).ownBlock ≠ some j := fun j hj => by
              rcases hj with (hj | hj) | hj
              · obtain ⟨f1, f2, f3, f4⟩ := HF1.out j hj
                exact ⟨f1, by omega, f3, f4⟩
              · exact ⟨.inr (by omega), by omega, by omega, fun e => by have := (hoB j e).2; omega⟩
              · exact ⟨.inr (by omega), by omega, by omega, fun e => by have := (hoB j e).2; omega⟩
            have hchT : Chg (fun k => k = s) w w9 := (((HCH.out.trans (chg_new HBR.out)).trans HCH2.out).trans HCH8.out).andThen (M' := fun k => (Value.slice aa all.length ca).ownBlock = some k) ((chg_alloc w8 _).trans (chg_grown hgrow (fun k hk => hk))) (fun k hk e => by have := (hoB k e).1; omega)
            go_roundg (outG wt1 b0).length
            case rel =>
              refine ⟨_, holdG hd1 (b0, b1, b2), outG wt1 b0, all ++ [(b0, b1, b2)], _, rfl, HR8.out.keep (hk9 s (by omega) (fun e => by have := (hoB s e).1; omega)) (fun j hj => hk9 j (hF3 j hj).2.1 (hF3 j hj).2.2.2), fun j hj => ?_, ?_, ⟨?_, ?_⟩, outG_sub HN0.out, Nat.le_refl _, ?_, ?_, hchT⟩
              · obtain ⟨f1, f2, f3, f4⟩ := hF3 j hj
                refine ⟨f1, by omega, f3, fun e => ?_⟩
                rcases hloc with e' | e'
                · exact f4 (e'.symm.trans e)
                · have e2 := Option.some.inj (e'.symm.trans e)
                  simp only [World.size_alloc] at e2
                  omega
              · rw [List.length_append, flat3_snoc]; exact hown9
              · rw [← hA1, hsv]; simp
              · rw [← hA2, hsv]
              · rw [List.length_append]; simp only [List.length_cons, List.length_nil]; omega
              · have := holdG_few hd1 (b0, b1, b2); omega
            case measure => omega
end Go.Proofs.Ytamjopgpmeeheaa
