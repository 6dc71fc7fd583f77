/- The reference's Victims (12). -/
import Derived.Test.YtkfmgeddckcnkaaFR
import Derived.Test.YtkfmgeddckcnkaaCR
namespace Go.Proofs.Ytkfmgeddckcnkaa
open Go.RowKit
set_option linter.unusedVariables false

def topOf (c : List Int) : Int := c.foldl (fun a x => if a < x then x else a) 0
theorem topOf_snoc {c : List Int} {k : Nat} {x : Int} (h : c[k]? = some x) : topOf (c.take (k + 1)) = if topOf (c.take k) < x then x else topOf (c.take k) := by
  unfold topOf
  rw [List.take_add_one, h, List.foldl_append]; rfl
theorem topOf_max (x : Int) (xs : List Int) (hx : 0 ≤ x) : topOf (x :: xs) = maxFrom x xs := by
  have key : ∀ (xs : List Int) (a : Int), xs.foldl (fun a x => if a < x then x else a) a = xs.foldl max a := by
    intro xs
    induction xs with
    | nil => intro a; rfl
    | cons y ys ih =>
      intro a
      rw [List.foldl_cons, List.foldl_cons, ih]
      congr 1
      rw [Int.max_def]; split <;> split <;> omega
  unfold topOf maxFrom
  rw [List.foldl_cons, key]
  congr 1
  split <;> omega
theorem findOf_pos {G : List Edge} (hG : Fine G) {t y : Int} (h : y ∈ findOf G t) : 1 ≤ y := by
  obtain ⟨e, he, ht⟩ := findOf_touch hG h
  have hr := hG.range he
  simp only [touches, Bool.or_eq_true, beq_iff_eq] at ht
  rcases ht with rfl | rfl
  · exact hr.1.1
  · exact hr.2.1.1
theorem findOf_few {G : List Edge} (hG : Fine G) (t : Int) : (findOf G t).length ≤ 202 := by
  rcases find_spec hG t with ⟨h, _⟩ | ⟨b, l', h, hb, hl2, hp, hd⟩
  · rw [h]; simp
  · rw [h]
    have := hd 0 _ (List.getElem?_eq_getElem (by omega))
    have := farOf_le this
    simp; omega

set_option maxRecDepth 100000 in
set_option maxHeartbeats 4000000 in
theorem refVictims_any {F : Nat → Prop} {w : World} {v : Value} {l : List Edge} (h : EdgesIn F w v l) (hF : ∀ k, F k → k < w.heap.size) (hG : Fine l) (t : Int) :
    Calls Try.prog 12 #[v, iv t] w fun e w' => (∃ r, e = .returned r ∧ IntsIn (fun k => w.heap.size ≤ k ∧ k < w'.heap.size) w' r (victF t 200 l)) ∧ Below w.heap.size w w' := by
  obtain ⟨i0, hi, hz0, hz1, hz2⟩ := info_parts Try.info3
  obtain ⟨j0, hj, jz0, jz1, jz2⟩ := info_parts Try.info31
  have HE0 := Lib.hid (h.mono (fun k hk => (⟨hF k hk, nofun⟩ : k < w.heap.size ∧ (none : Option Nat) ≠ some k)))
  clear h hF
  go_enter Try.func12, Try.ntmps12
  go_wp2
  go_loopg [0, 5] 200 (fun g s0 s5 wx => ∃ (lv ov : Value) (G : List Edge) (acc : List Int), lv = s0 ∧ ov = s5 ∧ Fine G ∧ G.length ≤ g ∧ EdgesIn (fun k => k < wx.heap.size ∧ ov.ownBlock ≠ some k) wx lv G ∧ Aside (acc ++ victF t g G = victF t 200 l) ∧ acc.length + g ≤ 200 ∧
    wx.ownsRow w.heap.size 3 1 ov acc.length (acc.map iv) ∧ Below w.heap.size w wx)
  case atStart => exact ⟨_, _, l, [], rfl, rfl, hG, hG.few, HE0.out, rfl, by simp, World.ownsRow_nil _ _ _ _, Below.refl _ _⟩
  case round =>
    obtain ⟨lv, ov, G, acc, rfl, rfl, hfine, hgl, hie, HA, hal, hrow, hbx⟩ := hrel
    have HROW := Lib.hid hrow
    have HBX := Lib.hid hbx
    have HIE := Lib.hid hie
    have HFI := Lib.hid (refFind_any hie (fun k hk => hk.1) hfine t)
    obtain ⟨al, cl, rfl, -, -, -⟩ := hie
    have hbxs := hbx.size
    clear hrow hbx
    have hfew := findOf_few hfine t
    cases hfo : findOf G t with
    | nil =>
      rw [hfo] at HFI
      have HFO := Lib.hid hfo
      clear hfo
      go_wp2_with (go_at_call 10; refine HFI.out.mono ?_; rintro e w2 ⟨⟨r2, rfl, hi2⟩, hb2⟩; obtain ⟨a2, c2, rfl, -⟩ := hi2; have HB2 := Lib.hid hb2; clear hb2)
      go_ret
      refine ⟨⟨_, rfl, ?_⟩, HBX.out.trans (HB2.out.mono hbxs)⟩
      rw [← HA.out, victF_nil HFO.out, List.append_nil]
      exact (intsIn_row (ownsRow_keeps HROW.out (w' := w2) (fun b hb => HB2.out.block b (ownsRow_base HROW.out hb).2))).bound.mono (fun k hk => hk)
    | cons x xs =>
      have hpos : ∀ y ∈ x :: xs, 1 ≤ y := fun y hy => findOf_pos hfine (t := t) (by rw [hfo]; exact hy)
      obtain ⟨y, hy⟩ : ∃ y, maxFrom x xs = y := ⟨_, rfl⟩
      have htop : topOf (x :: xs) = y := by rw [topOf_max x xs (by have := hpos x (by simp); omega), hy]
      have htch : ∃ e ∈ G, touches y e = true := findOf_touch hfine (by rw [hfo, ← hy]; exact maxFrom_mem xs x)
      have hwl := without_lt htch
      have hvc : ∀ n, victF t (n + 1) G = y :: victF t n (without y G) := fun n => by rw [victF_cons hfo, hy]
      have HVC := Lib.hid hvc
      have HFW := Lib.hid (fine_without hfine y)
      rw [hfo] at HFI hfew
      obtain ⟨c, hc⟩ : ∃ c, x :: xs = c := ⟨_, rfl⟩
      have hcpos : ((c.length : Int) == 0) = false := beq_false_of_ne (by rw [← hc, List.length_cons]; omega)
      rw [hc] at HFI hfew htop
      have HTOP := Lib.hid htop
      clear hc hfo hpos hy htop htch hvc
      obtain ⟨g, rfl⟩ : ∃ g, gk = g + 1 := ⟨gk - 1, by omega⟩
      obtain ⟨W0, rfl⟩ : ∃ W0, W0 = wr := ⟨wr, rfl⟩
      go_wp2_with (go_at_call 10; refine HFI.out.mono ?_; rintro e w2 ⟨⟨r2, rfl, hi2⟩, hb2⟩; obtain ⟨a2, c2, rfl, -, -, hx2⟩ := hi2; have HX2 := Lib.hid hx2; have HB2 := Lib.hid hb2; have hbs2 := hb2.size; clear hx2 hb2)
      clear hcpos
      go_loop [7, 8] (fun m i => ∃ k : Nat, k ≤ c.length ∧ i = .int .i64 k ∧ m = .int .i64 (topOf (c.take k))) (fun _ i => c.length - (Lib.intOf i).toNat)
      case atStart => exact ⟨0, Nat.zero_le _, rfl, rfl⟩
      case round =>
        obtain ⟨k, hk, rfl, rfl⟩ := hrel
        by_cases hlt : k < c.length
        · obtain ⟨z, hz⟩ : ∃ z, c[k]? = some z := ⟨_, List.getElem?_eq_getElem hlt⟩
          rcases HX2.out with h | ⟨g2, off2, rfl, hg2, hc2⟩
          · rw [h] at hlt; simp at hlt
          have dz := hc2 k z hz
          have HTS := Lib.hid (topOf_snoc hz)
          have q0 : (0 : Int) ≤ (k : Int) := by omega
          have q1 : (k : Int) < (c.length : Int) := by omega
          obtain ⟨T, hT⟩ : ∃ T, topOf (c.take k) = T := ⟨_, rfl⟩
          rw [hT] at HTS ⊢
          clear hc2 hz hT
          by_cases hzt : T < z
          · rw [if_pos hzt] at HTS
            go_wp2
            go_round
            case rel => exact ⟨k + 1, by omega, by go_num, by rw [HTS.out]⟩
            case measure => simp [Lib.intOf]; omega
          · rw [if_neg hzt] at HTS
            go_wp2
            go_round
            case rel => exact ⟨k + 1, by omega, by go_num, by rw [HTS.out]⟩
            case measure => simp [Lib.intOf]; omega
        · obtain rfl : k = c.length := by omega
          rw [List.take_length, HTOP.out]
          have HROW2 := Lib.hid (ownsRow_keeps HROW.out (w' := w2) (fun b hb => HB2.out.block b (ownsRow_base HROW.out hb).2))
          have HBX2 := Lib.hid (HBX.out.trans (HB2.out.mono hbxs))
          have HIE2 := Lib.hid (HIE.out.keep (w' := w2) (fun b hb => HB2.out.block b hb.1))
          have HC1 := Lib.hid (cell_one_new w2 (iv y) 3)
          have hal2 : acc.length ≤ 200 := by omega
          go_wp2_with ((at_builtin; refine wpList_append_own_at _ rfl _ _ 27 rfl w.heap.size 3 i0 (.int .i64 0) 1 8 Try.underlying27 hi hz0 hz1 hz2 rfl (by decide) _ _ _ rfl (ownsRow_alloc HROW2.out _) ⟨w2.heap.size, 0, none⟩ 1 1 [iv y] rfl rfl HC1.out (by simp [Value.oneCell']) (by unfold maxLen; omega) (by omega) (by simp; omega) ?_; intro v' w5 hown5 hgrow5 hnil hloc))
          have hr5 := row_rel (ys2 := acc ++ [y]) rfl HROW2.out HBX2.out hown5 hgrow5
          have HROW5 := Lib.hid hr5.1
          have HB5 := Lib.hid hr5.2
          have hch5 : Chg (fun j => ov.ownBlock = some j) (w2.alloc (.cells #[iv y] 3)) w5 := chg_grown hgrow5 (fun k e => e)
          have hs5 : w2.heap.size ≤ w5.heap.size := by have := hch5.size; simp at this; omega
          have HIE5 := Lib.hid (HIE2.out.keep (w' := w5) (fun b hb => (hch5.block b (by have := hb.1; simp; omega) hb.2).trans (Go.heap_alloc_old _ _ (by have := hb.1; omega))))
          clear hr5 hown5 hgrow5 hnil hloc hch5
          obtain ⟨ar, cr, e0, -, -, hxr⟩ := HIE5.out
          cases e0
          have HXR := Lib.hid hxr
          clear hxr
          go_loopw [9, 10] (fun m i wx => ∃ j : Nat, j ≤ G.length ∧ i = .int .i64 j ∧ wx.ownsRow w5.heap.size 31 2 m (without y (G.take j)).length (flat (without y (G.take j))) ∧ Below w5.heap.size w5 wx) (fun _ i _ => G.length - (Lib.intOf i).toNat)
          case atStart => exact ⟨0, Nat.zero_le _, rfl, World.ownsRow_nil _ _ _ _, Below.refl _ _⟩
          case round =>
            obtain ⟨j, hj', rfl, hown, hbi⟩ := hrel
            have HOWN := Lib.hid hown
            have HBI := Lib.hid hbi
            have hbis := hbi.size
            have hfl : (without y (G.take j)).length ≤ 200 := Nat.le_trans (List.length_filter_le _ _) (by rw [List.length_take]; omega)
            clear hown hbi
            by_cases hjl : j < G.length
            · obtain ⟨e, hej⟩ : ∃ e, G[j]? = some e := ⟨_, List.getElem?_eq_getElem hjl⟩
              have hnx : without y (G.take (j + 1)) = without y (G.take j) ++ (if touches y e then [] else [e]) := by
                rw [List.take_add_one, hej]; exact without_snoc y _ e
              have HNX := Lib.hid hnx
              rcases HXR.out with h | ⟨gr, off, rfl, hgw, hc⟩
              · rw [h] at hej; simp at hej
              obtain ⟨c0, c1⟩ := hc j e hej
              have e0 := (HBI.out.cell (p := ⟨gr, off + j * 2, none⟩) (by have := hgw.1; simp; omega)).trans c0
              have e1 := (HBI.out.cell (p := ⟨gr, off + j * 2 + 1, none⟩) (by have := hgw.1; simp; omega)).trans c1
              obtain ⟨p, q⟩ := e
              simp only at e0 e1
              have q0 : (0 : Int) ≤ (j : Int) := by omega
              have q1 : (j : Int) < (G.length : Int) := by omega
              clear hc hej hnx c0 c1
              by_cases hy : p = y
              · have hyb : (p != y) = false := by simp [hy]
                have hst : without y (G.take (j + 1)) = without y (G.take j) := by rw [HNX.out]; simp [touches, hy]
                have HST := Lib.hid hst
                clear hst hy
                go_wp2
                go_roundw
                case rel => exact ⟨j + 1, by omega, by go_num, by rw [HST.out]; exact HOWN.out, HBI.out⟩
                case measure => simp [Lib.intOf]; omega
              · have hyb : (p != y) = true := bne_iff_ne.2 hy
                by_cases hz : q = y
                · have hzb : (q != y) = false := by simp [hz]
                  have hst : without y (G.take (j + 1)) = without y (G.take j) := by rw [HNX.out]; simp [touches, hz]
                  have HST := Lib.hid hst
                  clear hst hy hz
                  go_wp2
                  go_roundw
                  case rel => exact ⟨j + 1, by omega, by go_num, by rw [HST.out]; exact HOWN.out, HBI.out⟩
                  case measure => simp [Lib.intOf]; omega
                · have hzb : (q != y) = true := bne_iff_ne.2 hz
                  have hst : without y (G.take (j + 1)) = without y (G.take j) ++ [(p, q)] := by rw [HNX.out]; simp [touches, hy, hz]
                  have HST := Lib.hid hst
                  clear hst hy hz
                  have HC1 := Lib.hid (@cells_new2 wr [iv p, iv q] 31)
                  go_wp2_with ((at_builtin; refine wpList_append_own_at _ rfl _ _ 22 rfl w5.heap.size 31 j0 (.agg #[.int .i64 0, .int .i64 0]) 2 16 Try.underlying22 hj jz0 jz1 jz2 rfl (by decide) _ _ _ rfl (ownsRow_alloc HOWN.out _) ⟨wr.heap.size, 0, none⟩ 1 1 [iv p, iv q] rfl rfl HC1.out (by simp [Value.oneCell']) (by unfold maxLen; omega) (by omega) (by simp; omega) ?_; intro v'' w7 hown7 hgrow hnil hloc))
                  go_roundw
                  case rel =>
                    have hch : Chg (fun j => w5.heap.size ≤ j) _ w7 := chg_grown hgrow (fun k e => (ownsRow_base HOWN.out e).1)
                    have hbw := HBI.out.alloc hbis (.cells #[iv p, iv q] 31)
                    have hb2 : Below w5.heap.size w5 w7 := hbw.trans ⟨hch.os, hch.tape, hch.output, hch.size, fun k hk => hch.block k (Nat.lt_of_lt_of_le hk hbw.size) (Nat.not_le_of_lt hk)⟩
                    exact ⟨j + 1, by omega, by go_num, by rw [HST.out, List.length_append, flat_snoc]; exact hown7, hb2⟩
                  case measure => simp [Lib.intOf]; omega
            · obtain rfl : j = G.length := by omega
              rw [List.take_length] at HOWN
              go_wp2
              go_roundg g
              case rel =>
                refine ⟨_, v', without y G, acc ++ [y], rfl, rfl, HFW.out, by omega, (edgesIn_row HOWN.out).mono (fun b hb => ⟨hb.2, fun e => by have := (ownsRow_base HROW5.out e).2; have := hb.1; omega⟩), ?_, by simp; omega, ownsRow_keeps HROW5.out (fun b hb => HBI.out.block b (ownsRow_base HROW5.out hb).2), HB5.out.trans (HBI.out.mono (by have := HB5.out.size; omega))⟩
                show acc ++ [y] ++ victF t g (without y G) = _
                rw [← HA.out, HVC.out g]; simp
              case measure => omega
end Go.Proofs.Ytkfmgeddckcnkaa
