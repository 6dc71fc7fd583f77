/- The reference's Plant (73), the walk. -/
import Derived.Test.YtinkjhkbaadbpaaRS
import Derived.StillTailTactics
namespace Go.Proofs.Ytinkjhkbaadbpaa
open Go.RowKit
open Go.ChangeMaps (setBlock)
set_option linter.unusedVariables false

/-- what the reference's Plant promises of the trees that are smaller than n -/
def RPlantUpto (n : Nat) : Prop := ∀ (t : Tr) (D Rd Dd F : Nat → Prop) (w : World) (v s : Nat) (V : RVw) (d : Doc) (av kv : Value) (parent : Int), t.size ≤ n →
  RVS D Rd Dd w v (.pointer (some ⟨s, 0, none⟩)) V d → TrIn F w t av kv → (∀ k, F k → k < w.heap.size ∧ k ≠ v ∧ ¬ Rd k) → 0 ≤ d.given → d.given + t.size ≤ 1099511627776 → V.own.length + t.size ≤ 1000000000 →
  Calls Try.prog 73 #[.pointer (some ⟨v, 0, none⟩), trV t av kv, .int .i64 parent] w (RPlantPost D Rd Dd w v (.pointer (some ⟨s, 0, none⟩)) V.time d (plantT layL t parent (d.given, V.own)))

set_option maxRecDepth 100000 in
set_option maxHeartbeats 4000000 in
theorem rplant_step (n : Nat) (ih : RPlantUpto n) : RPlantUpto (n + 1) := by
  intro t D Rd Dd F w v s V d av kv parent hn hVS hT hF h0 hg hlen
  obtain ⟨kind, name, text, attrs, kids⟩ := t
  simp only [TrIn] at hT
  obtain ⟨hA, zs, hK, hKs⟩ := hT
  obtain ⟨a1, c1, rfl, hal, hac⟩ := hA
  obtain ⟨a2, c2, rfl, hkl, hkc⟩ := hK
  have hvl := hVS.lt
  obtain ⟨i0, hi, hz0, hz1, hz2⟩ := info_parts Try.info3
  simp only [Tr.size] at hn hg hlen
  obtain ⟨W, hW⟩ : ∃ W, w.alloc (.cells #[.int .i64 kind, .string name, .string text, .slice a1 attrs.length c1, .slice a2 kids.length c2] 25) = W := ⟨_, rfl⟩
  have hbW : Below w.heap.size w W := by rw [← hW]; exact (Below.refl _ _).alloc (Nat.le_refl _) _
  have hlW : w.heap.size < W.heap.size := by rw [← hW]; simp
  have hx0 : W.heap[w.heap.size]? = some (.cells #[.int .i64 kind, .string name, .string text, .slice a1 attrs.length c1, .slice a2 kids.length c2] 25 (0, 0)) := by rw [← hW]; exact Go.heap_alloc_new _ _
  have hVSW := hVS.below hbW
  have HVS := Lib.hid hVS
  have HVSW := Lib.hid hVSW
  have HKS := Lib.hid hKs
  have HAC := Lib.hid hac
  have HKC := Lib.hid hkc
  have HF := Lib.hid hF
  have HW := Lib.hid hW
  have HBW := Lib.hid hbW
  have HX0 := Lib.hid hx0
  have HIH := Lib.hid ih
  obtain ⟨x0, x1, x2, x3, x4⟩ : W.cell? ⟨w.heap.size, 0, none⟩ = some (.int .i64 kind) ∧ W.cell? ⟨w.heap.size, 1, none⟩ = some (.string name) ∧ W.cell? ⟨w.heap.size, 2, none⟩ = some (.string text) ∧ W.cell? ⟨w.heap.size, 3, none⟩ = some (.slice a1 attrs.length c1) ∧ W.cell? ⟨w.heap.size, 4, none⟩ = some (.slice a2 kids.length c2) := by
    refine ⟨?_, ?_, ?_, ?_, ?_⟩ <;> simp [World.cell?, hx0]
  have q0W : W.cell? ⟨v, 0, none⟩ = some (.pointer (some ⟨s, 0, none⟩)) := hVSW.cellS
  have HFRW := Lib.hid (hVSW.fresh h0 (by omega))
  clear hVS hVSW hKs hac hkc hF hW hbW hx0 ih
  rw [plantT_eq]
  show Calls Try.prog 73 #[.pointer (some ⟨v, 0, none⟩), .agg #[.int .i64 kind, .string name, .string text, .slice a1 attrs.length c1, .slice a2 kids.length c2], .int .i64 parent] w _
  obtain ⟨bk, hbk⟩ : ∃ bk, plants kind = bk := ⟨_, rfl⟩
  rw [hbk]
  obtain ⟨res0, hres0⟩ : ∃ r : Int × Int × List Own, (if bk = true then (d.given + 1, (plK layL d.given kids (plA layL d.given attrs V.own)).1, layL (d.given + 1) ⟨kind, name, text, max parent 0, (plK layL d.given kids (plA layL d.given attrs V.own)).2.2, (plA layL d.given attrs V.own).2.2, false⟩ (plK layL d.given kids (plA layL d.given attrs V.own)).2.1) else (0, d.given, V.own)) = r := ⟨_, rfl⟩
  rw [hres0]
  have HRES0 := Lib.hid hres0
  clear hres0
  go_enter Try.func73, Try.ntmps73
  go_upto_region 1 with fail
  rw [HW.out]
  go_cut [30] (fun c wx => c = .bool (!bk) ∧ wx = W)
  case first =>
    have HBK := Lib.hid hbk
    clear hbk
    by_cases h2 : kind = 2
    · subst h2
      obtain rfl : bk = true := by rw [← HBK.out]; rfl
      go_wp2
      go_meet
      exact ⟨rfl, rfl⟩
    · by_cases h4 : kind = 4
      · subst h4
        obtain rfl : bk = true := by rw [← HBK.out]; rfl
        go_wp2
        go_meet
        exact ⟨rfl, rfl⟩
      · by_cases h5 : kind = 5
        · subst h5
          obtain rfl : bk = true := by rw [← HBK.out]; rfl
          go_wp2
          go_meet
          exact ⟨rfl, rfl⟩
        · by_cases h6 : kind = 6
          · subst h6
            obtain rfl : bk = true := by rw [← HBK.out]; rfl
            go_wp2
            go_meet
            exact ⟨rfl, rfl⟩
          · obtain rfl : bk = false := by rw [← HBK.out]; simp [plants, h2, h4, h5, h6]
            go_wp2
            go_meet
            exact ⟨by simp [h2, h4, h5, h6], rfl⟩
  case rest =>
  obtain ⟨rfl, rfl⟩ := hcut
  have HBK := Lib.hid hbk
  clear hbk
  cases bk with
  | false =>
    go_wp2
    go_ret
    rw [← HRES0.out, if_neg (by simp)]
    exact ⟨rfl, ⟨D, HVS.out.below HBW.out, fun k hk => .inl hk⟩, chg_new HBW.out⟩
  | true =>
    go_wp2_with fail
    refine HFRW.out.mono ?_
    rintro e w3 ⟨rfl, hVS3, hc3⟩
    have hs3 := hc3.size
    have hb3 : w3.heap[w.heap.size]? = some (.cells #[.int .i64 kind, .string name, .string text, .slice a1 attrs.length c1, .slice a2 kids.length c2] 25 (0, 0)) := (hc3.block w.heap.size (by omega) (fun hR => by have := (HVS.out.rl _ hR).1; omega)).trans HX0.out
    have hlt3 : w.heap.size < w3.heap.size := by omega
    obtain ⟨r0, r1, r2, r3, r4⟩ : w3.cell? ⟨w.heap.size, 0, none⟩ = some (.int .i64 kind) ∧ w3.cell? ⟨w.heap.size, 1, none⟩ = some (.string name) ∧ w3.cell? ⟨w.heap.size, 2, none⟩ = some (.string text) ∧ w3.cell? ⟨w.heap.size, 3, none⟩ = some (.slice a1 attrs.length c1) ∧ w3.cell? ⟨w.heap.size, 4, none⟩ = some (.slice a2 kids.length c2) := by
      refine ⟨?_, ?_, ?_, ?_, ?_⟩ <;> simp [World.cell?, hb3]
    have hc03 : Chg Rd w w3 := (chg_new HBW.out).trans hc3
    have HVS3 := Lib.hid hVS3
    have HC3 := Lib.hid hc03
    have HB3 := Lib.hid hb3
    clear hVS3 hc3 hb3 hc03 q0W x0 x1 x2 x3 x4
    go_upto_if 44 with fail
    go_cut [] (fun wx => wx.heap[w3.heap.size]? = some (.cells #[.int .i64 kind, .string name, .string text, .int .i64 (max parent 0), .slice none 0 0, .slice none 0 0, .bool false] 52 (0, 0)) ∧ Below w3.heap.size w3 wx ∧ wx.heap.size = w3.heap.size + 1)
    case first =>
      by_cases hp : 0 < parent
      · go_wp2
        go_meet
        have hm : max parent 0 = parent := by omega
        rw [hm]
        exact ⟨Go.heap_alloc_new _ _, (Below.refl _ _).alloc (Nat.le_refl _) _, by simp⟩
      · have hm : max parent 0 = 0 := by omega
        go_wp2
        go_meet
        rw [hm]
        exact ⟨Go.heap_alloc_new _ _, (Below.refl _ _).alloc (Nat.le_refl _) _, by simp⟩
    case rest =>
    obtain ⟨hr4, hb4, hs4⟩ := hcut
    obtain ⟨W4, rfl⟩ : ∃ W4, W4 = wc := ⟨_, rfl⟩
    have HB4 := Lib.hid hb4
    have HR4 := Lib.hid hr4
    have HS4 := Lib.hid hs4
    clear hb4 hr4 hs4 r0 r1 r2 r3 r4
    go_wp2_with fail
    go_loopw [9] (fun i wr => ∃ k : Nat, k ≤ attrs.length ∧ i = .int .i64 k ∧ ∃ (pr : Int × List Own × List Int) (sv : Value) (D' : Nat → Prop), plantAs layL (d.given + 1) (attrs.take k) (d.given + 1, V.own, []) = pr ∧
      RVS D' Rd Dd wr v (.pointer (some ⟨s, 0, none⟩)) ⟨pr.2.1, V.time⟩ { d with given := pr.1 } ∧ (∀ j, D' j → D j ∨ (W4.heap.size ≤ j ∧ j < wr.heap.size ∧ sv.ownBlock ≠ some j)) ∧
      wr.heap[w3.heap.size]? = some (.cells #[.int .i64 kind, .string name, .string text, .int .i64 (max parent 0), .slice none 0 0, sv, .bool false] 52 (0, 0)) ∧
      wr.ownsRow (w3.heap.size + 1) 3 1 sv pr.2.2.length (pr.2.2.map iv) ∧ Chg (fun j => j = v ∨ Rd j ∨ j = w3.heap.size) W4 wr) (fun i _ => attrs.length - (Lib.intOf i).toNat)
    case atStart => exact ⟨0, Nat.zero_le _, rfl, _, _, D, rfl, HVS3.out.below HB4.out, fun j h => .inl h, HR4.out, World.ownsRow_nil _ _ _ _, Chg.refl _ _⟩
    case round =>
      obtain ⟨k, hk, rfl, pr, sv, D', hpr, hVSr, hDr, hcr, hown, hchr⟩ := hrel
      obtain ⟨a5, c5, rfl⟩ := ownsRow_shape hown
      have HVSR := Lib.hid hVSr
      have HDR := Lib.hid hDr
      have HCR := Lib.hid hcr
      have HOWN := Lib.hid hown
      have HCHR := Lib.hid hchr
      have HPR := Lib.hid hpr
      have hlr : W4.heap.size ≤ wr.heap.size := hchr.size
      have hw34 : W4.heap.size = w3.heap.size + 1 := HS4.out
      have hold : ∀ j, j < w.heap.size → j ≠ v → ¬ Rd j → wr.heap[j]? = w.heap[j]? := fun j hj hm hR => by
        rw [hchr.block j (by omega) (fun h => h.elim hm (fun h => h.elim hR (fun h => by omega))), HB4.out.block j (by omega), HC3.out.block j hj hR]
      have HOLD := Lib.hid hold
      have hbr : wr.heap[w.heap.size]? = some (.cells #[.int .i64 kind, .string name, .string text, .slice a1 attrs.length c1, .slice a2 kids.length c2] 25 (0, 0)) := by
        have hm : w.heap.size ≠ v := by omega
        have hR : ¬ Rd w.heap.size := fun h => by have := (HVS.out.rl _ h).1; omega
        rw [hchr.block w.heap.size (by omega) (fun h => h.elim hm (fun h => h.elim hR (fun h => by omega))), HB4.out.block w.heap.size hlt3]
        exact HB3.out
      have g3 : wr.cell? ⟨w.heap.size, 3, none⟩ = some (.slice a1 attrs.length c1) := by simp [World.cell?, hbr]
      have g4 : wr.cell? ⟨w.heap.size, 4, none⟩ = some (.slice a2 kids.length c2) := by simp [World.cell?, hbr]
      have HBR := Lib.hid hbr
      have HS43 := Lib.hid hw34
      have hl43 : w3.heap.size < W4.heap.size := by omega
      have hgk := plantAs_g layL (d.given + 1) (attrs.take k) (d.given + 1, V.own, [])
      rw [hpr] at hgk
      simp only [List.length_take, List.length_nil, Nat.min_eq_left hk] at hgk
      have hmu := plantAs_mu layL List.length (fun id r L => layL_len id r L) (d.given + 1) (attrs.take k) (d.given + 1, V.own, [])
      rw [hpr] at hmu
      simp only at hmu
      have hgr := hgk.1
      have hgn := hgk.2
      have HGR := Lib.hid hgr
      have HGN := Lib.hid hgn
      have hml : pr.2.1.length ≤ V.own.length + k := by omega
      clear hgr hgn hgk hmu hbr hw34 hold
      by_cases hlt : k < attrs.length
      · obtain ⟨p, hpk⟩ : ∃ p, attrs[k]? = some p := ⟨_, List.getElem?_eq_getElem hlt⟩
        have hnext : plantAs layL (d.given + 1) (attrs.take (k + 1)) (d.given + 1, V.own, []) = (pr.1 + 1, layL (pr.1 + 1) ⟨3, p.1, p.2, d.given + 1, [], [], false⟩ pr.2.1, pr.2.2 ++ [pr.1 + 1]) := by
          rw [List.take_add_one, hpk, Option.toList_some, plantAs_snoc, hpr]
        have HNX := Lib.hid hnext
        obtain ⟨ga, offa, rfl, hFa, hca⟩ : ∃ g off, a1 = some ⟨g, off, none⟩ ∧ F g ∧ ∀ j u, (attrL attrs)[j]? = some u → w.cell? ⟨g, off + j, none⟩ = some u := by
          rcases HAC.out with h | h
          · omega
          · exact h
        have hga := HF.out ga hFa
        have hk0 : (0 : Int) ≤ k := by omega
        have hkl : (k : Int) < attrs.length := by omega
        have q0 : wr.cell? ⟨v, 0, none⟩ = some (.pointer (some ⟨s, 0, none⟩)) := hVSr.cellS
        have hfr5 := hVSr.fresh (by show 0 ≤ pr.1; have := HGR.out; omega) (by show pr.1 < _; have := HGR.out; omega)
        have HFR5 := Lib.hid hfr5
        have u0w := hca _ _ (attrL_get hpk).1
        have u1w := hca _ _ (attrL_get hpk).2
        have HU0 := Lib.hid u0w
        have HU1 := Lib.hid u1w
        clear hnext hca hfr5 hVSr hDr hcr hown hchr hpr u0w u1w
        go_wp2_with fail
        refine HFR5.out.mono ?_
        rintro e w5 ⟨rfl, hVS5, hc5⟩
        have hs5 := hc5.size
        have hold5 : ∀ j, w.heap.size ≤ j → j < wr.heap.size → w5.heap[j]? = wr.heap[j]? := fun j h1 h2 => hc5.block j h2 (fun hR => by have := (HVS.out.rl _ hR).1; omega)
        have hb5 := (hold5 w.heap.size (Nat.le_refl _) (by omega)).trans HBR.out
        have g35 : w5.cell? ⟨w.heap.size, 3, none⟩ = some (.slice (some ⟨ga, offa, none⟩) attrs.length c1) := by simp [World.cell?, hb5]
        have u0 : w5.cell? ⟨ga, offa + k * 2, none⟩ = some (.string p.1) := (World.cell?_of_block (a := ⟨ga, offa + k * 2, none⟩) ((hc5.block ga (by omega) hga.2.2).trans (HOLD.out ga hga.1 hga.2.1 hga.2.2))).trans HU0.out
        have u1 : w5.cell? ⟨ga, offa + k * 2 + 1, none⟩ = some (.string p.2) := (World.cell?_of_block (a := ⟨ga, offa + k * 2 + 1, none⟩) ((hc5.block ga (by omega) hga.2.2).trans (HOLD.out ga hga.1 hga.2.1 hga.2.2))).trans HU1.out
        have hlay := (hVS5.below (Below.refl _ _).drew).lay (E := fun _ => False) (by show pr.2.1.length ≤ _; omega) (pr.1 + 1) (r := ⟨3, p.1, p.2, d.given + 1, [], [], false⟩) (x := recV ⟨3, p.1, p.2, d.given + 1, [], [], false⟩ (.slice none 0 0) (.slice none 0 0)) ⟨by simp, by simp⟩ ⟨_, _, rfl, intsIn_nil _ _, intsIn_nil _ _⟩ (fun _ h => h.elim)
        have HLAY := Lib.hid hlay
        have HVS5 := Lib.hid hVS5
        have HC5 := Lib.hid hc5
        have HOLD5 := Lib.hid hold5
        clear hVS5 hc5 hold5 hb5 hlay q0 g3 g4
        go_wp2_with fail
        go_still_tail 16, (by kernel_rfl)
        change wpList _ _ _ _ _ w5.drew
        go_wp2_with fail
        refine HLAY.out.mono ?_
        rintro e w6 ⟨rfl, hVS6, hc6⟩
        have hs6 : w5.heap.size ≤ w6.heap.size := hc6.size
        have hold6 : ∀ j, w.heap.size ≤ j → j < wr.heap.size → w6.heap[j]? = wr.heap[j]? := fun j h1 h2 =>
          (hc6.block j (by show j < w5.heap.size; omega) (by omega)).trans (HOLD5.out j h1 h2)
        have b6 := (hold6 w3.heap.size (by omega) (by omega)).trans HCR.out
        have own6 := ownsRow_keeps HOWN.out (fun g hg => by have := ownsRow_base HOWN.out hg; exact hold6 g (by omega) this.2 : ∀ g, (Value.slice a5 pr.2.2.length c5).ownBlock = some g → w6.heap[g]? = wr.heap[g]?)
        have hD3 : ∀ j, ((D' j ∨ False) ∨ (w5.drew.heap.size ≤ j ∧ j < w6.heap.size)) → D j ∨ (W4.heap.size ≤ j ∧ j < w6.heap.size ∧ (Value.slice a5 pr.2.2.length c5).ownBlock ≠ some j) := fun j hj => by
          rcases hj with (hj | hj) | hj
          · rcases HDR.out j hj with h | h
            · exact .inl h
            · exact .inr ⟨h.1, by omega, h.2.2⟩
          · exact hj.elim
          · have h9 : w5.heap.size ≤ j := hj.1
            exact .inr ⟨by omega, hj.2, fun h => by have := (ownsRow_base HOWN.out h).2; omega⟩
        have hc06 : Chg (fun j => j = v ∨ Rd j ∨ j = w3.heap.size) W4 w6 := ((HCHR.out.trans (HC5.out.mono (fun j h => .inr (.inl h)))).trans (chg_new (Below.refl _ _).drew)).trans (hc6.mono (fun j h => .inl h))
        obtain ⟨y0, y1, y2, y3, y4, y5, y6⟩ := cells7 b6
        have HVS6 := Lib.hid hVS6
        have HD3 := Lib.hid hD3
        have HC06 := Lib.hid hc06
        have HOWN6 := Lib.hid own6
        have HB6 := Lib.hid b6
        clear hVS6 hc6 hold6 b6 own6 hD3 hc06 u0 u1 g35
        go_wp2_with (at_builtin; go_loud (refine wpList_append_own_at _ rfl _ _ 33 rfl (w3.heap.size + 1) 3 i0 (.int .i64 0) 1 8 Try.underlying33 hi hz0 hz1 hz2 rfl (by decide) _ _ _ rfl (ownsRow_alloc HOWN6.out _) ⟨w6.heap.size, 0, none⟩ 1 1 [iv (pr.1 + 1)] rfl rfl (cell_one_new _ _ _) (by simp [Value.oneCell']) (by have := HGN.out; unfold maxLen; omega) (by have := HGN.out; omega) (by simp; omega) ?_; intro v' w8 hown8 hgrow hnil hloc; have b8 := (hgrow.block w3.heap.size (by simp; omega) (fun h => by have := (ownsRow_base HOWN6.out h.symm).1; omega)).trans ((Go.heap_alloc_old _ _ (by omega)).trans HB6.out); obtain ⟨z0, z1, z2, z3, z4, z5, z6⟩ := cells7 b8; have fz := free_block b8 5; have B8 := Lib.hid b8; obtain ⟨a8, c8, rfl⟩ := ownsRow_shape hown8; clear b8))
        go_roundw
        case rel =>
          have hs8 := hgrow.size
          simp only [World.size_alloc] at hs8
          simp only [World.size_alloc] at hloc
          have hcg : Chg (fun j => (Value.slice a5 pr.2.2.length c5).ownBlock = some j ∨ j = w3.heap.size) w6 (w8.setCell ⟨w3.heap.size, 5, none⟩ (.slice a8 (pr.2.2.length + 1) c8)) :=
            ((chg_alloc w6 _).trans (chg_grown hgrow (fun k h => .inl h))).trans (chg_set (M := fun j => (Value.slice a5 pr.2.2.length c5).ownBlock = some j ∨ j = w3.heap.size) (.inr rfl) 5 _)
          refine ⟨k + 1, by omega, by go_num, _, .slice a8 (pr.2.2.length + 1) c8, _, HNX.out, HVS6.out.quiet hcg (fun j hj => ?_), fun j hj => ?_, ?_, ?_, ?_⟩
          · have hj3 : w3.heap.size ≤ j ∧ j < wr.heap.size := hj.elim (fun h => by have := ownsRow_base HOWN.out h; omega) (fun h => by omega)
            refine ⟨by omega, fun h => ?_, fun h => by have := (HVS.out.rl _ h).1; omega, fun h => by have := (HVS.out.ddl _ h).1; omega⟩
            rcases HD3.out j h with h | ⟨h1, h2, h3⟩
            · have := (HVS.out.dl _ h).1; omega
            · exact hj.elim h3 (fun h => by have := HS4.out; omega)
          · rcases HD3.out j hj with h | ⟨h1, h2, h3⟩
            · exact .inl h
            · refine .inr ⟨h1, by simp [World.setCell]; omega, fun h9 => ?_⟩
              rcases hloc with h | h
              · exact h3 (h.symm.trans h9)
              · rw [h] at h9; cases h9; omega
          · have := heap_setCell_same w8 w3.heap.size 5 _ _ (.slice a8 (pr.2.2.length + 1) c8) B8.out
            simpa using this
          · have := ownsRow_keeps (w' := w8.setCell ⟨w3.heap.size, 5, none⟩ (.slice a8 (pr.2.2.length + 1) c8)) hown8 (fun g hg => heap_setCell_other _ _ _ _ (fun h => by have h1 := (ownsRow_base hown8 hg).1; have h2 : g = w3.heap.size := h; omega))
            simpa using this
          · exact HC06.out.andThen hcg (fun j hj h => h.elim (fun h => by have := (ownsRow_base HOWN.out h).1; have := HS4.out; exact .inr (.inr (by have := HS4.out; omega))) (fun h => .inr (.inr h)))
        case measure => simp [Lib.intOf]; omega
      · obtain rfl : k = attrs.length := by omega
        have hpr2 : plA layL d.given attrs V.own = pr := by unfold plA; rw [List.take_length] at hpr; exact hpr
        have HPR2 := Lib.hid hpr2
        clear hVSr hDr hcr hown hchr hpr hpr2
        go_wp2_with fail
        obtain ⟨wa, rfl⟩ : ∃ wa, wa = wr := ⟨_, rfl⟩
        go_loopw [11] (fun i wy => ∃ k : Nat, k ≤ kids.length ∧ i = .int .i64 k ∧ ∃ (pk : Int × List Own × List Int) (sv2 : Value) (D2 : Nat → Prop), plantKs layL (kids.take k) (d.given + 1) (pr.1, pr.2.1, []) = pk ∧
          RVS D2 Rd Dd wy v (.pointer (some ⟨s, 0, none⟩)) ⟨pk.2.1, V.time⟩ { d with given := pk.1 } ∧ (∀ j, D2 j → D' j ∨ (wa.heap.size ≤ j ∧ j < wy.heap.size ∧ sv2.ownBlock ≠ some j)) ∧
          wy.heap[w3.heap.size]? = some (.cells #[.int .i64 kind, .string name, .string text, .int .i64 (max parent 0), sv2, .slice a5 pr.2.2.length c5, .bool false] 52 (0, 0)) ∧
          wy.ownsRow wa.heap.size 3 1 sv2 pk.2.2.length (pk.2.2.map iv) ∧ Chg (fun j => j = v ∨ Rd j ∨ j = w3.heap.size) wa wy) (fun i _ => kids.length - (Lib.intOf i).toNat)
        case atStart => exact ⟨0, Nat.zero_le _, rfl, _, _, D', rfl, HVSR.out, fun j h => .inl h, HCR.out, World.ownsRow_nil _ _ _ _, Chg.refl _ _⟩
        case round =>
          obtain ⟨k, hk, rfl, pk, sv2, D2, hpk, hVSy, hD2, hcy, howy, hchy⟩ := hrel
          obtain ⟨a6, c6, rfl⟩ := ownsRow_shape howy
          have hly : wa.heap.size ≤ wr.heap.size := hchy.size
          have hownA := ownsRow_keeps HOWN.out (fun g hg => hchy.block g (ownsRow_base HOWN.out hg).2 (fun h => by have h1 := (ownsRow_base HOWN.out hg).1; exact h.elim (fun h => by omega) (fun h => h.elim (fun h => by have := (HVS.out.rl _ h).1; omega) (fun h => by omega))))
          have hbr : wr.heap[w.heap.size]? = some (.cells #[.int .i64 kind, .string name, .string text, .slice a1 attrs.length c1, .slice a2 kids.length c2] 25 (0, 0)) := by
            have hR : ¬ Rd w.heap.size := fun h => by have := (HVS.out.rl _ h).1; omega
            rw [hchy.block w.heap.size (by omega) (fun h => h.elim (by omega) (fun h => h.elim hR (fun h => by omega)))]
            exact HBR.out
          have g4y : wr.cell? ⟨w.heap.size, 4, none⟩ = some (.slice a2 kids.length c2) := by simp [World.cell?, hbr]
          have hlenK := plantKs_len layL (d.given + 1) (kids.take k) (pr.1, pr.2.1, [])
          rw [hpk] at hlenK
          simp only [List.length_take, List.length_nil, Nat.min_eq_left hk] at hlenK
          have hszK := sizes_len kids
          have hmuK := plantKs_mu layL List.length (fun id r L => layL_len id r L) (kids.take k) (d.given + 1) (pr.1, pr.2.1, [])
          have hgK := plantKs_g layL (kids.take k) (d.given + 1) (pr.1, pr.2.1, [])
          rw [hpk] at hmuK hgK
          simp only at hmuK hgK
          have hgA := HGR.out
          by_cases hlt : k < kids.length
          · obtain ⟨tk, htk⟩ : ∃ tk, kids[k]? = some tk := ⟨_, List.getElem?_eq_getElem hlt⟩
            have hnext : plantKs layL (kids.take (k + 1)) (d.given + 1) (pr.1, pr.2.1, []) = plantK layL (d.given + 1) pk tk := by
              rw [List.take_add_one, htk, Option.toList_some, plantKs_snoc, hpk]
            obtain ⟨gb, offb, rfl, hFb, hcb⟩ : ∃ g off, a2 = some ⟨g, off, none⟩ ∧ F g ∧ ∀ j u, zs[j]? = some u → w.cell? ⟨g, off + j, none⟩ = some u := by
              rcases HKC.out with h | h
              · omega
              · exact h
            obtain ⟨avk, kvk, hTk, hck⟩ := HKS.out.get k tk htk
            have hszk := size_get htk
            obtain ⟨tkind, tname, ttext, tattrs, tkids⟩ := tk
            have hTk2 := hTk
            simp only [TrIn] at hTk2
            obtain ⟨⟨ak, ck1, rfl, -, -⟩, zk, ⟨bk, ck2, rfl, -, -⟩, -⟩ := hTk2
            have hgb := HF.out gb hFb
            have holdy : ∀ j, j < w.heap.size → j ≠ v → ¬ Rd j → wr.heap[j]? = w.heap[j]? := fun j hj hm hR => by
              rw [hchy.block j (by omega) (fun h => h.elim hm (fun h => h.elim hR (fun h => by omega))), HOLD.out j hj hm hR]
            have hcell : ∀ c u, c < 5 → (trL (Tr.mk tkind tname ttext tattrs tkids) (.slice ak tattrs.length ck1) (.slice bk tkids.length ck2))[c]? = some u → wr.cell? ⟨gb, offb + k * 5 + c, none⟩ = some u := fun c u hc hu => by
              rw [Nat.add_assoc]
              exact (World.cell?_of_block (a := ⟨gb, offb + (k * 5 + c), none⟩) (holdy gb hgb.1 hgb.2.1 hgb.2.2)).trans (hcb _ _ ((hck c hc).trans hu))
            have u0 : wr.cell? ⟨gb, offb + k * 5, none⟩ = some (.int .i64 tkind) := hcell 0 _ (by omega) rfl
            have u1 : wr.cell? ⟨gb, offb + k * 5 + 1, none⟩ = some (.string tname) := hcell 1 _ (by omega) rfl
            have u2 : wr.cell? ⟨gb, offb + k * 5 + 2, none⟩ = some (.string ttext) := hcell 2 _ (by omega) rfl
            have u3 : wr.cell? ⟨gb, offb + k * 5 + 3, none⟩ = some (.slice ak tattrs.length ck1) := hcell 3 _ (by omega) rfl
            have u4 : wr.cell? ⟨gb, offb + k * 5 + 4, none⟩ = some (.slice bk tkids.length ck2) := hcell 4 _ (by omega) rfl
            have hsw : w.heap.size < wr.heap.size := by omega
            have hkF : Keeps F w wr := fun j hj => by
              have h9 := HF.out j hj
              exact holdy j h9.1 h9.2.1 h9.2.2
            have HIK := Lib.hid (HIH.out (Tr.mk tkind tname ttext tattrs tkids) D2 Rd Dd F wr v s ⟨pk.2.1, V.time⟩ { d with given := pk.1 } (.slice ak tattrs.length ck1) (.slice bk tkids.length ck2) (d.given + 1) (by omega) hVSy (TrIn.keep hkF (fun _ h => h) _ _ _ hTk) (fun j hj => by have h9 := HF.out j hj; exact ⟨by omega, h9.2⟩) (by show 0 ≤ pk.1; omega) (by show pk.1 + _ ≤ _; omega) (by show pk.2.1.length + _ ≤ _; omega))
            obtain ⟨res, hres⟩ : ∃ res, plantT layL (Tr.mk tkind tname ttext tattrs tkids) (d.given + 1) (pk.1, pk.2.1) = res := ⟨_, rfl⟩
            have hnx2 : plantKs layL (kids.take (k + 1)) (d.given + 1) (pr.1, pr.2.1, []) = (res.2.1, res.2.2, if 0 < res.1 then pk.2.2 ++ [res.1] else pk.2.2) := by rw [hnext]; simp only [plantK]; rw [hres]
            have hk0 : (0 : Int) ≤ k := by omega
            have hkl2 : (k : Int) < kids.length := by omega
            have HRES := Lib.hid hres
            have HNX2 := Lib.hid hnx2
            have HVSY := Lib.hid hVSy
            have HDY := Lib.hid hD2
            have HCY := Lib.hid hcy
            have HOWY := Lib.hid howy
            have HCHY := Lib.hid hchy
            clear hVSy hD2 hcy howy hchy hownA hpk hnext hres hnx2 hck hcb hcell holdy hkF hTk hgK hgA hmuK hbr
            go_wp2_with fail
            refine HIK.out.mono ?_
            rintro e w6 ⟨rfl, ⟨D3, hVS6, hD3⟩, hc6⟩
            rw [HRES.out] at hVS6 ⊢
            have hs6 := hc6.size
            have hold6 : ∀ j, w.heap.size ≤ j → j < wr.heap.size → w6.heap[j]? = wr.heap[j]? := fun j h1 h2 =>
              hc6.block j h2 (fun h => h.elim (fun h => by omega) (fun h => by have := (HVS.out.rl _ h).1; omega))
            have b6 := (hold6 w3.heap.size (by omega) (by omega)).trans HCY.out
            have own6 := ownsRow_keeps HOWY.out (fun g hg => by have := ownsRow_base HOWY.out hg; exact hold6 g (by omega) this.2 : ∀ g, (Value.slice a6 pk.2.2.length c6).ownBlock = some g → w6.heap[g]? = wr.heap[g]?)
            obtain ⟨y0, y1, y2, y3, y4, y5, y6⟩ := cells7 b6
            have hD4 : ∀ j, D3 j → D' j ∨ (wa.heap.size ≤ j ∧ j < w6.heap.size ∧ (Value.slice a6 pk.2.2.length c6).ownBlock ≠ some j) := fun j hj => by
              have hjl := (hVS6.dl j hj).1
              rcases hD3 j hj with h | h
              · rcases HDY.out j h with h | h
                · exact .inl h
                · exact .inr ⟨h.1, by omega, h.2.2⟩
              · exact .inr ⟨by omega, by omega, fun h9 => by have := (ownsRow_base HOWY.out h9).2; omega⟩
            have hc06 : Chg (fun j => j = v ∨ Rd j ∨ j = w3.heap.size) wa w6 := HCHY.out.trans (hc6.mono (fun j h => h.elim .inl (fun h => .inr (.inl h))))
            have HVS6 := Lib.hid hVS6
            have HD4 := Lib.hid hD4
            have HC06 := Lib.hid hc06
            have HOWN6 := Lib.hid own6
            have HB6 := Lib.hid b6
            clear hVS6 hD3 hc6 hold6 b6 own6 hD4 hc06 u0 u1 u2 u3 u4 g4y
            obtain ⟨r1, r2, r3⟩ := res
            simp only at HNX2 HVS6 ⊢
            by_cases hpos : 0 < r1
            · go_wp2_with (at_builtin; go_loud (refine wpList_append_own_at _ rfl _ _ 33 rfl wa.heap.size 3 i0 (.int .i64 0) 1 8 Try.underlying33 hi hz0 hz1 hz2 rfl (by decide) _ _ _ rfl (ownsRow_alloc HOWN6.out _) ⟨w6.heap.size, 0, none⟩ 1 1 [iv r1] rfl rfl (cell_one_new _ _ _) (by simp [Value.oneCell']) (by unfold maxLen; omega) (by omega) (by simp; omega) ?_; intro v' w8 hown8 hgrow hnil hloc; have b8 := (hgrow.block w3.heap.size (by simp; omega) (fun h => by have := (ownsRow_base HOWN6.out h.symm).1; omega)).trans ((Go.heap_alloc_old _ _ (by omega)).trans HB6.out); obtain ⟨z0, z1, z2, z3, z4, z5, z6⟩ := cells7 b8; have fz := free_block b8 4; have B8 := Lib.hid b8; obtain ⟨a8, c8, rfl⟩ := ownsRow_shape hown8; clear b8))
              go_roundw
              case rel =>
                have hs8 := hgrow.size
                simp only [World.size_alloc] at hs8
                simp only [World.size_alloc] at hloc
                have hcg : Chg (fun j => (Value.slice a6 pk.2.2.length c6).ownBlock = some j ∨ j = w3.heap.size) w6 (w8.setCell ⟨w3.heap.size, 4, none⟩ (.slice a8 (pk.2.2.length + 1) c8)) :=
                  ((chg_alloc w6 _).trans (chg_grown hgrow (fun k h => .inl h))).trans (chg_set (M := fun j => (Value.slice a6 pk.2.2.length c6).ownBlock = some j ∨ j = w3.heap.size) (.inr rfl) 4 _)
                refine ⟨k + 1, by omega, by go_num, (r2, r3, pk.2.2 ++ [r1]), .slice a8 (pk.2.2.length + 1) c8, D3, ?_, ?_, ?_, ?_, ?_, ?_⟩
                · rw [HNX2.out, if_pos hpos]
                · refine HVS6.out.quiet hcg (fun j hj => ?_)
                  have hj3 : w3.heap.size ≤ j ∧ j < wr.heap.size := hj.elim (fun h => by have := ownsRow_base HOWY.out h; omega) (fun h => by omega)
                  refine ⟨by omega, fun h => ?_, fun h => by have := (HVS.out.rl _ h).1; omega, fun h => by have := (HVS.out.ddl _ h).1; omega⟩
                  rcases HD4.out j h with h | ⟨h1, h2, h3⟩
                  · have h8 := (HVSR.out.dl _ h).1
                    rcases hj with hj | hj
                    · have := (ownsRow_base HOWY.out hj).1; omega
                    · rcases HDR.out j h with h | h
                      · have := (HVS.out.dl _ h).1; omega
                      · have := HS4.out; omega
                  · exact hj.elim h3 (fun h => by omega)
                · intro j hj
                  rcases HD4.out j hj with h | ⟨h1, h2, h3⟩
                  · exact .inl h
                  · refine .inr ⟨h1, by simp [World.setCell]; omega, fun h9 => ?_⟩
                    rcases hloc with h | h
                    · exact h3 (h.symm.trans h9)
                    · rw [h] at h9; cases h9; omega
                · have := heap_setCell_same w8 w3.heap.size 4 _ _ (.slice a8 (pk.2.2.length + 1) c8) B8.out
                  simpa using this
                · have := ownsRow_keeps (w' := w8.setCell ⟨w3.heap.size, 4, none⟩ (.slice a8 (pk.2.2.length + 1) c8)) hown8 (fun g hg => heap_setCell_other _ _ _ _ (fun h => by have h1 := (ownsRow_base hown8 hg).1; have h2 : g = w3.heap.size := h; omega))
                  simpa using this
                · exact HC06.out.andThen hcg (fun j hj h => h.elim (fun h => by have := (ownsRow_base HOWY.out h).1; omega) (fun h => .inr (.inr h)))
              case measure => simp [Lib.intOf]; omega
            · go_wp2_with fail
              go_roundw
              case rel =>
                exact ⟨k + 1, by omega, by go_num, (r2, r3, pk.2.2), .slice a6 pk.2.2.length c6, D3, by rw [HNX2.out, if_neg hpos], HVS6.out, HD4.out, HB6.out, HOWN6.out, HC06.out⟩
              case measure => simp [Lib.intOf]; omega
          · obtain rfl : k = kids.length := by omega
            have hpk2 : plK layL d.given kids pr = pk := by unfold plK; rw [List.take_length] at hpk; exact hpk
            have HPK2 := Lib.hid hpk2
            have hgn := HGN.out
            rw [List.take_length] at hgK
            obtain ⟨y0, y1, y2, y3, y4, y5, y6⟩ := cells7 hcy
            have i1 : IntsIn (fun j => w3.heap.size + 1 ≤ j ∧ j < wr.heap.size) wr (.slice a6 pk.2.2.length c6) pk.2.2 := (intsIn_row howy).bound.mono (fun j hj => ⟨by have h9 : wa.heap.size ≤ j := hj.1; omega, hj.2⟩)
            have i2 : IntsIn (fun j => w3.heap.size + 1 ≤ j ∧ j < wr.heap.size) wr (.slice a5 pr.2.2.length c5) pr.2.2 := (intsIn_row hownA).bound.mono (fun j hj => ⟨hj.1, hj.2⟩)
            have hlay := hVSy.lay (E := fun j => w3.heap.size + 1 ≤ j ∧ j < wr.heap.size) (by show pk.2.1.length ≤ _; omega) (d.given + 1) (r := ⟨kind, name, text, max parent 0, pk.2.2, pr.2.2, false⟩) (x := recV ⟨kind, name, text, max parent 0, pk.2.2, pr.2.2, false⟩ (.slice a6 pk.2.2.length c6) (.slice a5 pr.2.2.length c5)) ⟨by show pk.2.2.length * 8 ≤ _; omega, by show pr.2.2.length * 8 ≤ _; omega⟩ ⟨_, _, rfl, i1, i2⟩ (fun j hj => ⟨hj.2, by omega, fun h => by have := (HVS.out.rl _ h).1; omega⟩)
            have HLAY := Lib.hid hlay
            have HCHY := Lib.hid hchy
            have HDY := Lib.hid hD2
            clear hVSy hD2 hcy howy hchy hownA hlenK hpk hpk2 hlay i1 i2 hgn hmuK hgK hgA hbr
            go_wp2_with fail
            refine HLAY.out.mono ?_
            rintro e w6 ⟨rfl, hVS6, hc6⟩
            have hs6 := hc6.size
            have HVS6 := Lib.hid hVS6
            have HC6 := Lib.hid hc6
            clear hVS6 hc6
            go_wp2
            go_ret
            rw [← HRES0.out, if_pos trivial, HPR2.out, HPK2.out]
            refine ⟨rfl, ⟨_, HVS6.out, fun j hj => ?_⟩, ?_⟩
            · rcases hj with (hj | hj) | hj
              · rcases HDY.out j hj with h | h
                · rcases HDR.out j h with h | h
                  · exact .inl h
                  · exact .inr ⟨by omega, by omega⟩
                · exact .inr ⟨by omega, by omega⟩
              · exact .inr ⟨by omega, by omega⟩
              · exact .inr ⟨by omega, hj.2⟩
            · have k1 : Chg (fun j => j = v ∨ Rd j) w W4 := (HC3.out.mono (fun j h => .inr h)).trans (chg_new HB4.out)
              have k2 : Chg (fun j => j = v ∨ Rd j) w wa := k1.andThen HCHR.out (fun j hj h => h.elim .inl (fun h => h.elim .inr (fun h => by omega)))
              have k3 : Chg (fun j => j = v ∨ Rd j) w wr := k2.andThen HCHY.out (fun j hj h => h.elim .inl (fun h => h.elim .inr (fun h => by omega)))
              exact k3.trans (HC6.out.mono (fun j h => .inl h))
theorem rplant_upto : ∀ n, RPlantUpto n
  | 0 => fun t _ _ _ _ _ _ _ _ _ _ _ _ hn => by have := size_pos t; omega
  | n + 1 => rplant_step n (rplant_upto n)
theorem rplant_any {t : Tr} {D Rd Dd F : Nat → Prop} {w : World} {v s : Nat} {V : RVw} {d : Doc} {av kv : Value} (parent : Int) (hVS : RVS D Rd Dd w v (.pointer (some ⟨s, 0, none⟩)) V d) (hT : TrIn F w t av kv) (hF : ∀ k, F k → k < w.heap.size ∧ k ≠ v ∧ ¬ Rd k) (h0 : 0 ≤ d.given) (hg : d.given + t.size ≤ 1099511627776) (hl : V.own.length + t.size ≤ 1000000000) :
    Calls Try.prog 73 #[.pointer (some ⟨v, 0, none⟩), trV t av kv, .int .i64 parent] w (RPlantPost D Rd Dd w v (.pointer (some ⟨s, 0, none⟩)) V.time d (plantT layL t parent (d.given, V.own))) :=
  rplant_upto t.size t D Rd Dd F w v s V d av kv parent (Nat.le_refl _) hVS hT hF h0 hg hl
end Go.Proofs.Ytinkjhkbaadbpaa
