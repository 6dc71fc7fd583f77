/- Plant (62), the walk. -/
import Derived.Test.YtinkjhkbaadbpaaPT
namespace Go.Proofs.Ytinkjhkbaadbpaa
open Go.RowKit
open Go.ChangeMaps (setBlock)
set_option linter.unusedVariables false

/-- what Plant promises of the trees that are smaller than n -/
def PlantUpto (n : Nat) : Prop := ∀ (t : Tr) (R Ds D F : Nat → Prop) (w : World) (v m s : Nat) (V : Vw) (S : Store) (av kv : Value) (parent : Int), t.size ≤ n →
  VS R Ds D w v m (.pointer (some ⟨s, 0, none⟩)) V S → TrIn F w t av kv → (∀ k, F k → k < w.heap.size ∧ k ≠ m ∧ k ≠ v ∧ ¬ R k) → 0 ≤ S.given → S.given + t.size ≤ 1099511627776 →
  Calls Try.prog 62 #[.pointer (some ⟨v, 0, none⟩), trV t av kv, .int .i64 parent] w (PlantPost R Ds D w v m (.pointer (some ⟨s, 0, none⟩)) V.time S (plantT putO t parent (S.given, V.own)))

set_option maxRecDepth 100000 in
set_option maxHeartbeats 4000000 in
theorem plant_step (n : Nat) (ih : PlantUpto n) : PlantUpto (n + 1) := by
  intro t R Ds D F w v m s V S av kv parent hn hVS hT hF h0 hg
  obtain ⟨kind, name, text, attrs, kids⟩ := t
  simp only [TrIn] at hT
  obtain ⟨hA, zs, hK, hKs⟩ := hT
  obtain ⟨a1, c1, rfl, hal, hac⟩ := hA
  obtain ⟨a2, c2, rfl, hkl, hkc⟩ := hK
  obtain ⟨hvl, hml⟩ := hVS.view.lt
  obtain ⟨i0, hi, hz0, hz1, hz2⟩ := info_parts Try.info3
  have hcell := hVS.view.cell
  simp only [Tr.size] at hn hg
  obtain ⟨W, hW⟩ : ∃ W, w.alloc (.cells #[.int .i64 kind, .string name, .string text, .slice a1 attrs.length c1, .slice a2 kids.length c2] 25) = W := ⟨_, rfl⟩
  have hbW : Below w.heap.size w W := by rw [← hW]; exact (Below.refl _ _).alloc (Nat.le_refl _) _
  have hlW : w.heap.size < W.heap.size := by rw [← hW]; simp
  have hx0 : W.heap[w.heap.size]? = some (.cells #[.int .i64 kind, .string name, .string text, .slice a1 attrs.length c1, .slice a2 kids.length c2] 25 (0, 0)) := by rw [← hW]; exact Go.heap_alloc_new _ _
  have HNO := Lib.hid (vnone_any (w := W) ((hbW.block v hvl).trans hcell))
  have HPL := Lib.hid (plants_any kind name text (.slice a1 attrs.length c1) (.slice a2 kids.length c2) W)
  have hVSW := hVS.below hbW
  have HVS := Lib.hid hVS
  have HVSW := Lib.hid hVSW
  have HKS := Lib.hid hKs
  have HAC := Lib.hid hac
  have HKC := Lib.hid hkc
  have HF := Lib.hid hF
  have HW := Lib.hid hW
  have HBW := Lib.hid hbW
  have HX0 := Lib.hid hx0
  have HCELL := Lib.hid hcell
  have HIH := Lib.hid ih
  obtain ⟨x0, x1, x2, x3, x4⟩ : W.cell? ⟨w.heap.size, 0, none⟩ = some (.int .i64 kind) ∧ W.cell? ⟨w.heap.size, 1, none⟩ = some (.string name) ∧ W.cell? ⟨w.heap.size, 2, none⟩ = some (.string text) ∧ W.cell? ⟨w.heap.size, 3, none⟩ = some (.slice a1 attrs.length c1) ∧ W.cell? ⟨w.heap.size, 4, none⟩ = some (.slice a2 kids.length c2) := by
    refine ⟨?_, ?_, ?_, ?_, ?_⟩ <;> simp [World.cell?, hx0]
  clear hVS hVSW hKs hac hkc hF hW hbW hx0 hcell ih
  rw [plantT_eq]
  show Calls Try.prog 62 #[.pointer (some ⟨v, 0, none⟩), .agg #[.int .i64 kind, .string name, .string text, .slice a1 attrs.length c1, .slice a2 kids.length c2], .int .i64 parent] w _
  by_cases hp : plants kind = true
  · rw [if_pos hp]
    rw [hp] at HPL
    go_enter Try.func62, Try.ntmps62
    go_wp2_with fail
    rw [HW.out]
    refine HNO.out.mono ?_
    rintro e w1 ⟨rfl, rfl⟩
    go_wp2_with fail
    refine HPL.out.mono ?_
    rintro e w2 ⟨rfl, hb2⟩
    have hbb := HBW.out.trans (hb2.mono HBW.out.size)
    have hfr := (HVSW.out.below hb2).fresh h0 (by omega)
    have q0 : w2.cell? ⟨v, 0, none⟩ = some (.pointer (some ⟨s, 0, none⟩)) := by simp [World.cell?, (hbb.block v hvl).trans HCELL.out]
    have HFR := Lib.hid hfr
    have HBB := Lib.hid hbb
    have HX2 := Lib.hid ((hb2.block w.heap.size hlW).trans HX0.out)
    have HS2 := Lib.hid hb2.size
    clear hb2 hbb hfr
    go_wp2_with fail
    refine HFR.out.mono ?_
    rintro e w3 ⟨rfl, hVS3, hc3⟩
    have hs3 := hc3.size
    have hb3 : w3.heap[w.heap.size]? = some (.cells #[.int .i64 kind, .string name, .string text, .slice a1 attrs.length c1, .slice a2 kids.length c2] 25 (0, 0)) := (hc3.block w.heap.size (by have := HS2.out; omega) (fun hR => by have := (HVS.out.rl _ hR).1; omega)).trans HX2.out
    have hlt3 : w.heap.size < w3.heap.size := by have := HS2.out; omega
    obtain ⟨r0, r1, r2, r3, r4⟩ : w3.cell? ⟨w.heap.size, 0, none⟩ = some (.int .i64 kind) ∧ w3.cell? ⟨w.heap.size, 1, none⟩ = some (.string name) ∧ w3.cell? ⟨w.heap.size, 2, none⟩ = some (.string text) ∧ w3.cell? ⟨w.heap.size, 3, none⟩ = some (.slice a1 attrs.length c1) ∧ w3.cell? ⟨w.heap.size, 4, none⟩ = some (.slice a2 kids.length c2) := by
      refine ⟨?_, ?_, ?_, ?_, ?_⟩ <;> simp [World.cell?, hb3]
    have hc03 : Chg R w w3 := (chg_new HBB.out).trans hc3
    have HVS3 := Lib.hid hVS3
    have HC3 := Lib.hid hc03
    have HB3 := Lib.hid hb3
    clear hVS3 hc3 hb3 hc03 q0
    go_wp2_with fail
    obtain ⟨W4, hW4⟩ : ∃ W4, w3.alloc (.cells #[.int .i64 kind, .string name, .string text, .int .i64 (max parent 0), .slice none 0 0, .slice none 0 0, .bool false] 52) = W4 := ⟨_, rfl⟩
    have hb4 : Below w3.heap.size w3 W4 := by rw [← hW4]; exact (Below.refl _ _).alloc (Nat.le_refl _) _
    have hs4 : W4.heap.size = w3.heap.size + 1 := by rw [← hW4]; simp
    have hr4 : W4.heap[w3.heap.size]? = some (.cells #[.int .i64 kind, .string name, .string text, .int .i64 (max parent 0), .slice none 0 0, .slice none 0 0, .bool false] 52 (0, 0)) := by rw [← hW4]; exact Go.heap_alloc_new _ _
    have HB4 := Lib.hid hb4
    have HR4 := Lib.hid hr4
    have HW4 := Lib.hid hW4
    rw [hW4]
    clear hb4 hr4 hW4
    go_loopw [39] (fun i wr => ∃ k : Nat, k ≤ attrs.length ∧ i = .int .i64 k ∧ ∃ (pr : Int × Owns × List Int) (sv : Value), plantAs putO (S.given + 1) (attrs.take k) (S.given + 1, V.own, []) = pr ∧
      VS R Ds D wr v m (.pointer (some ⟨s, 0, none⟩)) ⟨pr.2.1, V.time⟩ { S with given := pr.1 } ∧ wr.heap[w3.heap.size]? = some (.cells #[.int .i64 kind, .string name, .string text, .int .i64 (max parent 0), .slice none 0 0, sv, .bool false] 52 (0, 0)) ∧
      wr.ownsRow (w3.heap.size + 1) 3 1 sv pr.2.2.length (pr.2.2.map iv) ∧ Chg (fun j => j = m ∨ R j ∨ j = w3.heap.size) W4 wr) (fun i _ => attrs.length - (Lib.intOf i).toNat)
    case atStart => exact ⟨0, Nat.zero_le _, rfl, _, _, rfl, HVS3.out.below HB4.out, HR4.out, World.ownsRow_nil _ _ _ _, Chg.refl _ _⟩
    case round =>
      obtain ⟨k, hk, rfl, pr, sv, hpr, hVSr, hcr, hown, hchr⟩ := hrel
      obtain ⟨a5, c5, rfl⟩ := ownsRow_shape hown
      have HVSR := Lib.hid hVSr
      have HCR := Lib.hid hcr
      have HOWN := Lib.hid hown
      have HCHR := Lib.hid hchr
      have HPR := Lib.hid hpr
      have hlr : W4.heap.size ≤ wr.heap.size := hchr.size
      have hold : ∀ j, j < w.heap.size → j ≠ m → ¬ R j → wr.heap[j]? = w.heap[j]? := fun j hj hm hR => by
        rw [hchr.block j (by omega) (fun h => h.elim hm (fun h => h.elim hR (fun h => by omega))), HB4.out.block j (by omega), HC3.out.block j hj hR]
      have HOLD := Lib.hid hold
      by_cases hlt : k < attrs.length
      · obtain ⟨p, hpk⟩ : ∃ p, attrs[k]? = some p := ⟨_, List.getElem?_eq_getElem hlt⟩
        have hnext : plantAs putO (S.given + 1) (attrs.take (k + 1)) (S.given + 1, V.own, []) = (pr.1 + 1, putO (pr.1 + 1) ⟨3, p.1, p.2, S.given + 1, [], [], false⟩ pr.2.1, pr.2.2 ++ [pr.1 + 1]) := by
          rw [List.take_add_one, hpk, Option.toList_some, plantAs_snoc, hpr]
        have hgk := plantAs_g putO (S.given + 1) (attrs.take k) (S.given + 1, V.own, [])
        rw [hpr] at hgk
        simp only [List.length_take, List.length_nil, Nat.min_eq_left hk] at hgk
        have HNX := Lib.hid hnext
        obtain ⟨ga, offa, rfl, hFa, hca⟩ : ∃ g off, a1 = some ⟨g, off, none⟩ ∧ F g ∧ ∀ j u, (attrL attrs)[j]? = some u → w.cell? ⟨g, off + j, none⟩ = some u := by
          rcases HAC.out with h | h
          · omega
          · exact h
        have hga := HF.out ga hFa
        have u0 : wr.cell? ⟨ga, offa + k * 2, none⟩ = some (.string p.1) := (World.cell?_of_block (a := ⟨ga, offa + k * 2, none⟩) (hold ga hga.1 hga.2.1 hga.2.2.2)).trans (hca _ _ (attrL_get hpk).1)
        have u1 : wr.cell? ⟨ga, offa + k * 2 + 1, none⟩ = some (.string p.2) := (World.cell?_of_block (a := ⟨ga, offa + k * 2 + 1, none⟩) (hold ga hga.1 hga.2.1 hga.2.2.2)).trans (hca _ _ (attrL_get hpk).2)
        have hk0 : (0 : Int) ≤ k := by omega
        have hkl : (k : Int) < attrs.length := by omega
        have hgr := hgk.1
        have hgn := hgk.2
        have hb5 : Below wr.heap.size wr (wr.alloc (.cells #[.string p.1, .string p.2] 155)) := (Below.refl _ _).alloc (Nat.le_refl _) _
        have hfr5 := (hVSr.below hb5).fresh (by show 0 ≤ pr.1; omega) (by show pr.1 < _; omega)
        have v0 : (wr.alloc (.cells #[.string p.1, .string p.2] 155)).cell? ⟨v, 0, none⟩ = some (.pointer (some ⟨s, 0, none⟩)) := by simp [World.cell?, (hVSr.below hb5).view.cell]
        have HGR := Lib.hid hgr
        have HGN := Lib.hid hgn
        have HFR5 := Lib.hid hfr5
        have HB5 := Lib.hid hb5
        clear hgr hgn hnext hgk hca hfr5 hb5 hVSr hcr hown hchr hpr hold
        go_wp2_with fail
        refine HFR5.out.mono ?_
        rintro e w6 ⟨rfl, hVS6, hc6⟩
        have hs6 := hc6.size
        simp only [World.size_alloc] at hs6
        have hold6 : ∀ j, w.heap.size ≤ j → j < wr.heap.size → w6.heap[j]? = wr.heap[j]? := fun j h1 h2 => by
          rw [hc6.block j (by simp; omega) (fun hR => by have := (HVS.out.rl _ hR).1; omega)]
          exact Go.heap_alloc_old _ _ h2
        have t6 : w6.heap[wr.heap.size]? = some (.cells #[.string p.1, .string p.2] 155 (0, 0)) := (hc6.block wr.heap.size (by simp) (fun hR => by have := (HVS.out.rl _ hR).1; omega)).trans (Go.heap_alloc_new _ _)
        have b6 := (hold6 w3.heap.size (by omega) (by omega)).trans HCR.out
        have own6 := ownsRow_keeps HOWN.out (fun g hg => by have := ownsRow_base HOWN.out hg; exact hold6 g (by omega) this.2 : ∀ g, (Value.slice a5 pr.2.2.length c5).ownBlock = some g → w6.heap[g]? = wr.heap[g]?)
        have v6 : w6.cell? ⟨v, 2, none⟩ = some (.map (some m)) := by simp [World.cell?, hVS6.view.cell]
        have t60 : w6.cell? ⟨wr.heap.size, 0, none⟩ = some (.string p.1) := by simp [World.cell?, t6]
        have t61 : w6.cell? ⟨wr.heap.size, 1, none⟩ = some (.string p.2) := by simp [World.cell?, t6]
        obtain ⟨f, hmf, hset⟩ := (hVS6.below (Below.refl _ _).drew).map (E := fun _ => False) (id := pr.1 + 1) (r := ⟨3, p.1, p.2, S.given + 1, [], [], false⟩) (x := recV ⟨3, p.1, p.2, S.given + 1, [], [], false⟩ (.slice none 0 0) (.slice none 0 0)) ⟨by simp, by simp⟩ ⟨_, _, rfl, intsIn_nil _ _, intsIn_nil _ _⟩ (fun _ h => h.elim)
        obtain ⟨es', ck', hmu, hview⟩ := MapIs.store hmf key3 Try.underlying117 (pr.1 + 1) (recV ⟨3, p.1, p.2, S.given + 1, [], [], false⟩ (.slice none 0 0) (.slice none 0 0))
        have hm6 : m < w6.drew.heap.size := hmf.lt
        have hset2 := hset (.map es' ck') ⟨es', ck', heap_setBlock_same hm6 _, hview⟩
        have HSET := Lib.hid hset2
        have HC6 := Lib.hid hc6
        have B6 := Lib.hid b6
        have OWN6 := Lib.hid own6
        clear hVS6 hc6 hold6 t6 b6 own6 hmf hset hview hset2
        go_wp2_with fail
        go_region
        obtain ⟨w7, hw7⟩ : ∃ w7, setBlock w6.drew m (.map es' ck') = w7 := ⟨_, rfl⟩
        rw [hw7] at HSET
        rw [hw7]
        have hs7 : w7.heap.size = w6.heap.size := by
          have h := (show (setBlock w6.drew m (.map es' ck')).heap.size = w6.drew.heap.size by simp [setBlock])
          rw [← hw7]; exact h
        have k7 : ∀ j, j ≠ m → w7.heap[j]? = w6.heap[j]? := fun j hj => by rw [← hw7]; exact heap_setBlock_other _ hj
        have b7 := (k7 w3.heap.size (by omega)).trans B6.out
        have own7 := ownsRow_keeps OWN6.out (fun g hg => k7 g (by have := ownsRow_base OWN6.out hg; omega) : ∀ g, (Value.slice a5 pr.2.2.length c5).ownBlock = some g → w7.heap[g]? = w6.heap[g]?)
        have OWN7 := Lib.hid own7
        have B7 := Lib.hid b7
        obtain ⟨y0, y1, y2, y3, y4, y5, y6⟩ := cells7 b7
        have HS7 := Lib.hid hs7
        clear own7 b7 hw7 t60 t61 v6 hmu hs7
        go_wp2_with (at_builtin; go_loud (refine wpList_append_own_at _ rfl _ _ 33 rfl (w3.heap.size + 1) 3 i0 (.int .i64 0) 1 8 Try.underlying33 hi hz0 hz1 hz2 rfl (by decide) _ _ _ rfl (ownsRow_alloc OWN7.out _) ⟨w7.heap.size, 0, none⟩ 1 1 [iv (pr.1 + 1)] rfl rfl (cell_one_new _ _ _) (by simp [Value.oneCell']) (by have := HGN.out; unfold maxLen; omega) (by have := HGN.out; omega) (by have := HS7.out; simp; omega) ?_; intro v' w8 hown8 hgrow hnil hloc; have b8 := (hgrow.block w3.heap.size (by have := HS7.out; simp; omega) (fun h => by have := (ownsRow_base OWN7.out h.symm).1; omega)).trans ((Go.heap_alloc_old _ _ (by have := HS7.out; omega)).trans B7.out); obtain ⟨z0, z1, z2, z3, z4, z5, z6⟩ := cells7 b8; have fz := free_block b8 5; have B8 := Lib.hid b8; obtain ⟨a8, c8, rfl⟩ := ownsRow_shape hown8; clear b8))
        go_roundw
        case rel =>
          have hsd : (fun k => D k ∨ False) = D := by funext k; simp
          have hVS7 := HSET.out.1
          rw [hsd] at hVS7
          have hc7 := HSET.out.2
          have hs8 := hgrow.size
          simp only [World.size_alloc] at hs8
          have hcg : Chg (fun j => (Value.slice a5 pr.2.2.length c5).ownBlock = some j ∨ j = w3.heap.size) w7 (w8.setCell ⟨w3.heap.size, 5, none⟩ (.slice a8 (pr.2.2.length + 1) c8)) :=
            ((chg_alloc w7 _).trans (chg_grown hgrow (fun k h => .inl h))).trans (chg_set (M := fun j => (Value.slice a5 pr.2.2.length c5).ownBlock = some j ∨ j = w3.heap.size) (.inr rfl) 5 _)
          refine ⟨k + 1, by omega, by go_num, _, .slice a8 (pr.2.2.length + 1) c8, HNX.out, ?_, ?_, ?_, ?_⟩
          · refine hVS7.quiet hcg (fun j hj => ?_)
            have hj3 : w3.heap.size ≤ j := hj.elim (fun h => by have := (ownsRow_base OWN7.out h).1; omega) (fun h => by omega)
            exact ⟨by omega, by omega, fun h => by have := (HVS.out.rl _ h).1; omega, fun h => by have := (HVS.out.dl _ h).1; omega, fun h => by have := (HVS.out.dsl _ h).1; omega⟩
          · have := heap_setCell_same w8 w3.heap.size 5 _ _ (.slice a8 (pr.2.2.length + 1) c8) B8.out
            simpa using this
          · have := ownsRow_keeps (w' := w8.setCell ⟨w3.heap.size, 5, none⟩ (.slice a8 (pr.2.2.length + 1) c8)) hown8 (fun g hg => heap_setCell_other _ _ _ _ (fun h => by have h1 := (ownsRow_base hown8 hg).1; have h2 : g = w3.heap.size := h; omega))
            simpa using this
          · have c0 : Chg (fun j => j = m ∨ R j ∨ j = w3.heap.size) W4 w7 := (((HCHR.out.trans (chg_alloc wr _)).trans (HC6.out.mono (fun j h => .inr (.inl h)))).trans (chg_new (Below.refl _ _).drew)).trans (hc7.mono (fun j h => .inl h))
            exact c0.andThen hcg (fun j hj h => h.elim (fun h => by have := (ownsRow_base OWN7.out h).1; omega) (fun h => .inr (.inr h)))
        case measure => simp [Lib.intOf]; omega
      · obtain rfl : k = attrs.length := by omega
        have hpr2 : plA putO S.given attrs V.own = pr := by unfold plA; rw [List.take_length] at hpr; exact hpr
        rw [hpr2]
        have hbr : wr.heap[w.heap.size]? = some (.cells #[.int .i64 kind, .string name, .string text, .slice a1 attrs.length c1, .slice a2 kids.length c2] 25 (0, 0)) := by
          have hm : w.heap.size ≠ m := by omega
          have hR : ¬ R w.heap.size := fun h => by have := (HVS.out.rl _ h).1; omega
          rw [hchr.block w.heap.size (by omega) (fun h => h.elim hm (fun h => h.elim hR (fun h => by omega))), HB4.out.block w.heap.size hlt3]
          exact HB3.out
        have j4 : wr.cell? ⟨w.heap.size, 4, none⟩ = some (.slice a2 kids.length c2) := by simp [World.cell?, hbr]
        have HBR := Lib.hid hbr
        have HPR2 := Lib.hid hpr2
        clear hVSr hcr hown hchr hpr hold hpr2 hbr
        go_wp2_with fail
        obtain ⟨wa, rfl⟩ : ∃ wa, wa = wr := ⟨_, rfl⟩
        go_loopw [69] (fun i wy => ∃ k : Nat, k ≤ kids.length ∧ i = .int .i64 k ∧ ∃ (pk : Int × Owns × List Int) (sv2 : Value) (D' : Nat → Prop), plantKs putO (kids.take k) (S.given + 1) (pr.1, pr.2.1, []) = pk ∧
          VS R Ds D' wy v m (.pointer (some ⟨s, 0, none⟩)) ⟨pk.2.1, V.time⟩ { S with given := pk.1 } ∧ (∀ j, D' j → D j ∨ (wa.heap.size ≤ j ∧ j < wy.heap.size ∧ sv2.ownBlock ≠ some j)) ∧
          wy.heap[w3.heap.size]? = some (.cells #[.int .i64 kind, .string name, .string text, .int .i64 (max parent 0), sv2, .slice a5 pr.2.2.length c5, .bool false] 52 (0, 0)) ∧
          wy.ownsRow wa.heap.size 3 1 sv2 pk.2.2.length (pk.2.2.map iv) ∧ Chg (fun j => j = m ∨ R j ∨ j = w3.heap.size) wa wy) (fun i _ => kids.length - (Lib.intOf i).toNat)
        case atStart => exact ⟨0, Nat.zero_le _, rfl, _, _, D, rfl, HVSR.out, fun j h => .inl h, HCR.out, World.ownsRow_nil _ _ _ _, Chg.refl _ _⟩
        case round =>
          obtain ⟨k, hk, rfl, pk, sv2, D', hpk, hVSy, hD', hcy, howy, hchy⟩ := hrel
          obtain ⟨a6, c6, rfl⟩ := ownsRow_shape howy
          have hly : wa.heap.size ≤ wr.heap.size := hchy.size
          have hownA := ownsRow_keeps HOWN.out (fun g hg => hchy.block g (ownsRow_base HOWN.out hg).2 (fun h => by have h1 := (ownsRow_base HOWN.out hg).1; exact h.elim (fun h => by omega) (fun h => h.elim (fun h => by have := (HVS.out.rl _ h).1; omega) (fun h => by omega))))
          have hlenK := plantKs_len putO (S.given + 1) (kids.take k) (pr.1, pr.2.1, [])
          rw [hpk] at hlenK
          simp only [List.length_take, List.length_nil, Nat.min_eq_left hk] at hlenK
          by_cases hlt : k < kids.length
          · obtain ⟨tk, htk⟩ : ∃ tk, kids[k]? = some tk := ⟨_, List.getElem?_eq_getElem hlt⟩
            have hnext : plantKs putO (kids.take (k + 1)) (S.given + 1) (pr.1, pr.2.1, []) = plantK putO (S.given + 1) pk tk := by
              rw [List.take_add_one, htk, Option.toList_some, plantKs_snoc, hpk]
            obtain ⟨gb, offb, rfl, hFb, hcb⟩ : ∃ g off, a2 = some ⟨g, off, none⟩ ∧ F g ∧ ∀ j u, zs[j]? = some u → w.cell? ⟨g, off + j, none⟩ = some u := by
              rcases HKC.out with h | h
              · omega
              · exact h
            obtain ⟨avk, kvk, hTk, hck⟩ := HKS.out.get k tk htk
            have hszk := size_get htk
            obtain ⟨tkind, tname, ttext, tattrs, tkids⟩ := tk
            have hTk2 := hTk
            simp only [TrIn] at hTk2
            obtain ⟨⟨ak, ck1, rfl, -, -⟩, zk, ⟨bk, ck2, rfl, -, -⟩, -⟩ := hTk2
            have hgA := (plantAs_g putO (S.given + 1) attrs (S.given + 1, V.own, [])).1
            rw [show plantAs putO (S.given + 1) attrs (S.given + 1, V.own, []) = pr from HPR2.out] at hgA
            have hgK := plantKs_g putO (kids.take k) (S.given + 1) (pr.1, pr.2.1, [])
            rw [hpk] at hgK
            simp only at hgA hgK
            have hgb := HF.out gb hFb
            have holdy : ∀ j, j < w.heap.size → j ≠ m → ¬ R j → wr.heap[j]? = w.heap[j]? := fun j hj hm hR => by
              rw [hchy.block j (by omega) (fun h => h.elim hm (fun h => h.elim hR (fun h => by omega))), HOLD.out j hj hm hR]
            have hcell : ∀ c u, c < 5 → (trL (Tr.mk tkind tname ttext tattrs tkids) (.slice ak tattrs.length ck1) (.slice bk tkids.length ck2))[c]? = some u → wr.cell? ⟨gb, offb + k * 5 + c, none⟩ = some u := fun c u hc hu => by
              rw [Nat.add_assoc]
              exact (World.cell?_of_block (a := ⟨gb, offb + (k * 5 + c), none⟩) (holdy gb hgb.1 hgb.2.1 hgb.2.2.2)).trans (hcb _ _ ((hck c hc).trans hu))
            have u0 : wr.cell? ⟨gb, offb + k * 5, none⟩ = some (.int .i64 tkind) := hcell 0 _ (by omega) rfl
            have u1 : wr.cell? ⟨gb, offb + k * 5 + 1, none⟩ = some (.string tname) := hcell 1 _ (by omega) rfl
            have u2 : wr.cell? ⟨gb, offb + k * 5 + 2, none⟩ = some (.string ttext) := hcell 2 _ (by omega) rfl
            have u3 : wr.cell? ⟨gb, offb + k * 5 + 3, none⟩ = some (.slice ak tattrs.length ck1) := hcell 3 _ (by omega) rfl
            have u4 : wr.cell? ⟨gb, offb + k * 5 + 4, none⟩ = some (.slice bk tkids.length ck2) := hcell 4 _ (by omega) rfl
            obtain ⟨w5, hw5⟩ : ∃ w5, wr.alloc (.cells #[.int .i64 tkind, .string tname, .string ttext, .slice ak tattrs.length ck1, .slice bk tkids.length ck2] 25) = w5 := ⟨_, rfl⟩
            have hb5 : Below wr.heap.size wr w5 := by rw [← hw5]; exact (Below.refl _ _).alloc (Nat.le_refl _) _
            have hs5 : w5.heap.size = wr.heap.size + 1 := by rw [← hw5]; simp
            have t5 : w5.heap[wr.heap.size]? = some (.cells #[.int .i64 tkind, .string tname, .string ttext, .slice ak tattrs.length ck1, .slice bk tkids.length ck2] 25 (0, 0)) := by rw [← hw5]; exact Go.heap_alloc_new _ _
            obtain ⟨s0, s1, s2, s3, s4⟩ : w5.cell? ⟨wr.heap.size, 0, none⟩ = some (.int .i64 tkind) ∧ w5.cell? ⟨wr.heap.size, 1, none⟩ = some (.string tname) ∧ w5.cell? ⟨wr.heap.size, 2, none⟩ = some (.string ttext) ∧ w5.cell? ⟨wr.heap.size, 3, none⟩ = some (.slice ak tattrs.length ck1) ∧ w5.cell? ⟨wr.heap.size, 4, none⟩ = some (.slice bk tkids.length ck2) := by
              refine ⟨?_, ?_, ?_, ?_, ?_⟩ <;> simp [World.cell?, t5]
            have hsw : w.heap.size < wr.heap.size := by omega
            have hkF : Keeps F w w5 := fun j hj => by
              have h9 := HF.out j hj
              rw [hb5.block j (by omega), holdy j h9.1 h9.2.1 h9.2.2.2]
            have HIK := Lib.hid (HIH.out (Tr.mk tkind tname ttext tattrs tkids) R Ds D' F w5 v m s ⟨pk.2.1, V.time⟩ { S with given := pk.1 } (.slice ak tattrs.length ck1) (.slice bk tkids.length ck2) (S.given + 1) (by omega) (hVSy.below hb5) (TrIn.keep hkF (fun _ h => h) _ _ _ hTk) (fun j hj => by have h9 := HF.out j hj; exact ⟨by omega, h9.2⟩) (by show 0 ≤ pk.1; omega) (by show pk.1 + _ ≤ _; omega))
            obtain ⟨res, hres⟩ : ∃ res, plantT putO (Tr.mk tkind tname ttext tattrs tkids) (S.given + 1) (pk.1, pk.2.1) = res := ⟨_, rfl⟩
            have hnx2 : plantKs putO (kids.take (k + 1)) (S.given + 1) (pr.1, pr.2.1, []) = (res.2.1, res.2.2, if 0 < res.1 then pk.2.2 ++ [res.1] else pk.2.2) := by rw [hnext]; simp only [plantK]; rw [hres]
            have hk0 : (0 : Int) ≤ k := by omega
            have hkl2 : (k : Int) < kids.length := by omega
            have hszK := sizes_len kids
            have HRES := Lib.hid hres
            have HNX2 := Lib.hid hnx2
            have HW5 := Lib.hid hw5
            have HVSY := Lib.hid hVSy
            have HDY := Lib.hid hD'
            have HCY := Lib.hid hcy
            have HOWY := Lib.hid howy
            have HCHY := Lib.hid hchy
            have HB5 := Lib.hid hb5
            have HT5 := Lib.hid t5
            have HS5 := Lib.hid hs5
            clear hVSy hD' hcy howy hchy hownA hpk hnext hres hnx2 hw5 hb5 hck hcb hcell holdy hkF hTk t5 hs5 hgA hgK
            go_wp2_with fail
            rw [HW5.out]
            go_wp2_with fail
            refine HIK.out.mono ?_
            rintro e w6 ⟨rfl, ⟨D2, hVS6, hD2⟩, hc6⟩
            rw [HRES.out] at hVS6 ⊢
            have hs6 := hc6.size
            have hs56 : wr.heap.size + 1 ≤ w6.heap.size := by have := HS5.out; omega
            have hold6 : ∀ j, w.heap.size ≤ j → j < wr.heap.size → w6.heap[j]? = wr.heap[j]? := fun j h1 h2 => by
              have := HS5.out
              rw [hc6.block j (by omega) (fun h => h.elim (fun h => by omega) (fun h => by have := (HVS.out.rl _ h).1; omega)), HB5.out.block j h2]
            have b6 := (hold6 w3.heap.size (by omega) (by omega)).trans HCY.out
            have own6 := ownsRow_keeps HOWY.out (fun g hg => by have := ownsRow_base HOWY.out hg; exact hold6 g (by omega) this.2 : ∀ g, (Value.slice a6 pk.2.2.length c6).ownBlock = some g → w6.heap[g]? = wr.heap[g]?)
            obtain ⟨y0, y1, y2, y3, y4, y5, y6⟩ := cells7 b6
            have hD3 : ∀ j, D2 j → D j ∨ (wa.heap.size ≤ j ∧ j < w6.heap.size ∧ (Value.slice a6 pk.2.2.length c6).ownBlock ≠ some j) := fun j hj => by
              have hjl := (hVS6.dl j hj).1
              rcases hD2 j hj with h | h
              · rcases HDY.out j h with h | h
                · exact .inl h
                · exact .inr ⟨h.1, by omega, h.2.2⟩
              · have := HS5.out
                exact .inr ⟨by omega, by omega, fun h9 => by have := (ownsRow_base HOWY.out h9).2; omega⟩
            have hc06 : Chg (fun j => j = m ∨ R j ∨ j = w3.heap.size) wa w6 := (HCHY.out.trans (chg_new HB5.out)).trans (hc6.mono (fun j h => h.elim .inl (fun h => .inr (.inl h))))
            have HVS6 := Lib.hid hVS6
            have HD3 := Lib.hid hD3
            have HC06 := Lib.hid hc06
            have HOWN6 := Lib.hid own6
            have HB6 := Lib.hid b6
            clear hVS6 hD2 hc6 hold6 b6 own6 hD3 hc06 s0 s1 s2 s3 s4 u0 u1 u2 u3 u4
            obtain ⟨r1, r2, r3⟩ := res
            simp only at HNX2 HVS6 ⊢
            by_cases hpos : 0 < r1
            · go_wp2_with (at_builtin; go_loud (refine wpList_append_own_at _ rfl _ _ 33 rfl wa.heap.size 3 i0 (.int .i64 0) 1 8 Try.underlying33 hi hz0 hz1 hz2 rfl (by decide) _ _ _ rfl (ownsRow_alloc HOWN6.out _) ⟨w6.heap.size, 0, none⟩ 1 1 [iv r1] rfl rfl (cell_one_new _ _ _) (by simp [Value.oneCell']) (by unfold maxLen; omega) (by omega) (by simp; omega) ?_; intro v' w8 hown8 hgrow hnil hloc; have b8 := (hgrow.block w3.heap.size (by simp; omega) (fun h => by have := (ownsRow_base HOWN6.out h.symm).1; omega)).trans ((Go.heap_alloc_old _ _ (by omega)).trans HB6.out); obtain ⟨z0, z1, z2, z3, z4, z5, z6⟩ := cells7 b8; have fz := free_block b8 4; have B8 := Lib.hid b8; obtain ⟨a8, c8, rfl⟩ := ownsRow_shape hown8; clear b8))
              go_roundw
              case rel =>
                have hs8 := hgrow.size
                simp only [World.size_alloc] at hs8
                simp only [World.size_alloc] at hloc
                have hcg : Chg (fun j => (Value.slice a6 pk.2.2.length c6).ownBlock = some j ∨ j = w3.heap.size) w6 (w8.setCell ⟨w3.heap.size, 4, none⟩ (.slice a8 (pk.2.2.length + 1) c8)) :=
                  ((chg_alloc w6 _).trans (chg_grown hgrow (fun k h => .inl h))).trans (chg_set (M := fun j => (Value.slice a6 pk.2.2.length c6).ownBlock = some j ∨ j = w3.heap.size) (.inr rfl) 4 _)
                refine ⟨k + 1, by omega, by go_num, (r2, r3, pk.2.2 ++ [r1]), .slice a8 (pk.2.2.length + 1) c8, D2, ?_, ?_, ?_, ?_, ?_, ?_⟩
                · rw [HNX2.out, if_pos hpos]
                · refine HVS6.out.quiet hcg (fun j hj => ?_)
                  have hj3 : w3.heap.size ≤ j ∧ j < wr.heap.size := hj.elim (fun h => by have := ownsRow_base HOWY.out h; omega) (fun h => by omega)
                  refine ⟨by omega, by omega, fun h => by have := (HVS.out.rl _ h).1; omega, fun h => ?_, fun h => by have := (HVS.out.dsl _ h).1; omega⟩
                  rcases HD3.out j h with h | ⟨h1, h2, h3⟩
                  · have := (HVS.out.dl _ h).1; omega
                  · exact hj.elim h3 (fun h => by omega)
                · intro j hj
                  rcases HD3.out j hj with h | ⟨h1, h2, h3⟩
                  · exact .inl h
                  · refine .inr ⟨h1, by simp [World.setCell]; omega, fun h9 => ?_⟩
                    rcases hloc with h | h
                    · exact h3 (h.symm.trans h9)
                    · rw [h] at h9; cases h9; omega
                · have := heap_setCell_same w8 w3.heap.size 4 _ _ (.slice a8 (pk.2.2.length + 1) c8) B8.out
                  simpa using this
                · have := ownsRow_keeps (w' := w8.setCell ⟨w3.heap.size, 4, none⟩ (.slice a8 (pk.2.2.length + 1) c8)) hown8 (fun g hg => heap_setCell_other _ _ _ _ (fun h => by have h1 := (ownsRow_base hown8 hg).1; have h2 : g = w3.heap.size := h; omega))
                  simpa using this
                · exact HC06.out.andThen hcg (fun j hj h => h.elim (fun h => by have := (ownsRow_base HOWY.out h).1; omega) (fun h => .inr (.inr h)))
              case measure => simp [Lib.intOf]; omega
            · go_wp2_with fail
              go_roundw
              case rel =>
                exact ⟨k + 1, by omega, by go_num, (r2, r3, pk.2.2), .slice a6 pk.2.2.length c6, D2, by rw [HNX2.out, if_neg hpos], HVS6.out, HD3.out, HB6.out, HOWN6.out, HC06.out⟩
              case measure => simp [Lib.intOf]; omega
          · obtain rfl : k = kids.length := by omega
            have hpk2 : plK putO S.given kids pr = pk := by unfold plK; rw [List.take_length] at hpk; exact hpk
            have HPK2 := Lib.hid hpk2
            have hszK := sizes_len kids
            have hlenA := plantAs_g putO (S.given + 1) attrs (S.given + 1, V.own, [])
            rw [show plantAs putO (S.given + 1) attrs (S.given + 1, V.own, []) = pr from HPR2.out] at hlenA
            simp only [List.length_nil] at hlenA
            obtain ⟨y0, y1, y2, y3, y4, y5, y6⟩ := cells7 hcy
            have v6 : wr.cell? ⟨v, 2, none⟩ = some (.map (some m)) := by simp [World.cell?, hVSy.view.cell]
            have i1 : IntsIn (fun j => w3.heap.size + 1 ≤ j ∧ j < wr.heap.size) wr.drew (.slice a6 pk.2.2.length c6) pk.2.2 := (intsIn_row howy).bound.mono (fun j hj => ⟨by have h9 : wa.heap.size ≤ j := hj.1; omega, hj.2⟩)
            have i2 : IntsIn (fun j => w3.heap.size + 1 ≤ j ∧ j < wr.heap.size) wr.drew (.slice a5 pr.2.2.length c5) pr.2.2 := (intsIn_row hownA).bound.mono (fun j hj => ⟨hj.1, hj.2⟩)
            obtain ⟨f, hmf, hset⟩ := (hVSy.below (Below.refl _ _).drew).map (E := fun j => w3.heap.size + 1 ≤ j ∧ j < wr.heap.size) (id := S.given + 1) (r := ⟨kind, name, text, max parent 0, pk.2.2, pr.2.2, false⟩) (x := recV ⟨kind, name, text, max parent 0, pk.2.2, pr.2.2, false⟩ (.slice a6 pk.2.2.length c6) (.slice a5 pr.2.2.length c5)) ⟨by show pk.2.2.length * 8 ≤ _; omega, by show pr.2.2.length * 8 ≤ _; omega⟩ ⟨_, _, rfl, i1, i2⟩ (fun j hj => ⟨hj.2, by omega, by omega, fun h => by have := (HVS.out.rl _ h).1; omega⟩)
            obtain ⟨es', ck', hmu, hview⟩ := MapIs.store hmf key3 Try.underlying117 (S.given + 1) (recV ⟨kind, name, text, max parent 0, pk.2.2, pr.2.2, false⟩ (.slice a6 pk.2.2.length c6) (.slice a5 pr.2.2.length c5))
            have hset2 := hset (.map es' ck') ⟨es', ck', heap_setBlock_same hmf.lt _, hview⟩
            have HSET := Lib.hid hset2
            have HCHY := Lib.hid hchy
            have HD2 := Lib.hid hD'
            have HLY := Lib.hid hly
            clear hVSy hD' hcy howy hchy hownA hlenK hpk hpk2 hlenA hmf hset hview hset2 i1 i2 hly
            go_wp2_with fail
            go_region
            go_wp2
            go_ret
            rw [HPR2.out, HPK2.out]
            have hv9 := HSET.out.1
            have hc9 := HSET.out.2
            have hz9 : (setBlock wr.drew m (.map es' ck')).heap.size = wr.heap.size := by
              have h := (show (setBlock wr.drew m (.map es' ck')).heap.size = wr.drew.heap.size by simp [setBlock])
              exact h
            have hsa : w.heap.size ≤ wa.heap.size := by omega
            refine ⟨rfl, ⟨_, hv9, fun j hj => ?_⟩, ?_⟩
            · rw [hz9]
              rcases hj with hj | hj
              · rcases HD2.out j hj with h | h
                · exact .inl h
                · exact .inr ⟨by omega, h.2.1⟩
              · exact .inr ⟨by omega, hj.2⟩
            · have k1 : Chg (fun j => j = m ∨ R j) w W4 := (HC3.out.mono (fun j h => .inr h)).trans (chg_new HB4.out)
              have k2 : Chg (fun j => j = m ∨ R j) w wa := k1.andThen HCHR.out (fun j hj h => h.elim .inl (fun h => h.elim .inr (fun h => by omega)))
              have k3 : Chg (fun j => j = m ∨ R j) w wr := k2.andThen HCHY.out (fun j hj h => h.elim .inl (fun h => h.elim .inr (fun h => by omega)))
              exact (k3.trans (chg_new (Below.refl _ _).drew)).trans (hc9.mono (fun j h => .inl h))
  · have hp' : plants kind = false := by simpa using hp
    rw [if_neg hp]
    rw [hp'] at HPL
    go_enter Try.func62, Try.ntmps62
    go_wp2_with fail
    rw [HW.out]
    refine HNO.out.mono ?_
    rintro e w1 ⟨rfl, rfl⟩
    go_wp2_with fail
    refine HPL.out.mono ?_
    rintro e w2 ⟨rfl, hb2⟩
    have hbb := HBW.out.trans (hb2.mono HBW.out.size)
    have HBB := Lib.hid hbb
    clear hb2 hbb
    go_wp2
    go_ret
    exact ⟨rfl, ⟨D, HVS.out.below HBB.out, fun k hk => .inl hk⟩, chg_new HBB.out⟩
theorem plant_upto : ∀ n, PlantUpto n
  | 0 => fun t _ _ _ _ _ _ _ _ _ _ _ _ _ hn => by have := size_pos t; omega
  | n + 1 => plant_step n (plant_upto n)
/-- a tree is planted -/
theorem plant_any {t : Tr} {R Ds D F : Nat → Prop} {w : World} {v m s : Nat} {V : Vw} {S : Store} {av kv : Value} (parent : Int) (hVS : VS R Ds D w v m (.pointer (some ⟨s, 0, none⟩)) V S) (hT : TrIn F w t av kv) (hF : ∀ k, F k → k < w.heap.size ∧ k ≠ m ∧ k ≠ v ∧ ¬ R k) (h0 : 0 ≤ S.given) (hg : S.given + t.size ≤ 1099511627776) :
    Calls Try.prog 62 #[.pointer (some ⟨v, 0, none⟩), trV t av kv, .int .i64 parent] w (PlantPost R Ds D w v m (.pointer (some ⟨s, 0, none⟩)) V.time S (plantT putO t parent (S.given, V.own))) :=
  plant_upto t.size t R Ds D F w v m s V S av kv parent (Nat.le_refl _) hVS hT hF h0 hg
end Go.Proofs.Ytinkjhkbaadbpaa
