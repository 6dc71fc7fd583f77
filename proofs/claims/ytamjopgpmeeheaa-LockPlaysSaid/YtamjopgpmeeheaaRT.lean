/- The reference's Waits (25). -/
import Derived.Test.YtamjopgpmeeheaaPB
import Derived.Test.YtamjopgpmeeheaaRQ
import Derived.Test.YtamjopgpmeeheaaHE
import Derived.Deep.RegionHeld3
import Derived.Deep.CutBlock
import Derived.Deep.CutRange
import Derived.Deep.DeepCutAuto
import Derived.Outline
import Derived.Deep.QuietTactic
import Derived.BigQuiet
namespace Go.Proofs.Ytamjopgpmeeheaa
open Go.RowKit
set_option linter.unusedVariables false

/-- does other stand in the way, by the reference's lists? -/
def blockG (h q : List G3) (t m x : Int) : Bool := (h.any (fun g => g.1 == x && !compB g.2.2 m) || (q.takeWhile (fun g => g.1 != t)).any (fun g => g.1 == x)) && x != t
def waitsG (h q : List G3) (t m : Int) : Nat → List Int
  | 0 => []
  | n + 1 => if blockG h q t m (n + 1) = true then waitsG h q t m n ++ [((n : Int) + 1)] else waitsG h q t m n
theorem waitsG_few (h q : List G3) (t m : Int) : ∀ n, (waitsG h q t m n).length ≤ n
  | 0 => by simp [waitsG]
  | n + 1 => by
    unfold waitsG
    have := waitsG_few h q t m n
    split
    · rw [List.length_append]; simp; omega
    · omega
theorem waitsG_mem (h q : List G3) (t m : Int) : ∀ n, (waitsG h q t m n).Pairwise (· < ·) ∧ ∀ x, x ∈ waitsG h q t m n ↔ 1 ≤ x ∧ x ≤ n ∧ blockG h q t m x = true
  | 0 => ⟨by simp [waitsG], fun x => by simp [waitsG]; omega⟩
  | n + 1 => by
    obtain ⟨i1, i2⟩ := waitsG_mem h q t m n
    unfold waitsG
    by_cases hb : blockG h q t m (n + 1) = true
    · rw [if_pos hb]
      refine ⟨List.pairwise_append.2 ⟨i1, by simp, fun a ha b hb => ?_⟩, fun x => ?_⟩
      · have := ((i2 a).1 ha).2.1
        simp only [List.mem_singleton] at hb
        omega
      · rw [List.mem_append, i2, List.mem_singleton]
        constructor
        · rintro (⟨h1, h2, h3⟩ | rfl)
          · exact ⟨h1, by omega, h3⟩
          · exact ⟨by omega, by omega, hb⟩
        · rintro ⟨h1, h2, h3⟩
          by_cases e : x = n + 1
          · exact .inr e
          · exact .inl ⟨h1, by omega, h3⟩
    · rw [if_neg hb]
      refine ⟨i1, fun x => ?_⟩
      rw [i2]
      constructor
      · rintro ⟨h1, h2, h3⟩; exact ⟨h1, by omega, h3⟩
      · rintro ⟨h1, h2, h3⟩
        by_cases e : x = n + 1
        · subst e; exact absurd h3 hb
        · exact ⟨h1, by omega, h3⟩
theorem any_take {α : Type} {p : α → Bool} {l : List α} {k : Nat} {x : α} (hx : l[k]? = some x) : (l.take (k + 1)).any p = ((l.take k).any p || p x) := by
  rw [List.take_add_one, hx, List.any_append]; simp

theorem tris_open {F : Nat → Prop} {w : World} {a : Option Addr} {n cap : Nat} {l : List G3} (h : TrisIn F w (.slice a n cap) l) : True ∧ True ∧ True ∧ (l = [] ∨ ∃ g off, a = some ⟨g, off, none⟩ ∧ F g ∧ ∀ (k : Nat) (e : G3), l[k]? = some e → w.cell? ⟨g, off + k * 3, none⟩ = some (iv e.1) ∧ w.cell? ⟨g, off + k * 3 + 1, none⟩ = some (iv e.2.1) ∧ w.cell? ⟨g, off + k * 3 + 2, none⟩ = some (iv e.2.2)) := by
  obtain ⟨a', cap', e, q1, q2, q3⟩ := h
  simp only [Value.slice.injEq] at e
  obtain ⟨rfl, -, -⟩ := e
  exact ⟨trivial, trivial, trivial, q3⟩
theorem TrisIn.bound {F : Nat → Prop} {w : World} {v : Value} {l : List G3} (h : TrisIn F w v l) : TrisIn (fun b => F b ∧ b < w.heap.size) w v l := by
  obtain ⟨a, cap, rfl, h1, h2, rfl | ⟨g, off, rfl, hg, hc⟩⟩ := h
  · exact ⟨a, cap, rfl, h1, h2, .inl rfl⟩
  · by_cases hl : l = []
    · exact ⟨_, cap, rfl, h1, h2, .inl hl⟩
    · refine ⟨_, cap, rfl, h1, h2, .inr ⟨g, off, rfl, ⟨hg, ?_⟩, hc⟩⟩
      obtain ⟨e, r, rfl⟩ := List.exists_cons_of_ne_nil hl
      have := (hc 0 e rfl).1
      simp only [Nat.zero_mul, Nat.add_zero] at this
      exact World.block_lt_of_cell? w _ this
set_option maxRecDepth 100000 in
set_option maxHeartbeats 16000000 in
theorem rwaits_any {F : Nat → Prop} {w : World} {s : Nat} {hd wt : List G3} (h : RTab F w s hd wt) (hF : ∀ k, F k → k < w.heap.size ∧ k ≠ s) (hl : hd.length + wt.length ≤ 1000) (t : Int) :
    Calls Try.prog 25 #[.pointer (some ⟨s, 0, none⟩), iv t] w fun e w' => (∃ v zs, e = .returned v ∧ IntsIn (fun k => w.heap.size ≤ k ∧ k < w'.heap.size) w' v zs ∧ ((∃ nd m, wantG wt t = some (t, nd, m) ∧ zs = waitsG (atG hd nd) (atG wt nd) t m 1000) ∨ (wantG wt t = none ∧ zs = []))) ∧ Below w.heap.size w w' := by
  obtain ⟨i0, hi, hz0, hz1, hz2⟩ := info_parts Try.info3
  have hsl : s < w.heap.size := by obtain ⟨v1, v2, hc, -⟩ := h; exact (Array.getElem?_eq_some_iff.1 hc).1
  have HW := Lib.hid (rwants_any h (fun k hk => (hF k hk).1) t)
  have HR := Lib.hid h
  have HF := Lib.hid hF
  clear h hF
  go_enter Try.func25, Try.ntmps25
  go_wp2_with fail
  refine HW.out.mono ?_
  rintro e w1 ⟨⟨⟨g1, nd, m⟩, hg, rfl⟩ | ⟨hno, rfl⟩, hb1⟩
  rotate_left
  · have HNO := Lib.hid hno
    have HB := Lib.hid (hb1.alloc hb1.size (.cells #[iv 0, iv 0, iv 0] 34))
    clear hno hb1
    go_wp2
    go_ret
    exact ⟨⟨_, [], rfl, intsIn_nil _ _, .inr ⟨HNO.out, rfl⟩⟩, HB.out⟩
  obtain rfl : g1 = t := (want_some hg).2
  have HG := Lib.hid hg
  have hb2 : Below w.heap.size w (w1.alloc (.cells #[iv g1, iv nd, iv m] 34)) := hb1.alloc hb1.size _
  have hbn := Go.heap_alloc_new w1 (.cells #[iv g1, iv nd, iv m] 34)
  obtain ⟨W, hW⟩ : ∃ W, w1.alloc (.cells #[iv g1, iv nd, iv m] 34) = W := ⟨_, rfl⟩
  have hlw : w1.heap.size < W.heap.size := by rw [← hW]; simp
  rw [hW] at hb2 hbn
  have hkt : ∀ w', Below W.heap.size W w' → RTab F w' s hd wt := fun w' hb => HR.out.keep ((hb.block s (by have := hb2.size; omega)).trans (hb2.block s hsl)) (fun j hj => (hb.block j (by have := (HF.out j hj).1; have := hb2.size; omega)).trans (hb2.block j (HF.out j hj).1))
  have hkf : ∀ w', Below W.heap.size W w' → ∀ j, F j → j < w'.heap.size := fun w' hb j hj => by have := (HF.out j hj).1; have := hb2.size; have := hb.size; omega
  have h21 : ∀ w', Below W.heap.size W w' → Calls Try.prog 21 #[.pointer (some ⟨s, 0, none⟩), iv nd] w' fun e w'' => (∃ v', e = .returned v' ∧ TrisIn (fun k => w'.heap.size ≤ k ∧ k < w''.heap.size) w'' v' (atG hd nd)) ∧ Below w'.heap.size w' w'' := fun w' hb => rholders_any (hkt w' hb) (hkf w' hb) (by omega) nd
  have h22 : ∀ w', Below W.heap.size W w' → Calls Try.prog 22 #[.pointer (some ⟨s, 0, none⟩), iv nd] w' fun e w'' => (∃ v', e = .returned v' ∧ TrisIn (fun k => w'.heap.size ≤ k ∧ k < w''.heap.size) w'' v' (atG wt nd)) ∧ Below w'.heap.size w' w'' := fun w' hb => rqueue_any (hkt w' hb) (hkf w' hb) (by omega) nd
  have hss : ∀ w', Below W.heap.size W w' → w'.cell? ⟨w1.heap.size, 1, none⟩ = some (iv nd) := fun w' hb => (hb.cell (p := ⟨w1.heap.size, 1, none⟩) hlw).trans (box3 hbn).2.1
  have H21 := Lib.hid h21
  have H22 := Lib.hid h22
  have HSS := Lib.hid hss
  have HBN := Lib.hid hbn
  have HB2 := Lib.hid hb2
  have hcur : Below W.heap.size W W.drew := (Below.refl _ _).drew
  have hx1 : (w1.alloc (.cells #[iv g1, iv nd, iv m] 34)).cell? ⟨w1.heap.size, 1, none⟩ = some (iv nd) := by rw [hW]; exact (box3 hbn).2.1
  have HWW := Lib.hid hW
  clear hg hb1 hb2 hbn hkt hkf h21 h22 hss hW hx1
  go_upto_region 5 with fail
  rw [HWW.out]
  go_region_held3 (fun w' => w'.cell? ⟨w1.heap.size, 1, none⟩ = some (iv nd))
    (exact HSS.out _ hcur)
    (first
      | (go_at_call 21; refine (H21.out _ hcur).mono ?_; rintro e w3 ⟨⟨vh, rfl, hth⟩, hb3⟩; have HTH := Lib.hid hth; obtain ⟨ah, ch, rfl, -, -, -⟩ := hth; have hcur := hcur.trans (hb3.mono hcur.size); have HC3 := Lib.hid hb3; clear hb3)
      | (go_at_call 22; refine (H22.out _ hcur).mono ?_; rintro e w4 ⟨⟨vq, rfl, htq⟩, hb4⟩; have HTQ := Lib.hid htq; obtain ⟨aq, cq, rfl, -, -, -⟩ := htq; have hcur := hcur.trans (hb4.mono hcur.size); have HC4 := Lib.hid hb4; clear hb4))
  obtain ⟨Wb, rfl⟩ : ∃ Wb, Wb = w4 := ⟨w4, rfl⟩
  obtain ⟨H, hH⟩ : ∃ H, atG hd nd = H := ⟨_, rfl⟩
  obtain ⟨Q, hQ⟩ : ∃ Q, atG wt nd = Q := ⟨_, rfl⟩
  have hHl : H.length ≤ 1000 := by rw [← hH]; exact Nat.le_trans (List.length_filter_le ..) (by omega)
  have hQl : Q.length ≤ 1000 := by rw [← hQ]; exact Nat.le_trans (List.length_filter_le ..) (by omega)
  rw [hH] at HTH ⊢
  rw [hQ] at HTQ ⊢
  have HHQ := Lib.hid (And.intro hH hQ)
  have hsb := hcur.size
  have hth := (HTH.out.bound.mono (G := fun k => k < w3.heap.size) (fun k hk => hk.2)).keep (w' := Wb) (fun k hk => HC4.out.block k hk)
  have hs34 := HC4.out.size
  have hcw := hcur.cell (p := ⟨w1.heap.size, 2, none⟩) hlw
  have hm2 : Wb.cell? ⟨w1.heap.size, 2, none⟩ = some (iv m) := hcw.trans (box3 HBN.out).2.2
  have HBH := Lib.hid hth
  have HM2 := Lib.hid hm2
  have HB0 := Lib.hid (HB2.out.trans (hcur.mono HB2.out.size))
  have hlb : w1.heap.size < Wb.heap.size := by omega
  have hwb : w.heap.size ≤ Wb.heap.size := HB0.out.size
  obtain ⟨-, -, -, hhc⟩ := tris_open hth
  obtain ⟨-, -, -, hqc⟩ := tris_open HTQ.out
  have HHC := Lib.hid hhc
  have HQC := Lib.hid hqc
  clear hH hQ hcur hth hcw hm2 hhc hqc
  go_wp2
  go_loopw [7, 10] (fun v i wr => ∃ n : Nat, n ≤ 1000 ∧ i = .int .i64 ((n : Int) + 1) ∧ wr.ownsRow Wb.heap.size 3 1 v (waitsG H Q g1 m n).length ((waitsG H Q g1 m n).map iv) ∧ Below Wb.heap.size Wb wr) (fun v i _ => (1001 - Lib.intOf i).toNat)
  case atStart => exact ⟨0, Nat.zero_le _, rfl, World.ownsRow_nil _ _ _ _, Below.refl _ _⟩
  case round =>
    obtain ⟨n, hn, rfl, hown, hbn⟩ := hrel
    have HBN1 := Lib.hid hbn
    have hsn := hbn.size
    obtain ⟨av, cv, rfl⟩ := own_form hown
    have HOWN0 := Lib.hid hown
    have hfew := waitsG_few H Q g1 m n
    have m2 := (hbn.cell (p := ⟨w1.heap.size, 2, none⟩) hlb).trans HM2.out
    obtain ⟨nn, hnn⟩ : ∃ nn, (waitsG H Q g1 m n).length = nn := ⟨_, rfl⟩
    have HOWN := HOWN0
    rw [hnn] at HOWN hfew ⊢
    have HNN := Lib.hid hnn
    clear hown hbn hnn HOWN0
    obtain ⟨Wn, rfl⟩ : ∃ Wn, Wn = wr := ⟨wr, rfl⟩
    have M2 := Lib.hid m2
    clear m2
    by_cases hlt : n < 1000
    · have n0 : (0 : Int) ≤ (n : Int) + 1 := by omega
      have n1 : (n : Int) + 1 ≤ 1000 := by omega
      go_wp2
      go_loopw [11, 12] (fun b i wr => ∃ k : Nat, k ≤ H.length ∧ i = .int .i64 k ∧ b = .bool ((H.take k).any (fun g => g.1 == ((n : Int) + 1) && !compB g.2.2 m)) ∧ Below Wn.heap.size Wn wr) (fun b i _ => H.length - (Lib.intOf i).toNat)
      case atStart => exact ⟨0, Nat.zero_le _, rfl, rfl, Below.refl _ _⟩
      case round =>
        obtain ⟨k, hk, rfl, rfl, hbx⟩ := hrel
        have HBX := Lib.hid hbx
        have hsx := hbx.size
        have m2 := (hbx.cell (p := ⟨w1.heap.size, 2, none⟩) (by simp; omega)).trans M2.out
        clear hbx
        obtain ⟨b, hb⟩ : ∃ b, (H.take k).any (fun g => g.1 == ((n : Int) + 1) && !compB g.2.2 m) = b := ⟨_, rfl⟩
        rw [hb]
        have HB := Lib.hid hb
        clear hb
        by_cases hltk : k < H.length
        · obtain ⟨⟨x0, x1, x2⟩, hx⟩ : ∃ x, H[k]? = some x := ⟨_, List.getElem?_eq_getElem hltk⟩
          rcases HHC.out with h | ⟨g, off, rfl, hg, hcl⟩
          · rw [h] at hltk; simp at hltk
          obtain ⟨q0, q1, q2⟩ := hcl k _ hx
          have hgb : g < Wb.heap.size := by omega
          have d0 := ((HBX.out.cell (p := ⟨g, off + k * 3, none⟩) (by simp; omega)).trans (HBN1.out.cell (p := ⟨g, off + k * 3, none⟩) hgb)).trans q0
          have d2 := ((HBX.out.cell (p := ⟨g, off + k * 3 + 2, none⟩) (by simp; omega)).trans (HBN1.out.cell (p := ⟨g, off + k * 3 + 2, none⟩) hgb)).trans q2
          simp only at d0 d2
          have k0 : (0 : Int) ≤ (k : Int) := by omega
          have k1 : (k : Int) < (H.length : Int) := by omega
          have HST := Lib.hid (any_take (p := fun g => g.1 == ((n : Int) + 1) && !compB g.2.2 m) hx)
          obtain ⟨q, hq⟩ : ∃ q, (x0 == ((n : Int) + 1)) = q := ⟨_, rfl⟩
          obtain ⟨r, hr⟩ : ∃ r, compB x2 m = r := ⟨_, rfl⟩
          have hst : (H.take (k + 1)).any (fun g => g.1 == ((n : Int) + 1) && !compB g.2.2 m) = (b || (q && !r)) := by
            rw [HST.out, HB.out]; simp only [hq, hr]
          have HST2 := Lib.hid hst
          have hcmp : ∀ w' : World, Calls Try.prog 16 #[.int .i64 x2, .int .i64 m] w' fun e w'' => e = .returned (.bool r) ∧ Below w'.heap.size w' w'' := fun w' => by
            have := rcomp_any x2 m w'
            rw [hr] at this; exact this
          have HCMP := Lib.hid hcmp
          have hss : ∀ w', Below wr.heap.size wr w' → w'.cell? ⟨g, off + k * 3, none⟩ = some (iv x0) ∧ w'.cell? ⟨g, off + k * 3 + 2, none⟩ = some (iv x2) ∧ w'.cell? ⟨w1.heap.size, 2, none⟩ = some (iv m) := fun w' h => ⟨(h.cell (p := ⟨g, off + k * 3, none⟩) (by simp; omega)).trans d0, (h.cell (p := ⟨g, off + k * 3 + 2, none⟩) (by simp; omega)).trans d2, (h.cell (p := ⟨w1.heap.size, 2, none⟩) (by simp; omega)).trans m2⟩
          have HSS := Lib.hid hss
          clear q0 q1 q2 hcl hx hr hcmp hst hss HST
          go_upto_region 13 with fail
          cases b with
          | true =>
            go_quiet (fail)
            go_wp2
            go_roundw
            case rel => exact ⟨k + 1, by omega, by go_num, by rw [HST2.out]; rfl, HBX.out.trans ((below_drewN (Below.refl _ _) _).mono hsx)⟩
            case measure => simp [Lib.intOf]; omega
          | false =>
            cases q with
            | false =>
              go_quiet (fail)
              go_wp2
              go_roundw
              case rel => exact ⟨k + 1, by omega, by go_num, by rw [HST2.out]; rfl, HBX.out.trans ((below_drewN (Below.refl _ _) _).mono hsx)⟩
              case measure => simp [Lib.intOf]; omega
            | true =>
              have hcur : Below wr.heap.size wr wr.drew := (Below.refl _ _).drew
              clear d0 d2 m2
              go_region_held3 (fun w' => w'.cell? ⟨g, off + k * 3, none⟩ = some (iv x0) ∧ w'.cell? ⟨g, off + k * 3 + 2, none⟩ = some (iv x2) ∧ w'.cell? ⟨w1.heap.size, 2, none⟩ = some (iv m))
                (exact HSS.out _ hcur)
                (first
                  | (go_at_call 16; refine (HCMP.out _).mono ?_; rintro e w7 ⟨rfl, hb7⟩; have hcur := hcur.trans (hb7.mono hcur.size); clear hb7))
              all_goals
                have HCUR := Lib.hid hcur
                clear hcur
                go_wp2
                go_roundw
                case rel => exact ⟨k + 1, by omega, by go_num, by rw [HST2.out]; rfl, HBX.out.trans (HCUR.out.mono hsx)⟩
                case measure => simp [Lib.intOf]; omega
        · obtain rfl : k = H.length := by omega
          have HB1 := HB
          rw [List.take_length] at HB1
          obtain ⟨b1, hb1⟩ : ∃ b1, b1 = b := ⟨b, rfl⟩
          rw [← hb1] at HB1 ⊢
          clear HB hb1 m2
          obtain ⟨Wx, rfl⟩ : ∃ Wx, Wx = wr := ⟨wr, rfl⟩
          have HBX0 := HBX
          clear HBX
          go_wp2
          go_loopw [11, 13] (fun b i wr => ∃ k : Nat, k ≤ Q.length ∧ i = .int .i64 k ∧ b = .bool (b1 || (Q.take k).any (fun g => g.1 == ((n : Int) + 1))) ∧ (∀ g ∈ Q.take k, (g.1 != g1) = true) ∧ Below Wn.heap.size Wn wr) (fun b i _ => Q.length - (Lib.intOf i).toNat)
          case atStart => exact ⟨0, Nat.zero_le _, rfl, by simp, (fun g hg => by simp at hg), HBX0.out⟩
          case round =>
            obtain ⟨k, hk, rfl, rfl, hno, hbx⟩ := hrel
            have HBX := Lib.hid hbx
            have HNO := Lib.hid hno
            clear hbx hno HBX0
            by_cases hltk : k < Q.length
            · obtain ⟨⟨x0, x1, x2⟩, hx⟩ : ∃ x, Q[k]? = some x := ⟨_, List.getElem?_eq_getElem hltk⟩
              rcases HQC.out with h | ⟨g, off, rfl, hg, hcl⟩
              · rw [h] at hltk; simp at hltk
              obtain ⟨q0, q1, q2⟩ := hcl k _ hx
              have hgb : g < Wb.heap.size := by omega
              have d0 := ((HBX.out.cell (p := ⟨g, off + k * 3, none⟩) (by simp; omega)).trans (HBN1.out.cell (p := ⟨g, off + k * 3, none⟩) hgb)).trans q0
              simp only at d0
              have k0 : (0 : Int) ≤ (k : Int) := by omega
              have k1 : (k : Int) < (Q.length : Int) := by omega
              have HX := Lib.hid hx
              clear q0 q1 q2 hcl hx
              by_cases hxt : x0 = g1
              · have hxb : (x0 != g1) = false := by simp [hxt]
                have HTW := Lib.hid (show Q.takeWhile (fun g => g.1 != g1) = Q.take k from takeWhile_take (by omega) HNO.out (.inr ⟨_, HX.out, by simp [hxt]⟩))
                clear hxt
                obtain ⟨B2, hB2⟩ : ∃ B2, (b1 || ((Q.take k).any (fun g => g.1 == ((n : Int) + 1)))) = B2 := ⟨_, rfl⟩
                rw [hB2]
                have hbl : blockG H Q g1 m ((n : Int) + 1) = (B2 && ((n : Int) + 1) != g1) := by
                  unfold blockG
                  rw [HTW.out, HB1.out, hB2]
                have HBL := Lib.hid hbl
                clear hB2 hbl
                have hownr := ownsRow_keeps HOWN.out (w' := wr) (fun g hg => HBX.out.block g (ownsRow_base HOWN.out hg).2)
                have HOWNR := Lib.hid hownr
                have HBW := Lib.hid (HBN1.out.trans (HBX.out.mono hsn))
                have hsx := HBX.out.size
                clear hownr
                obtain ⟨p, hp⟩ : ∃ p, (((n : Int) + 1) != g1) = p := ⟨_, rfl⟩
                have HP := Lib.hid hp
                by_cases hbp : (B2 && p) = true
                · obtain ⟨rfl, rfl⟩ : B2 = true ∧ p = true := by simpa using hbp
                  have hst : waitsG H Q g1 m (n + 1) = waitsG H Q g1 m n ++ [((n : Int) + 1)] := by
                    rw [waitsG, if_pos (by have := HBL.out; rw [HP.out] at this; simpa using this)]
                  have HST := Lib.hid hst
                  clear hst hbp
                  go_wp2_with (at_builtin; refine wpList_append_own_at _ rfl _ _ 44 rfl Wb.heap.size 3 i0 (.int .i64 0) 1 8 Try.underlying44 hi hz0 hz1 hz2 rfl (by decide) _ _ _ rfl (ownsRow_alloc HOWNR.out _) ⟨wr.heap.size, 0, none⟩ 1 1 [iv ((n : Int) + 1)] rfl rfl (cell_one_new _ _ _) (by simp [Value.oneCell']) (by unfold maxLen; omega) (by omega) (by simp; omega) ?_; intro v' w7 hown7 hgrow hnil hloc; obtain ⟨a7, n7, c7, rfl⟩ := slice_form hown7)
                  go_roundw
                  case rel =>
                    refine ⟨n + 1, by omega, by go_num, ?_, ?_⟩
                    · rw [HST.out, List.map_append, List.length_append, HNN.out]; exact hown7
                    · exact (HBW.out.alloc HBW.out.size _).trans ⟨hgrow.os, hgrow.tape, hgrow.output, hgrow.size, fun j hj => hgrow.block j (by have := HBW.out.size; simp; omega) (fun e => by have := (ownsRow_base HOWNR.out e.symm).1; omega)⟩
                  case measure => simp [Lib.intOf]; omega
                · have hst : waitsG H Q g1 m (n + 1) = waitsG H Q g1 m n := by
                    rw [waitsG, if_neg (by rw [HBL.out, HP.out]; exact hbp)]
                  have HST := Lib.hid hst
                  have hcs : B2 = false ∨ (B2 = true ∧ p = false) := by revert hbp; cases B2 <;> cases p <;> simp
                  clear hst hbp
                  rcases hcs with rfl | ⟨rfl, rfl⟩
                  all_goals
                    go_wp2
                    go_roundw
                    case rel => exact ⟨n + 1, by omega, by go_num, by rw [HST.out, HNN.out]; exact HOWNR.out, HBW.out⟩
                    case measure => simp [Lib.intOf]; omega
              · have hxb : (x0 != g1) = true := by simp [hxt]
                have HNS := Lib.hid (no_snoc2 HNO.out HX.out (by simp [hxt]))
                have hst := any_take (p := fun g => g.1 == ((n : Int) + 1)) HX.out
                obtain ⟨b, hb⟩ : ∃ b, (b1 || (Q.take k).any (fun g => g.1 == ((n : Int) + 1))) = b := ⟨_, rfl⟩
                obtain ⟨q, hq⟩ : ∃ q, (x0 == ((n : Int) + 1)) = q := ⟨_, rfl⟩
                have hst2 : (b1 || (Q.take (k + 1)).any (fun g => g.1 == ((n : Int) + 1))) = (b || q) := by
                  rw [hst, ← Bool.or_assoc, hb]; simp only [hq]
                have HST := Lib.hid hst2
                rw [hb]
                clear hst hst2 hb hxt
                cases b <;> cases q
                all_goals
                  go_wp2
                  go_roundw
                  case rel => exact ⟨k + 1, by omega, by go_num, by rw [HST.out]; rfl, HNS.out, HBX.out⟩
                  case measure => simp [Lib.intOf]; omega
            · obtain rfl : k = Q.length := by omega
              have HTW := Lib.hid (show Q.takeWhile (fun g => g.1 != g1) = Q.take Q.length from takeWhile_take (by omega) HNO.out (.inl rfl))
              obtain ⟨B2, hB2⟩ : ∃ B2, (b1 || ((Q.take Q.length).any (fun g => g.1 == ((n : Int) + 1)))) = B2 := ⟨_, rfl⟩
              rw [hB2]
              have hbl : blockG H Q g1 m ((n : Int) + 1) = (B2 && ((n : Int) + 1) != g1) := by
                unfold blockG
                rw [HTW.out, HB1.out, hB2]
              have HBL := Lib.hid hbl
              clear hB2 hbl
              have hownr := ownsRow_keeps HOWN.out (w' := wr) (fun g hg => HBX.out.block g (ownsRow_base HOWN.out hg).2)
              have HOWNR := Lib.hid hownr
              have HBW := Lib.hid (HBN1.out.trans (HBX.out.mono hsn))
              have hsx := HBX.out.size
              clear hownr
              obtain ⟨p, hp⟩ : ∃ p, (((n : Int) + 1) != g1) = p := ⟨_, rfl⟩
              have HP := Lib.hid hp
              by_cases hbp : (B2 && p) = true
              · obtain ⟨rfl, rfl⟩ : B2 = true ∧ p = true := by simpa using hbp
                have hst : waitsG H Q g1 m (n + 1) = waitsG H Q g1 m n ++ [((n : Int) + 1)] := by
                  rw [waitsG, if_pos (by have := HBL.out; rw [HP.out] at this; simpa using this)]
                have HST := Lib.hid hst
                clear hst hbp
                go_wp2_with (at_builtin; refine wpList_append_own_at _ rfl _ _ 44 rfl Wb.heap.size 3 i0 (.int .i64 0) 1 8 Try.underlying44 hi hz0 hz1 hz2 rfl (by decide) _ _ _ rfl (ownsRow_alloc HOWNR.out _) ⟨wr.heap.size, 0, none⟩ 1 1 [iv ((n : Int) + 1)] rfl rfl (cell_one_new _ _ _) (by simp [Value.oneCell']) (by unfold maxLen; omega) (by omega) (by simp; omega) ?_; intro v' w7 hown7 hgrow hnil hloc; obtain ⟨a7, n7, c7, rfl⟩ := slice_form hown7)
                go_roundw
                case rel =>
                  refine ⟨n + 1, by omega, by go_num, ?_, ?_⟩
                  · rw [HST.out, List.map_append, List.length_append, HNN.out]; exact hown7
                  · exact (HBW.out.alloc HBW.out.size _).trans ⟨hgrow.os, hgrow.tape, hgrow.output, hgrow.size, fun j hj => hgrow.block j (by have := HBW.out.size; simp; omega) (fun e => by have := (ownsRow_base HOWNR.out e.symm).1; omega)⟩
                case measure => simp [Lib.intOf]; omega
              · have hst : waitsG H Q g1 m (n + 1) = waitsG H Q g1 m n := by
                  rw [waitsG, if_neg (by rw [HBL.out, HP.out]; exact hbp)]
                have HST := Lib.hid hst
                have hcs : B2 = false ∨ (B2 = true ∧ p = false) := by revert hbp; cases B2 <;> cases p <;> simp
                clear hst hbp
                rcases hcs with rfl | ⟨rfl, rfl⟩
                all_goals
                  go_wp2
                  go_roundw
                  case rel => exact ⟨n + 1, by omega, by go_num, by rw [HST.out, HNN.out]; exact HOWNR.out, HBW.out⟩
                  case measure => simp [Lib.intOf]; omega
    · obtain rfl : n = 1000 := by omega
      go_wp2
      go_ret
      have hrow := HOWN.out
      rw [← HNN.out] at hrow
      refine ⟨⟨_, _, (by rw [← HNN.out]; rfl), (intsIn_row hrow).bound.mono (fun k hk => ⟨by have := hk.1; unfold New at this; omega, hk.2⟩), .inl ⟨nd, m, HG.out, by rw [HHQ.out.1, HHQ.out.2]⟩⟩, HB0.out.trans (HBN1.out.mono hwb)⟩
end Go.Proofs.Ytamjopgpmeeheaa
