/- The reference's reach (17). -/
import Derived.Test.YtkfmgeddckcnkaaNU
namespace Go.Proofs.Ytkfmgeddckcnkaa
open Go.RowKit
set_option linter.unusedVariables false

def comesTo (l : List Edge) (t : Int) (zs : List Int) (x : Int) : Bool := decide (x = t) || zs.any (fun j => decide ((x, j) ∈ l))
def reachS (l : List Edge) (all : List Int) (t : Int) : Nat → List Int
  | 0 => [t]
  | s + 1 => all.filter (comesTo l t (reachS l all t s))
theorem reachS_length (l : List Edge) (all : List Int) (t : Int) (s : Nat) : (reachS l all t s).length ≤ all.length + 1 := by
  cases s with
  | zero => simp [reachS]
  | succ s => exact Nat.le_trans (List.length_filter_le _ _) (by omega)
theorem filter_snoc {p : Int → Bool} {xs : List Int} {k : Nat} {x : Int} (h : xs[k]? = some x) : (xs.take (k + 1)).filter p = (xs.take k).filter p ++ (if p x then [x] else []) := by
  rw [List.take_add_one, h, List.filter_append]
  cases hp : p x <;> simp [hp]
theorem comesTo_snoc {l : List Edge} {t x : Int} {zs : List Int} {j : Nat} {z : Int} (h : zs[j]? = some z) : comesTo l t (zs.take (j + 1)) x = (comesTo l t (zs.take j) x || decide ((x, z) ∈ l)) := by
  unfold comesTo
  rw [List.take_add_one, h]; simp [Bool.or_assoc]
theorem row_rel {w wr w7 : World} {v v' : Value} {ys ys2 : List Int} {x : Int} (hs : ys2 = ys ++ [x]) (hown : wr.ownsRow w.heap.size 3 1 v ys.length (ys.map iv)) (hb : Below w.heap.size w wr)
    (hown7 : w7.ownsRow w.heap.size 3 1 v' (ys.length + 1) (ys.map iv ++ [iv x])) (hg : (wr.alloc (.cells #[iv x] 3)).grownBy w7 v.ownBlock) :
    w7.ownsRow w.heap.size 3 1 v' ys2.length (ys2.map iv) ∧ Below w.heap.size w w7 := by
  subst hs
  have hch : Chg (fun j => w.heap.size ≤ j) _ w7 := chg_grown hg (fun k e => (ownsRow_base hown e).1)
  have hbw := hb.alloc hb.size (.cells #[iv x] 3)
  refine ⟨?_, hbw.trans ⟨hch.os, hch.tape, hch.output, hch.size, fun k hk => hch.block k (Nat.lt_of_lt_of_le hk hbw.size) (Nat.not_le_of_lt hk)⟩⟩
  rw [List.length_append, List.map_append]
  exact hown7
theorem ownsRow_drewN {w : World} {B e size m : Nat} {v : Value} {xs : List Value} (h : w.ownsRow B e size v m xs) (n : Nat) : (w.drewN n).ownsRow B e size v m xs := h

set_option maxRecDepth 100000 in
set_option maxHeartbeats 2000000 in
theorem reach_any {F G : Nat → Prop} {w : World} {v u : Value} {l : List Edge} {all : List Int} (h : EdgesIn F w v l) (hF : ∀ k, F k → k < w.heap.size) (ha : IntsIn G w u all) (hG : ∀ k, G k → k < w.heap.size) (hal : all.length ≤ 1000) (t : Int) (steps : Nat) (hst : steps ≤ 2000) :
    Calls Try.prog 17 #[v, u, iv t, iv steps] w fun e w' => (∃ r, e = .returned r ∧ IntsIn (fun k => w.heap.size ≤ k ∧ k < w'.heap.size) w' r (reachS l all t steps)) ∧ Below w.heap.size w w' := by
  obtain ⟨i0, hi, hz0, hz1, hz2⟩ := info_parts Try.info3
  have HE := Lib.hid h
  have HA := Lib.hid ha
  have HF := Lib.hid hF
  have HG := Lib.hid hG
  obtain ⟨a, cap, rfl, -, -, -⟩ := h
  obtain ⟨b, cap2, rfl, -, -, hxa⟩ := ha
  have HXA := Lib.hid hxa
  have HROW0 := Lib.hid (ownsRow_one w w.heap.size (Nat.le_refl _) t)
  clear hF hG hxa
  go_enter Try.func17, Try.ntmps17
  go_wp2
  go_loopw [9, 10] (fun inn i wr => ∃ s : Nat, s ≤ steps ∧ i = .int .i64 s ∧ IntsIn (fun k => w.heap.size ≤ k ∧ k < wr.heap.size) wr inn (reachS l all t s) ∧ Below w.heap.size w wr) (fun _ i _ => steps - (Lib.intOf i).toNat)
  case atStart => exact ⟨0, Nat.zero_le _, rfl, (intsIn_row HROW0.out).bound, (Below.refl _ _).alloc (Nat.le_refl _) _⟩
  case round =>
    obtain ⟨s, hs, rfl, hin, hbel⟩ := hrel
    have HIN := Lib.hid hin
    have HBEL := Lib.hid hbel
    have hsz := hbel.size
    have hzl := reachS_length l all t s
    obtain ⟨an, cn, rfl, -, -, hxn⟩ := hin
    have HXN := Lib.hid hxn
    clear hbel hxn
    by_cases hlt : s < steps
    · have HRS := Lib.hid (show reachS l all t (s + 1) = all.filter (comesTo l t (reachS l all t s)) from rfl)
      obtain ⟨zs, hzs⟩ : ∃ zs, reachS l all t s = zs := ⟨_, rfl⟩
      rw [hzs] at HRS hzl HIN HXN ⊢
      clear hzs
      have q0 : (s : Int) < (steps : Int) := by omega
      obtain ⟨W1, rfl⟩ : ∃ W1, W1 = wr := ⟨wr, rfl⟩
      go_wp2
      go_loopw [11, 12] (fun m i wx => ∃ (ov : Value) (k : Nat), ov = m ∧ k ≤ all.length ∧ i = .int .i64 k ∧ wx.ownsRow W1.heap.size 3 1 ov ((all.take k).filter (comesTo l t zs)).length (((all.take k).filter (comesTo l t zs)).map iv) ∧ Below W1.heap.size W1 wx) (fun _ i _ => all.length - (Lib.intOf i).toNat)
      case atStart => exact ⟨_, 0, rfl, Nat.zero_le _, rfl, World.ownsRow_nil _ _ _ _, Below.refl _ _⟩
      case round =>
        obtain ⟨ov, k, rfl, hk, rfl, hown, hb1⟩ := hrel
        have HOWN := Lib.hid hown
        have HB1 := Lib.hid hb1
        have hsz1 := hb1.size
        have hfl : ((all.take k).filter (comesTo l t zs)).length ≤ 1000 := Nat.le_trans (List.length_filter_le _ _) (by rw [List.length_take]; omega)
        clear hown hb1
        by_cases hka : k < all.length
        · obtain ⟨x, hx⟩ : ∃ x, all[k]? = some x := ⟨_, List.getElem?_eq_getElem hka⟩
          rcases HXA.out with h | ⟨ga, offa, rfl, hga, hca⟩
          · rw [h] at hka; simp at hka
          have HFS := Lib.hid (filter_snoc (p := comesTo l t zs) hx)
          have hgw : ga < w.heap.size := HG.out ga hga
          have dx : wr.cell? ⟨ga, offa + k, none⟩ = some (iv x) := ((HB1.out.cell (p := ⟨ga, offa + k, none⟩) (by simp; omega)).trans (HBEL.out.cell (p := ⟨ga, offa + k, none⟩) hgw)).trans (hca k x hx)
          have HDX := Lib.hid dx
          have k0 : (0 : Int) ≤ (k : Int) := by omega
          have k1 : (k : Int) < (all.length : Int) := by omega
          have HEW := Lib.hid (show EdgesIn F wr (.slice a l.length cap) l from HE.out.keep (fun b hb => (HB1.out.block b (by have := HF.out b hb; omega)).trans (HBEL.out.block b (HF.out b hb))))
          clear hca hx
          obtain ⟨W2, rfl⟩ : ∃ W2, W2 = wr := ⟨wr, rfl⟩
          go_wp2
          go_loopw [13, 14] (fun yes i wx => ∃ (j n : Nat), j ≤ zs.length ∧ i = .int .i64 j ∧ yes = .bool (comesTo l t (zs.take j) x) ∧ W2.drewN n = wx) (fun _ i _ => zs.length - (Lib.intOf i).toNat)
          case atStart => exact ⟨0, 0, Nat.zero_le _, rfl, by simp [comesTo, Bool.beq_eq_decide_eq], rfl⟩
          case round =>
            obtain ⟨j, n, hj, rfl, rfl, hwn⟩ := hrel
            have HWN := Lib.hid hwn
            by_cases hjl : j < zs.length
            · obtain ⟨z, hz⟩ : ∃ z, zs[j]? = some z := ⟨_, List.getElem?_eq_getElem hjl⟩
              have HSN := Lib.hid (comesTo_snoc (l := l) (t := t) (x := x) hz)
              rcases HXN.out with h | ⟨gn, offn, rfl, hgn, hcn⟩
              · rw [h] at hjl; simp at hjl
              have dz : wr.cell? ⟨gn, offn + j, none⟩ = some (iv z) := by
                rw [← hwn]; exact (HB1.out.cell (p := ⟨gn, offn + j, none⟩) hgn.2).trans (hcn j z hz)
              have dx' : wr.cell? ⟨ga, offa + k, none⟩ = some (iv x) := by rw [← hwn]; exact HDX.out
              have j0 : (0 : Int) ≤ (j : Int) := by omega
              have j1 : (j : Int) < (zs.length : Int) := by omega
              have HEX := Lib.hid (show ∀ n', EdgesIn F (wr.drewN n') (.slice a l.length cap) l from fun n' => by rw [← hwn]; exact HEW.out)
              obtain ⟨b, hb⟩ : ∃ b, comesTo l t (zs.take j) x = b := ⟨_, rfl⟩
              rw [hb] at HSN ⊢
              clear hcn hz hwn hb
              cases b with
              | true =>
                go_wp2_with fail
                go_quiet (fail)
                go_wp2
                go_roundw
                case rel => exact ⟨j + 1, _, by omega, by go_num, by rw [HSN.out]; rfl, by rw [← HWN.out, drewN_drewN]⟩
                case measure => simp [Lib.intOf]; omega
              | false =>
                go_wp2_with fail
                go_quiet ((go_at_call 18; exact Calls.quiet_of_same ((has_any (HEX.out _) x z).mono (fun _ _ h => ⟨h.1, h.2.symm⟩))))
                go_wp2
                go_roundw
                case rel => exact ⟨j + 1, _, by omega, by go_num, by rw [HSN.out]; rfl, by rw [← HWN.out, drewN_drewN]⟩
                case measure => simp [Lib.intOf]; omega
            · obtain rfl : j = zs.length := by omega
              rw [List.take_length]
              obtain ⟨b, hb⟩ : ∃ b, comesTo l t zs x = b := ⟨_, rfl⟩
              rw [hb] at HFS ⊢
              have dx' : wr.cell? ⟨ga, offa + k, none⟩ = some (iv x) := by rw [← hwn]; exact HDX.out
              have hownr : wr.ownsRow W1.heap.size 3 1 ov ((all.take k).filter (comesTo l t zs)).length (((all.take k).filter (comesTo l t zs)).map iv) := by rw [← hwn]; exact HOWN.out
              have hbr : Below W1.heap.size W1 wr := by rw [← hwn]; exact below_drewN HB1.out _
              have HOWNR := Lib.hid hownr
              have HBR := Lib.hid hbr
              have HC1 := Lib.hid (cell_one_new wr (iv x) 3)
              have hsz2 := hbr.size
              clear hb hwn hownr hbr
              cases b with
              | true =>
                go_wp2_with ((at_builtin; refine wpList_append_own_at _ rfl _ _ 27 rfl W1.heap.size 3 i0 (.int .i64 0) 1 8 Try.underlying27 hi hz0 hz1 hz2 rfl (by decide) _ _ _ rfl (ownsRow_alloc HOWNR.out _) ⟨wr.heap.size, 0, none⟩ 1 1 [iv x] rfl rfl HC1.out (by simp [Value.oneCell']) (by unfold maxLen; omega) (by omega) (by simp; omega) ?_; intro v' w7 hown7 hgrow hnil hloc))
                go_roundw
                case rel =>
                  have := row_rel HFS.out HOWNR.out HBR.out hown7 hgrow
                  exact ⟨_, k + 1, rfl, by omega, by go_num, this.1, this.2⟩
                case measure => simp [Lib.intOf]; omega
              | false =>
                go_wp2
                go_roundw
                case rel => exact ⟨_, k + 1, rfl, by omega, by go_num, by rw [HFS.out]; simp only [Bool.false_eq_true, if_false, List.append_nil]; exact HOWNR.out, HBR.out⟩
                case measure => simp [Lib.intOf]; omega
        · obtain rfl : k = all.length := by omega
          rw [List.take_length, ← HRS.out] at HOWN
          go_wp2
          go_roundw
          case rel => exact ⟨s + 1, by omega, by go_num, (intsIn_row HOWN.out).bound.mono (fun b hb => ⟨by omega, hb.2⟩), HBEL.out.trans (HB1.out.mono hsz)⟩
          case measure => simp [Lib.intOf]; omega
    · obtain rfl : s = steps := by omega
      go_wp2
      go_ret
      exact ⟨⟨_, rfl, HIN.out⟩, HBEL.out⟩
end Go.Proofs.Ytkfmgeddckcnkaa
