/- The reference's numbers (16). -/
import Derived.Test.YtkfmgeddckcnkaaHS
import Derived.Test.YtkfmgeddckcnkaaFI
import Derived.Test.YtkfmgeddckcnkaaDF
namespace Go.Proofs.Ytkfmgeddckcnkaa
open Go.RowKit
set_option linter.unusedVariables false

/-- those up to k that have an edge, rising -/
def numK (l : List Edge) (k : Nat) : List Int := ((List.range k).map (fun i : Nat => (i : Int) + 1)).filter (fun n => l.any (touches n))
theorem numK_succ (l : List Edge) (k : Nat) : numK l (k + 1) = numK l k ++ (if l.any (touches ((k : Int) + 1)) then [(k : Int) + 1] else []) := by
  unfold numK
  rw [List.range_succ, List.map_append, List.filter_append]
  congr 1
  simp [List.filter_cons]
theorem numK_length (l : List Edge) (k : Nat) : (numK l k).length ≤ k := by
  unfold numK
  exact Nat.le_trans (List.length_filter_le _ _) (by simp)
theorem numK_rise (l : List Edge) (k : Nat) : (numK l k).Pairwise (· < ·) := by
  unfold numK
  refine List.Pairwise.filter _ ?_
  rw [List.pairwise_map]
  exact List.pairwise_lt_range.imp (fun h => by omega)
theorem any_snoc {l : List Edge} {j : Nat} {e : Edge} (h : l[j]? = some e) (n : Int) : (l.take (j + 1)).any (touches n) = ((l.take j).any (touches n) || touches n e) := by
  rw [List.take_add_one, h]; simp
theorem any_at {l : List Edge} {j : Nat} {e : Edge} (h : l[j]? = some e) {n : Int} (ht : touches n e = true) : l.any (touches n) = true := List.any_eq_true.2 ⟨e, List.mem_of_getElem? h, ht⟩

theorem num_rel {w wr w7 : World} {v v' : Value} {l : List Edge} {k : Nat} {N : Int} (hN : (k : Int) + 1 = N) (hk : k < 1000) (hs : numK l (k + 1) = numK l k ++ (if true = true then [N] else []))
    (hown : wr.ownsRow w.heap.size 3 1 v (numK l k).length ((numK l k).map iv)) (hb : Below w.heap.size w wr) (hown7 : w7.ownsRow w.heap.size 3 1 v' ((numK l k).length + 1) ((numK l k).map iv ++ [iv N])) (hg : (wr.alloc (.cells #[iv N] 3)).grownBy w7 v.ownBlock) :
    ∃ (ov : Value) (k : Nat), ov = v' ∧ k ≤ 1000 ∧ Value.int .i64 (N + 1) = .int .i64 ((k : Int) + 1) ∧ w7.ownsRow w.heap.size 3 1 ov (numK l k).length ((numK l k).map iv) ∧ Below w.heap.size w w7 := by
  simp only [if_true] at hs
  have hch : Chg (fun j => w.heap.size ≤ j) _ w7 := chg_grown hg (fun k e => (ownsRow_base hown e).1)
  have hbw := hb.alloc hb.size (.cells #[iv N] 3)
  refine ⟨_, k + 1, rfl, by omega, by rw [← hN]; go_num, ?_, hbw.trans ⟨hch.os, hch.tape, hch.output, hch.size, fun k hk => hch.block k (Nat.lt_of_lt_of_le hk hbw.size) (Nat.not_le_of_lt hk)⟩⟩
  rw [hs, List.length_append, List.map_append]
  exact hown7
set_option maxRecDepth 100000 in
set_option maxHeartbeats 1000000 in
theorem numbers_any {F : Nat → Prop} {w : World} {v : Value} {l : List Edge} (h : EdgesIn F w v l) (hF : ∀ k, F k → k < w.heap.size) :
    Calls Try.prog 16 #[v] w fun e w' => (∃ r, e = .returned r ∧ IntsIn (fun k => w.heap.size ≤ k ∧ k < w'.heap.size) w' r (numK l 1000)) ∧ Below w.heap.size w w' := by
  obtain ⟨a, cap, rfl, hlc, hcm, hx⟩ := h
  have hl2 : l.length ≤ 9223372036854775807 := by unfold maxLen at hcm; omega
  obtain ⟨i0, hi, hz0, hz1, hz2⟩ := info_parts Try.info3
  have HX := Lib.hid hx
  have HF := Lib.hid hF
  clear hx hlc hcm hF
  go_enter Try.func16, Try.ntmps16
  go_wp2
  go_loopw [3, 4] (fun m i wr => ∃ (ov : Value) (k : Nat), ov = m ∧ k ≤ 1000 ∧ i = .int .i64 ((k : Int) + 1) ∧ wr.ownsRow w.heap.size 3 1 ov (numK l k).length ((numK l k).map iv) ∧ Below w.heap.size w wr) (fun _ i _ => 1001 - (Lib.intOf i).toNat)
  case atStart => exact ⟨_, 0, rfl, Nat.zero_le _, rfl, World.ownsRow_nil _ _ _ _, Below.refl _ _⟩
  case round =>
    obtain ⟨ov, k, rfl, hk, rfl, hown, hbel⟩ := hrel
    have HOWN := Lib.hid hown
    have HBEL := Lib.hid hbel
    have hkl := numK_length l k
    have HSU := Lib.hid (numK_succ l k)
    have hsz := hbel.size
    clear hown hbel
    by_cases hlt : k < 1000
    · obtain ⟨N, hN⟩ : ∃ N : Int, (k : Int) + 1 = N := ⟨_, rfl⟩
      have HX2 := Lib.hid (show l = [] ∨ ∃ g off, a = some ⟨g, off, none⟩ ∧ ∀ (j : Nat) (e : Edge), l[j]? = some e → wr.cell? ⟨g, off + j * 2, none⟩ = some (iv e.1) ∧ wr.cell? ⟨g, off + j * 2 + 1, none⟩ = some (iv e.2) from HX.out.imp id fun ⟨g, off, e0, hg, hc⟩ => ⟨g, off, e0, fun j e he => ⟨(HBEL.out.cell (p := ⟨g, off + j * 2, none⟩) (HF.out g hg)).trans (hc j e he).1, (HBEL.out.cell (p := ⟨g, off + j * 2 + 1, none⟩) (HF.out g hg)).trans (hc j e he).2⟩⟩)
      rw [hN] at HSU ⊢
      have n1 : N ≤ 1000 := by omega
      have n2 : (1 : Int) ≤ N := by omega
      have HN := Lib.hid hN
      clear hN
      go_wp2
      go_loop [3, 5] (fun m i => m = ov ∧ ∃ j : Nat, j ≤ l.length ∧ i = .int .i64 j ∧ (l.take j).any (touches N) = false) (fun _ i => l.length - (Lib.intOf i).toNat)
      case atStart => exact ⟨rfl, 0, Nat.zero_le _, rfl, by simp⟩
      case round =>
        obtain ⟨rfl, j, hj, rfl, hno⟩ := hrel
        have HNO := Lib.hid hno
        clear hno
        by_cases hjl : j < l.length
        · obtain ⟨e, he⟩ : ∃ e, l[j]? = some e := ⟨_, List.getElem?_eq_getElem hjl⟩
          rcases HX2.out with rfl | ⟨g, off, rfl, hc⟩
          · simp at he
          obtain ⟨c0, c1⟩ := hc j e he
          have HSN := Lib.hid (any_snoc he N)
          have HAT := Lib.hid (fun ht => any_at he (n := N) ht)
          obtain ⟨p, q⟩ := e
          simp only at c0 c1
          have q0 : (0 : Int) ≤ (j : Int) := by omega
          have q1 : (j : Int) < (l.length : Int) := by omega
          have HC1 := Lib.hid (cell_one_new wr (iv N) 3)
          clear hc he
          by_cases hp : p = N
          · have hall : l.any (touches N) = true := HAT.out (by simp [touches, hp])
            rw [hall] at HSU
            have hpb : (p == N) = true := beq_iff_eq.2 hp
            clear hp hall
            go_wp2_with ((at_builtin; refine wpList_append_own_at _ rfl _ _ 27 rfl w.heap.size 3 i0 (.int .i64 0) 1 8 Try.underlying27 hi hz0 hz1 hz2 rfl (by decide) _ _ _ rfl (ownsRow_alloc HOWN.out _) ⟨wr.heap.size, 0, none⟩ 1 1 [iv N] rfl rfl HC1.out (by simp [Value.oneCell']) (by unfold maxLen; omega) (by omega) (by simp; omega) ?_; intro v' w7 hown7 hgrow hnil hloc))
            go_roundw
            case rel => exact num_rel HN.out hlt HSU.out HOWN.out HBEL.out hown7 hgrow
            case measure => simp [Lib.intOf]; omega
          · have hpb : (p == N) = false := beq_false_of_ne hp
            by_cases hq : q = N
            · have hall : l.any (touches N) = true := HAT.out (by simp [touches, hq])
              rw [hall] at HSU
              have hqb : (q == N) = true := beq_iff_eq.2 hq
              clear hp hq hall
              go_wp2_with ((at_builtin; refine wpList_append_own_at _ rfl _ _ 27 rfl w.heap.size 3 i0 (.int .i64 0) 1 8 Try.underlying27 hi hz0 hz1 hz2 rfl (by decide) _ _ _ rfl (ownsRow_alloc HOWN.out _) ⟨wr.heap.size, 0, none⟩ 1 1 [iv N] rfl rfl HC1.out (by simp [Value.oneCell']) (by unfold maxLen; omega) (by omega) (by simp; omega) ?_; intro v' w7 hown7 hgrow hnil hloc))
              go_roundw
              case rel => exact num_rel HN.out hlt HSU.out HOWN.out HBEL.out hown7 hgrow
              case measure => simp [Lib.intOf]; omega
            · have hqb : (q == N) = false := beq_false_of_ne hq
              have hno : (l.take (j + 1)).any (touches N) = false := by rw [HSN.out, HNO.out]; simp [touches, hpb, hqb]
              have HNO2 := Lib.hid hno
              clear hp hq hno
              go_wp2
              go_round
              case rel => exact ⟨rfl, j + 1, by omega, by go_num, HNO2.out⟩
              case measure => simp [Lib.intOf]; omega
        · obtain rfl : j = l.length := by omega
          rw [List.take_length] at HNO
          rw [HNO.out] at HSU
          go_wp2
          go_roundw
          case rel => exact ⟨_, k + 1, rfl, by omega, by have := HN.out; go_num, by rw [HSU.out]; simp only [Bool.false_eq_true, if_false, List.append_nil]; exact HOWN.out, HBEL.out⟩
          case measure => simp [Lib.intOf]; omega
    · obtain rfl : k = 1000 := by omega
      go_wp2
      go_ret
      exact ⟨⟨_, rfl, (intsIn_row HOWN.out).bound⟩, HBEL.out⟩
end Go.Proofs.Ytkfmgeddckcnkaa
