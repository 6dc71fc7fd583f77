/- few (6) and CycleFinds (3): the walks. -/
import Derived.Test.YtkfmgeddckcnkaaVR
namespace Go.Proofs.Ytkfmgeddckcnkaa
open Go.RowKit
set_option linter.unusedVariables false

set_option maxRecDepth 100000 in
set_option maxHeartbeats 2000000 in
theorem few_any {F : Nat → Prop} {w : World} {v : Value} {l : List Edge} (h : EdgesIn F w v l) (hF : ∀ k, F k → k < w.heap.size) :
    Calls Try.prog 6 #[v] w fun e w' => (∃ r, (e = .returned (.tuple #[r, .bool false]) ∨ e = .returned (.tuple #[r, .bool true]) ∧ EdgesIn (fun k => w.heap.size ≤ k ∧ k < w'.heap.size) w' r (edgesOf l))) ∧ Below w.heap.size w w' := by
  have HED := Lib.hid (edges_any h hF)
  obtain ⟨a, cap, rfl, hlc, hcm, -⟩ := h
  have hl2 : l.length ≤ 9223372036854775807 := by unfold maxLen at hcm; omega
  have hfew : (edgesOf l).length ≤ 200 := (fine_edgesOf l).few
  obtain ⟨G, hG⟩ : ∃ G, edgesOf l = G := ⟨_, rfl⟩
  rw [hG] at HED hfew ⊢
  clear hlc hcm hG
  by_cases h1 : 250 < l.length
  · have q1 : decide ((250 : Int) < (l.length : Int)) = true := decide_eq_true (by omega)
    go_enter Try.func6, Try.ntmps6
    go_wp2_with (go_at_call 13; refine HED.out.mono ?_; rintro e w1 ⟨⟨r1, rfl, hi1⟩, hb1⟩; have HB1 := Lib.hid hb1; obtain ⟨a1, c1, rfl, -, -, -⟩ := hi1; clear hb1)
    go_ret2
    exact ⟨⟨_, .inl rfl⟩, HB1.out⟩
  · have q1 : decide ((250 : Int) < (l.length : Int)) = false := decide_eq_false (by omega)
    by_cases h2 : 40 < G.length
    · have q2 : (40 : Int) < (G.length : Int) := by omega
      go_enter Try.func6, Try.ntmps6
      go_wp2_with (go_at_call 13; refine HED.out.mono ?_; rintro e w1 ⟨⟨r1, rfl, hi1⟩, hb1⟩; have HB1 := Lib.hid hb1; obtain ⟨a1, c1, rfl, -, -, -⟩ := hi1; clear hb1)
      go_ret2
      exact ⟨⟨_, .inl rfl⟩, HB1.out⟩
    · have q2 : ¬ (40 : Int) < (G.length : Int) := by omega
      go_enter Try.func6, Try.ntmps6
      go_wp2_with (go_at_call 13; refine HED.out.mono ?_; rintro e w1 ⟨⟨r1, rfl, hi1⟩, hb1⟩; have HB1 := Lib.hid hb1; have HI1 := Lib.hid hi1; obtain ⟨a1, c1, rfl, -, -, hx1⟩ := hi1; have HX1 := Lib.hid hx1; clear hx1 hb1)
      go_loop [5] (fun i => ∃ k : Nat, k ≤ G.length ∧ i = .int .i64 k) (fun i => G.length - (Lib.intOf i).toNat)
      case atStart => exact ⟨0, Nat.zero_le _, rfl⟩
      case round =>
        obtain ⟨k, hk, rfl⟩ := hrel
        by_cases hlt : k < G.length
        · obtain ⟨e, he⟩ : ∃ e, G[k]? = some e := ⟨_, List.getElem?_eq_getElem hlt⟩
          rcases HX1.out with h | ⟨g, off, rfl, hgF, hc⟩
          · rw [h] at hlt; simp at hlt
          obtain ⟨c0, c1⟩ := hc k e he
          obtain ⟨p, q⟩ := e
          simp only at c0 c1
          have q0 : (0 : Int) ≤ (k : Int) := by omega
          have q1 : (k : Int) < (G.length : Int) := by omega
          clear hc he
          by_cases hp : 40 < p
          · have hpb : decide (40 < p) = true := decide_eq_true hp
            go_wp2
            go_ret2
            exact ⟨⟨_, .inl rfl⟩, HB1.out⟩
          · have hpb : decide (40 < p) = false := decide_eq_false hp
            by_cases hq : 40 < q
            · have hqb : decide (40 < q) = true := decide_eq_true hq
              go_wp2
              go_ret2
              exact ⟨⟨_, .inl rfl⟩, HB1.out⟩
            · have hqb : decide (40 < q) = false := decide_eq_false hq
              go_wp2
              go_round
              case rel => exact ⟨k + 1, by omega, by go_num⟩
              case measure => simp [Lib.intOf]; omega
        · obtain rfl : k = G.length := by omega
          go_wp2
          go_ret2
          exact ⟨⟨_, .inr ⟨rfl, HI1.out⟩⟩, HB1.out⟩

set_option maxRecDepth 100000 in
set_option maxHeartbeats 2000000 in
theorem cycleFinds_any {F : Nat → Prop} {w : World} {v : Value} {l : List Edge} (h : EdgesIn F w v l) (hF : ∀ k, F k → k < w.heap.size) (t : Int) :
    Calls Try.prog 3 #[v, iv t] w fun e w' => e = .returned (.bool true) ∧ Below w.heap.size w w' := by
  have HE := Lib.hid h
  have HF := Lib.hid hF
  have HFEW := Lib.hid (few_any h hF)
  have HW := Lib.hid works_any
  have HFine := Lib.hid (fine_edgesOf l)
  clear h hF
  obtain ⟨a, cap, rfl, -, -, -⟩ := HE.out
  go_enter Try.func3, Try.ntmps3
  go_wp2_with (go_at_call 6; refine HFEW.out.mono ?_; rintro e w1 ⟨⟨r1, h1⟩, hb1⟩; have HB1 := Lib.hid hb1; have HS1 := Lib.hid hb1.size; clear hb1; rcases h1 with rfl | ⟨rfl, hi1⟩)
  · go_wp2_with (go_at_call 7; refine (HW.out _).mono ?_; rintro e w9 ⟨rfl, hb⟩)
    go_ret
    exact ⟨rfl, HB1.out.trans (hb.mono HS1.out)⟩
  · have HM := Lib.hid hi1
    have H2 := Lib.hid (cycleFind_any (HE.out.keep (w' := w1) (fun k hk => HB1.out.block k (HF.out k hk))) (fun k hk => Nat.lt_of_lt_of_le (HF.out k hk) HS1.out) t)
    obtain ⟨a1, c1, rfl, -, -, -⟩ := hi1
    go_wp2_with (first
      | (go_at_call 7; refine (HW.out _).mono ?_; rintro e w9 ⟨rfl, hb⟩; have HB9 := Lib.hid hb; clear hb)
      | (go_at_call 8; refine H7.out.mono ?_; rintro e w7 ⟨rfl, n7, rfl⟩)
      | (go_at_call 12; refine H6.out.mono ?_; rintro e w6 ⟨⟨r6, rfl, hi6⟩, hb6⟩; have H7 := Lib.hid (ints_any _ _ _ _ _ _ _ (HI5.out.keep (w' := w6) (fun k hk => hb6.block k hk.2)) hi6); rw [decide_eq_true rfl] at H7; obtain ⟨a6, c6, rfl, -, -, -⟩ := hi6; have HB6 := Lib.hid (HB5.out.trans (hb6.mono HB5.out.size)); clear hb6)
      | (go_at_call 11; refine H5.out.mono ?_; rintro e w5 ⟨⟨r5, rfl, hi5⟩, hb5⟩; have HB5 := Lib.hid ((below_drewN HB3.out n4).trans (hb5.mono HB3.out.size)); have HI5 := Lib.hid hi5; have H6 := Lib.hid (refVictims_any (HM.out.keep (w' := w5) (fun k hk => (hb5.block k (by have := hk.2; have := HZ1.out; simp [World.drewN]; omega)).trans (HK3.out k (by omega)))) (fun k hk => by have := hk.2; have := HZ1.out; have := hb5.size; simp [World.drewN] at this; omega) HFine.out t); obtain ⟨a5, c5, rfl, -, -, -⟩ := hi5; clear hb5)
      | (go_at_call 8; refine H4.out.mono ?_; rintro e w4 ⟨rfl, n4, rfl⟩; have H5 := Lib.hid (victims_any (w := w3.drewN n4) (HE.out.keep (fun k hk => (HK3.out k (by have := HF.out k hk; have := HS1.out; omega)).trans (HB1.out.block k (HF.out k hk)))) (fun k hk => by have := HF.out k hk; have := HS1.out; have := HZ1.out; simp [World.drewN]; omega) t))
      | (go_at_call 10; refine H3.out.mono ?_; rintro e w3 ⟨⟨r3, rfl, hi3⟩, hb3⟩; have H4 := Lib.hid (ints_any _ _ _ _ _ _ _ (HI2.out.keep (w' := w3) (fun k hk => hb3.block k hk.2)) hi3); rw [decide_eq_true rfl] at H4; have HB3 := Lib.hid (HB2.out.trans (hb3.mono HB2.out.size)); have HK3 := Lib.hid (show ∀ k, k < w1.heap.size → w3.heap[k]? = w1.heap[k]? from fun k hk => (hb3.block k (by have := HZ2.out; omega)).trans (HK2.out k hk)); have HZ1 := Lib.hid (show w1.heap.size ≤ w3.heap.size from Nat.le_trans HZ2.out hb3.size); obtain ⟨a3, c3, rfl, -, -, -⟩ := hi3; clear hb3)
      | (go_at_call 9; refine H2.out.mono ?_; rintro e w2 ⟨⟨r2, rfl, hi2⟩, hb2⟩; have HI2 := Lib.hid hi2; have HB2 := Lib.hid (HB1.out.trans (hb2.mono HS1.out)); have HK2 := Lib.hid (show ∀ k, k < w1.heap.size → w2.heap[k]? = w1.heap[k]? from fun k hk => hb2.block k hk); have HZ2 := Lib.hid hb2.size; have H3 := Lib.hid (refFind_any (HM.out.keep (w' := w2) (fun k hk => hb2.block k hk.2)) (fun k hk => Nat.lt_of_lt_of_le hk.2 hb2.size) HFine.out t); obtain ⟨a2, c2, rfl, -, -, -⟩ := hi2; clear hb2))
    go_ret
    exact ⟨rfl, (below_drewN HB6.out n7).trans (HB9.out.mono HB6.out.size)⟩
end Go.Proofs.Ytkfmgeddckcnkaa
