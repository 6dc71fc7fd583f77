/- The reference's Edges (13). -/
import Derived.Test.YtkfmgeddckcnkaaOF
namespace Go.Proofs.Ytkfmgeddckcnkaa
open Go.RowKit
open Go.ChangeMaps (setBlock)
set_option linter.unusedVariables false

theorem cells_new2 {w : World} {xs : List Value} {t : TypeId} : ∀ (j : Nat) (u : Value), xs[j]? = some u → (w.alloc (.cells xs.toArray t)).cell? ((⟨w.heap.size, 0, none⟩ : Addr).add j) = some u := by
  intro j u h
  have hj : ((⟨w.heap.size, 0, none⟩ : Addr).add j) = ⟨w.heap.size, j, none⟩ := by cases j <;> simp [Addr.add]
  rw [hj]
  have hn := Go.heap_alloc_new w (.cells xs.toArray t)
  simp only [World.cell?, hn]
  simpa using h
def flat (l : List Edge) : List Value := l.flatMap (fun e => [iv e.1, iv e.2])
theorem flat_snoc (l : List Edge) (e : Edge) : flat (l ++ [e]) = flat l ++ [iv e.1, iv e.2] := by simp [flat]
theorem flat_get : ∀ (l : List Edge) (k : Nat) (e : Edge), l[k]? = some e → (flat l)[k * 2]? = some (iv e.1) ∧ (flat l)[k * 2 + 1]? = some (iv e.2)
  | [], k, e, h => by simp at h
  | a :: l, 0, e, h => by
    simp at h; subst h
    simp [flat]
  | a :: l, k + 1, e, h => by
    have := flat_get l k e (by simpa using h)
    have e1 : flat (a :: l) = iv a.1 :: iv a.2 :: flat l := by simp [flat]
    rw [e1, show (k + 1) * 2 = k * 2 + 1 + 1 by omega]
    simpa using this
theorem edgesIn_row {w : World} {B : Nat} {v : Value} {l : List Edge} (h : w.ownsRow B 31 2 v l.length (flat l)) : EdgesIn (fun k => B ≤ k ∧ k < w.heap.size) w v l := by
  obtain ⟨hl, ⟨rfl, h0⟩ | ⟨g, cap, cur, rfl, hb, hg, h1, h2, h3, h4⟩⟩ := h
  · obtain rfl : l = [] := List.eq_nil_of_length_eq_zero h0
    exact ⟨none, 0, rfl, Nat.le_refl _, by simp, .inl rfl⟩
  · refine ⟨_, cap, rfl, h1, h2, .inr ⟨g, 0, rfl, ⟨hb, (Array.getElem?_eq_some_iff.1 hg).1⟩, fun k e he => ?_⟩⟩
    have hk : k < l.length := (List.getElem?_eq_some_iff.1 he).1
    obtain ⟨f1, f2⟩ := flat_get l k e he
    rw [← h4, List.getElem?_take_of_lt (by omega)] at f1 f2
    unfold World.cell?
    simp [hg]
    exact ⟨by simpa using f1, by simpa using f2⟩
theorem Try.info31 : (Try.prog.info? 31).map (fun i => (i.zero, i.size, i.bytes)) = some (some (.agg #[.int .i64 0, .int .i64 0]), 2, 16) := by kernel_rfl
theorem counts_iff (x y : Int) : counts (x, y) = true ↔ (1 ≤ x ∧ x ≤ 1000) ∧ (1 ≤ y ∧ y ≤ 1000) ∧ x ≠ y := by
  simp [counts, rightN, and_assoc]

set_option maxRecDepth 100000 in
set_option maxHeartbeats 4000000 in
theorem edges_any {F : Nat → Prop} {w : World} {v : Value} {l : List Edge} (h : EdgesIn F w v l) (hF : ∀ k, F k → k < w.heap.size) :
    Calls Try.prog 13 #[v] w fun e w' => (∃ r, e = .returned r ∧ EdgesIn (fun k => w.heap.size ≤ k ∧ k < w'.heap.size) w' r (edgesOf l)) ∧ Below w.heap.size w w' := by
  obtain ⟨a, cap, rfl, hlc, hcm, hx⟩ := h
  have hl2 : l.length ≤ 9223372036854775807 := by unfold maxLen at hcm; omega
  obtain ⟨i0, hi, hz0, hz1, hz2⟩ := info_parts Try.info31
  have HX := Lib.hid hx
  have HF := Lib.hid hF
  clear hx hF hlc hcm
  go_enter Try.func13, Try.ntmps13
  go_wp2
  go_loopw [3, 4] (fun v i wr => ∃ k : Nat, k ≤ l.length ∧ k ≤ 200 ∧ i = .int .i64 k ∧ wr.ownsRow w.heap.size 31 2 v ((l.take k).filter counts).length (flat ((l.take k).filter counts)) ∧ Below w.heap.size w wr) (fun _ i _ => 200 - (Lib.intOf i).toNat)
  case atStart => exact ⟨0, Nat.zero_le _, Nat.zero_le _, rfl, World.ownsRow_nil _ _ _ _, Below.refl _ _⟩
  case round =>
    obtain ⟨k, hk, hk2, rfl, hown, hbel⟩ := hrel
    have HOWN := Lib.hid hown
    have HBEL := Lib.hid hbel
    have hfl : ((l.take k).filter counts).length ≤ 200 := Nat.le_trans (List.length_filter_le _ _) (by rw [List.length_take]; omega)
    by_cases hlt : k < l.length ∧ k < 200
    · obtain ⟨hlt1, hlt2⟩ := hlt
      have q0 : (k : Int) < (l.length : Int) := by omega
      have q1 : (k : Int) < 200 := by omega
      have q2 : (0 : Int) ≤ (k : Int) := by omega
      obtain ⟨e, hek⟩ : ∃ e, l[k]? = some e := ⟨_, List.getElem?_eq_getElem hlt1⟩
      rcases HX.out with rfl | ⟨g, off, rfl, hgF, hc⟩
      · simp at hek
      obtain ⟨c0, c1⟩ := hc k e hek
      have hgl : g < w.heap.size := HF.out g hgF
      have d0 := (hbel.cell (p := ⟨g, off + k * 2, none⟩) hgl).trans c0
      have d1 := (hbel.cell (p := ⟨g, off + k * 2 + 1, none⟩) hgl).trans c1
      have htk : l.take (k + 1) = l.take k ++ [e] := by rw [List.take_add_one, hek]; simp
      have HTK := Lib.hid htk
      obtain ⟨x, y⟩ := e
      simp only at *
      have hsz := hbel.size
      have hnew : ∀ b, counts (x, y) = b → (l.take (k + 1)).filter counts = (l.take k).filter counts ++ (if b then [(x, y)] else []) := fun b hb => by
        rw [HTK.out, List.filter_append]
        cases b <;> simp [hb]
      have HNEW := Lib.hid hnew
      clear hc hek hbel c0 c1 htk hnew hown
      by_cases hct : counts (x, y) = true
      · obtain ⟨⟨p1, p2⟩, ⟨p3, p4⟩, p5⟩ := (counts_iff x y).1 hct
        have HCT := Lib.hid hct
        have HC1 := Lib.hid (@cells_new2 wr [iv x, iv y] 31)
        clear hct
        go_wp2_with fail
        go_quiet (fail)
        go_wp2_with ((at_builtin; refine wpList_append_own_at _ rfl _ _ 22 rfl w.heap.size 31 i0 (.agg #[.int .i64 0, .int .i64 0]) 2 16 Try.underlying22 hi hz0 hz1 hz2 rfl (by decide) _ _ _ rfl (ownsRow_alloc HOWN.out _) ⟨wr.heap.size, 0, none⟩ 1 1 [iv x, iv y] rfl rfl HC1.out (by simp [Value.oneCell']) (by unfold maxLen; omega) (by omega) (by simp; omega) ?_; intro v' w2 hown2 hgrow hnil hloc))
        go_roundw
        case rel =>
          have hnext := HNEW.out true HCT.out
          simp only [if_true] at hnext
          have hch : Chg (fun j => w.heap.size ≤ j) _ w2 := chg_grown hgrow (fun k e => (ownsRow_base HOWN.out e).1)
          have hbw := (below_drewN HBEL.out nq).alloc (Nat.le_trans hsz (Nat.le_refl _)) (.cells #[iv x, iv y] 31)
          have hb2 : Below w.heap.size w w2 := hbw.trans ⟨hch.os, hch.tape, hch.output, hch.size, fun k hk => hch.block k (Nat.lt_of_lt_of_le hk hbw.size) (Nat.not_le_of_lt hk)⟩
          exact ⟨k + 1, by omega, by omega, by go_num, by rw [hnext, List.length_append, flat_snoc]; exact hown2, hb2⟩
        case measure => simp [Lib.intOf]; omega
      · have hcf : counts (x, y) = false := by simpa using hct
        have hnext := HNEW.out false hcf
        have hno : ¬ ((1 ≤ x ∧ x ≤ 1000) ∧ (1 ≤ y ∧ y ≤ 1000) ∧ x ≠ y) := fun h => hct ((counts_iff x y).2 h)
        have HN := Lib.hid hnext
        have HNO := Lib.hid hno
        clear hnext hno hct hcf
        by_cases p1 : 1 ≤ x
        · by_cases p2 : x ≤ 1000
          · by_cases p3 : 1 ≤ y
            · by_cases p4 : y ≤ 1000
              · have p5 : x = y := Classical.byContradiction (fun h => HNO.out ⟨⟨p1, p2⟩, ⟨p3, p4⟩, h⟩)
                subst p5
                go_wp2_with fail
                go_quiet (fail)
                go_wp2
                go_roundw
                case rel => exact ⟨k + 1, by omega, by omega, by go_num, by rw [HN.out]; simp only [Bool.false_eq_true, if_false, List.append_nil]; exact HOWN.out, below_drewN HBEL.out _⟩
                case measure => simp [Lib.intOf]; omega
              · go_wp2_with fail
                go_quiet (fail)
                go_wp2
                go_roundw
                case rel => exact ⟨k + 1, by omega, by omega, by go_num, by rw [HN.out]; simp only [Bool.false_eq_true, if_false, List.append_nil]; exact HOWN.out, below_drewN HBEL.out _⟩
                case measure => simp [Lib.intOf]; omega
            · go_wp2_with fail
              go_quiet (fail)
              go_wp2
              go_roundw
              case rel => exact ⟨k + 1, by omega, by omega, by go_num, by rw [HN.out]; simp only [Bool.false_eq_true, if_false, List.append_nil]; exact HOWN.out, below_drewN HBEL.out _⟩
              case measure => simp [Lib.intOf]; omega
          · go_wp2_with fail
            go_quiet (fail)
            go_wp2
            go_roundw
            case rel => exact ⟨k + 1, by omega, by omega, by go_num, by rw [HN.out]; simp only [Bool.false_eq_true, if_false, List.append_nil]; exact HOWN.out, below_drewN HBEL.out _⟩
            case measure => simp [Lib.intOf]; omega
        · go_wp2_with fail
          go_quiet (fail)
          go_wp2
          go_roundw
          case rel => exact ⟨k + 1, by omega, by omega, by go_num, by rw [HN.out]; simp only [Bool.false_eq_true, if_false, List.append_nil]; exact HOWN.out, below_drewN HBEL.out _⟩
          case measure => simp [Lib.intOf]; omega
    · have HLT := Lib.hid hlt
      have hfin : (l.take k).filter counts = edgesOf l := by
        unfold edgesOf
        congr 1
        by_cases h : k < 200
        · have e : k = l.length := by omega
          rw [e, List.take_length, List.take_of_length_le (by omega)]
        · rw [show k = 200 by omega]
      have HFN := Lib.hid hfin
      clear hown hbel hlt hfin
      by_cases h1 : k < l.length
      · have q0 : (k : Int) < (l.length : Int) := by omega
        have q1 : ¬ ((k : Int) < 200) := by have := HLT.out; omega
        go_wp2
        go_ret
        exact ⟨⟨_, rfl, by rw [← HFN.out]; exact edgesIn_row HOWN.out⟩, HBEL.out⟩
      · have q0 : ¬ ((k : Int) < (l.length : Int)) := by omega
        go_wp2
        go_ret
        exact ⟨⟨_, rfl, by rw [← HFN.out]; exact edgesIn_row HOWN.out⟩, HBEL.out⟩
end Go.Proofs.Ytkfmgeddckcnkaa
