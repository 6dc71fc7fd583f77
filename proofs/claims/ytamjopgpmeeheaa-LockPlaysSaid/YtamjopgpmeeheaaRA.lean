/- The reference's Ask (37). -/
import Derived.Test.YtamjopgpmeeheaaRC
import Derived.Test.YtamjopgpmeeheaaME
import Derived.Outline
import Derived.Deep.CutBlock
import Derived.Deep.CutRange
import Derived.Deep.DeepCutAuto
namespace Go.Proofs.Ytamjopgpmeeheaa
open Go.RowKit
set_option linter.unusedVariables false

def mayR (wt : List G3) (t nd m : Int) : Prop := 1 ≤ t ∧ t ≤ 1000 ∧ 1 ≤ nd ∧ 1 ≤ m ∧ m ≤ 7 ∧ wantG wt t = none
def askHit (hd : List G3) (g : G3) (has : Int) (x : G3) : Bool := has != 0 && (x.2.1 == g.2.1 && hasG hd x.1 g.2.1 == 0)
def askStep (hd : List G3) (g : G3) (has : Int) (st : List G3 × Bool) (x : G3) : List G3 × Bool := if st.2 = false ∧ askHit hd g has x = true then (st.1 ++ [g] ++ [x], true) else (st.1 ++ [x], st.2)
def askFold (hd : List G3) (g : G3) (has : Int) (l : List G3) : List G3 × Bool := l.foldl (askStep hd g has) ([], false)
def askInG (hd wt : List G3) (g : G3) (has : Int) : List G3 := if (askFold hd g has wt).2 = true then (askFold hd g has wt).1 else (askFold hd g has wt).1 ++ [g]
def goodG (hd wt : List G3) (t nd m : Int) : Bool := canG hd t nd (joinI (hasG hd t nd) m) && (hasG hd t nd != 0 || decide (atG wt nd = []))
def askR (hd wt : List G3) (t nd m : Int) : Bool × List G3 × List G3 :=
  if covB (hasG hd t nd) m = true then (true, hd, wt)
  else if goodG hd wt t nd m = true then (true, holdG hd (t, nd, joinI (hasG hd t nd) m), wt)
  else (false, hd, askInG hd wt (t, nd, joinI (hasG hd t nd) m) (hasG hd t nd))
theorem askFold_take {hd : List G3} {g : G3} {has : Int} {l : List G3} {x : G3} {k : Nat} (hx : l[k]? = some x) : askFold hd g has (l.take (k + 1)) = askStep hd g has (askFold hd g has (l.take k)) x := by
  unfold askFold; rw [List.take_add_one, hx, List.foldl_append]; rfl
theorem askFold_few (hd : List G3) (g : G3) (has : Int) (l : List G3) : (askFold hd g has l).1.length ≤ l.length + (askFold hd g has l).2.toNat := by
  have key : ∀ (l : List G3) (st : List G3 × Bool), (l.foldl (askStep hd g has) st).1.length + st.2.toNat ≤ st.1.length + l.length + (l.foldl (askStep hd g has) st).2.toNat := fun l => by
    induction l with
    | nil => intro st; simp
    | cons a l ih =>
      intro st
      rw [List.foldl_cons]
      have h1 := ih (askStep hd g has st a)
      have h2 : (askStep hd g has st a).1.length + st.2.toNat ≤ st.1.length + 1 + (askStep hd g has st a).2.toNat := by
        unfold askStep
        split
        · rename_i h; simp [h.1]
        · simp
      simp only [List.length_cons]
      omega
  have := key l ([], false)
  simp only [List.length_nil, Bool.toNat_false] at this
  unfold askFold
  omega

set_option maxRecDepth 100000 in
set_option maxHeartbeats 8000000 in
theorem rask_bad {F : Nat → Prop} {w : World} {s : Nat} {hd wt : List G3} (h : RTab F w s hd wt) (hF : ∀ k, F k → k < w.heap.size ∧ k ≠ s) (t nd m : Int) (hbad : ¬ mayR wt t nd m) :
    Calls Try.prog 37 #[.pointer (some ⟨s, 0, none⟩), iv t, iv nd, iv m] w fun e w' => e = .returned (.tuple #[.bool false, .int .i64 2]) ∧ Below w.heap.size w w' := by
  have hw : ∃ wb, (wb = false → wantG wt t = none) ∧ Calls Try.prog 23 #[.pointer (some ⟨s, 0, none⟩), iv t] w fun e w' => (∃ a b c, e = .returned (.tuple #[.agg #[iv a, iv b, iv c], .bool wb])) ∧ Below w.heap.size w w' := by
    cases hw : wantG wt t with
    | none =>
      refine ⟨false, fun _ => rfl, (rwants_any h (fun k hk => (hF k hk).1) t).mono ?_⟩
      rintro e w' ⟨⟨g, hg, rfl⟩ | ⟨-, rfl⟩, hb⟩
      · rw [hw] at hg; cases hg
      · exact ⟨⟨0, 0, 0, rfl⟩, hb⟩
    | some g =>
      refine ⟨true, fun h => (by cases h), (rwants_any h (fun k hk => (hF k hk).1) t).mono ?_⟩
      rintro e w' ⟨⟨g', hg, rfl⟩ | ⟨hn, -⟩, hb⟩
      · exact ⟨⟨_, _, _, rfl⟩, hb⟩
      · rw [hw] at hn; cases hn
  obtain ⟨wb, hwb, hcall⟩ := hw
  have HC := Lib.hid hcall
  have HWB := Lib.hid hwb
  have HBAD := Lib.hid hbad
  clear hcall hwb hbad h hF
  by_cases h1 : t < 1
  · go_enter Try.func37, Try.ntmps37
    go_wp2_with (go_at_call 23; refine HC.out.mono ?_; rintro e w1 ⟨⟨a, b, c, rfl⟩, hb1⟩)
    exact bodyPost_ret (results_tmp2 rfl _ _ _) rfl ⟨rfl, hb1.alloc hb1.size _⟩
  have h1' : decide (t < 1) = false := decide_eq_false h1
  by_cases h2 : 1000 < t
  · go_enter Try.func37, Try.ntmps37
    go_wp2_with (go_at_call 23; refine HC.out.mono ?_; rintro e w1 ⟨⟨a, b, c, rfl⟩, hb1⟩)
    exact bodyPost_ret (results_tmp2 rfl _ _ _) rfl ⟨rfl, hb1.alloc hb1.size _⟩
  have h2' : decide (1000 < t) = false := decide_eq_false h2
  by_cases h3 : nd < 1
  · go_enter Try.func37, Try.ntmps37
    go_wp2_with (go_at_call 23; refine HC.out.mono ?_; rintro e w1 ⟨⟨a, b, c, rfl⟩, hb1⟩)
    exact bodyPost_ret (results_tmp2 rfl _ _ _) rfl ⟨rfl, hb1.alloc hb1.size _⟩
  have h3' : decide (nd < 1) = false := decide_eq_false h3
  by_cases h4 : m < 1
  · go_enter Try.func37, Try.ntmps37
    go_wp2_with (go_at_call 23; refine HC.out.mono ?_; rintro e w1 ⟨⟨a, b, c, rfl⟩, hb1⟩)
    exact bodyPost_ret (results_tmp2 rfl _ _ _) rfl ⟨rfl, hb1.alloc hb1.size _⟩
  have h4' : decide (m < 1) = false := decide_eq_false h4
  by_cases h5 : 7 < m
  · go_enter Try.func37, Try.ntmps37
    go_wp2_with (go_at_call 23; refine HC.out.mono ?_; rintro e w1 ⟨⟨a, b, c, rfl⟩, hb1⟩)
    exact bodyPost_ret (results_tmp2 rfl _ _ _) rfl ⟨rfl, hb1.alloc hb1.size _⟩
  have h5' : decide (7 < m) = false := decide_eq_false h5
  have hwt : wb = true := by
    cases wb with
    | true => rfl
    | false => exact absurd ⟨by omega, by omega, by omega, by omega, by omega, HWB.out rfl⟩ HBAD.out
  subst hwt
  go_enter Try.func37, Try.ntmps37
  go_wp2_with (go_at_call 23; refine HC.out.mono ?_; rintro e w1 ⟨⟨a, b, c, rfl⟩, hb1⟩)
  exact bodyPost_ret (results_tmp2 rfl _ _ _) rfl ⟨rfl, hb1.alloc hb1.size _⟩

set_option maxRecDepth 100000 in
set_option maxHeartbeats 8000000 in
theorem rask_cov {F : Nat → Prop} {w : World} {s : Nat} {hd wt : List G3} (h : RTab F w s hd wt) (hF : ∀ k, F k → k < w.heap.size ∧ k ≠ s) (t nd m : Int) (hmay : mayR wt t nd m) (hcov : covB (hasG hd t nd) m = true) :
    Calls Try.prog 37 #[.pointer (some ⟨s, 0, none⟩), iv t, iv nd, iv m] w fun e w' => e = .returned (.tuple #[.bool true, .int .i64 0]) ∧ Below w.heap.size w w' := by
  have hsl : s < w.heap.size := by obtain ⟨v1, v2, hc, -⟩ := h; exact (Array.getElem?_eq_some_iff.1 hc).1
  obtain ⟨m1, m2, m3, m4, m5, m6⟩ := hmay
  have h1' : decide (t < 1) = false := decide_eq_false (by omega)
  have h2' : decide (1000 < t) = false := decide_eq_false (by omega)
  have h3' : decide (nd < 1) = false := decide_eq_false (by omega)
  have h4' : decide (m < 1) = false := decide_eq_false (by omega)
  have h5' : decide (7 < m) = false := decide_eq_false (by omega)
  have HW := Lib.hid (rwants_any h (fun k hk => (hF k hk).1) t)
  have h19 : ∀ W, Below w.heap.size w W → Calls Try.prog 19 #[.pointer (some ⟨s, 0, none⟩), iv t, iv nd] W fun e w' => e = .returned (.int .i64 (hasG hd t nd)) ∧ Below W.heap.size W w' := fun W hW => rhas_any (h.keep (hW.block s hsl) (fun j hj => hW.block j (hF j hj).1)) (fun j hj => Nat.lt_of_lt_of_le (hF j hj).1 hW.size) t nd
  have H19 := Lib.hid h19
  have HCOV := Lib.hid hcov
  have M6 := Lib.hid m6
  clear h hF h19 hcov m6
  go_enter Try.func37, Try.ntmps37
  go_wp2_with fail
  refine HW.out.mono ?_
  rintro e w1 ⟨⟨g, hg, rfl⟩ | ⟨-, rfl⟩, hb1⟩
  · rw [M6.out] at hg; cases hg
  have hb2 : Below w.heap.size w (w1.alloc (.cells #[iv 0, iv 0, iv 0] 34)) := hb1.alloc hb1.size _
  have h19' := H19.out _ hb2
  have H19' := Lib.hid h19'
  have HB2 := Lib.hid hb2
  clear hb1 hb2 h19'
  go_wp2_with fail
  refine H19'.out.mono ?_
  rintro e w3 ⟨rfl, hb3⟩
  have hs2 := HB2.out.size
  have hs3 := hb3.size
  have hrc := rcov_any (hasG hd t nd) m w3
  rw [HCOV.out] at hrc
  have HRC := Lib.hid hrc
  clear hrc
  go_wp2_with fail
  refine HRC.out.mono ?_
  rintro e w4 ⟨rfl, hb4⟩
  go_wp2
  exact bodyPost_ret (results_tmp2 rfl _ _ _) rfl ⟨rfl, (HB2.out.trans (hb3.mono hs2)).trans (hb4.mono (Nat.le_trans hs2 hs3))⟩

theorem ask_end {F : Nat → Prop} {w W1 : World} {s B : Nat} {hd wt L : List G3} {V : Value} (h : RTab F W1 s hd wt) (hF : ∀ k, F k → k < w.heap.size ∧ k ≠ s) (hbw : Below w.heap.size w W1) (hB : w.heap.size ≤ B) (hB1 : B ≤ W1.heap.size) (hrow : W1.ownsRow B 34 3 V L.length (flat3 L)) (hs : s < W1.heap.size) (hsB : s < B) :
    RTab (fun k => (F k ∨ w.heap.size ≤ k) ∧ k < (W1.setCell ⟨s, 1, none⟩ V).heap.size ∧ k ≠ s) (W1.setCell ⟨s, 1, none⟩ V) s hd L ∧ Chg (fun k => k = s) w (W1.setCell ⟨s, 1, none⟩ V) := by
  obtain ⟨v1, v2, h1, h2, h3⟩ := h
  have hch : Chg (fun j => j = s) W1 (W1.setCell ⟨s, 1, none⟩ V) := chg_set (M := fun j => j = s) rfl 1 V
  have hs1 := hch.size
  have hsw := hbw.size
  refine ⟨⟨v1, V, by simpa using heap_setCell_same W1 s 1 _ _ V h1, ?_, ?_⟩, (chg_new hbw).trans hch⟩
  · exact (h2.keep (fun j hj => hch.block j (by have := (hF j hj).1; omega) (hF j hj).2)).mono (fun j hj => ⟨.inl hj, by have := (hF j hj).1; omega, (hF j hj).2⟩)
  · exact ((trisIn_row hrow).keep (fun j hj => hch.block j hj.2 (by omega))).mono (fun j hj => ⟨.inr (by omega), by omega, by omega⟩)

set_option maxRecDepth 100000 in
set_option maxHeartbeats 16000000 in
theorem rask_more {F : Nat → Prop} {w : World} {s : Nat} {hd wt : List G3} (h : RTab F w s hd wt) (hF : ∀ k, F k → k < w.heap.size ∧ k ≠ s) (hl : hd.length + wt.length ≤ 1000) (t nd m : Int) (hmay : mayR wt t nd m) (hcov : covB (hasG hd t nd) m = false) :
    Calls Try.prog 37 #[.pointer (some ⟨s, 0, none⟩), iv t, iv nd, iv m] w fun e w' => e = .returned (.tuple #[.bool (askR hd wt t nd m).1, .int .i64 0]) ∧ RTab (fun k => (F k ∨ w.heap.size ≤ k) ∧ k < w'.heap.size ∧ k ≠ s) w' s (askR hd wt t nd m).2.1 (askR hd wt t nd m).2.2 ∧ Chg (fun k => k = s) w w' := by
  obtain ⟨i0, hi, hz0, hz1, hz2⟩ := info_parts Try.info34
  have hsl : s < w.heap.size := by obtain ⟨v1, v2, hc, -⟩ := h; exact (Array.getElem?_eq_some_iff.1 hc).1
  obtain ⟨m1, m2, m3, m4, m5, m6⟩ := hmay
  have h1' : decide (t < 1) = false := decide_eq_false (by omega)
  have h2' : decide (1000 < t) = false := decide_eq_false (by omega)
  have h3' : decide (nd < 1) = false := decide_eq_false (by omega)
  have h4' : decide (m < 1) = false := decide_eq_false (by omega)
  have h5' : decide (7 < m) = false := decide_eq_false (by omega)
  have HW := Lib.hid (rwants_any h (fun k hk => (hF k hk).1) t)
  have HAR := Lib.hid (show askR hd wt t nd m = if goodG hd wt t nd m = true then (true, holdG hd (t, nd, joinI (hasG hd t nd) m), wt) else (false, hd, askInG hd wt (t, nd, joinI (hasG hd t nd) m) (hasG hd t nd)) by
    unfold askR; rw [if_neg (by rw [hcov]; simp)])
  obtain ⟨has, hhas⟩ : ∃ has, hasG hd t nd = has := ⟨_, rfl⟩
  obtain ⟨jm, hjm⟩ : ∃ jm, joinI has m = jm := ⟨_, rfl⟩
  obtain ⟨cb, hcb⟩ : ∃ cb, canG hd t nd jm = cb := ⟨_, rfl⟩
  obtain ⟨gb, hgb⟩ : ∃ gb, goodG hd wt t nd m = gb := ⟨_, rfl⟩
  have hgd : gb = (cb && (has != 0 || decide (atG wt nd = []))) := by
    rw [← hgb, ← hcb, ← hjm, ← hhas]; rfl
  have hkt : ∀ W, Below w.heap.size w W → RTab F W s hd wt := fun W hW => h.keep (hW.block s hsl) (fun j hj => hW.block j (hF j hj).1)
  have hkf : ∀ W, Below w.heap.size w W → ∀ j, F j → j < W.heap.size := fun W hW j hj => Nat.lt_of_lt_of_le (hF j hj).1 hW.size
  have h19 : ∀ W, Below w.heap.size w W → ∀ t nd, Calls Try.prog 19 #[.pointer (some ⟨s, 0, none⟩), iv t, iv nd] W fun e w' => e = .returned (.int .i64 (hasG hd t nd)) ∧ Below W.heap.size W w' := fun W hW t nd => rhas_any (hkt W hW) (hkf W hW) t nd
  have h54 : ∀ W, Below w.heap.size w W → Calls Try.prog 54 #[.pointer (some ⟨s, 0, none⟩), iv t, iv nd, iv jm] W fun e w' => e = .returned (.bool cb) ∧ Below W.heap.size W w' := fun W hW => by
    have := rcan_any (hkt W hW) (hkf W hW) t nd jm
    rw [hcb] at this; exact this
  have h22 : ∀ W, Below w.heap.size w W → Calls Try.prog 22 #[.pointer (some ⟨s, 0, none⟩), iv nd] W fun e w' => (∃ a c, e = .returned (.slice a (atG wt nd).length c)) ∧ Below W.heap.size W w' := fun W hW => (rqueue_any (hkt W hW) (hkf W hW) (by omega) nd).mono (by
    rintro e w' ⟨⟨v, rfl, htr⟩, hb⟩
    obtain ⟨a, c, rfl, -⟩ := htr
    exact ⟨⟨a, c, rfl⟩, hb⟩)
  have hrc : ∀ W, Calls Try.prog 52 #[.int .i64 has, .int .i64 m] W fun e w' => e = .returned (.bool false) ∧ Below W.heap.size W w' := fun W => by
    have := rcov_any has m W
    rw [← hhas, hcov, hhas] at this; exact this
  have hrj : ∀ W, Calls Try.prog 53 #[.int .i64 has, .int .i64 m] W fun e w' => e = .returned (.int .i64 jm) ∧ Below W.heap.size W w' := fun W => by
    have := rjoin_any has m W
    rw [hjm] at this; exact this
  have H1 := Lib.hid (fun W hW => by have := h19 W hW t nd; rw [hhas] at this; exact this : ∀ W, Below w.heap.size w W → Calls Try.prog 19 #[.pointer (some ⟨s, 0, none⟩), iv t, iv nd] W fun e w' => e = .returned (.int .i64 has) ∧ Below W.heap.size W w')
  have H19 := Lib.hid h19
  have H54 := Lib.hid h54
  have H22 := Lib.hid h22
  have HRC := Lib.hid hrc
  have HRJ := Lib.hid hrj
  have HKT := Lib.hid hkt
  have HR := Lib.hid h
  have HF := Lib.hid hF
  have HGD := Lib.hid hgd
  have HGB := Lib.hid hgb
  have HHAS := Lib.hid hhas
  have HJM := Lib.hid hjm
  have M6 := Lib.hid m6
  clear h hF h19 h54 h22 hrc hrj hkt hkf hgd hgb hhas hjm hcb hcov m6
  go_enter Try.func37, Try.ntmps37
  go_wp2_with fail
  refine HW.out.mono ?_
  rintro e w1 ⟨⟨g, hg, rfl⟩ | ⟨-, rfl⟩, hb1⟩
  · rw [M6.out] at hg; cases hg
  have hb2 : Below w.heap.size w (w1.alloc (.cells #[iv 0, iv 0, iv 0] 34)) := hb1.alloc hb1.size _
  have HB2 := Lib.hid hb2
  clear hb1 hb2
  go_wp2_with fail
  refine (H1.out _ HB2.out).mono ?_
  rintro e w3 ⟨rfl, hb3⟩
  have hb3' := HB2.out.trans (hb3.mono HB2.out.size)
  have HB3 := Lib.hid hb3'
  clear hb3 hb3'
  go_wp2_with fail
  refine (HRC.out _).mono ?_
  rintro e w4 ⟨rfl, hb4⟩
  have hb4' := HB3.out.trans (hb4.mono HB3.out.size)
  have HB4 := Lib.hid hb4'
  clear hb4 hb4'
  go_wp2_with fail
  refine (HRJ.out _).mono ?_
  rintro e w5 ⟨rfl, hb5⟩
  have hb5' := HB4.out.trans (hb5.mono HB4.out.size)
  have hs5 := hb5'.size
  have hbn := Go.heap_alloc_new w5 (.cells #[iv t, iv nd, iv jm] 34)
  obtain ⟨e0, e1, e2⟩ := box3 hbn
  have hb6 : Below w.heap.size w (w5.alloc (.cells #[iv t, iv nd, iv jm] 34)) := hb5'.alloc hs5 _
  have HB6 := Lib.hid hb6
  have HBN := Lib.hid hbn
  clear hb5 hb5' hb6 hbn
  go_upto_region 8 with fail
  go_cut [74] (fun c wx => c = .bool gb ∧ Below (w5.heap.size + 1) (w5.alloc (.cells #[iv t, iv nd, iv jm] 34)) wx)
  case first =>
    cases cb with
    | false =>
      go_wp2_with (go_at_call 54; refine (H54.out _ HB6.out).mono ?_; rintro e w7 ⟨rfl, hb7⟩)
      go_meet
      exact ⟨by rw [HGD.out]; rfl, by have := hb7; simpa using this⟩
    | true =>
      by_cases hz : has = 0
      · have hz1 : (has != 0) = false := by simp [hz]
        have hz2 : (has == 0) = true := by simp [hz]
        cases hL : atG wt nd with
        | nil =>
          have HL := Lib.hid hL
          clear hL hz
          go_wp2_with fail
          refine (H54.out _ HB6.out).mono ?_
          rintro e w7 ⟨rfl, hb7⟩
          have hb7' := HB6.out.trans (hb7.mono HB6.out.size)
          have h8 := H22.out _ hb7'
          rw [HL.out] at h8
          have H8 := Lib.hid h8
          have hs7 := hb7.size
          clear hb7' h8
          go_wp2_with fail
          refine H8.out.mono ?_
          rintro e w8 ⟨⟨a8, c8, rfl⟩, hb8⟩
          go_wp2
          go_meet
          exact ⟨by rw [HGD.out, HL.out, hz1]; rfl, by have := hb7.trans (hb8.mono hs7); simpa using this⟩
        | cons x r =>
          have HL := Lib.hid hL
          clear hL hz
          go_wp2_with fail
          refine (H54.out _ HB6.out).mono ?_
          rintro e w7 ⟨rfl, hb7⟩
          have hb7' := HB6.out.trans (hb7.mono HB6.out.size)
          have h8 := H22.out _ hb7'
          rw [HL.out] at h8
          have H8 := Lib.hid h8
          have hs7 := hb7.size
          clear hb7' h8
          go_wp2_with fail
          refine H8.out.mono ?_
          rintro e w8 ⟨⟨a8, c8, rfl⟩, hb8⟩
          have hl0 : (((x :: r).length : Int) == 0) = false := by simp; omega
          go_wp2
          go_meet
          exact ⟨by rw [HGD.out, HL.out, hz1]; rfl, by have := hb7.trans (hb8.mono hs7); simpa using this⟩
      · have hz1 : (has != 0) = true := by simp [hz]
        clear hz
        go_wp2_with fail
        refine (H54.out _ HB6.out).mono ?_
        rintro e w7 ⟨rfl, hb7⟩
        go_wp2
        go_meet
        exact ⟨by rw [HGD.out, hz1]; rfl, by have := hb7; simpa using this⟩
  case rest =>
    obtain ⟨rfl, hb7⟩ := hcut
    have hs7 := hb7.size
    simp only [World.size_alloc] at hs7
    have hbn7 := (hb7.block w5.heap.size (by omega)).trans HBN.out
    obtain ⟨e0, e1, e2⟩ := box3 hbn7
    have hbw := HB6.out.trans (hb7.mono (by omega))
    have HBN7 := Lib.hid hbn7
    have HBW := Lib.hid hbw
    clear hb7 hbn7 hbw
    cases gb with
    | true =>
      have hr1 := HKT.out _ HBW.out
      have h55 := rhold_any hr1 (fun j hj => Nat.lt_of_lt_of_le (HF.out j hj).1 HBW.out.size) (fun h => (HF.out s h).2 rfl) (by omega) t nd jm
      have H55 := Lib.hid h55
      clear hr1 h55
      go_wp2_with (go_at_call 55; refine H55.out.mono ?_; rintro e w8 ⟨⟨vr, rfl⟩, hr8, hch8⟩)
      refine bodyPost_ret (results_tmp2 rfl _ _ _) rfl ?_
      have e9 : askR hd wt t nd m = (true, holdG hd (t, nd, jm), wt) := by rw [HAR.out, if_pos HGB.out, HHAS.out, HJM.out]
      rw [e9]
      have hs8 := hch8.size
      have hsw := HBW.out.size
      exact ⟨rfl, hr8.mono (fun j hj => ⟨hj.imp (fun h => h) (fun h => by omega), by
        rcases hj with h | h
        · have := (HF.out j h); omega
        · omega, by
        rcases hj with h | h
        · exact (HF.out j h).2
        · omega⟩), (chg_new HBW.out).trans hch8⟩
    | false =>
      obtain ⟨Wb, rfl⟩ : ∃ Wb, Wb = wc := ⟨wc, rfl⟩
      obtain ⟨a1, c1, a2, c2, hcell, ht1, ht2⟩ := (HKT.out _ HBW.out).open
      obtain ⟨-, -, -, hqc⟩ : ∃ cap', cap' = c2 ∧ wt.length ≤ c2 ∧ c2 ≤ maxLen ∧ (wt = [] ∨ ∃ g off, a2 = some ⟨g, off, none⟩ ∧ F g ∧ ∀ (k : Nat) (e : G3), wt[k]? = some e → Wb.cell? ⟨g, off + k * 3, none⟩ = some (iv e.1) ∧ Wb.cell? ⟨g, off + k * 3 + 1, none⟩ = some (iv e.2.1) ∧ Wb.cell? ⟨g, off + k * 3 + 2, none⟩ = some (iv e.2.2)) := by
        obtain ⟨a, cap, e, q1, q2, q3⟩ := ht2
        simp only [Value.slice.injEq] at e
        obtain ⟨rfl, -, rfl⟩ := e
        exact ⟨_, rfl, q1, q2, q3⟩
      obtain ⟨hq2, hqc⟩ := hqc
      unfold maxLen at hq2
      obtain ⟨x0c, x1c⟩ := box2 hcell
      have hsw := HBW.out.size
      have hsc : s < Wb.heap.size := by omega
      have h5c : w5.heap.size < Wb.heap.size := by omega
      have HQC := Lib.hid hqc
      have HCELL := Lib.hid hcell
      have HT1 := Lib.hid ht1
      have X1C := Lib.hid x1c
      have E0 := Lib.hid (And.intro e0 (And.intro e1 e2))
      clear hqc hcell ht1 ht2 x0c x1c e0 e1 e2
      go_wp2
      go_loopw [14, 15, 16] (fun v b i wr => ∃ k : Nat, k ≤ wt.length ∧ i = .int .i64 k ∧ b = .bool (askFold hd (t, nd, jm) has (wt.take k)).2 ∧ wr.ownsRow Wb.heap.size 34 3 v (askFold hd (t, nd, jm) has (wt.take k)).1.length (flat3 (askFold hd (t, nd, jm) has (wt.take k)).1) ∧ Below Wb.heap.size Wb wr) (fun v b i _ => wt.length - (Lib.intOf i).toNat)
      case atStart => exact ⟨0, Nat.zero_le _, rfl, rfl, World.ownsRow_nil _ _ _ _, Below.refl _ _⟩
      case round =>
        obtain ⟨k, hk, rfl, rfl, hown, hbr⟩ := hrel
        have HBR := Lib.hid hbr
        have hsr := hbr.size
        obtain ⟨av, cv, rfl⟩ := own_form hown
        have HOWN := Lib.hid hown
        have x9 := (hbr.cell (p := ⟨s, 1, none⟩) hsc).trans X1C.out
        have y0 := (hbr.cell (p := ⟨w5.heap.size, 0, none⟩) h5c).trans E0.out.1
        have y1 := (hbr.cell (p := ⟨w5.heap.size, 1, none⟩) h5c).trans E0.out.2.1
        have y2 := (hbr.cell (p := ⟨w5.heap.size, 2, none⟩) h5c).trans E0.out.2.2
        have hfew := askFold_few hd (t, nd, jm) has (wt.take k)
        have hle : (askFold hd (t, nd, jm) has (wt.take k)).1.length ≤ 1001 := by
          have : (wt.take k).length ≤ 1000 := by simp; omega
          have := Bool.toNat_le (askFold hd (t, nd, jm) has (wt.take k)).2
          omega
        have Y := Lib.hid (And.intro y0 (And.intro y1 y2))
        clear hbr hown hfew
        by_cases hlt : k < wt.length
        · obtain ⟨⟨x0, x1, x2⟩, hx⟩ : ∃ x, wt[k]? = some x := ⟨_, List.getElem?_eq_getElem hlt⟩
          rcases HQC.out with h | ⟨g, off, rfl, hg, hcl⟩
          · rw [h] at hlt; simp at hlt
          have hgl := Nat.lt_of_lt_of_le (HF.out g hg).1 hsw
          obtain ⟨q0, q1, q2⟩ := hcl k _ hx
          have d0 := (HBR.out.cell (p := ⟨g, off + k * 3, none⟩) hgl).trans q0
          have d1 := (HBR.out.cell (p := ⟨g, off + k * 3 + 1, none⟩) hgl).trans q1
          have d2 := (HBR.out.cell (p := ⟨g, off + k * 3 + 2, none⟩) hgl).trans q2
          simp only at d0 d1 d2
          have k0 : (0 : Int) ≤ (k : Int) := by omega
          have k1 : (k : Int) < (wt.length : Int) := by omega
          have HST := Lib.hid (askFold_take (hd := hd) (g := (t, nd, jm)) (has := has) hx)
          clear q0 q1 q2 hcl hx
          obtain ⟨L, b, hLb⟩ : ∃ L b, askFold hd (t, nd, jm) has (wt.take k) = (L, b) := ⟨_, _, rfl⟩
          rw [hLb] at HOWN HST hle ⊢
          simp only at HOWN hle ⊢
          obtain ⟨n, hn⟩ : ∃ n, L.length = n := ⟨_, rfl⟩
          rw [hn] at HOWN hle ⊢
          have HNN := Lib.hid hn
          clear hLb hn
          have hbn := Go.heap_alloc_new wr (.cells #[.int .i64 x0, .int .i64 x1, .int .i64 x2] 34)
          obtain ⟨e0, e1, e2⟩ := box3 hbn
          have hwb : Below wr.heap.size wr (wr.alloc (.cells #[.int .i64 x0, .int .i64 x1, .int .i64 x2] 34)) := (Below.refl _ _).alloc (Nat.le_refl _) _
          obtain ⟨p, hp⟩ : ∃ p, (has != 0) = p := ⟨_, rfl⟩
          obtain ⟨q, hq⟩ : ∃ q, (x1 == nd) = q := ⟨_, rfl⟩
          obtain ⟨hx, hhx⟩ : ∃ hx, hasG hd x0 nd = hx := ⟨_, rfl⟩
          obtain ⟨r, hr⟩ : ∃ r, (hx == 0) = r := ⟨_, rfl⟩
          have HHIT := Lib.hid (show askHit hd (t, nd, jm) has (x0, x1, x2) = (p && (q && r)) by unfold askHit; simp only [hp, hq, hhx, hr])
          have h19 := H19.out (wr.alloc (.cells #[.int .i64 x0, .int .i64 x1, .int .i64 x2] 34)) ((HBW.out.trans (HBR.out.mono hsw)).trans (hwb.mono (by omega))) x0 nd
          rw [hhx] at h19
          have H19' := Lib.hid h19
          have HBN := Lib.hid hbn
          have HWB := Lib.hid hwb
          obtain ⟨hit, hhit⟩ : ∃ hit, (!b && (p && (q && r))) = hit := ⟨_, rfl⟩
          have HH := Lib.hid hhit
          clear hhx h19 hbn hwb hhit
          go_upto_region 17 with fail
          go_cut [113] from 78 to 121 (fun c wx => c = .bool hit ∧ Below (wr.heap.size + 1) (wr.alloc (.cells #[.int .i64 x0, .int .i64 x1, .int .i64 x2] 34)) wx)
          case first =>
            cases b with
            | true =>
              go_wp2
              go_meet
              exact ⟨by rw [← HH.out]; rfl, Below.refl _ _⟩
            | false =>
              cases p with
              | false =>
                go_wp2
                go_meet
                exact ⟨by rw [← HH.out]; rfl, Below.refl _ _⟩
              | true =>
                cases q with
                | false =>
                  go_wp2
                  go_meet
                  exact ⟨by rw [← HH.out]; rfl, Below.refl _ _⟩
                | true =>
                  go_wp2_with (go_at_call 19; refine H19'.out.mono ?_; rintro e w6 ⟨rfl, hb6⟩)
                  go_meet
                  exact ⟨by rw [← HH.out]; rfl, by have := hb6; simpa using this⟩
          case rest =>
            obtain ⟨rfl, hb8⟩ := hcut
            have hs8 := hb8.size
            simp only [World.size_alloc] at hs8
            obtain ⟨e0, e1, e2⟩ := box3 ((hb8.block wr.heap.size (by omega)).trans HBN.out)
            have hb9 : Below wr.heap.size wr wc := HWB.out.trans (hb8.mono (by omega))
            have hown7 := ownsRow_keeps HOWN.out (w' := wc) (fun g hg => hb9.block g (ownsRow_base HOWN.out hg).2)
            have HOWN7 := Lib.hid hown7
            have HB9 := Lib.hid (HBR.out.trans (hb9.mono hsr))
            have hbn8 := (hb8.block wr.heap.size (by omega)).trans HBN.out
            have HBN8 := Lib.hid hbn8
            obtain ⟨y0, y1, y2⟩ := box3 ((hb9.block w5.heap.size (by omega)).trans ((HBR.out.block w5.heap.size h5c).trans HBN7.out))
            have hgx : ∀ g, (Value.slice av n cv).ownBlock = some g → Wb.heap.size ≤ g ∧ g < wr.heap.size := fun g hg => ownsRow_base HOWN.out hg
            have hs9 := hb9.size
            clear hb8 hb9 hown7 hbn8 x9 d0 d1 d2
            cases hit with
            | true =>
              have hbf : b = false ∧ askHit hd (t, nd, jm) has (x0, x1, x2) = true := by
                have h1 := HH.out
                rw [HHIT.out]
                cases b
                · exact ⟨rfl, by simpa using h1⟩
                · simp at h1
              have hst : askFold hd (t, nd, jm) has (wt.take (k + 1)) = (L ++ [(t, nd, jm)] ++ [(x0, x1, x2)], true) := by
                rw [HST.out]; unfold askStep; rw [if_pos hbf]
              have HST2 := Lib.hid hst
              clear hst hbf
              go_wp2_with (first
                | (at_builtin; refine wpList_append_own_at _ rfl _ _ 31 rfl Wb.heap.size 34 i0 (.agg #[.int .i64 0, .int .i64 0, .int .i64 0]) 3 24 Try.underlying31 hi hz0 hz1 hz2 rfl (by decide) _ _ _ rfl (ownsRow_alloc HO7.out _) ⟨w7.heap.size, 0, none⟩ 1 1 [iv x0, iv x1, iv x2] rfl rfl (cells_new2 (xs := [iv x0, iv x1, iv x2])) (by simp [Value.oneCell']) (by unfold maxLen; omega) (by omega) (by simp at hgsz ⊢; omega) ?_; intro v8 w8 hown8 hgrow8 hnil8 hloc8; obtain ⟨a8, n8, c8, rfl⟩ := slice_form hown8)
                | (at_builtin; refine wpList_append_own_at _ rfl _ _ 31 rfl Wb.heap.size 34 i0 (.agg #[.int .i64 0, .int .i64 0, .int .i64 0]) 3 24 Try.underlying31 hi hz0 hz1 hz2 rfl (by decide) _ _ _ rfl (ownsRow_alloc HOWN7.out _) ⟨wc.heap.size, 0, none⟩ 1 1 [iv t, iv nd, iv jm] rfl rfl (cells_new2 (xs := [iv t, iv nd, iv jm])) (by simp [Value.oneCell']) (by unfold maxLen; omega) (by omega) (by simp; omega) ?_; intro v' w7 hown7 hgrow hnil hloc; obtain ⟨a7, n7, c7, rfl⟩ := slice_form hown7; have HO7 := Lib.hid hown7; have hkb := (hgrow.block wr.heap.size (by simp; omega) (fun e => by have := (hgx _ e.symm).2; omega)).trans ((Go.heap_alloc_old _ _ (by omega)).trans HBN8.out); have f0 : w7.cell? ⟨wr.heap.size, 0, none⟩ = some (.int .i64 x0) := (by simp only [World.cell?, hkb]; rfl); have f1 : w7.cell? ⟨wr.heap.size, 1, none⟩ = some (.int .i64 x1) := (by simp only [World.cell?, hkb]; rfl); have f2 : w7.cell? ⟨wr.heap.size, 2, none⟩ = some (.int .i64 x2) := (by simp only [World.cell?, hkb]; rfl); have hgsz := hgrow.size; have HGR := Lib.hid hgrow; clear hown7 hkb hgrow))
              go_roundw
              case rel =>
                refine ⟨k + 1, by omega, by go_num, by rw [HST2.out], ?_, ?_⟩
                · rw [HST2.out]
                  simp only
                  rw [flat3_snoc, flat3_snoc, List.length_append, List.length_append, HNN.out]
                  exact hown8
                · have hb7 : Below Wb.heap.size Wb w7 := (HB9.out.alloc HB9.out.size _).trans ⟨HGR.out.os, HGR.out.tape, HGR.out.output, HGR.out.size, fun j hj => HGR.out.block j (by simp; omega) (fun e => by have := (hgx _ e.symm).1; omega)⟩
                  exact (hb7.alloc hb7.size _).trans ⟨hgrow8.os, hgrow8.tape, hgrow8.output, hgrow8.size, fun j hj => hgrow8.block j (by have := hb7.size; simp; omega) (fun e => by have := (ownsRow_base HO7.out e.symm).1; omega)⟩
              case measure => simp [Lib.intOf]; omega
            | false =>
              have hst : askFold hd (t, nd, jm) has (wt.take (k + 1)) = (L ++ [(x0, x1, x2)], b) := by
                rw [HST.out]; unfold askStep
                rw [if_neg (fun h => by
                  have h1 := HH.out
                  have h2 := h.2
                  rw [HHIT.out] at h2
                  have h3 : b = false := h.1
                  rw [h2, h3] at h1; cases h1)]
              have HST2 := Lib.hid hst
              clear hst
              go_wp2_with (at_builtin; refine wpList_append_own_at _ rfl _ _ 31 rfl Wb.heap.size 34 i0 (.agg #[.int .i64 0, .int .i64 0, .int .i64 0]) 3 24 Try.underlying31 hi hz0 hz1 hz2 rfl (by decide) _ _ _ rfl (ownsRow_alloc HOWN7.out _) ⟨wc.heap.size, 0, none⟩ 1 1 [iv x0, iv x1, iv x2] rfl rfl (cells_new2 (xs := [iv x0, iv x1, iv x2])) (by simp [Value.oneCell']) (by unfold maxLen; omega) (by omega) (by simp; omega) ?_; intro v' w7 hown7 hgrow hnil hloc; obtain ⟨a7, n7, c7, rfl⟩ := slice_form hown7)
              go_roundw
              case rel =>
                refine ⟨k + 1, by omega, by go_num, by rw [HST2.out], ?_, ?_⟩
                · rw [HST2.out]
                  simp only
                  rw [flat3_snoc, List.length_append, HNN.out]
                  exact hown7
                · exact (HB9.out.alloc HB9.out.size _).trans ⟨hgrow.os, hgrow.tape, hgrow.output, hgrow.size, fun j hj => hgrow.block j (by simp; omega) (fun e => by have := (hgx _ e.symm).1; omega)⟩
              case measure => simp [Lib.intOf]; omega
        · obtain rfl : k = wt.length := by omega
          rw [List.take_length] at HOWN hle ⊢
          obtain ⟨L, b, hLb⟩ : ∃ L b, askFold hd (t, nd, jm) has wt = (L, b) := ⟨_, _, rfl⟩
          have hG : (askR hd wt t nd m) = (false, hd, if b = true then L else L ++ [(t, nd, jm)]) := by
            rw [HAR.out, if_neg (by rw [HGB.out]; simp), HHAS.out, HJM.out]
            unfold askInG; rw [hLb]
          rw [hLb] at HOWN hle ⊢
          simp only at HOWN hle ⊢
          obtain ⟨n, hn⟩ : ∃ n, L.length = n := ⟨_, rfl⟩
          rw [hn] at HOWN hle ⊢
          have HNN := Lib.hid hn
          have HG := Lib.hid hG
          have hcs := (HBR.out.block s hsc).trans HCELL.out
          have HCS := Lib.hid hcs
          have zs := free_block hcs 1
          have hwr : Below w.heap.size w wr := HBW.out.trans (HBR.out.mono hsw)
          have HWR := Lib.hid hwr
          have HTR := Lib.hid (HKT.out wr hwr)
          clear hLb hn hG hcs hwr
          cases b with
          | true =>
            go_wp2
            refine bodyPost_ret (results_tmp2 rfl _ _ _) rfl ?_
            rw [HG.out, if_pos trivial]
            have hrow := HOWN.out
            rw [← HNN.out] at hrow
            have := ask_end HTR.out HF.out HWR.out hsw hsr hrow (Nat.lt_of_lt_of_le hsc hsr) hsc
            rw [HNN.out] at this
            exact ⟨rfl, this⟩
          | false =>
            go_wp2_with (at_builtin; refine wpList_append_own_at _ rfl _ _ 31 rfl Wb.heap.size 34 i0 (.agg #[.int .i64 0, .int .i64 0, .int .i64 0]) 3 24 Try.underlying31 hi hz0 hz1 hz2 rfl (by decide) _ _ _ rfl (ownsRow_alloc HOWN.out _) ⟨wr.heap.size, 0, none⟩ 1 1 [iv t, iv nd, iv jm] rfl rfl (cells_new2 (xs := [iv t, iv nd, iv jm])) (by simp [Value.oneCell']) (by unfold maxLen; omega) (by omega) (by simp; omega) ?_; intro v' w7 hown7 hgrow hnil hloc; obtain ⟨a7, n7, c7, rfl⟩ := slice_form hown7; have hc7 := (hgrow.block s (by simp; omega) (fun e => by have := (ownsRow_base HOWN.out e.symm).1; omega)).trans ((Go.heap_alloc_old _ _ (by omega)).trans HCS.out); have q7 : w7.cell? ⟨s, 1, none⟩ = some (.slice a2 wt.length c2) := (by simp only [World.cell?, hc7]; rfl); have zs7 := free_block hc7 1)
            refine bodyPost_ret (results_tmp2 rfl _ _ _) rfl ?_
            rw [HG.out, if_neg (by simp)]
            have hb7 : Below Wb.heap.size Wb w7 := (HBR.out.alloc hsr _).trans ⟨hgrow.os, hgrow.tape, hgrow.output, hgrow.size, fun j hj => hgrow.block j (by simp; omega) (fun e => by have := (ownsRow_base HOWN.out e.symm).1; omega)⟩
            have hw7 := HBW.out.trans (hb7.mono hsw)
            have hrow : w7.ownsRow Wb.heap.size 34 3 (.slice a7 n7 c7) (L ++ [(t, nd, jm)]).length (flat3 (L ++ [(t, nd, jm)])) := by
              rw [flat3_snoc, List.length_append, HNN.out]; exact hown7
            exact ⟨rfl, ask_end (HKT.out w7 hw7) HF.out hw7 hsw hb7.size hrow (by have := hb7.size; omega) hsc⟩
end Go.Proofs.Ytamjopgpmeeheaa
