/- The reference's Release (35), Cancel (36). -/
import Derived.Test.YtamjopgpmeeheaaRS
namespace Go.Proofs.Ytamjopgpmeeheaa
open Go.RowKit
set_option linter.unusedVariables false

theorem rtab_set1 {F : Nat → Prop} {w w6 : World} {s : Nat} {hd wt wt' : List G3} {v6 : Value} (h : RTab F w s hd wt) (hF : ∀ k, F k → k < w.heap.size ∧ k ≠ s) (hb : Below w.heap.size w w6) (ht : TrisIn (fun k => w.heap.size ≤ k ∧ k < w6.heap.size) w6 v6 wt') :
    RTab (fun k => F k ∨ (w.heap.size ≤ k ∧ k < (w6.setCell ⟨s, 1, none⟩ v6).heap.size)) (w6.setCell ⟨s, 1, none⟩ v6) s hd wt' ∧ Chg (fun k => k = s) w (w6.setCell ⟨s, 1, none⟩ v6) := by
  obtain ⟨v1, v2, h1, h2, h3⟩ := h
  have hsl : s < w.heap.size := (Array.getElem?_eq_some_iff.1 h1).1
  have hch : Chg (fun j => j = s) w6 (w6.setCell ⟨s, 1, none⟩ v6) := chg_set (M := fun j => j = s) rfl 1 v6
  refine ⟨⟨v1, v6, by simpa using heap_setCell_same w6 s 1 _ _ v6 ((hb.block s hsl).trans h1), ?_, ?_⟩, (chg_new hb).trans hch⟩
  · exact ((h2.keep (fun j hj => hb.block j (hF j hj).1)).keep (fun j hj => hch.block j (by have := (hF j hj).1; have := hb.size; omega) (hF j hj).2)).mono (fun j hj => .inl hj)
  · exact (ht.keep (fun j hj => hch.block j hj.2 (by omega))).mono (fun j hj => .inr ⟨hj.1, Nat.lt_of_lt_of_le hj.2 hch.size⟩)
theorem rtab_set0 {F : Nat → Prop} {w w6 : World} {s : Nat} {hd wt hd' : List G3} {v6 : Value} (h : RTab F w s hd wt) (hF : ∀ k, F k → k < w.heap.size ∧ k ≠ s) (hb : Below w.heap.size w w6) (ht : TrisIn (fun k => w.heap.size ≤ k ∧ k < w6.heap.size) w6 v6 hd') :
    RTab (fun k => F k ∨ (w.heap.size ≤ k ∧ k < (w6.setCell ⟨s, 0, none⟩ v6).heap.size)) (w6.setCell ⟨s, 0, none⟩ v6) s hd' wt ∧ Chg (fun k => k = s) w (w6.setCell ⟨s, 0, none⟩ v6) := by
  obtain ⟨v1, v2, h1, h2, h3⟩ := h
  have hsl : s < w.heap.size := (Array.getElem?_eq_some_iff.1 h1).1
  have hch : Chg (fun j => j = s) w6 (w6.setCell ⟨s, 0, none⟩ v6) := chg_set (M := fun j => j = s) rfl 0 v6
  refine ⟨⟨v6, v2, by simpa using heap_setCell_same w6 s 0 _ _ v6 ((hb.block s hsl).trans h1), ?_, ?_⟩, (chg_new hb).trans hch⟩
  · exact (ht.keep (fun j hj => hch.block j hj.2 (by omega))).mono (fun j hj => .inr ⟨hj.1, Nat.lt_of_lt_of_le hj.2 hch.size⟩)
  · exact ((h3.keep (fun j hj => hb.block j (hF j hj).1)).keep (fun j hj => hch.block j (by have := (hF j hj).1; have := hb.size; omega) (hF j hj).2)).mono (fun j hj => .inl hj)
/-- a table of the reference, open -/
theorem RTab.open {F : Nat → Prop} {w : World} {s : Nat} {hd wt : List G3} (h : RTab F w s hd wt) : ∃ a1 c1 a2 c2, w.heap[s]? = some (.cells #[.slice a1 hd.length c1, .slice a2 wt.length c2] 39 (0, 0)) ∧ TrisIn F w (.slice a1 hd.length c1) hd ∧ TrisIn F w (.slice a2 wt.length c2) wt := by
  obtain ⟨v1, v2, h1, h2, h3⟩ := h
  obtain ⟨a1, c1, rfl, -⟩ := id h2
  obtain ⟨a2, c2, rfl, -⟩ := id h3
  exact ⟨a1, c1, a2, c2, h1, h2, h3⟩
theorem RTab.mono {F G : Nat → Prop} {w : World} {s : Nat} {hd wt : List G3} (h : RTab F w s hd wt) (hf : ∀ k, F k → G k) : RTab G w s hd wt := by
  obtain ⟨v1, v2, h1, h2, h3⟩ := h
  exact ⟨v1, v2, h1, h2.mono hf, h3.mono hf⟩
theorem box2 {w : World} {b : Nat} {x0 x1 : Value} {t : TypeId} {c : Nat × Nat} (h : w.heap[b]? = some (.cells #[x0, x1] t c)) : w.cell? ⟨b, 0, none⟩ = some x0 ∧ w.cell? ⟨b, 1, none⟩ = some x1 := by
  refine ⟨?_, ?_⟩ <;> simp only [World.cell?, h] <;> rfl
theorem outG_few (l : List G3) (t : Int) : (outG l t).length ≤ l.length := List.length_filter_le ..

set_option maxRecDepth 100000 in
set_option maxHeartbeats 8000000 in
theorem rrelease_any {F : Nat → Prop} {w : World} {s : Nat} {hd wt : List G3} (h : RTab F w s hd wt) (hF : ∀ k, F k → k < w.heap.size ∧ k ≠ s) (h0 : ∀ g ∈ wt, g.1 ≠ 0) (hl : hd.length + wt.length ≤ 1000) (t : Int) :
    Calls Try.prog 35 #[.pointer (some ⟨s, 0, none⟩), iv t] w fun e w' => (∃ v, e = .returned v ∧ TrisIn (fun k => w.heap.size ≤ k ∧ k < w'.heap.size) w' v (serveW (outG hd t) (outG wt t)).1) ∧ RTab (fun k => (F k ∨ w.heap.size ≤ k) ∧ k < w'.heap.size ∧ k ≠ s) w' s (serveW (outG hd t) (outG wt t)).2.1 (serveW (outG hd t) (outG wt t)).2.2 ∧ Chg (fun k => k = s) w w' := by
  obtain ⟨a1, c1, a2, c2, hcell, ht1, ht2⟩ := h.open
  have hsl : s < w.heap.size := (Array.getElem?_eq_some_iff.1 hcell).1
  obtain ⟨x0, x1⟩ := box2 hcell
  have H1 := Lib.hid (without_any ht2 (fun j hj => (hF j hj).1) (by omega) t)
  have HR := Lib.hid h
  have HF := Lib.hid hF
  have H0 := Lib.hid h0
  have HC := Lib.hid hcell
  have hl1 := outG_few hd t
  have hl2 := outG_few wt t
  clear h hF h0 hcell ht1 ht2
  go_enter Try.func35, Try.ntmps35
  go_wp2_with fail
  refine H1.out.mono ?_
  rintro e w6 ⟨⟨v6, rfl, htr⟩, hb6⟩
  obtain ⟨hr2, hch2⟩ := rtab_set1 HR.out HF.out hb6 htr
  have hs6 := hb6.size
  have hc6 := (hb6.block s hsl).trans HC.out
  obtain ⟨y0, y1⟩ := box2 hc6
  have z0 := free_block hc6 0
  have z1 := free_block hc6 1
  obtain ⟨a6, cp6, rfl, -, -, -⟩ := id htr
  have hF2 : ∀ k, F k ∨ (w.heap.size ≤ k ∧ k < (w6.setCell ⟨s, 1, none⟩ (.slice a6 (outG wt t).length cp6)).heap.size) → k < (w6.setCell ⟨s, 1, none⟩ (.slice a6 (outG wt t).length cp6)).heap.size ∧ k ≠ s := fun k hk => hk.elim (fun h => ⟨Nat.lt_of_lt_of_le (HF.out k h).1 hch2.size, (HF.out k h).2⟩) (fun h => ⟨h.2, by omega⟩)
  obtain ⟨b1, d1, b2, d2, hcell2, ht1, ht2⟩ := hr2.open
  have e1 : b1 = a1 ∧ d1 = c1 := by
    have := heap_setCell_same w6 s 1 _ _ (.slice a6 (outG wt t).length cp6) hc6
    rw [hcell2] at this
    simp at this
    exact this.1
  obtain ⟨rfl, rfl⟩ := e1
  have H2 := Lib.hid (without_any ht1 (fun j hj => (hF2 j hj).1) (by omega) t)
  have HR2 := Lib.hid hr2
  have HF2 := Lib.hid hF2
  have HC2 := Lib.hid hcell2
  have HCH2 := Lib.hid hch2
  clear hb6 hr2 hch2 hc6 hF2 hcell2 ht1 ht2 htr
  go_wp2_with fail
  refine H2.out.mono ?_
  rintro e w7 ⟨⟨v7, rfl, htr⟩, hb7⟩
  obtain ⟨hr3, hch3⟩ := rtab_set0 HR2.out HF2.out hb7 htr
  have hs7 := hb7.size
  have hs2 := HCH2.out.size
  have hc7 := (hb7.block s (by omega)).trans HC2.out
  obtain ⟨y0', y1'⟩ := box2 hc7
  have z0' := free_block hc7 0
  obtain ⟨a7, cp7, rfl, -, -, -⟩ := id htr
  have H3 := Lib.hid (rserve_any hr3 (fun k hk => hk.elim (fun h => ⟨Nat.lt_of_lt_of_le (HF2.out k h).1 hch3.size, (HF2.out k h).2⟩) (fun h => ⟨h.2, by omega⟩)) (outG_sub H0.out) (by omega))
  have HCH3 := Lib.hid hch3
  clear hb7 hr3 hch3 hc7 htr
  go_wp2_with fail
  refine H3.out.mono ?_
  rintro e w8 ⟨⟨v8, rfl, htr⟩, hr8, hch8⟩
  have hs3 := HCH3.out.size
  have HT8 := Lib.hid htr
  obtain ⟨a8, cp8, rfl, -, -, -⟩ := id htr
  have HR8 := Lib.hid hr8
  have HCH8 := Lib.hid hch8
  clear htr hr8 hch8
  go_wp2
  go_ret
  refine ⟨⟨_, rfl, HT8.out.mono (fun j hj => ⟨by omega, hj.2⟩)⟩, ?_, (HCH2.out.trans HCH3.out).trans HCH8.out⟩
  refine HR8.out.mono (fun j hj => ⟨?_, hj.2.1, hj.2.2⟩)
  rcases hj.1 with ((h | h) | h) | h
  · exact .inl h
  · exact .inr h.1
  · exact .inr (by have := h.1; omega)
  · exact .inr (by omega)

set_option maxRecDepth 100000 in
set_option maxHeartbeats 8000000 in
theorem rcancel_any {F : Nat → Prop} {w : World} {s : Nat} {hd wt : List G3} (h : RTab F w s hd wt) (hF : ∀ k, F k → k < w.heap.size ∧ k ≠ s) (h0 : ∀ g ∈ wt, g.1 ≠ 0) (hl : hd.length + wt.length ≤ 1000) (t : Int) :
    Calls Try.prog 36 #[.pointer (some ⟨s, 0, none⟩), iv t] w fun e w' => ∃ hd' wt', ((wantG wt t ≠ none ∧ (∃ v, e = .returned (.tuple #[v, .bool true]) ∧ TrisIn (fun k => w.heap.size ≤ k ∧ k < w'.heap.size) w' v (serveW hd (outG wt t)).1) ∧ hd' = (serveW hd (outG wt t)).2.1 ∧ wt' = (serveW hd (outG wt t)).2.2) ∨
      (wantG wt t = none ∧ e = .returned (.tuple #[.slice none 0 0, .bool false]) ∧ hd' = hd ∧ wt' = wt)) ∧ RTab (fun k => (F k ∨ w.heap.size ≤ k) ∧ k < w'.heap.size ∧ k ≠ s) w' s hd' wt' ∧ Chg (fun k => k = s) w w' := by
  have hsl : s < w.heap.size := by obtain ⟨v1, v2, hc, -⟩ := h; exact (Array.getElem?_eq_some_iff.1 hc).1
  have HW := Lib.hid (rwants_any h (fun k hk => (hF k hk).1) t)
  have HR := Lib.hid h
  have HF := Lib.hid hF
  have H0 := Lib.hid h0
  have hl2 := outG_few wt t
  clear h hF h0
  go_enter Try.func36, Try.ntmps36
  go_wp2_with fail
  refine HW.out.mono ?_
  rintro e w1 ⟨⟨⟨g1, g2, g3⟩, hg, rfl⟩ | ⟨hno, rfl⟩, hb1⟩
  · have HG := Lib.hid hg
    have hs1 := hb1.size
    have hb2 : Below w.heap.size w (w1.alloc (.cells #[iv g1, iv g2, iv g3] 34)) := hb1.alloc hs1 _
    have hr1 := HR.out.keep (w' := w1.alloc (.cells #[iv g1, iv g2, iv g3] 34)) (hb2.block s hsl) (fun j hj => hb2.block j (HF.out j hj).1)
    have hF1 : ∀ k, F k → k < (w1.alloc (.cells #[iv g1, iv g2, iv g3] 34)).heap.size ∧ k ≠ s := fun k hk => ⟨Nat.lt_of_lt_of_le (HF.out k hk).1 hb2.size, (HF.out k hk).2⟩
    obtain ⟨a1, c1, a2, c2, hcell, ht1, ht2⟩ := hr1.open
    obtain ⟨x0, x1⟩ := box2 hcell
    have H1 := Lib.hid (without_any ht2 (fun j hj => (hF1 j hj).1) (by omega) t)
    have HR1 := Lib.hid hr1
    have HF1 := Lib.hid hF1
    have HC := Lib.hid hcell
    have HB2 := Lib.hid hb2
    clear hg hb1 hb2 hr1 hF1 hcell ht1 ht2
    go_wp2_with fail
    refine H1.out.mono ?_
    rintro e w6 ⟨⟨v6, rfl, htr⟩, hb6⟩
    obtain ⟨hr2, hch2⟩ := rtab_set1 HR1.out HF1.out hb6 htr
    have hs6 := hb6.size
    have hc6 := (hb6.block s (by simp; omega)).trans HC.out
    obtain ⟨y0, y1⟩ := box2 hc6
    have z1 := free_block hc6 1
    obtain ⟨a6, cp6, rfl, -, -, -⟩ := id htr
    have H3 := Lib.hid (rserve_any hr2 (fun k hk => hk.elim (fun h => ⟨Nat.lt_of_lt_of_le (HF1.out k h).1 hch2.size, (HF1.out k h).2⟩) (fun h => ⟨h.2, by have := h.1; simp at this; omega⟩)) (outG_sub H0.out) (by omega))
    have HCH2 := Lib.hid hch2
    clear hb6 hr2 hch2 hc6 htr
    go_wp2_with fail
    refine H3.out.mono ?_
    rintro e w8 ⟨⟨v8, rfl, htr⟩, hr8, hch8⟩
    have hs2 := HCH2.out.size
    have HT8 := Lib.hid htr
    obtain ⟨a8, cp8, rfl, -, -, -⟩ := id htr
    have HR8 := Lib.hid hr8
    have HCH8 := Lib.hid hch8
    clear htr hr8 hch8
    go_wp2
    refine bodyPost_ret (results_tmp2 rfl _ _ _) rfl ?_
    refine ⟨_, _, .inl ⟨(by rw [HG.out]; simp), ⟨_, rfl, HT8.out.mono (fun j hj => ⟨by have := hj.1; simp at hs2 this; omega, hj.2⟩)⟩, rfl, rfl⟩, ?_, ((chg_new HB2.out).trans HCH2.out).trans HCH8.out⟩
    refine HR8.out.mono (fun j hj => ⟨?_, hj.2.1, hj.2.2⟩)
    rcases hj.1 with (h | h) | h
    · exact .inl h
    · exact .inr (by have := h.1; simp at this; omega)
    · exact .inr (by simp at hs2 h; omega)
  · have HNO := Lib.hid hno
    have hb2 : Below w.heap.size w (w1.alloc (.cells #[iv 0, iv 0, iv 0] 34)) := hb1.alloc hb1.size _
    have HB2 := Lib.hid hb2
    clear hno hb1 hb2
    go_wp2
    refine bodyPost_ret (results_tmp2 rfl _ _ _) rfl ?_
    refine ⟨hd, wt, .inr ⟨HNO.out, rfl, rfl, rfl⟩, ?_, chg_new HB2.out⟩
    exact (HR.out.keep (HB2.out.block s hsl) (fun j hj => HB2.out.block j (HF.out j hj).1)).mono (fun j hj => ⟨.inl hj, Nat.lt_of_lt_of_le (HF.out j hj).1 HB2.out.size, (HF.out j hj).2⟩)
end Go.Proofs.Ytamjopgpmeeheaa
