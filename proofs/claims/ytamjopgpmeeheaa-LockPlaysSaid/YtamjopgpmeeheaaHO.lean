/- The reference's hold (55). -/
import Derived.Test.YtamjopgpmeeheaaRW
namespace Go.Proofs.Ytamjopgpmeeheaa
open Go.RowKit
set_option linter.unusedVariables false

def sameG (h g : G3) : Bool := h.1 == g.1 && h.2.1 == g.2.1
def aheadG (h g : G3) : Bool := decide (g.2.1 < h.2.1) || (h.2.1 == g.2.1 && decide (g.1 < h.1))
def holdStep (g : G3) (st : List G3 × Bool) (h : G3) : List G3 × Bool :=
  if sameG h g = true then st else if st.2 = false ∧ aheadG h g = true then (st.1 ++ [g] ++ [h], true) else (st.1 ++ [h], st.2)
def holdFold (hd : List G3) (g : G3) : List G3 × Bool := hd.foldl (holdStep g) ([], false)
def holdG (hd : List G3) (g : G3) : List G3 := if (holdFold hd g).2 = true then (holdFold hd g).1 else (holdFold hd g).1 ++ [g]
theorem holdFold_take {hd : List G3} {g x : G3} {k : Nat} (hx : hd[k]? = some x) : holdFold (hd.take (k + 1)) g = holdStep g (holdFold (hd.take k) g) x := by
  unfold holdFold; rw [List.take_add_one, hx, List.foldl_append]; rfl
theorem holdFold_few (hd : List G3) (g : G3) : (holdFold hd g).1.length ≤ hd.length + (holdFold hd g).2.toNat := by
  have key : ∀ (l : List G3) (st : List G3 × Bool), (l.foldl (holdStep g) st).1.length + st.2.toNat ≤ st.1.length + l.length + (l.foldl (holdStep g) st).2.toNat := fun l => by
    induction l with
    | nil => intro st; simp
    | cons a l ih =>
      intro st
      rw [List.foldl_cons]
      have h1 := ih (holdStep g st a)
      have h2 : (holdStep g st a).1.length + st.2.toNat ≤ st.1.length + 1 + (holdStep g st a).2.toNat := by
        unfold holdStep
        split
        · omega
        · split
          · rename_i h; simp [h.1]
          · simp
      simp only [List.length_cons]
      omega
  have := key hd ([], false)
  simp only [List.length_nil, Bool.toNat_false] at this
  unfold holdFold
  omega

theorem rhold_end {F : Nat → Prop} {w W1 : World} {s : Nat} {L wt : List G3} {V v1 v2 : Value} (hT2 : TrisIn F w v2 wt) (hF : ∀ k, F k → k < w.heap.size) (hs : ¬ F s) (hsl : s < w.heap.size) (hbr : Below w.heap.size w W1) (hrow : W1.ownsRow (w.heap.size + 1) 34 3 V L.length (flat3 L)) (hcl : W1.heap[s]? = some (.cells #[v1, v2] 39 (0, 0))) :
    RTab (fun k => F k ∨ (w.heap.size ≤ k ∧ k < (W1.setCell ⟨s, 0, none⟩ V).heap.size)) (W1.setCell ⟨s, 0, none⟩ V) s L wt ∧ Chg (fun k => k = s) w (W1.setCell ⟨s, 0, none⟩ V) := by
  have hch : Chg (fun k => k = s) W1 (W1.setCell ⟨s, 0, none⟩ V) := chg_set (M := fun k => k = s) rfl 0 V
  have hs1 := hbr.size
  have hs2 := hch.size
  refine ⟨⟨V, v2, by simpa using heap_setCell_same W1 s 0 _ _ V hcl, ?_, ?_⟩, (chg_new hbr).trans hch⟩
  · exact ((trisIn_row hrow).keep (fun k hk => hch.block k hk.2 (by omega))).mono (fun k hk => .inr ⟨by omega, by omega⟩)
  · exact ((hT2.keep (fun k hk => hbr.block k (hF k hk))).keep (fun k hk => hch.block k (by have := hF k hk; omega) (fun e => hs (e ▸ hk)))).mono (fun k hk => .inl hk)
set_option maxRecDepth 100000 in
set_option maxHeartbeats 8000000 in
theorem rhold_any {F : Nat → Prop} {w : World} {s : Nat} {hd wt : List G3} (h : RTab F w s hd wt) (hF : ∀ k, F k → k < w.heap.size) (hs : ¬ F s) (hl : hd.length ≤ 1000000) (g0 g1 g2 : Int) :
    Calls Try.prog 55 #[.pointer (some ⟨s, 0, none⟩), .agg #[iv g0, iv g1, iv g2]] w fun e w' => (∃ v, e = .returned v) ∧ RTab (fun k => F k ∨ (w.heap.size ≤ k ∧ k < w'.heap.size)) w' s (holdG hd (g0, g1, g2)) wt ∧ Chg (fun k => k = s) w w' := by
  obtain ⟨i0, hi, hz0, hz1, hz2⟩ := info_parts Try.info34
  obtain ⟨v1, v2, hcell, ht1, ht2⟩ := h
  obtain ⟨a, c, rfl, hl1, hl2, hc⟩ := ht1
  have HT2 := Lib.hid ht2
  obtain ⟨ao, co, rfl, -, -, -⟩ := ht2
  unfold maxLen at hl2
  have hsl : s < w.heap.size := (Array.getElem?_eq_some_iff.1 hcell).1
  have c0 : w.cell? ⟨s, 0, none⟩ = some (.slice a hd.length c) := by simp [World.cell?, hcell]
  have HC := Lib.hid hc
  have HC0 := Lib.hid c0
  have HCELL := Lib.hid hcell
  clear hc hcell c0
  have hn := Go.heap_alloc_new w (.cells #[.int .i64 g0, .int .i64 g1, .int .i64 g2] 34)
  have HN := Lib.hid hn
  clear hn
  go_enter Try.func55, Try.ntmps55
  go_wp2_with fail
  go_loopw [4, 5, 6] (fun v b i wr => ∃ k : Nat, k ≤ hd.length ∧ i = .int .i64 k ∧ b = .bool (holdFold (hd.take k) (g0, g1, g2)).2 ∧ wr.ownsRow (w.heap.size + 1) 34 3 v (holdFold (hd.take k) (g0, g1, g2)).1.length (flat3 (holdFold (hd.take k) (g0, g1, g2)).1) ∧ wr.heap[w.heap.size]? = some (.cells #[.int .i64 g0, .int .i64 g1, .int .i64 g2] 34) ∧ Below w.heap.size w wr) (fun v b i _ => hd.length - (Lib.intOf i).toNat)
  case atStart => exact ⟨0, Nat.zero_le _, rfl, rfl, World.ownsRow_nil _ _ _ _, HN.out, (Below.refl _ _).alloc (Nat.le_refl _) _⟩
  case round =>
    obtain ⟨k, hk, rfl, rfl, hown, hbx, hbr⟩ := hrel
    have HBR := Lib.hid hbr
    have hsr := hbr.size
    have hwl : w.heap.size < wr.heap.size := (Array.getElem?_eq_some_iff.1 hbx).1
    obtain ⟨av, cv, rfl⟩ := own_form hown
    have HOWN := Lib.hid hown
    have x9 := (hbr.cell (p := ⟨s, 0, none⟩) hsl).trans HC0.out
    have r0 : wr.cell? ⟨w.heap.size, 0, none⟩ = some (.int .i64 g0) := by simp [World.cell?, hbx]
    have r1 : wr.cell? ⟨w.heap.size, 1, none⟩ = some (.int .i64 g1) := by simp [World.cell?, hbx]
    have r2 : wr.cell? ⟨w.heap.size, 2, none⟩ = some (.int .i64 g2) := by simp [World.cell?, hbx]
    have HBX := Lib.hid hbx
    have hfew := holdFold_few (hd.take k) (g0, g1, g2)
    have hle : (holdFold (hd.take k) (g0, g1, g2)).1.length ≤ 1000001 := by
      have : (hd.take k).length ≤ 1000000 := by simp; omega
      have := Bool.toNat_le (holdFold (hd.take k) (g0, g1, g2)).2
      omega
    clear hbr hown hbx hfew
    by_cases hlt : k < hd.length
    · obtain ⟨⟨x0, x1, x2⟩, hx⟩ : ∃ x, hd[k]? = some x := ⟨_, List.getElem?_eq_getElem hlt⟩
      rcases HC.out with h | ⟨g, off, rfl, hg, hcl⟩
      · rw [h] at hlt; simp at hlt
      have hgl := hF g hg
      obtain ⟨a0, a1, a2⟩ := hcl k _ hx
      have d0 := (HBR.out.cell (p := ⟨g, off + k * 3, none⟩) hgl).trans a0
      have d1 := (HBR.out.cell (p := ⟨g, off + k * 3 + 1, none⟩) hgl).trans a1
      have d2 := (HBR.out.cell (p := ⟨g, off + k * 3 + 2, none⟩) hgl).trans a2
      simp only at d0 d1 d2
      have k0 : (0 : Int) ≤ (k : Int) := by omega
      have k1 : (k : Int) < (hd.length : Int) := by omega
      have HST := Lib.hid (holdFold_take (g := (g0, g1, g2)) hx)
      clear a0 a1 a2 hcl hx
      obtain ⟨L, b, hLb⟩ : ∃ L b, holdFold (hd.take k) (g0, g1, g2) = (L, b) := ⟨_, _, rfl⟩
      rw [hLb] at HOWN HST hle ⊢
      simp only at HOWN hle ⊢
      obtain ⟨n, hn⟩ : ∃ n, L.length = n := ⟨_, rfl⟩
      rw [hn] at HOWN hle ⊢
      have HNN := Lib.hid hn
      clear hLb hn
      have HB1 := Lib.hid (HBR.out.alloc hsr (.cells #[.int .i64 x0, .int .i64 x1, .int .i64 x2] 34))
      obtain ⟨p, hp⟩ : ∃ p, (x0 == g0) = p := ⟨_, rfl⟩
      obtain ⟨q, hq⟩ : ∃ q, (x1 == g1) = q := ⟨_, rfl⟩
      by_cases hsm : (p && q) = true
      · obtain ⟨rfl, rfl⟩ : p = true ∧ q = true := by simpa using hsm
        have hst : holdFold (hd.take (k + 1)) (g0, g1, g2) = (L, b) := by
          rw [HST.out]; unfold holdStep; rw [if_pos (by unfold sameG; simp only [hp, hq, Bool.and_self])]
        have HST2 := Lib.hid hst
        clear hsm hst
        go_wp2
        go_roundw
        case rel => exact ⟨k + 1, by omega, by go_num, by rw [HST2.out], by rw [HST2.out]; simp only; rw [HNN.out]; exact ownsRow_alloc HOWN.out _, (Go.heap_alloc_old _ _ hwl).trans HBX.out, HB1.out⟩
        case measure => simp [Lib.intOf]; omega
      · have hpq : sameG (x0, x1, x2) (g0, g1, g2) = false := by unfold sameG; simp only [hp, hq]; simpa using hsm
        have hP : p = false ∨ (p = true ∧ q = false) := by
          cases p with
          | false => exact .inl rfl
          | true => cases q with
            | false => exact .inr ⟨rfl, rfl⟩
            | true => exact absurd rfl hsm
        obtain ⟨A, hA⟩ : ∃ A, decide (g1 < x1) = A := ⟨_, rfl⟩
        obtain ⟨C, hC⟩ : ∃ C, decide (g0 < x0) = C := ⟨_, rfl⟩
        have hah : aheadG (x0, x1, x2) (g0, g1, g2) = (A || (q && C)) := by unfold aheadG; simp only [hA, hq, hC]
        by_cases hadd : b = false ∧ (A || (q && C)) = true
        · have hst : holdFold (hd.take (k + 1)) (g0, g1, g2) = (L ++ [(g0, g1, g2)] ++ [(x0, x1, x2)], true) := by
            rw [HST.out]; unfold holdStep; rw [if_neg (by rw [hpq]; simp), if_pos ⟨hadd.1, by rw [hah]; exact hadd.2⟩]
          have HST2 := Lib.hid hst
          obtain ⟨rfl, hadd⟩ := hadd
          have hcs : A = true ∨ (A = false ∧ q = true ∧ C = true) := by
            cases A <;> cases q <;> cases C <;> simp_all
          clear hst hadd hah hpq hsm
          rcases hP with rfl | ⟨rfl, rfl⟩ <;> rcases hcs with rfl | ⟨rfl, hq', rfl⟩
          all_goals (try (cases hq'; done))
          all_goals (try subst hq')
          all_goals
            go_wp2_with (first
              | (at_builtin; refine wpList_append_own_at _ rfl _ _ 31 rfl (w.heap.size + 1) 34 i0 (.agg #[.int .i64 0, .int .i64 0, .int .i64 0]) 3 24 Try.underlying31 hi hz0 hz1 hz2 rfl (by decide) _ _ _ rfl (ownsRow_alloc HO7.out _) ⟨w7.heap.size, 0, none⟩ 1 1 [iv x0, iv x1, iv x2] rfl rfl (cells_new2 (xs := [iv x0, iv x1, iv x2])) (by simp [Value.oneCell']) (by unfold maxLen; omega) (by omega) (by simp at hgsz ⊢; omega) ?_; intro v8 w8 hown8 hgrow8 hnil8 hloc8; obtain ⟨a8, n8, c8, rfl⟩ := slice_form hown8)
              | (at_builtin; refine wpList_append_own_at _ rfl _ _ 31 rfl (w.heap.size + 1) 34 i0 (.agg #[.int .i64 0, .int .i64 0, .int .i64 0]) 3 24 Try.underlying31 hi hz0 hz1 hz2 rfl (by decide) _ _ _ rfl (ownsRow_alloc (ownsRow_alloc HOWN.out _) _) ⟨wr.heap.size + 1, 0, none⟩ 1 1 [iv g0, iv g1, iv g2] rfl rfl (by have := cells_new2 (w := wr.alloc (.cells #[.int .i64 x0, .int .i64 x1, .int .i64 x2] 34)) (xs := [iv g0, iv g1, iv g2]) (t := 34); rw [World.size_alloc] at this; exact this) (by simp [Value.oneCell']) (by unfold maxLen; omega) (by omega) (by simp; omega) ?_; intro v' w7 hown7 hgrow hnil hloc; obtain ⟨a7, n7, c7, rfl⟩ := slice_form hown7; have HO7 := Lib.hid hown7; have hkb := (hgrow.block wr.heap.size (by simp; omega) (fun e => by have := (ownsRow_base HOWN.out e.symm).2; omega)).trans ((Go.heap_alloc_old _ _ (by simp)).trans (Go.heap_alloc_new wr (.cells #[.int .i64 x0, .int .i64 x1, .int .i64 x2] 34))); have f0 : w7.cell? ⟨wr.heap.size, 0, none⟩ = some (.int .i64 x0) := (by simp [World.cell?, hkb]); have f1 : w7.cell? ⟨wr.heap.size, 1, none⟩ = some (.int .i64 x1) := (by simp [World.cell?, hkb]); have f2 : w7.cell? ⟨wr.heap.size, 2, none⟩ = some (.int .i64 x2) := (by simp [World.cell?, hkb]); have hgsz := hgrow.size; have HGR := Lib.hid hgrow; clear hown7 hkb hgrow))
            go_roundw
            case rel =>
              refine ⟨k + 1, by omega, by go_num, by rw [HST2.out], ?_, ?_, ?_⟩
              · rw [HST2.out]
                simp only
                rw [flat3_snoc, flat3_snoc, List.length_append, List.length_append, HNN.out]
                exact hown8
              · exact ((hgrow8.block w.heap.size (by simp at hgsz ⊢; omega) (fun e => by have := (ownsRow_base HO7.out e.symm).1; omega)).trans (Go.heap_alloc_old _ _ (by simp at hgsz; omega))).trans ((HGR.out.block w.heap.size (by simp; omega) (fun e => by have := (ownsRow_base HOWN.out e.symm).1; omega)).trans ((Go.heap_alloc_old _ _ (by simp; omega)).trans ((Go.heap_alloc_old _ _ hwl).trans HBX.out)))
              · have hb7 : Below w.heap.size w w7 := (HB1.out.alloc (by simp; omega) _).trans ⟨HGR.out.os, HGR.out.tape, HGR.out.output, HGR.out.size, fun j hj => HGR.out.block j (by simp; omega) (fun e => by have := (ownsRow_base HOWN.out e.symm).1; omega)⟩
                exact (hb7.alloc hb7.size _).trans ⟨hgrow8.os, hgrow8.tape, hgrow8.output, hgrow8.size, fun j hj => hgrow8.block j (by have := hb7.size; simp; omega) (fun e => by have := (ownsRow_base HO7.out e.symm).1; omega)⟩
            case measure => simp [Lib.intOf]; omega
        · have hst : holdFold (hd.take (k + 1)) (g0, g1, g2) = (L ++ [(x0, x1, x2)], b) := by
            rw [HST.out]; unfold holdStep; rw [if_neg (by rw [hpq]; simp), if_neg (by rw [hah]; exact hadd)]
          have HST2 := Lib.hid hst
          have hcs : b = true ∨ (b = false ∧ A = false ∧ q = false) ∨ (b = false ∧ A = false ∧ q = true ∧ C = false) := by
            cases b <;> cases A <;> cases q <;> cases C <;> simp_all
          clear hst hadd hah hpq hsm
          rcases hP with rfl | ⟨rfl, rfl⟩ <;> rcases hcs with rfl | ⟨rfl, rfl, hq'⟩ | ⟨rfl, rfl, hq', rfl⟩
          all_goals (try (cases hq'; done))
          all_goals (try subst hq')
          all_goals
            go_wp2_with (at_builtin; refine wpList_append_own_at _ rfl _ _ 31 rfl (w.heap.size + 1) 34 i0 (.agg #[.int .i64 0, .int .i64 0, .int .i64 0]) 3 24 Try.underlying31 hi hz0 hz1 hz2 rfl (by decide) _ _ _ rfl (ownsRow_alloc (ownsRow_alloc HOWN.out _) _) ⟨wr.heap.size + 1, 0, none⟩ 1 1 [iv x0, iv x1, iv x2] rfl rfl (by have := cells_new2 (w := wr.alloc (.cells #[.int .i64 x0, .int .i64 x1, .int .i64 x2] 34)) (xs := [iv x0, iv x1, iv x2]) (t := 34); rw [World.size_alloc] at this; exact this) (by simp [Value.oneCell']) (by unfold maxLen; omega) (by omega) (by simp; omega) ?_; intro v' w7 hown7 hgrow hnil hloc; obtain ⟨a7, n7, c7, rfl⟩ := slice_form hown7)
            go_roundw
            case rel =>
              refine ⟨k + 1, by omega, by go_num, by rw [HST2.out], ?_, ?_, ?_⟩
              · rw [HST2.out]
                simp only
                rw [flat3_snoc, List.length_append, HNN.out]
                exact hown7
              · exact (hgrow.block w.heap.size (by simp; omega) (fun e => by have := (ownsRow_base HOWN.out e.symm).1; omega)).trans ((Go.heap_alloc_old _ _ (by simp; omega)).trans ((Go.heap_alloc_old _ _ hwl).trans HBX.out))
              · exact (HB1.out.alloc (by simp; omega) _).trans ⟨hgrow.os, hgrow.tape, hgrow.output, hgrow.size, fun j hj => hgrow.block j (by simp; omega) (fun e => by have := (ownsRow_base HOWN.out e.symm).1; omega)⟩
            case measure => simp [Lib.intOf]; omega
    · obtain rfl : k = hd.length := by omega
      rw [List.take_length] at HOWN hle ⊢
      obtain ⟨L, b, hLb⟩ : ∃ L b, holdFold hd (g0, g1, g2) = (L, b) := ⟨_, _, rfl⟩
      have hG : holdG hd (g0, g1, g2) = if b = true then L else L ++ [(g0, g1, g2)] := by unfold holdG; rw [hLb]
      rw [hLb] at HOWN hle ⊢
      simp only at HOWN hle ⊢
      obtain ⟨n, hn⟩ : ∃ n, L.length = n := ⟨_, rfl⟩
      rw [hn] at HOWN hle ⊢
      have HNN := Lib.hid hn
      have HG := Lib.hid hG
      have hcl := (HBR.out.block s hsl).trans HCELL.out
      have HCL := Lib.hid hcl
      have zs := free_block hcl 0
      clear hLb hn hG hcl
      have q9 : wr.cell? ⟨s, 1, none⟩ = some (.slice ao wt.length co) := by simp [World.cell?, HCL.out]
      cases b with
      | true =>
        go_wp2
        refine bodyPost_end (results_none rfl _ _ _) rfl ⟨⟨_, rfl⟩, ?_⟩
        rw [HG.out, if_pos trivial]
        exact rhold_end HT2.out hF hs hsl HBR.out (by rw [HNN.out]; exact HOWN.out) HCL.out
      | false =>
        go_wp2_with (at_builtin; refine wpList_append_own_at _ rfl _ _ 31 rfl (w.heap.size + 1) 34 i0 (.agg #[.int .i64 0, .int .i64 0, .int .i64 0]) 3 24 Try.underlying31 hi hz0 hz1 hz2 rfl (by decide) _ _ _ rfl (ownsRow_alloc HOWN.out _) ⟨wr.heap.size, 0, none⟩ 1 1 [iv g0, iv g1, iv g2] rfl rfl (cells_new2 (xs := [iv g0, iv g1, iv g2])) (by simp [Value.oneCell']) (by unfold maxLen; omega) (by omega) (by simp; omega) ?_; intro v' w7 hown7 hgrow hnil hloc; obtain ⟨a7, n7, c7, rfl⟩ := slice_form hown7; have hc7 := (hgrow.block s (by simp; omega) (fun e => by have := (ownsRow_base HOWN.out e.symm).1; omega)).trans ((Go.heap_alloc_old _ _ (by omega)).trans HCL.out); have q7 : w7.cell? ⟨s, 0, none⟩ = some (.slice a hd.length c) := (by simp [World.cell?, hc7]); have zs7 := free_block hc7 0)
        refine bodyPost_end (results_none rfl _ _ _) rfl ⟨⟨_, rfl⟩, ?_⟩
        rw [HG.out, if_neg (by simp)]
        exact rhold_end HT2.out hF hs hsl ((HBR.out.alloc hsr _).trans ⟨hgrow.os, hgrow.tape, hgrow.output, hgrow.size, fun j hj => hgrow.block j (by simp; omega) (fun e => by have := (ownsRow_base HOWN.out e.symm).1; omega)⟩) (by rw [flat3_snoc, List.length_append, HNN.out]; exact hown7) hc7
end Go.Proofs.Ytamjopgpmeeheaa
