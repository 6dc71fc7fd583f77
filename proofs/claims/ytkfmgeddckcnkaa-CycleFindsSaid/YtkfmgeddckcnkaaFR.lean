/- The reference's Find (10). -/
import Derived.Test.YtkfmgeddckcnkaaPF
namespace Go.Proofs.Ytkfmgeddckcnkaa
open Go.RowKit
set_option linter.unusedVariables false

theorem pick_drop {p : Int → Bool} {xs : List Int} {j : Nat} {x : Int} (h : xs[j]? = some x) : pickR p (xs.drop j) = if p x then x else pickR p (xs.drop (j + 1)) := by
  obtain ⟨hj, he⟩ := List.getElem?_eq_some_iff.1 h
  rw [List.drop_eq_getElem_cons hj, he]
  unfold pickR
  rw [List.find?_cons]
  cases hp : p x <;> simp
theorem findR_hit {G : List Edge} (hG : Fine G) {t : Int} {k : Nat} {c : List Int} (hk : 2 ≤ k) (hs : ∀ s, 2 ≤ s → s < k → tryR G (allOf G) t s = none) (h : tryR G (allOf G) t k = some c) : findOf G t = c := by
  rcases findR_spec hG t with ⟨_, h2⟩ | ⟨h1, h2, h3, h4⟩
  · rw [h2 k hk] at h; cases h
  · have : k = (findOf G t).length := by
      rcases Nat.lt_trichotomy k (findOf G t).length with h5 | h5 | h5
      · rw [h3 k hk h5] at h; cases h
      · exact h5
      · rw [hs _ h1 h5] at h4; cases h4
    rw [this, h4] at h
    exact Option.some.inj h
theorem findR_miss {G : List Edge} (hG : Fine G) {t : Int} (h : ∀ s, 2 ≤ s → s < (allOf G).length + 1 → tryR G (allOf G) t s = none) : findOf G t = [] := by
  rcases findR_spec hG t with ⟨h1, _⟩ | ⟨h1, h2, h3, h4⟩
  · exact h1
  · rw [h _ h1 (by omega)] at h4; cases h4
theorem allOf_length (G : List Edge) : (allOf G).length ≤ 1000 := numK_length G 1000
theorem numbers_all {F : Nat → Prop} {w : World} {v : Value} {l : List Edge} (h : EdgesIn F w v l) (hF : ∀ k, F k → k < w.heap.size) :
    Calls Try.prog 16 #[v] w fun e w' => (∃ r, e = .returned r ∧ IntsIn (fun k => w.heap.size ≤ k ∧ k < w'.heap.size) w' r (allOf l)) ∧ Below w.heap.size w w' := numbers_any h hF
theorem mayR_val (G : List Edge) (near c : List Int) (t at' x : Int) : mayR G near c t at' x = (decide ((at', x) ∈ G) && decide (x ∈ near) && (x != t) && !decide (x ∈ c)) := rfl

set_option maxRecDepth 100000 in
set_option maxHeartbeats 4000000 in
theorem refFind_any {F : Nat → Prop} {w : World} {v : Value} {l : List Edge} (h : EdgesIn F w v l) (hF : ∀ k, F k → k < w.heap.size) (hG : Fine l) (t : Int) :
    Calls Try.prog 10 #[v, iv t] w fun e w' => (∃ r, e = .returned r ∧ IntsIn (fun k => w.heap.size ≤ k ∧ k < w'.heap.size) w' r (findOf l t)) ∧ Below w.heap.size w w' := by
  obtain ⟨i0, hi, hz0, hz1, hz2⟩ := info_parts Try.info3
  have HE := Lib.hid h
  have HF := Lib.hid hF
  have HN := Lib.hid (numbers_all h hF)
  obtain ⟨a, cap, rfl, hll, hcm, -⟩ := h
  clear hF hll hcm
  have hal := allOf_length l
  have HHIT := Lib.hid (fun k c => @findR_hit l hG t k c)
  have HMISS := Lib.hid (@findR_miss l hG t)
  obtain ⟨all, hall⟩ : ∃ all, allOf l = all := ⟨_, rfl⟩
  rw [hall] at HN hal HHIT HMISS
  clear hall
  go_enter Try.func10, Try.ntmps10
  go_wp2_with (go_at_call 16; refine HN.out.mono ?_; rintro e w1 ⟨⟨r1, rfl, hi1⟩, hb1⟩; have HI1 := Lib.hid hi1; have HB1 := Lib.hid hb1; have hbs1 := hb1.size; obtain ⟨a1, c1, rfl, -, -, hx1⟩ := hi1; have HX1 := Lib.hid hx1; clear hx1 hb1)
  go_loopw [6] (fun i wx => ∃ k : Nat, 2 ≤ k ∧ k ≤ all.length + 2 ∧ i = .int .i64 k ∧ (∀ s, 2 ≤ s → s < k → tryR l all t s = none) ∧ Below w1.heap.size w1 wx) (fun i _ => all.length + 2 - (Lib.intOf i).toNat)
  case atStart => exact ⟨2, Nat.le_refl _, by omega, rfl, fun s h1 h2 => by omega, Below.refl _ _⟩
  case round =>
    obtain ⟨k, hk2, hk, rfl, hnone, hbx⟩ := hrel
    have HNONE := Lib.hid hnone
    have HBX := Lib.hid hbx
    have hbsx := hbx.size
    clear hnone hbx
    by_cases hka : k ≤ all.length
    · have q0 : (k : Int) ≤ (all.length : Int) := by omega
      have HROW0 := Lib.hid (ownsRow_one wr wr.heap.size (Nat.le_refl _) t)
      have HB0 := Lib.hid ((Below.refl wr.heap.size wr).alloc (Nat.le_refl _) (.cells #[iv t] 3))
      obtain ⟨W1, rfl⟩ : ∃ W1, W1 = wr := ⟨wr, rfl⟩
      go_wp2
      go_loopg [7, 8] (k - 1) (fun g s7 s8 wx => ∃ (ov : Value) (c : List Int) (at' : Int), ov = s7 ∧ c.length + g = k ∧ s8 = .int .i64 at' ∧ goR l all t g c at' = goR l all t (k - 1) [t] t ∧ wx.ownsRow W1.heap.size 3 1 ov c.length (c.map iv) ∧ Below W1.heap.size W1 wx)
      case atStart => exact ⟨_, [t], t, rfl, by simp; omega, rfl, rfl, HROW0.out, HB0.out⟩
      case round =>
        obtain ⟨ov, c, at', rfl, hcl, rfl, hgo, hrow, hbr⟩ := hrel
        have HROW := Lib.hid hrow
        have HBR := Lib.hid hbr
        have HGO := Lib.hid hgo
        have hbsr := hbr.size
        obtain ⟨ao, co, rfl⟩ := own_form hrow
        have HIC := Lib.hid (intsIn_row hrow)
        clear hrow hbr hgo
        have HEW := Lib.hid (show EdgesIn F wr (.slice a l.length cap) l from HE.out.keep (fun b hb => (HBR.out.block b (by have := HF.out b hb; omega)).trans ((HBX.out.block b (by have := HF.out b hb; omega)).trans (HB1.out.block b (HF.out b hb)))))
        have HAW := Lib.hid (show IntsIn (fun b => w.heap.size ≤ b ∧ b < w1.heap.size) wr (.slice a1 all.length c1) all from HI1.out.keep (fun b hb => (HBR.out.block b (by omega)).trans (HBX.out.block b hb.2)))
        by_cases hg : gk = 0
        · subst hg
          have hgo := HGO.out
          rw [goR_zero] at hgo
          have HT := Lib.hid hgo
          have hck : c.length = k := by omega
          subst hck
          clear hgo
          have HHAS := Lib.hid (has_any HEW.out at' t)
          by_cases hm : (at', t) ∈ l
          · rw [decide_eq_true hm] at HHAS
            have HC := Lib.hid (HHIT.out _ c hk2 HNONE.out (by rw [tryR_some (by rw [← HT.out]; exact ⟨rfl, hm⟩), ← HT.out]))
            clear hm
            go_wp2_with (go_at_call 18; refine HHAS.out.mono ?_; rintro e w' ⟨rfl, rfl⟩)
            go_ret
            exact ⟨⟨_, rfl, by rw [HC.out]; exact HIC.out.bound.mono (fun b hb => ⟨by have := hb.1; omega, hb.2⟩)⟩, HB1.out.trans ((HBX.out.trans (HBR.out.mono hbsx)).mono hbs1)⟩
          · rw [decide_eq_false hm] at HHAS
            have HC := Lib.hid (show tryR l all t c.length = none from tryR_none (by rw [← HT.out]; exact fun h => hm h.2))
            clear hm
            go_wp2_with (go_at_call 18; refine HHAS.out.mono ?_; rintro e w' ⟨rfl, rfl⟩)
            go_roundw
            case rel => exact ⟨c.length + 1, by omega, by omega, by go_num, fun s h1 h2 => by
              by_cases h : s = c.length
              · rw [h]; exact HC.out
              · exact HNONE.out s h1 (by omega), HBX.out.trans (HBR.out.mono hbsx)⟩
            case measure => simp [Lib.intOf]; omega
        · obtain ⟨left, rfl⟩ : ∃ left, gk = left + 1 := ⟨gk - 1, by omega⟩
          have e1 : ((left + 1 : Nat) : Int) = (k : Int) - (c.length : Int) := by omega
          have hre := reach_any HEW.out (fun b hb => by have := HF.out b hb; omega) HAW.out (fun b hb => by omega) hal t (left + 1) (by omega)
          rw [e1] at hre
          have HRE := Lib.hid hre
          have q1 : (c.length : Int) < (k : Int) := by omega
          have q2 : (0 : Int) ≤ (k : Int) - (c.length : Int) := by omega
          clear hre e1
          obtain ⟨W2, rfl⟩ : ∃ W2, W2 = wr := ⟨wr, rfl⟩
          go_wp2_with (go_at_call 17; refine HRE.out.mono ?_; rintro e w4 ⟨⟨r4, rfl, hi4⟩, hb4⟩; have HI4 := Lib.hid hi4; have HB4 := Lib.hid hb4; have hbs4 := hb4.size; obtain ⟨a4, c4, rfl, -, -, hx4⟩ := hi4; clear hx4 hb4)
          obtain ⟨near, hnear⟩ : ∃ near, reachS l all t (left + 1) = near := ⟨_, rfl⟩
          rw [hnear] at HI4 ⊢
          obtain ⟨p, hp⟩ : ∃ p, mayR l near c t at' = p := ⟨_, rfl⟩
          have HNP := Lib.hid (And.intro hnear hp)
          have HEW4 := Lib.hid (show EdgesIn F w4 (.slice a l.length cap) l from HEW.out.keep (fun b hb => HB4.out.block b (by have := HF.out b hb; omega)))
          have HAW4 := Lib.hid (show IntsIn (fun b => w.heap.size ≤ b ∧ b < w1.heap.size) w4 (.slice a1 all.length c1) all from HAW.out.keep (fun b hb => HB4.out.block b (by omega)))
          have HIC4 := Lib.hid (HIC.out.bound.keep (w' := w4) (fun b hb => HB4.out.block b hb.2))
          have HROW4 := Lib.hid (ownsRow_keeps HROW.out (w' := w4) (fun b hb => HB4.out.block b (ownsRow_base HROW.out hb).2))
          have HBR4 := Lib.hid (HBR.out.trans (HB4.out.mono hbsr))
          have m0 : (-1 : Int) ≤ (all.length : Int) - 1 := by omega
          clear hnear hp
          go_loop [10, 11] (fun nx i => ∃ j : Nat, j ≤ all.length ∧ i = .int .i64 ((j : Int) - 1) ∧ nx = .int .i64 (pickR p (all.drop j))) (fun _ i => (Lib.intOf i + 1).toNat)
          case atStart => exact ⟨all.length, Nat.le_refl _, rfl, by rw [List.drop_length]; rfl⟩
          case round =>
            obtain ⟨j, hj, rfl, rfl⟩ := hrel
            by_cases hj0 : j = 0
            · subst hj0
              rw [List.drop_zero]
              obtain ⟨x, hx⟩ : ∃ x, pickR p all = x := ⟨_, rfl⟩
              have HPX := Lib.hid hx
              rw [hx]
              clear hx
              by_cases hx0 : x = 0
              · subst hx0
                have hstop : goR l all t (left + 1) c at' = (c, at') := goR_stop (by rw [HNP.out.1, HNP.out.2]; exact HPX.out)
                rw [HGO.out] at hstop
                have HT := Lib.hid hstop.symm
                clear hstop
                have hck : ((c.length : Int) == (k : Int)) = false := beq_false_of_ne (by omega)
                have HC := Lib.hid (show tryR l all t k = none from tryR_none (by rw [← HT.out]; exact fun h => absurd h.1 (by show ¬ c.length = k; omega)))
                go_wp2
                go_roundw
                case rel => exact ⟨k + 1, by omega, by omega, by go_num, fun s h1 h2 => by
                  by_cases h : s = k
                  · rw [h]; exact HC.out
                  · exact HNONE.out s h1 (by omega), HBX.out.trans (HBR4.out.mono hbsx)⟩
                case measure => simp [Lib.intOf]; omega
              · have hxb : (x == 0) = false := beq_false_of_ne hx0
                have hon : goR l all t (left + 1) c at' = goR l all t left (c ++ [x]) x := goR_on (by rw [HNP.out.1, HNP.out.2]; exact HPX.out) hx0
                rw [HGO.out] at hon
                have HON := Lib.hid hon.symm
                clear hon
                have HC1 := Lib.hid (cell_one_new w4 (iv x) 3)
                have hc1000 : c.length ≤ 1000 := by omega
                go_wp2_with ((at_builtin; refine wpList_append_own_at _ rfl _ _ 27 rfl W1.heap.size 3 i0 (.int .i64 0) 1 8 Try.underlying27 hi hz0 hz1 hz2 rfl (by decide) _ _ _ rfl (ownsRow_alloc HROW4.out _) ⟨w4.heap.size, 0, none⟩ 1 1 [iv x] rfl rfl HC1.out (by simp [Value.oneCell']) (by unfold maxLen; omega) (by omega) (by simp; omega) ?_; intro v' w7 hown7 hgrow hnil hloc))
                go_roundg left
                case rel =>
                  have hrr := row_rel (w := W1) rfl HROW4.out HBR4.out hown7 hgrow
                  exact ⟨_, c ++ [x], x, rfl, by simp; omega, rfl, HON.out, hrr.1, hrr.2⟩
                case measure => omega
            · obtain ⟨m, rfl⟩ : ∃ m, j = m + 1 := ⟨j - 1, by omega⟩
              rw [show (((m + 1 : Nat) : Int) - 1) = (m : Int) by omega]
              obtain ⟨x, hx⟩ : ∃ x, all[m]? = some x := ⟨_, List.getElem?_eq_getElem (by omega)⟩
              have HPD := Lib.hid (pick_drop (p := p) hx)
              have HPX := Lib.hid (show p x = _ from (congrFun HNP.out.2 x).symm.trans (mayR_val l near c t at' x))
              obtain ⟨aw, cw, e0, -, -, hxw⟩ := HAW4.out
              cases e0
              rcases hxw with h | ⟨ga, offa, rfl, -, hca⟩
              · rw [h] at hj; simp at hj
              have dx := hca m x hx
              have m1 : (0 : Int) ≤ (m : Int) := by omega
              have m2 : (m : Int) < (all.length : Int) := by omega
              have HH := Lib.hid (has_any HEW4.out at' x)
              have HS1 := Lib.hid (stands_any HI4.out x)
              have HS2 := Lib.hid (stands_any HIC4.out x)
              clear hca hx
              by_cases h1 : (at', x) ∈ l
              · rw [decide_eq_true h1] at HH HPX
                by_cases h2 : x ∈ near
                · rw [decide_eq_true h2] at HS1 HPX
                  by_cases h3 : x = t
                  · have h3b : (x != t) = false := by simp [h3]
                    rw [h3b] at HPX
                    have HPF := Lib.hid (show p x = false from HPX.out)
                    clear h1 h2 h3
                    go_wp2_with (first
                      | (go_at_call_of 19 c4; refine HS1.out.mono ?_; rintro e w' ⟨rfl, rfl⟩)
                      | (go_at_call 18; refine HH.out.mono ?_; rintro e w' ⟨rfl, rfl⟩))
                    go_round
                    case rel => exact ⟨m, by omega, rfl, by rw [HPD.out, HPF.out]; rfl⟩
                    case measure => (simp [Lib.intOf]; done)
                  · have h3b : (x != t) = true := bne_iff_ne.2 h3
                    rw [h3b] at HPX
                    by_cases h4 : x ∈ c
                    · rw [decide_eq_true h4] at HS2 HPX
                      have HPF := Lib.hid (show p x = false from HPX.out)
                      clear h1 h2 h3 h4
                      go_wp2_with (first
                        | (go_at_call_of 19 co; refine HS2.out.mono ?_; rintro e w' ⟨rfl, rfl⟩)
                        | (go_at_call_of 19 c4; refine HS1.out.mono ?_; rintro e w' ⟨rfl, rfl⟩)
                        | (go_at_call 18; refine HH.out.mono ?_; rintro e w' ⟨rfl, rfl⟩))
                      go_round
                      case rel => exact ⟨m, by omega, rfl, by rw [HPD.out, HPF.out]; rfl⟩
                      case measure => (simp [Lib.intOf]; done)
                    · rw [decide_eq_false h4] at HS2 HPX
                      have HPF := Lib.hid (show p x = true from HPX.out)
                      clear h1 h2 h3 h4
                      go_wp2_with (first
                        | (go_at_call_of 19 co; refine HS2.out.mono ?_; rintro e w' ⟨rfl, rfl⟩)
                        | (go_at_call_of 19 c4; refine HS1.out.mono ?_; rintro e w' ⟨rfl, rfl⟩)
                        | (go_at_call 18; refine HH.out.mono ?_; rintro e w' ⟨rfl, rfl⟩))
                      go_round
                      case rel => exact ⟨m, by omega, rfl, by rw [HPD.out, HPF.out]; rfl⟩
                      case measure => (simp [Lib.intOf]; done)
                · rw [decide_eq_false h2] at HS1 HPX
                  have HPF := Lib.hid (show p x = false from HPX.out)
                  clear h1 h2
                  go_wp2_with (first
                    | (go_at_call_of 19 c4; refine HS1.out.mono ?_; rintro e w' ⟨rfl, rfl⟩)
                    | (go_at_call 18; refine HH.out.mono ?_; rintro e w' ⟨rfl, rfl⟩))
                  go_round
                  case rel => exact ⟨m, by omega, rfl, by rw [HPD.out, HPF.out]; rfl⟩
                  case measure => (simp [Lib.intOf]; done)
              · rw [decide_eq_false h1] at HH HPX
                have HPF := Lib.hid (show p x = false from HPX.out)
                clear h1
                go_wp2_with (go_at_call 18; refine HH.out.mono ?_; rintro e w' ⟨rfl, rfl⟩)
                go_round
                case rel => exact ⟨m, by omega, rfl, by rw [HPD.out, HPF.out]; rfl⟩
                case measure => (simp [Lib.intOf]; done)
    · have HC := Lib.hid (HMISS.out (fun s h1 h2 => HNONE.out s h1 (by omega)))
      go_wp2
      go_ret
      exact ⟨⟨_, rfl, by rw [HC.out]; exact intsIn_nil _ _⟩, HB1.out.trans (HBX.out.mono hbs1)⟩
end Go.Proofs.Ytkfmgeddckcnkaa
