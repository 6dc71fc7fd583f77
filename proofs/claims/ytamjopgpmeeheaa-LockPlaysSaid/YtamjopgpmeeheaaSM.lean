/- The reference's Same (20). -/
import Derived.Test.YtamjopgpmeeheaaSE
namespace Go.Proofs.Ytamjopgpmeeheaa
open Go.RowKit
set_option linter.unusedVariables false

def gv (g : G3) : Value := .agg #[.int .i64 g.1, .int .i64 g.2.1, .int .i64 g.2.2]
theorem equal_grant (w : World) (g h : G3) : (Op.equal 34 (gv g) (gv h)).run Try.prog w = .ok (decide (g = h)) w := by
  obtain ⟨a, b, c⟩ := g
  obtain ⟨a', b', c'⟩ := h
  have hag : (isAgg 3).run Try.prog w = .ok false w := by kernel_rfl
  have heq : ∀ x y : Int, (Op.equalIn 9999 3 (.int .i64 x) (.int .i64 y)).run Try.prog w = .ok (x == y) w := fun x y => run_equalIn_int (P := Try.prog) w 9998 3 .i64 .i64 x y Try.underlying3
  unfold Op.equal gv
  show (Op.equalIn (9999 + 1) 34 _ _).run _ _ = _
  rw [Op.equalIn]
  simp [Sem.run_bind, run_underlying Try.underlying34, Result.andThen, go_sem, hag, heq]
  by_cases e1 : a = a'
  · by_cases e2 : b = b'
    · by_cases e3 : c = c' <;> simp [e1, e2, e3, hag, heq, Sem.run_bind, Result.andThen]
    · simp [e1, e2, hag, heq, Sem.run_bind, Result.andThen]
  · simp [e1]
theorem neq_grant (w : World) (a b c a' b' c' : Int) : (binOp .neq 34 (.agg #[.int .i64 a, .int .i64 b, .int .i64 c]) (.agg #[.int .i64 a', .int .i64 b', .int .i64 c'])).run Try.prog w = .ok (.bool (!decide ((a, b, c) = (a', b', c')))) w := by
  show (do pure (.bool (!(← Op.equal 34 _ _))) : Sem Value).run _ _ = _
  have h := equal_grant w (a, b, c) (a', b', c')
  unfold gv at h
  simp only [Sem.run_bind, Result.andThen] at h ⊢
  rw [h]
  rfl
theorem eql_grant (w : World) (a b c a' b' c' : Int) : (binOp .eql 34 (.agg #[.int .i64 a, .int .i64 b, .int .i64 c]) (.agg #[.int .i64 a', .int .i64 b', .int .i64 c'])).run Try.prog w = .ok (.bool (decide ((a, b, c) = (a', b', c')))) w := by
  show (do pure (.bool (← Op.equal 34 _ _)) : Sem Value).run _ _ = _
  have h := equal_grant w (a, b, c) (a', b', c')
  unfold gv at h
  simp only [Sem.run_bind, Result.andThen] at h ⊢
  rw [h]
  rfl

theorem take_same {l m : List G3} {k : Nat} {x y : G3} (h : l.take k = m.take k) (hx : l[k]? = some x) (hy : m[k]? = some y) (e : x = y) : l.take (k + 1) = m.take (k + 1) := by
  rw [List.take_add_one, List.take_add_one, h, hx, hy, e]
set_option maxRecDepth 100000 in
set_option maxHeartbeats 4000000 in
theorem same_any {F : Nat → Prop} {w : World} {v v' : Value} {l l' : List G3} (h : TrisIn F w v l) (h' : TrisIn F w v' l') (hF : ∀ k, F k → k < w.heap.size) :
    Calls Try.prog 20 #[v, v'] w fun e w' => e = .returned (.bool (decide (l = l'))) ∧ Below w.heap.size w w' := by
  have hne := neq_grant
  obtain ⟨a, c, rfl, hl1, hl2, hc⟩ := h
  obtain ⟨a', c', rfl, hl1', hl2', hc'⟩ := h'
  have HC := Lib.hid hc
  have HC' := Lib.hid hc'
  unfold maxLen at hl2 hl2'
  clear hc hc'
  by_cases hlen : l.length = l'.length
  · have hb1 : ((l.length : Int) != (l'.length : Int)) = false := by simp [hlen]
    have hd : decide ((l.length : Int) = (l'.length : Int)) = true := by simp [hlen]
    have HLEN := Lib.hid hlen
    clear hlen
    go_enter Try.func20, Try.ntmps20
    go_wp2_with fail
    go_loopw [5] (fun i wr => ∃ k : Nat, k ≤ l.length ∧ i = .int .i64 k ∧ l.take k = l'.take k ∧ Below w.heap.size w wr) (fun i _ => l.length - (Lib.intOf i).toNat)
    case atStart => exact ⟨0, Nat.zero_le _, rfl, by simp, Below.refl _ _⟩
    case round =>
      obtain ⟨k, hk, rfl, heq, hbr⟩ := hrel
      have HEQ := Lib.hid heq
      have HBR := Lib.hid hbr
      clear heq hbr
      by_cases hlt : k < l.length
      · have hlt' : k < l'.length := by rw [← HLEN.out]; exact hlt
        obtain ⟨⟨x0, x1, x2⟩, hx⟩ : ∃ x, l[k]? = some x := ⟨_, List.getElem?_eq_getElem hlt⟩
        obtain ⟨⟨y0, y1, y2⟩, hy⟩ : ∃ y, l'[k]? = some y := ⟨_, List.getElem?_eq_getElem hlt'⟩
        rcases HC.out with h | ⟨g, off, rfl, hg, hcl⟩
        · rw [h] at hlt; simp at hlt
        rcases HC'.out with h | ⟨g', off', rfl, hg', hcl'⟩
        · rw [h] at hlt'; simp at hlt'
        have hgl := hF g hg
        have hgl' := hF g' hg'
        obtain ⟨a0, a1, a2⟩ := hcl k _ hx
        obtain ⟨b0, b1, b2⟩ := hcl' k _ hy
        have d0 := (HBR.out.cell (p := ⟨g, off + k * 3, none⟩) hgl).trans a0
        have d1 := (HBR.out.cell (p := ⟨g, off + k * 3 + 1, none⟩) hgl).trans a1
        have d2 := (HBR.out.cell (p := ⟨g, off + k * 3 + 2, none⟩) hgl).trans a2
        have e0 := (HBR.out.cell (p := ⟨g', off' + k * 3, none⟩) hgl').trans b0
        have e1 := (HBR.out.cell (p := ⟨g', off' + k * 3 + 1, none⟩) hgl').trans b1
        have e2 := (HBR.out.cell (p := ⟨g', off' + k * 3 + 2, none⟩) hgl').trans b2
        simp only at d0 d1 d2 e0 e1 e2
        have k0 : (0 : Int) ≤ (k : Int) := by omega
        have k1 : (k : Int) < (l.length : Int) := by omega
        have k2 : (k : Int) < (l'.length : Int) := by omega
        have HX := Lib.hid hx
        have HY := Lib.hid hy
        have HGL := Lib.hid (And.intro hgl hgl')
        obtain ⟨q, hq⟩ : ∃ q, decide ((x0, x1, x2) = (y0, y1, y2)) = q := ⟨_, rfl⟩
        have hnq : ∀ w, (binOp .neq 34 (.agg #[.int .i64 x0, .int .i64 x1, .int .i64 x2]) (.agg #[.int .i64 y0, .int .i64 y1, .int .i64 y2])).run Try.prog w = .ok (.bool (!q)) w := fun w => by rw [← hq]; exact neq_grant w _ _ _ _ _ _
        have HQ := Lib.hid hq
        clear a0 a1 a2 b0 b1 b2 hcl hcl' hx hy hgl hgl' hne hq
        cases q with
        | true =>
          simp only [Bool.not_true] at hnq
          go_wp2_with fail
          go_quiet (fail)
          go_wp2
          go_roundw
          case rel => exact ⟨k + 1, by omega, by go_num, take_same HEQ.out HX.out HY.out (of_decide_eq_true HQ.out), below_drewN HBR.out nq⟩
          case measure => simp [Lib.intOf]; omega
        | false =>
          simp only [Bool.not_false] at hnq
          go_wp2_with fail
          go_quiet (fail)
          go_wp2
          go_ret
          refine ⟨?_, below_drewN HBR.out nq⟩
          have hne : l ≠ l' := fun e => by
            have h1 := HX.out
            rw [e, HY.out] at h1
            exact of_decide_eq_false HQ.out (by injection h1 with h1; exact h1.symm)
          rw [decide_eq_false hne]
          rfl
      · obtain rfl : k = l.length := by omega
        have he : l = l' := by
          have := HEQ.out
          rw [List.take_length, HLEN.out, List.take_length] at this
          exact this
        have HE := Lib.hid he
        clear he
        go_wp2
        go_ret
        exact ⟨by rw [decide_eq_true HE.out]; rfl, HBR.out⟩
  · have hb1 : ((l.length : Int) != (l'.length : Int)) = true := by simp; omega
    have he : decide (l = l') = false := decide_eq_false (fun e => hlen (by rw [e]))
    rw [he]
    go_enter Try.func20, Try.ntmps20
    go_wp2
    go_ret
    exact ⟨rfl, Below.refl _ _⟩
end Go.Proofs.Ytamjopgpmeeheaa
