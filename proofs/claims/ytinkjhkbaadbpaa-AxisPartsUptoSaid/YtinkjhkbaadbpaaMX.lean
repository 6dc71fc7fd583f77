/- Match (24), the reference's Match (25). -/
import Derived.Test.YtinkjhkbaadbpaaMT
namespace Go.Proofs.Ytinkjhkbaadbpaa
open Go.RowKit
set_option linter.unusedVariables false

def mainOf (a : Int) : Int := if a = 9 then 3 else 2
/-- does a node pass a test -/
def matchF (g : Int → Option Rec) (a : Int) (t : Tst) (id : Int) : Bool :=
  match g id with
  | none => false
  | some r =>
    if tRight t = false ∨ ¬ (1 ≤ a ∧ a ≤ 12) then false
    else if t.kind = 3 then true
    else if 3 < t.kind then decide (r.kind = t.kind) && (!t.has || decide (r.name = t.name))
    else decide (r.kind = mainOf a) && (decide (t.kind = 2) || decide (r.name = t.name))
theorem right_kind {t : Tst} (h : tRight t = true) : t.kind = 1 ∨ t.kind = 2 ∨ t.kind = 3 ∨ t.kind = 4 ∨ t.kind = 5 ∨ t.kind = 6 := by
  unfold tRight at h
  by_cases h9 : t.kind < 1 ∨ 6 < t.kind ∨ (t.has = true ∧ t.kind ≠ 6)
  · rw [if_pos h9] at h; cases h
  · omega
theorem int_beq (x y : Int) : (x == y) = decide (x = y) := by by_cases h : x = y <;> simp [h]
theorem right_has {t : Tst} (h : tRight t = true) (hh : t.has = true) : t.kind = 6 := by
  unfold tRight at h
  by_cases h9 : t.kind < 1 ∨ 6 < t.kind ∨ (t.has = true ∧ t.kind ≠ 6)
  · rw [if_pos h9] at h; cases h
  · by_cases h6 : t.kind = 6
    · exact h6
    · exact absurd (.inr (.inr ⟨hh, h6⟩)) h9
theorem axName_in {a : Int} (h1 : 1 ≤ a) (h2 : a ≤ 12) : (axName a).toList.isEmpty = false ∧ ¬ (axName a).toList = [] := by
  rcases ax_cases h1 h2 with rfl | rfl | rfl | rfl | rfl | rfl | rfl | rfl | rfl | rfl | rfl | rfl <;> exact ⟨by decide +kernel, by decide +kernel⟩

set_option maxRecDepth 100000 in
set_option maxHeartbeats 4000000 in
theorem match_any {w : World} {v : Nat} {g : Int → Option Rec} (h : Reads 29 w v g) (a : Int) (t : Tst) (id : Int) :
    Calls Try.prog 24 #[ptr v, .int .i64 a, tstV t, iv id] w fun e w' => e = .returned (.bool (matchF g a t id)) ∧ Below w.heap.size w w' := by
  obtain ⟨k, nm, has⟩ := t
  obtain ⟨W, hW⟩ : ∃ W, w.alloc (.cells #[.int .i64 k, .string nm, .bool has] 42) = W := ⟨_, rfl⟩
  have hbW : Below w.heap.size w W := by rw [← hW]; exact (Below.refl _ _).alloc (Nat.le_refl _) _
  have hx0 : W.heap[w.heap.size]? = some (.cells #[.int .i64 k, .string nm, .bool has] 42 (0, 0)) := by rw [← hW]; exact Go.heap_alloc_new _ _
  have hsW : w.heap.size < W.heap.size := by rw [← hW]; simp
  have HC := Lib.hid (h W hbW id)
  have HW := Lib.hid hW
  have HB := Lib.hid hbW
  have HX := Lib.hid hx0
  clear h hW hbW hx0
  cases hg : g id with
  | none =>
    have hm : matchF g a ⟨k, nm, has⟩ id = false := by unfold matchF; rw [hg]
    rw [hm]
    rw [hg] at HC
    clear hg hm
    go_enter Try.func24, Try.ntmps24
    go_wp2_with fail
    rw [HW.out]
    go_wp2_with fail
    refine HC.out.mono ?_
    rintro e w2 ⟨⟨kv2, av2, rfl, hk2, ha2⟩, hb2⟩
    obtain ⟨ka, kc, rfl, -, -, -⟩ := hk2
    obtain ⟨aa, ac, rfl, -, -, -⟩ := ha2
    simp only [Option.getD_none, Option.isSome_none]
    go_wp2
    go_ret
    exact ⟨rfl, (HB.out.trans (hb2.mono HB.out.size)).alloc (Nat.le_trans HB.out.size hb2.size) _⟩
  | some r =>
    have hm : matchF g a ⟨k, nm, has⟩ id = (if tRight ⟨k, nm, has⟩ = false ∨ ¬ (1 ≤ a ∧ a ≤ 12) then false else if k = 3 then true else if 3 < k then decide (r.kind = k) && (!has || decide (r.name = nm)) else decide (r.kind = mainOf a) && (decide (k = 2) || decide (r.name = nm))) := by unfold matchF; rw [hg]
    rw [hm]
    rw [hg] at HC
    clear hg hm
    have hRT := fun w => tright_any ⟨k, nm, has⟩ w
    obtain ⟨bR, hbR⟩ : ∃ bR, tRight ⟨k, nm, has⟩ = bR := ⟨_, rfl⟩
    have hkind : bR = true → k = 1 ∨ k = 2 ∨ k = 3 ∨ k = 4 ∨ k = 5 ∨ k = 6 := fun h => right_kind (t := ⟨k, nm, has⟩) (hbR.trans h)
    rw [hbR] at hRT ⊢
    have HRT := Lib.hid hRT
    have HKD := Lib.hid hkind
    have hhas : bR = true → has = true → k = 6 := fun h => right_has (t := ⟨k, nm, has⟩) (hbR.trans h)
    have HHS := Lib.hid hhas
    clear hbR hRT hkind hhas
    obtain ⟨rk, rn, rt, rp, rks, ras, rg⟩ := r
    simp only at *
    have hbe := str_beq rn nm
    have HBE := Lib.hid hbe
    clear hbe
    cases bR with
    | false =>
      rw [if_pos (.inl rfl)]
      go_enter Try.func24, Try.ntmps24
      go_wp2_with fail
      rw [HW.out]
      go_wp2_with fail
      refine HC.out.mono ?_
      rintro e w2 ⟨⟨kv2, av2, rfl, hk2, ha2⟩, hb2⟩
      obtain ⟨ka, kc, rfl, -, -, -⟩ := hk2
      obtain ⟨aa, ac, rfl, -, -, -⟩ := ha2
      simp only [Option.getD_some, Option.isSome_some]
      obtain ⟨q0, q1, q2⟩ : w2.cell? ⟨w.heap.size, 0, none⟩ = some (.int .i64 k) ∧ w2.cell? ⟨w.heap.size, 1, none⟩ = some (.string nm) ∧ w2.cell? ⟨w.heap.size, 2, none⟩ = some (.bool has) := by
        have := (hb2.block w.heap.size hsW).trans HX.out
        refine ⟨?_, ?_, ?_⟩ <;> simp [World.cell?, this]
      have hlt2 : w.heap.size < w2.heap.size := Nat.lt_of_lt_of_le hsW hb2.size
      have HB2 := Lib.hid ((HB.out.trans (hb2.mono HB.out.size)).alloc (Nat.le_trans HB.out.size hb2.size) (.cells #[.int .i64 rk, .string rn, .string rt, .int .i64 rp, .slice ka rks.length kc, .slice aa ras.length ac, .bool rg] 52))
      clear hb2
      go_wp2_with fail
      refine (HRT.out _).mono ?_
      rintro e w3 ⟨rfl, hb3⟩
      go_wp2
      go_ret
      exact ⟨rfl, HB2.out.trans (hb3.mono HB2.out.size)⟩
    | true =>
      by_cases hax : 1 ≤ a ∧ a ≤ 12
      · rw [if_neg (by simp [hax])]
        obtain ⟨hn1, hn2⟩ := axName_in hax.1 hax.2
        obtain ⟨an, han⟩ : ∃ an, axName a = an := ⟨_, rfl⟩
        have hNM := fun w => name_any a w
        rw [han] at hn1 hn2 hNM
        have HNM := Lib.hid hNM
        have g1 : ¬ a < 1 := by omega
        have g2 : ¬ 12 < a := by omega
        clear han hNM hax
        rcases HKD.out rfl with rfl | rfl | rfl | rfl | rfl | rfl
        all_goals
          go_enter Try.func24, Try.ntmps24
          go_wp2_with fail
          rw [HW.out]
          go_wp2_with fail
          refine HC.out.mono ?_
          rintro e w2 ⟨⟨kv2, av2, rfl, hk2, ha2⟩, hb2⟩
          obtain ⟨ka, kc, rfl, -, -, -⟩ := hk2
          obtain ⟨aa, ac, rfl, -, -, -⟩ := ha2
          simp only [Option.getD_some, Option.isSome_some]
          have hx2 := (hb2.block w.heap.size hsW).trans HX.out
          obtain ⟨q0, q1, q2⟩ : w2.cell? ⟨w.heap.size, 0, none⟩ = some _ ∧ w2.cell? ⟨w.heap.size, 1, none⟩ = some (.string nm) ∧ w2.cell? ⟨w.heap.size, 2, none⟩ = some (.bool has) := by
            refine ⟨?_, ?_, ?_⟩ <;> simp [World.cell?, hx2] <;> rfl
          have hlt2 : w.heap.size < w2.heap.size := Nat.lt_of_lt_of_le hsW hb2.size
          have HX2 := Lib.hid hx2
          have HB2 := Lib.hid ((HB.out.trans (hb2.mono HB.out.size)).alloc (Nat.le_trans HB.out.size hb2.size) (.cells #[.int .i64 rk, .string rn, .string rt, .int .i64 rp, .slice ka rks.length kc, .slice aa ras.length ac, .bool rg] 52))
          clear hb2 hx2
          go_wp2_with fail
          refine (HRT.out _).mono ?_
          rintro e w3 ⟨rfl, hb3⟩
          have hx3 := (hb3.block w.heap.size (by simp; omega)).trans ((Go.heap_alloc_old _ _ hlt2).trans HX2.out)
          obtain ⟨z0, z1, z2⟩ : w3.cell? ⟨w.heap.size, 0, none⟩ = some _ ∧ w3.cell? ⟨w.heap.size, 1, none⟩ = some (.string nm) ∧ w3.cell? ⟨w.heap.size, 2, none⟩ = some (.bool has) := by
            refine ⟨?_, ?_, ?_⟩ <;> simp [World.cell?, hx3] <;> rfl
          have hy3 := (hb3.block w2.heap.size (by simp)).trans (Go.heap_alloc_new w2 _)
          obtain ⟨y0, y1, y2, y3, y4, y5, y6⟩ := cells7 hy3
          have HB3 := Lib.hid (HB2.out.trans (hb3.mono HB2.out.size))
          clear hb3 hx3 hy3 q0 q1 q2
          go_wp2_with (go_at_call 32; refine (HNM.out _).mono ?_; rintro e w4 ⟨rfl, rfl⟩)
          all_goals
            go_ret
            refine ⟨ret_b ?_, HB3.out⟩
            have hbe := HBE.out
            clear HC HW HX HRT HX2 HB2 HNM HB3 z0 z1 z2 y0 y1 y2 y3 y4 y5 y6 HB HKD HBE
            have hhs := HHS.out
            clear HHS
            try unfold mainOf
            try simp only [int_beq] at *
            all_goals (by_cases e9 : a = 9 <;> by_cases e1 : rn = nm <;> by_cases e2 : rk = 2 <;> by_cases e3 : rk = 3 <;> cases has <;> simp_all)
      · rw [if_pos (.inr hax)]
        have han := axName_out hax
        have hNM := fun w => name_any a w
        rw [han] at hNM
        have HNM := Lib.hid hNM
        have HAX := Lib.hid hax
        have g12 : a < 1 ∨ (¬ a < 1 ∧ 12 < a) := by omega
        clear han hNM hax
        rcases g12 with g1 | ⟨g1, g2⟩
        all_goals
          go_enter Try.func24, Try.ntmps24
          go_wp2_with fail
          rw [HW.out]
          go_wp2_with fail
          refine HC.out.mono ?_
          rintro e w2 ⟨⟨kv2, av2, rfl, hk2, ha2⟩, hb2⟩
          obtain ⟨ka, kc, rfl, -, -, -⟩ := hk2
          obtain ⟨aa, ac, rfl, -, -, -⟩ := ha2
          simp only [Option.getD_some, Option.isSome_some]
          obtain ⟨q0, q1, q2⟩ : w2.cell? ⟨w.heap.size, 0, none⟩ = some (.int .i64 k) ∧ w2.cell? ⟨w.heap.size, 1, none⟩ = some (.string nm) ∧ w2.cell? ⟨w.heap.size, 2, none⟩ = some (.bool has) := by
            have := (hb2.block w.heap.size hsW).trans HX.out
            refine ⟨?_, ?_, ?_⟩ <;> simp [World.cell?, this]
          have hlt2 : w.heap.size < w2.heap.size := Nat.lt_of_lt_of_le hsW hb2.size
          have HB2 := Lib.hid ((HB.out.trans (hb2.mono HB.out.size)).alloc (Nat.le_trans HB.out.size hb2.size) (.cells #[.int .i64 rk, .string rn, .string rt, .int .i64 rp, .slice ka rks.length kc, .slice aa ras.length ac, .bool rg] 52))
          clear hb2
          go_wp2_with fail
          refine (HRT.out _).mono ?_
          rintro e w3 ⟨rfl, hb3⟩
          go_wp2_with (go_at_call 32; refine (HNM.out _).mono ?_; rintro e w4 ⟨rfl, rfl⟩)
          go_ret
          exact ⟨rfl, HB2.out.trans (hb3.mono HB2.out.size)⟩
end Go.Proofs.Ytinkjhkbaadbpaa
