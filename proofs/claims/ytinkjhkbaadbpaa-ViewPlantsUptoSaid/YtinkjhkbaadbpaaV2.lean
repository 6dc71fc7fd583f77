import Derived.Test.YtinkjhkbaadbpaaMT
import Derived.Test.YtinkjhkbaadbpaaNC
import Derived.Test.YtinkjhkbaadbpaaVA
import Derived.Deep.Upon
import Derived.Test.YtinkjhkbaadbpaaRD
import Derived.Shelf.Slices.Reverse
import Derived.Test.YtinkjhkbaadbpaaPA
import Derived.Test.YtinkjhkbaadbpaaFW
import Derived.Deep.RegionHeld3
import Derived.Test.YtinkjhkbaadbpaaMA
import Derived.Test.YtinkjhkbaadbpaaWS
/- Match (24), the reference's Match (25). -/
namespace Go.Proofs.Ytinkjhkbaadbpaa
open Go.RowKit
set_option linter.unusedVariables false

def mainOf (a : Int) : Int := if a = 9 then 3 else 2
/-- does a node pass a test -/
def matchF (g : Int → Option Rec) (a : Int) (t : Tst) (id : Int) : Bool :=
  match g id with
  | none => false
  | some r =>
    if tRight t = false ∨ ¬ (1 ≤ a ∧ a ≤ 12) then false
    else if t.kind = 3 then true
    else if 3 < t.kind then decide (r.kind = t.kind) && (!t.has || decide (r.name = t.name))
    else decide (r.kind = mainOf a) && (decide (t.kind = 2) || decide (r.name = t.name))
theorem right_kind {t : Tst} (h : tRight t = true) : t.kind = 1 ∨ t.kind = 2 ∨ t.kind = 3 ∨ t.kind = 4 ∨ t.kind = 5 ∨ t.kind = 6 := by
  unfold tRight at h
  by_cases h9 : t.kind < 1 ∨ 6 < t.kind ∨ (t.has = true ∧ t.kind ≠ 6)
  · rw [if_pos h9] at h; cases h
  · omega
theorem int_beq (x y : Int) : (x == y) = decide (x = y) := by by_cases h : x = y <;> simp [h]
theorem right_has {t : Tst} (h : tRight t = true) (hh : t.has = true) : t.kind = 6 := by
  unfold tRight at h
  by_cases h9 : t.kind < 1 ∨ 6 < t.kind ∨ (t.has = true ∧ t.kind ≠ 6)
  · rw [if_pos h9] at h; cases h
  · by_cases h6 : t.kind = 6
    · exact h6
    · exact absurd (.inr (.inr ⟨hh, h6⟩)) h9
theorem axName_in {a : Int} (h1 : 1 ≤ a) (h2 : a ≤ 12) : (axName a).toList.isEmpty = false ∧ ¬ (axName a).toList = [] := by
  rcases ax_cases h1 h2 with rfl | rfl | rfl | rfl | rfl | rfl | rfl | rfl | rfl | rfl | rfl | rfl <;> exact ⟨by decide +kernel, by decide +kernel⟩

set_option maxRecDepth 100000 in
set_option maxHeartbeats 4000000 in
theorem match_any {w : World} {v : Nat} {g : Int → Option Rec} (h : Reads 29 w v g) (a : Int) (t : Tst) (id : Int) :
    Calls Try.prog 24 #[ptr v, .int .i64 a, tstV t, iv id] w fun e w' => e = .returned (.bool (matchF g a t id)) ∧ Below w.heap.size w w' := by
  obtain ⟨k, nm, has⟩ := t
  obtain ⟨W, hW⟩ : ∃ W, w.alloc (.cells #[.int .i64 k, .string nm, .bool has] 42) = W := ⟨_, rfl⟩
  have hbW : Below w.heap.size w W := by rw [← hW]; exact (Below.refl _ _).alloc (Nat.le_refl _) _
  have hx0 : W.heap[w.heap.size]? = some (.cells #[.int .i64 k, .string nm, .bool has] 42 (0, 0)) := by rw [← hW]; exact Go.heap_alloc_new _ _
  have hsW : w.heap.size < W.heap.size := by rw [← hW]; simp
  have HC := Lib.hid (h W hbW id)
  have HW := Lib.hid hW
  have HB := Lib.hid hbW
  have HX := Lib.hid hx0
  clear h hW hbW hx0
  cases hg : g id with
  | none =>
    have hm : matchF g a ⟨k, nm, has⟩ id = false := by unfold matchF; rw [hg]
    rw [hm]
    rw [hg] at HC
    clear hg hm
    go_enter Try.func24, Try.ntmps24
    go_wp2_with fail
    rw [HW.out]
    go_wp2_with fail
    refine HC.out.mono ?_
    rintro e w2 ⟨⟨kv2, av2, rfl, hk2, ha2⟩, hb2⟩
    obtain ⟨ka, kc, rfl, -, -, -⟩ := hk2
    obtain ⟨aa, ac, rfl, -, -, -⟩ := ha2
    simp only [Option.getD_none, Option.isSome_none]
    go_wp2
    go_ret
    exact ⟨rfl, (HB.out.trans (hb2.mono HB.out.size)).alloc (Nat.le_trans HB.out.size hb2.size) _⟩
  | some r =>
    have hm : matchF g a ⟨k, nm, has⟩ id = (if tRight ⟨k, nm, has⟩ = false ∨ ¬ (1 ≤ a ∧ a ≤ 12) then false else if k = 3 then true else if 3 < k then decide (r.kind = k) && (!has || decide (r.name = nm)) else decide (r.kind = mainOf a) && (decide (k = 2) || decide (r.name = nm))) := by unfold matchF; rw [hg]
    rw [hm]
    rw [hg] at HC
    clear hg hm
    have hRT := fun w => tright_any ⟨k, nm, has⟩ w
    obtain ⟨bR, hbR⟩ : ∃ bR, tRight ⟨k, nm, has⟩ = bR := ⟨_, rfl⟩
    have hkind : bR = true → k = 1 ∨ k = 2 ∨ k = 3 ∨ k = 4 ∨ k = 5 ∨ k = 6 := fun h => right_kind (t := ⟨k, nm, has⟩) (hbR.trans h)
    rw [hbR] at hRT ⊢
    have HRT := Lib.hid hRT
    have HKD := Lib.hid hkind
    have hhas : bR = true → has = true → k = 6 := fun h => right_has (t := ⟨k, nm, has⟩) (hbR.trans h)
    have HHS := Lib.hid hhas
    clear hbR hRT hkind hhas
    obtain ⟨rk, rn, rt, rp, rks, ras, rg⟩ := r
    simp only at *
    have hbe := str_beq rn nm
    have HBE := Lib.hid hbe
    clear hbe
    cases bR with
    | false =>
      rw [if_pos (.inl rfl)]
      go_enter Try.func24, Try.ntmps24
      go_wp2_with fail
      rw [HW.out]
      go_wp2_with fail
      refine HC.out.mono ?_
      rintro e w2 ⟨⟨kv2, av2, rfl, hk2, ha2⟩, hb2⟩
      obtain ⟨ka, kc, rfl, -, -, -⟩ := hk2
      obtain ⟨aa, ac, rfl, -, -, -⟩ := ha2
      simp only [Option.getD_some, Option.isSome_some]
      obtain ⟨q0, q1, q2⟩ : w2.cell? ⟨w.heap.size, 0, none⟩ = some (.int .i64 k) ∧ w2.cell? ⟨w.heap.size, 1, none⟩ = some (.string nm) ∧ w2.cell? ⟨w.heap.size, 2, none⟩ = some (.bool has) := by
        have := (hb2.block w.heap.size hsW).trans HX.out
        refine ⟨?_, ?_, ?_⟩ <;> simp [World.cell?, this]
      have hlt2 : w.heap.size < w2.heap.size := Nat.lt_of_lt_of_le hsW hb2.size
      have HB2 := Lib.hid ((HB.out.trans (hb2.mono HB.out.size)).alloc (Nat.le_trans HB.out.size hb2.size) (.cells #[.int .i64 rk, .string rn, .string rt, .int .i64 rp, .slice ka rks.length kc, .slice aa ras.length ac, .bool rg] 52))
      clear hb2
      go_wp2_with fail
      refine (HRT.out _).mono ?_
      rintro e w3 ⟨rfl, hb3⟩
      go_wp2
      go_ret
      exact ⟨rfl, HB2.out.trans (hb3.mono HB2.out.size)⟩
    | true =>
      by_cases hax : 1 ≤ a ∧ a ≤ 12
      · rw [if_neg (by simp [hax])]
        obtain ⟨hn1, hn2⟩ := axName_in hax.1 hax.2
        obtain ⟨an, han⟩ : ∃ an, axName a = an := ⟨_, rfl⟩
        have hNM := fun w => name_any a w
        rw [han] at hn1 hn2 hNM
        have HNM := Lib.hid hNM
        have g1 : ¬ a < 1 := by omega
        have g2 : ¬ 12 < a := by omega
        clear han hNM hax
        rcases HKD.out rfl with rfl | rfl | rfl | rfl | rfl | rfl
        all_goals
          go_enter Try.func24, Try.ntmps24
          go_wp2_with fail
          rw [HW.out]
          go_wp2_with fail
          refine HC.out.mono ?_
          rintro e w2 ⟨⟨kv2, av2, rfl, hk2, ha2⟩, hb2⟩
          obtain ⟨ka, kc, rfl, -, -, -⟩ := hk2
          obtain ⟨aa, ac, rfl, -, -, -⟩ := ha2
          simp only [Option.getD_some, Option.isSome_some]
          have hx2 := (hb2.block w.heap.size hsW).trans HX.out
          obtain ⟨q0, q1, q2⟩ : w2.cell? ⟨w.heap.size, 0, none⟩ = some _ ∧ w2.cell? ⟨w.heap.size, 1, none⟩ = some (.string nm) ∧ w2.cell? ⟨w.heap.size, 2, none⟩ = some (.bool has) := by
            refine ⟨?_, ?_, ?_⟩ <;> simp [World.cell?, hx2] <;> rfl
          have hlt2 : w.heap.size < w2.heap.size := Nat.lt_of_lt_of_le hsW hb2.size
          have HX2 := Lib.hid hx2
          have HB2 := Lib.hid ((HB.out.trans (hb2.mono HB.out.size)).alloc (Nat.le_trans HB.out.size hb2.size) (.cells #[.int .i64 rk, .string rn, .string rt, .int .i64 rp, .slice ka rks.length kc, .slice aa ras.length ac, .bool rg] 52))
          clear hb2 hx2
          go_wp2_with fail
          refine (HRT.out _).mono ?_
          rintro e w3 ⟨rfl, hb3⟩
          have hx3 := (hb3.block w.heap.size (by simp; omega)).trans ((Go.heap_alloc_old _ _ hlt2).trans HX2.out)
          obtain ⟨z0, z1, z2⟩ : w3.cell? ⟨w.heap.size, 0, none⟩ = some _ ∧ w3.cell? ⟨w.heap.size, 1, none⟩ = some (.string nm) ∧ w3.cell? ⟨w.heap.size, 2, none⟩ = some (.bool has) := by
            refine ⟨?_, ?_, ?_⟩ <;> simp [World.cell?, hx3] <;> rfl
          have hy3 := (hb3.block w2.heap.size (by simp)).trans (Go.heap_alloc_new w2 _)
          obtain ⟨y0, y1, y2, y3, y4, y5, y6⟩ := cells7 hy3
          have HB3 := Lib.hid (HB2.out.trans (hb3.mono HB2.out.size))
          clear hb3 hx3 hy3 q0 q1 q2
          go_wp2_with (go_at_call 32; refine (HNM.out _).mono ?_; rintro e w4 ⟨rfl, rfl⟩)
          all_goals
            go_ret
            refine ⟨ret_b ?_, HB3.out⟩
            have hbe := HBE.out
            clear HC HW HX HRT HX2 HB2 HNM HB3 z0 z1 z2 y0 y1 y2 y3 y4 y5 y6 HB HKD HBE
            have hhs := HHS.out
            clear HHS
            try unfold mainOf
            try simp only [int_beq] at *
            all_goals (by_cases e9 : a = 9 <;> by_cases e1 : rn = nm <;> by_cases e2 : rk = 2 <;> by_cases e3 : rk = 3 <;> cases has <;> simp_all)
      · rw [if_pos (.inr hax)]
        have han := axName_out hax
        have hNM := fun w => name_any a w
        rw [han] at hNM
        have HNM := Lib.hid hNM
        have HAX := Lib.hid hax
        have g12 : a < 1 ∨ (¬ a < 1 ∧ 12 < a) := by omega
        clear han hNM hax
        rcases g12 with g1 | ⟨g1, g2⟩
        all_goals
          go_enter Try.func24, Try.ntmps24
          go_wp2_with fail
          rw [HW.out]
          go_wp2_with fail
          refine HC.out.mono ?_
          rintro e w2 ⟨⟨kv2, av2, rfl, hk2, ha2⟩, hb2⟩
          obtain ⟨ka, kc, rfl, -, -, -⟩ := hk2
          obtain ⟨aa, ac, rfl, -, -, -⟩ := ha2
          simp only [Option.getD_some, Option.isSome_some]
          obtain ⟨q0, q1, q2⟩ : w2.cell? ⟨w.heap.size, 0, none⟩ = some (.int .i64 k) ∧ w2.cell? ⟨w.heap.size, 1, none⟩ = some (.string nm) ∧ w2.cell? ⟨w.heap.size, 2, none⟩ = some (.bool has) := by
            have := (hb2.block w.heap.size hsW).trans HX.out
            refine ⟨?_, ?_, ?_⟩ <;> simp [World.cell?, this]
          have hlt2 : w.heap.size < w2.heap.size := Nat.lt_of_lt_of_le hsW hb2.size
          have HB2 := Lib.hid ((HB.out.trans (hb2.mono HB.out.size)).alloc (Nat.le_trans HB.out.size hb2.size) (.cells #[.int .i64 rk, .string rn, .string rt, .int .i64 rp, .slice ka rks.length kc, .slice aa ras.length ac, .bool rg] 52))
          clear hb2
          go_wp2_with fail
          refine (HRT.out _).mono ?_
          rintro e w3 ⟨rfl, hb3⟩
          go_wp2_with (go_at_call 32; refine (HNM.out _).mono ?_; rintro e w4 ⟨rfl, rfl⟩)
          go_ret
          exact ⟨rfl, HB2.out.trans (hb3.mono HB2.out.size)⟩
end Go.Proofs.Ytinkjhkbaadbpaa
/- works (19) of the axis statements. -/
namespace Go.Proofs.Ytinkjhkbaadbpaa
open Go.RowKit
set_option linter.unusedVariables false

def t0 : Tr := .mk 2 ⟨#[97]⟩ ⟨#[]⟩ [] [.mk 2 ⟨#[98]⟩ ⟨#[]⟩ [] [], .mk 4 ⟨#[]⟩ ⟨#[116]⟩ [] []]
def g0 : Int → Option Rec := (⟨madeO t0 [], 0⟩ : Vw).get (madeS t0)
theorem g0_2 : g0 2 = some ⟨2, ⟨#[97]⟩, ⟨#[]⟩, 1, [3, 4], [], false⟩ := by
  rfl
theorem g0_3 : g0 3 = some ⟨2, ⟨#[98]⟩, ⟨#[]⟩, 2, [], [], false⟩ := by
  rfl
theorem g0_4 : g0 4 = some ⟨4, ⟨#[]⟩, ⟨#[116]⟩, 2, [], [], false⟩ := by
  rfl
theorem t0_once : onceF (isThere g0) [3, 4] = [3, 4] := by
  simp [onceF, onceS, isThere, g0_3, g0_4]
theorem t0_match : matchF g0 1 ⟨4, ⟨#[]⟩, false⟩ 4 = true := by
  unfold matchF
  rw [g0_4]
  simp [tRight, emptyB]
theorem Duo.gok {R Ds Rd Dd : Nat → Prop} {n0 : Nat} {w : World} {v m s v2 s2 : Nat} {V : Vw} {S : Store} {V2 : RVw} {d : Doc} (h : Duo R Ds Rd Dd n0 w v m s v2 s2 V S V2 d) (hS : S.Wf) : GOk (V.get S) := by
  obtain ⟨D, D2, h⟩ := h
  have hok := h.vs.view.ok
  intro id r h
  unfold Vw.get at h
  cases e : V.own id with
  | some r' =>
    rw [e] at h
    simp only at h
    split at h
    · cases h
    · cases h; exact hok id _ e
  | none =>
    rw [e] at h
    simp only at h
    unfold Store.at at h
    split at h
    · rename_i v hv
      split at h
      · cases h
      · cases h
        have hm := List.mem_of_getLast? hv
        exact hS.ok id v (List.mem_filter.1 hm).1
    · cases h

set_option maxRecDepth 100000 in
set_option maxHeartbeats 4000000 in
theorem aworks_any (w : World) : Calls Try.prog 19 #[] w fun e w' => e = .returned (.bool true) ∧ Below w.heap.size w w' := by
  obtain ⟨W, hW⟩ : ∃ W, w.alloc (.cells #[.int .i64 2, .string ⟨#[98]⟩, .string ⟨#[]⟩, .slice none 0 0, .slice none 0 0, .int .i64 4, .string ⟨#[]⟩, .string ⟨#[116]⟩, .slice none 0 0, .slice none 0 0] 25) = W := ⟨_, rfl⟩
  have hbW : Below w.heap.size w W := by rw [← hW]; exact (Below.refl _ _).alloc (Nat.le_refl _) _
  have hsW : W.heap.size = w.heap.size + 1 := by rw [← hW]; simp
  have hx0 : W.heap[w.heap.size]? = some (.cells #[.int .i64 2, .string ⟨#[98]⟩, .string ⟨#[]⟩, .slice none 0 0, .slice none 0 0, .int .i64 4, .string ⟨#[]⟩, .string ⟨#[116]⟩, .slice none 0 0, .slice none 0 0] 25 (0, 0)) := by rw [← hW]; exact Go.heap_alloc_new _ _
  have nilT : ∀ (xs : List Value), CellsIn (fun k => k < W.heap.size) W (.slice none 0 0) 0 xs := fun xs => ⟨none, 0, rfl, by omega, .inl rfl⟩
  have hT : TrIn (fun k => k < W.heap.size) W t0 (.slice none 0 0) (.slice (some ⟨w.heap.size, 0, none⟩) 2 2) := by
    unfold t0
    simp only [TrIn]
    refine ⟨nilT _, trL (.mk 2 ⟨#[98]⟩ ⟨#[]⟩ [] []) (.slice none 0 0) (.slice none 0 0) ++ (trL (.mk 4 ⟨#[]⟩ ⟨#[116]⟩ [] []) (.slice none 0 0) (.slice none 0 0) ++ []), ⟨_, 2, rfl, by simp, .inr ⟨w.heap.size, 0, rfl, by omega, fun j u hj => ?_⟩⟩, ?_⟩
    · have : W.cell? ⟨w.heap.size, 0 + j, none⟩ = (trL (.mk 2 ⟨#[98]⟩ ⟨#[]⟩ [] []) (.slice none 0 0) (.slice none 0 0) ++ (trL (.mk 4 ⟨#[]⟩ ⟨#[116]⟩ [] []) (.slice none 0 0) (.slice none 0 0) ++ []))[j]? := by
        rw [Nat.zero_add]
        simp only [World.cell?, hx0]
        have hj10 : j < 10 := by have := (List.getElem?_eq_some_iff.1 hj).1; simpa using this
        match j, hj10 with
        | 0, _ => rfl
        | 1, _ => rfl
        | 2, _ => rfl
        | 3, _ => rfl
        | 4, _ => rfl
        | 5, _ => rfl
        | 6, _ => rfl
        | 7, _ => rfl
        | 8, _ => rfl
        | 9, _ => rfl
      rw [this]; exact hj
    · simp only [KidsAre]
      refine ⟨_, _, _, rfl, ?_, _, _, _, rfl, ?_, rfl⟩
      · simp only [TrIn]; exact ⟨nilT _, [], nilT _, by simp [KidsAre]⟩
      · simp only [TrIn]; exact ⟨nilT _, [], nilT _, by simp [KidsAre]⟩
  have hmd := made_any (t := t0) (cs := []) (v := .slice none 0 0) (F := fun k => k < W.heap.size) hT ⟨none, 0, rfl, by simp, by simp, .inl rfl⟩ (fun c hc => by cases hc) (fun _ h => h) (by decide)
  have HMD := Lib.hid hmd
  have HW := Lib.hid hW
  have HB := Lib.hid hbW
  clear hW hsW hx0 nilT hT hmd hbW
  go_enter Try.func19, Try.ntmps19
  go_wp2_with fail
  rw [HW.out]
  go_wp2_with fail
  refine HMD.out.mono ?_
  rintro e w1 ⟨R, Rd, p, v, m, s, v2, s2, rfl, hdu, hpc, hnp, hb1⟩
  have hrd : Reads 29 w1 v g0 := hdu.reads (made_wf t0)
  have hgk : GOk g0 := hdu.gok (made_wf t0)
  have hpl : p < w1.heap.size := (Array.getElem?_eq_some_iff.1 hpc).1
  have y0 : w1.cell? ⟨p, 0, none⟩ = some (ptr v) := by simp [World.cell?, hpc]
  have hnod := nodes_1 (xs := onceF (isThere g0) [3, 4]) hrd 2 g0_2 (fun W2 kv av hW2 hk ha => child_any (hrd.below hW2) 2 (hgk _ _ g0_2) hk ha)
  rw [t0_once] at hnod
  have HND := Lib.hid hnod
  have HPC := Lib.hid hpc
  have HRD := Lib.hid hrd
  have HB1 := Lib.hid (HB.out.trans (hb1.mono HB.out.size))
  clear hdu hpc hgk hnod hrd hb1 hnp
  go_wp2_with fail
  refine HND.out.mono ?_
  rintro e w2 ⟨⟨u, rfl, hu⟩, hb2⟩
  have hw3 : Below w2.heap.size w2 (w2.alloc (.cells #[.int .i64 3, .int .i64 4] 3)) := (Below.refl _ _).alloc (Nat.le_refl _) _
  have hi3 : IntsIn (Old (w2.alloc (.cells #[.int .i64 3, .int .i64 4] 3)).heap.size) (w2.alloc (.cells #[.int .i64 3, .int .i64 4] 3)) (.slice (some ⟨w2.heap.size, 0, none⟩) 2 2) [3, 4] := by
    refine ⟨_, 2, rfl, by simp, by decide, .inr ⟨w2.heap.size, 0, rfl, by simp [Old], fun j x hj => ?_⟩⟩
    match j, hj with
    | 0, hj => simp at hj; subst hj; simp [go_sem]
    | 1, hj => simp at hj; subst hj; simp [go_sem]
  have HIN := Lib.hid (ints_same [3, 4] _ _ u _ _ (hu.later hw3) hi3)
  have HB3 := Lib.hid ((HB1.out.trans (hb2.mono HB1.out.size)).trans (hw3.mono (Nat.le_trans HB1.out.size hb2.size)))
  have HB23 := Lib.hid (hb2.trans (hw3.mono hb2.size))
  have HNM := Lib.hid (show ∀ w, Calls Try.prog 32 #[.int .i64 10] w fun e w' => e = .returned (.string ⟨#[115, 101, 108, 102]⟩) ∧ w = w' from fun w => name_any 10 w)
  clear hu hb2 hw3 hi3
  go_wp2_with fail
  refine HIN.out.mono ?_
  rintro e w4 ⟨rfl, n4, hn4⟩
  have hb4 : Below w1.heap.size w1 w4 := by rw [← hn4]; exact below_drewN HB23.out _
  have hmt := match_any (HRD.out.below hb4) 1 ⟨4, ⟨#[]⟩, false⟩ 4
  rw [t0_match] at hmt
  have HMT := Lib.hid hmt
  have y4 : w4.cell? ⟨p, 0, none⟩ = some (ptr v) := (hb4.cell (p := ⟨p, 0, none⟩) hpl).trans y0
  have HB4 := Lib.hid (HB1.out.trans (hb4.mono HB1.out.size))
  clear hb4 hmt hn4
  go_wp2_with (first
    | (go_at_call 24; refine HMT.out.mono ?_; rintro e w5 ⟨rfl, hb5⟩)
    | (go_at_call 32; refine (HNM.out _).mono ?_; rintro e w6 ⟨rfl, rfl⟩))
  go_ret
  exact ⟨rfl, HB4.out.trans (hb5.mono HB4.out.size)⟩
end Go.Proofs.Ytinkjhkbaadbpaa
/- The axes descendant (108), parent (109), ancestor (110), following-sibling (111), descendant-or-self (117), ancestor-or-self (118); beside (135). -/
namespace Go.Proofs.Ytinkjhkbaadbpaa
open Go.RowKit
set_option linter.unusedVariables false

theorem IntsIn.drop {F : Nat → Prop} {w : World} {a : Option Addr} {n cap : Nat} {xs : List Int} (h : IntsIn F w (.slice a n cap) xs) (k : Nat) (hk : k ≤ n) : IntsIn F w (sliced a k n cap 1) (xs.drop k) := by
  obtain ⟨a', cap', e, h1, h2, h3⟩ := h
  cases e
  refine ⟨(if cap = k then a else a.map (·.add (k * 1))), cap - k, by simp [sliced], by simp; omega, by omega, ?_⟩
  rcases h3 with rfl | ⟨g, off, rfl, hg, hc⟩
  · exact .inl (by simp)
  · by_cases e : cap = k
    · exact .inl (List.eq_nil_of_length_eq_zero (by simp; omega))
    · refine .inr ⟨g, off + k, by simp [e, Addr.add], hg, fun j x hx => ?_⟩
      rw [List.getElem?_drop] at hx
      have := hc (k + j) x hx
      rw [show off + k + j = off + (k + j) by omega]
      exact this
theorem IntsIn.take {F : Nat → Prop} {w : World} {a : Option Addr} {n cap : Nat} {xs : List Int} (h : IntsIn F w (.slice a n cap) xs) (k : Nat) (hk : k ≤ n) : IntsIn F w (sliced a 0 k cap 1) (xs.take k) := by
  obtain ⟨a', cap', e, h1, h2, h3⟩ := h
  cases e
  have hl : (xs.take k).length = k := by simp [Nat.min_eq_left hk]
  refine ⟨(if cap = 0 then a else a.map (·.add (0 * 1))), cap, by simp [sliced, hl], by omega, by omega, ?_⟩
  rcases h3 with rfl | ⟨g, off, rfl, hg, hc⟩
  · exact .inl (by simp)
  · refine .inr ⟨g, off, by simp [Addr.add], hg, fun j x hx => hc j x ?_⟩
    rw [List.getElem?_take] at hx
    split at hx
    · exact hx
    · cases hx

theorem IntsIn.head {F : Nat → Prop} {w : World} {a : Option Addr} {n cap : Nat} {xs : List Int} (h : IntsIn F w (.slice a n cap) xs) (k : Nat) (hk : k ≤ n) : IntsIn F w (.slice a k cap) (xs.take k) := by
  have h2 := h.take k hk
  have e : sliced a 0 k cap 1 = .slice a k cap := by
    unfold sliced
    cases a <;> simp [Addr.add]
  rw [e] at h2
  exact h2

/-- what the program's side of a pair reads -/
structure Ax (Rb : Nat → Prop) (w : World) (v : Nat) (g : Int → Option Rec) (keys : List Int) : Prop where
  n : ReadsN 29 w v g
  k : ReadsK Rb w v g
  rl : ∀ k, Rb k → k < w.heap.size
  ko : KeysOf g keys
  kl : keys.length ≤ 1000000000
  ok : GOk g
theorem ReadsN.later {f : Nat} {w w' : World} {v : Nat} {g : Int → Option Rec} (h : ReadsN f w v g) (hb : Below w.heap.size w w') : ReadsN f w' v g := fun W hW id => by
  refine (h W (hb.trans (hW.mono hb.size)) id).mono ?_
  rintro e w2 ⟨⟨kv, av, he, h1, h2⟩, hb2⟩
  have hs := hb.size
  exact ⟨⟨kv, av, he, h1.mono (fun k hk => ⟨hk.1.elim (fun h => .inl (by omega)) .inr, hk.2⟩), h2.mono (fun k hk => ⟨hk.1.elim (fun h => .inl (by omega)) .inr, hk.2⟩)⟩, hb2⟩
theorem Ax.later {Rb : Nat → Prop} {w w' : World} {v : Nat} {g : Int → Option Rec} {keys : List Int} (h : Ax Rb w v g keys) (hb : Below w.heap.size w w') : Ax Rb w' v g keys :=
  ⟨h.n.later hb, h.k.later (fun k hk => hb.block k (h.rl k hk)), fun k hk => Nat.lt_of_lt_of_le (h.rl k hk) hb.size, h.ko, h.kl, h.ok⟩
section
variable {Rb : Nat → Prop} {w : World} {v : Nat} {g : Int → Option Rec} {keys : List Int}

set_option maxRecDepth 100000 in
set_option maxHeartbeats 4000000 in
theorem descendant_any (h : Ax Rb w v g keys) (id : Int) (r : Rec) (kv av : Value) :
    Calls Try.prog 108 #[nodeV v id r kv av] w (AxPost w (belowF g (keys.length + 1) id)) := by
  obtain ⟨W, hW⟩ : ∃ W, w.alloc (.cells #[ptr v, iv id, .int .i64 r.kind, .string r.name, .string r.text, .int .i64 r.parent, kv, av, .bool r.gone] 133) = W := ⟨_, rfl⟩
  have hbW : Below w.heap.size w W := by rw [← hW]; exact (Below.refl _ _).alloc (Nat.le_refl _) _
  have hx0 : W.heap[w.heap.size]? = some (.cells #[ptr v, iv id, .int .i64 r.kind, .string r.name, .string r.text, .int .i64 r.parent, kv, av, .bool r.gone] 133 (0, 0)) := by rw [← hW]; exact Go.heap_alloc_new _ _
  obtain ⟨c0, c1, c2, c3, c4, c5, c6, c7, c8⟩ := cells9 hx0
  have HC := Lib.hid (below_any (h.later hbW).k (h.later hbW).rl h.ko h.kl id)
  have HW := Lib.hid hW
  have HB := Lib.hid hbW
  clear h hW hbW hx0
  go_enter Try.func108, Try.ntmps108
  go_wp2_with fail
  rw [HW.out]
  go_wp2_with fail
  refine HC.out.mono ?_
  rintro e w2 ⟨⟨u, rfl, ho⟩, hb2⟩
  go_wp2
  go_ret
  exact ⟨⟨_, rfl, ho⟩, HB.out.trans (hb2.mono HB.out.size)⟩
set_option maxRecDepth 100000 in
set_option maxHeartbeats 4000000 in
theorem ancestor_any (h : Ax Rb w v g keys) (id : Int) (r : Rec) (kv av : Value) :
    Calls Try.prog 110 #[nodeV v id r kv av] w (AxPost w (upF g (keys.length + 1) id)) := by
  obtain ⟨W, hW⟩ : ∃ W, w.alloc (.cells #[ptr v, iv id, .int .i64 r.kind, .string r.name, .string r.text, .int .i64 r.parent, kv, av, .bool r.gone] 133) = W := ⟨_, rfl⟩
  have hbW : Below w.heap.size w W := by rw [← hW]; exact (Below.refl _ _).alloc (Nat.le_refl _) _
  have hx0 : W.heap[w.heap.size]? = some (.cells #[ptr v, iv id, .int .i64 r.kind, .string r.name, .string r.text, .int .i64 r.parent, kv, av, .bool r.gone] 133 (0, 0)) := by rw [← hW]; exact Go.heap_alloc_new _ _
  obtain ⟨c0, c1, c2, c3, c4, c5, c6, c7, c8⟩ := cells9 hx0
  have HC := Lib.hid (parents_any (h.later hbW).n.reads h.ko h.kl id)
  have HW := Lib.hid hW
  have HB := Lib.hid hbW
  clear h hW hbW hx0
  go_enter Try.func110, Try.ntmps110
  go_wp2_with fail
  rw [HW.out]
  go_wp2_with fail
  refine HC.out.mono ?_
  rintro e w2 ⟨⟨u, rfl, ho⟩, hb2⟩
  go_wp2
  go_ret
  exact ⟨⟨_, rfl, ho⟩, HB.out.trans (hb2.mono HB.out.size)⟩
set_option maxRecDepth 100000 in
set_option maxHeartbeats 4000000 in
theorem parent_any (h : Ax Rb w v g keys) (id : Int) (r : Rec) (kv av : Value) :
    Calls Try.prog 109 #[nodeV v id r kv av] w (AxPost w ((upF g (keys.length + 1) id).take 1)) := by
  obtain ⟨W, hW⟩ : ∃ W, w.alloc (.cells #[ptr v, iv id, .int .i64 r.kind, .string r.name, .string r.text, .int .i64 r.parent, kv, av, .bool r.gone] 133) = W := ⟨_, rfl⟩
  have hbW : Below w.heap.size w W := by rw [← hW]; exact (Below.refl _ _).alloc (Nat.le_refl _) _
  have hx0 : W.heap[w.heap.size]? = some (.cells #[ptr v, iv id, .int .i64 r.kind, .string r.name, .string r.text, .int .i64 r.parent, kv, av, .bool r.gone] 133 (0, 0)) := by rw [← hW]; exact Go.heap_alloc_new _ _
  obtain ⟨c0, c1, c2, c3, c4, c5, c6, c7, c8⟩ := cells9 hx0
  have HC := Lib.hid (parents_any (h.later hbW).n.reads h.ko h.kl id)
  obtain ⟨xs, hxs⟩ : ∃ xs, upF g (keys.length + 1) id = xs := ⟨_, rfl⟩
  rw [hxs] at HC ⊢
  have HW := Lib.hid hW
  have HB := Lib.hid hbW
  clear h hW hbW hx0 hxs
  go_enter Try.func109, Try.ntmps109
  go_wp2_with fail
  rw [HW.out]
  go_wp2_with fail
  refine HC.out.mono ?_
  rintro e w2 ⟨⟨u, rfl, ho⟩, hb2⟩
  have HO := Lib.hid ho
  obtain ⟨a, cap, rfl, hc1, hc2, -⟩ := ho
  have hml : xs.length ≤ 9223372036854775807 := by unfold maxLen at hc2; omega
  cases xs with
  | nil =>
    simp only [List.length_nil] at *
    go_wp2
    go_ret
    exact ⟨⟨_, rfl, by rw [show (min (0 : Int) 1).toNat = 0 by omega]; exact HO.out.head 0 (by simp)⟩, HB.out.trans (hb2.mono HB.out.size)⟩
  | cons x xs =>
    have hlt : ¬ ((xs.length + 1 : Int) ≤ 1 ∧ xs.length ≠ 0) := by omega
    simp only [List.length_cons] at *
    go_wp2
    go_ret
    exact ⟨⟨_, rfl, by rw [show (min ((xs.length : Int) + 1) 1).toNat = 1 by omega]; exact HO.out.head 1 (by simp)⟩, HB.out.trans (hb2.mono HB.out.size)⟩
end
end Go.Proofs.Ytinkjhkbaadbpaa
/- append onto a row of numbers; descendant-or-self (117), ancestor-or-self (118). -/
namespace Go.Proofs.Ytinkjhkbaadbpaa
open Go.RowKit
set_option linter.unusedVariables false
set_option linter.unusedSimpArgs false

theorem run_append_ints {w : World} {B : Nat} {v x : Value} {zs ys : List Int} {F : Nat → Prop} (hown : w.ownsRow B 3 1 v zs.length (zs.map iv)) (hx : IntsIn F w x ys) (h63 : zs.length + ys.length ≤ 10000000000) (hB : B ≤ w.heap.size) (ty : TypeId) :
    ∃ u w', (Builtin.append_ #[33, 33] ty #[v, x]).run Try.prog w = .ok u w' ∧ w'.ownsRow B 3 1 u (zs ++ ys).length ((zs ++ ys).map iv) ∧ w.grownBy w' v.ownBlock ∧ (u.ownBlock = v.ownBlock ∨ u.ownBlock = some w.heap.size) := by
  obtain ⟨i0, hi, hz0, hz1, hz2⟩ := info_parts Try.info3
  obtain ⟨a, cap, rfl, h1, h2, hx⟩ := hx
  cases a with
  | none =>
    obtain rfl : ys = [] := by rcases hx with h | ⟨g, off, h, _⟩; exact h; cases h
    refine ⟨v, w, ?_, by simpa using hown, ⟨rfl, rfl, rfl, Nat.le_refl _, fun _ _ _ => rfl⟩, .inl rfl⟩
    have ht := Try.underlying33
    rcases hown.2 with ⟨rfl, _⟩ | ⟨g, cp, cur, rfl, _, _, hnc, _⟩
    · simp [Builtin.append_, run_underlying ht, sizeOf, typeInfo, hi, Builtin.lenOf, Builtin.firstCells, loadCells]
    · have hnc' : zs.length ≤ cp := hnc
      simp [Builtin.append_, run_underlying ht, sizeOf, typeInfo, hi, Builtin.lenOf, Builtin.firstCells, loadCells, storeCells, hnc']
  | some ad =>
    have hnews : ∀ j u, (ys.map iv)[j]? = some u → w.cell? (ad.add j) = some u := by
      intro j u hu
      rw [List.getElem?_map] at hu
      obtain ⟨x, hx', rfl⟩ := Option.map_eq_some_iff.1 hu
      rcases hx with rfl | ⟨g, off, e, hg, hc⟩
      · simp at hx'
      · cases e
        have := hc j x hx'
        by_cases hj : j = 0
        · subst hj; simpa [Addr.add] using this
        · simpa [Addr.add, hj] using this
    obtain ⟨u, w', hr, ho, hg, -, hl⟩ := run_append_own_at (P := Try.prog) w B 33 ty 3 i0 (.int .i64 0) 1 8 Try.underlying33 hi hz0 hz1 hz2 rfl (by decide) v zs.length (zs.map iv) hown ad ys.length cap (ys.map iv) (by simp) hnews (by simp [Value.oneCell']) (by unfold maxLen; omega) (by omega) hB
    exact ⟨u, w', hr, by rw [List.length_append, List.map_append]; exact ho, hg, hl⟩
/-- at the step of a region that draws -/
theorem step_append_ints {ops : Array Oper} {o : Oper} {a : Act} {w : World} {K : Act → World → Prop} {Q : Exit → Act → World → Prop} {E : Prop} (hgd : o.guard = none) (s x : Operand)
    (ho : o.op = .call { callee := .builtin .append, args := #[s, x], argTypes := #[33, 33] })
    {B : Nat} {v y : Value} {zs ys : List Int} {F : Nat → Prop} (hs : a.eval s = v) (hy : a.eval x = y) (hown : w.ownsRow B 3 1 v zs.length (zs.map iv)) (hx : IntsIn F w y ys) (h63 : zs.length + ys.length ≤ 10000000000) (hB : B ≤ w.heap.size)
    (h : ∀ u w', w'.ownsRow B 3 1 u (zs ++ ys).length ((zs ++ ys).map iv) → w.grownBy w' v.ownBlock → (u.ownBlock = v.ownBlock ∨ u.ownBlock = some w.heap.size) → K (a.put o.dst u) w') :
    if Region.wanted o (yielded ops a.tmps) = true then Oper.wp Try.prog o a w K Q else E := by
  have hw : Region.wanted o (yielded ops a.tmps) = true := by simp [Region.wanted, hgd]
  rw [if_pos hw]
  obtain ⟨u, w', hr, h2, h3, h4⟩ := run_append_ints hown hx h63 hB o.type
  unfold Oper.wp execOp
  simp only [ho, resolve, invoke, builtin, Sem.run_bind, Sem.run_pure, Result.andThen_ok, List.map_toArray, List.map_cons, List.map_nil, hs, hy, hr]
  exact h u w' h2 h3 h4
/-- in the list of a plain region -/
theorem wpList_append_ints {ops : Array Oper} {rest : List Oper} {o : Oper} {a : Act} {w : World} {Q : Exit → Act → World → Prop} (hgd : o.guard = none) (s x : Operand)
    (ho : o.op = .call { callee := .builtin .append, args := #[s, x], argTypes := #[33, 33] })
    {B : Nat} {v y : Value} {zs ys : List Int} {F : Nat → Prop} (hs : a.eval s = v) (hy : a.eval x = y) (hown : w.ownsRow B 3 1 v zs.length (zs.map iv)) (hx : IntsIn F w y ys) (h63 : zs.length + ys.length ≤ 10000000000) (hB : B ≤ w.heap.size)
    (h : ∀ u w', w'.ownsRow B 3 1 u (zs ++ ys).length ((zs ++ ys).map iv) → w.grownBy w' v.ownBlock → (u.ownBlock = v.ownBlock ∨ u.ownBlock = some w.heap.size) → wpList Try.prog ops Q rest (a.put o.dst u) w') : wpList Try.prog ops Q (o :: rest) a w := by
  refine wpList_plain hgd fun K hK => ?_
  obtain ⟨u, w', hr, h2, h3, h4⟩ := run_append_ints hown hx h63 hB o.type
  unfold Oper.wp execOp
  simp only [ho, resolve, invoke, builtin, Sem.run_bind, Sem.run_pure, Result.andThen_ok, List.map_toArray, List.map_cons, List.map_nil, hs, hy, hr]
  exact hK _ _ (h u w' h2 h3 h4)
section
variable {Rb : Nat → Prop} {w : World} {v : Nat} {g : Int → Option Rec} {keys : List Int}
theorem shape3 {w : World} {B n : Nat} {u : Value} {xs : List Value} (h : w.ownsRow B 3 1 u n xs) : ∃ a c, u = .slice a n c := by
  rcases h.2 with ⟨rfl, e⟩ | ⟨g, cp, cur, rfl, _⟩
  · exact ⟨none, 0, by rw [e]⟩
  · exact ⟨_, _, rfl⟩
theorem belowF_len (hk : KeysOf g keys) (id : Int) : (belowF g (keys.length + 1) id).length ≤ keys.length := by
  unfold belowF
  have := (goS_inv hk (keys.length + 1) id false [] (GoInv.nil keys)).len
  rw [List.length_map]
  refine Nat.le_trans (List.length_filter_le _ _) ?_
  unfold goF; omega
theorem upF_len (hk : KeysOf g keys) (id : Int) : (upF g (keys.length + 1) id).length ≤ keys.length := by
  unfold upF
  split
  · simp
  · have := upS_nodup hk (keys.length + 1) id [] (by assumption : Rec).parent ⟨by simp, by simp, by simp⟩
    exact nodup_len this.1 this.2.2

set_option maxRecDepth 100000 in
set_option maxHeartbeats 4000000 in
theorem descSelf_any (h : Ax Rb w v g keys) (id : Int) (r : Rec) (kv av : Value) (hk : IntsIn (Old w.heap.size) w kv r.kids) (ha : IntsIn (Old w.heap.size) w av r.attrs) :
    Calls Try.prog 117 #[nodeV v id r kv av] w (AxPost w (id :: belowF g (keys.length + 1) id)) := by
  obtain ⟨W, hW⟩ : ∃ W, w.alloc (.cells #[ptr v, iv id, .int .i64 r.kind, .string r.name, .string r.text, .int .i64 r.parent, kv, av, .bool r.gone] 133) = W := ⟨_, rfl⟩
  have hbW : Below w.heap.size w W := by rw [← hW]; exact (Below.refl _ _).alloc (Nat.le_refl _) _
  have hx0 : W.heap[w.heap.size]? = some (.cells #[ptr v, iv id, .int .i64 r.kind, .string r.name, .string r.text, .int .i64 r.parent, kv, av, .bool r.gone] 133 (0, 0)) := by rw [← hW]; exact Go.heap_alloc_new _ _
  have hlW : w.heap.size < W.heap.size := by rw [← hW]; simp
  have hxl : (belowF g (keys.length + 1) id).length ≤ 1000000000 := Nat.le_trans (belowF_len h.ko id) h.kl
  obtain ⟨xs, hxs⟩ : ∃ xs, belowF g (keys.length + 1) id = xs := ⟨_, rfl⟩
  rw [hxs] at hxl
  have HC := Lib.hid (fun (W2 : World) (hb : Below W.heap.size W W2) => descendant_any (h.later (hbW.trans (hb.mono hbW.size))) id r kv av)
  rw [hxs] at HC ⊢
  have HS := Lib.hid (fun (W2 : World) => self_any W2 v id r kv av)
  have HW := Lib.hid hW
  have HB := Lib.hid hbW
  have HXL := Lib.hid hxl
  have HCELL := Lib.hid (fun (W2 : World) (hb : Below W.heap.size W W2) => cells9 ((hb.block _ hlW).trans hx0))
  obtain ⟨ka, kc, rfl, -, -, -⟩ := hk
  obtain ⟨aa, ac, rfl, -, -, -⟩ := ha
  clear h hW hbW hx0 hxs hxl
  go_enter Try.func117, Try.ntmps117
  go_wp2_with fail
  rw [HW.out]
  have hcur : Below W.heap.size W W.drew := (Below.refl _ _).drew
  go_region_held3 (fun w' => w'.cell? ⟨w.heap.size, 0, none⟩ = some (ptr v) ∧ w'.cell? ⟨w.heap.size, 1, none⟩ = some (iv id) ∧ w'.cell? ⟨w.heap.size, 2, none⟩ = some (.int .i64 r.kind) ∧ w'.cell? ⟨w.heap.size, 3, none⟩ = some (.string r.name) ∧ w'.cell? ⟨w.heap.size, 4, none⟩ = some (.string r.text) ∧ w'.cell? ⟨w.heap.size, 5, none⟩ = some (.int .i64 r.parent) ∧ w'.cell? ⟨w.heap.size, 6, none⟩ = some (.slice ka r.kids.length kc) ∧ w'.cell? ⟨w.heap.size, 7, none⟩ = some (.slice aa r.attrs.length ac) ∧ w'.cell? ⟨w.heap.size, 8, none⟩ = some (.bool r.gone))
    (exact HCELL.out _ hcur)
    (first
      | (go_at_call 116; refine (HS.out _).mono ?_; rintro e w7 ⟨⟨u7, rfl, ho7⟩, hb7⟩; have HO7 := Lib.hid ho7; obtain ⟨a7, c7, rfl⟩ := shape3 ho7; have hs7 : W.heap.size ≤ W.drew.heap.size := Nat.le_refl _; have hcur := hcur.trans (hb7.mono hcur.size); clear hb7 ho7)
      | (go_at_call 108; refine (HC.out _ hcur).mono ?_; rintro e w8 ⟨⟨u8, rfl, ho8⟩, hb8⟩; have HO8 := Lib.hid ho8; have HO9 := Lib.hid (ownsRow_keeps HO7.out (fun g hg => hb8.block g (ownsRow_base HO7.out hg).2)); obtain ⟨a8, c8, rfl, -, -, -⟩ := ho8; have hcur := hcur.trans (hb8.mono hcur.size); clear hb8)
      | (refine step_append_ints rfl _ _ rfl (zs := [id]) (ys := xs) rfl rfl HO9.out HO8.out (by have := HXL.out; simp only [List.length_cons, List.length_nil]; omega) hcur.size ?_; intro u9 w9 ho9 hg9 hl9; have hcur := hcur.grown hg9 hcur.size (fun k hk => (ownsRow_base HO9.out hk).1)))
  all_goals
    obtain ⟨a9, c9, rfl⟩ := shape3 ho9
    go_wp2_with fail
    go_ret
    exact ⟨⟨_, rfl, (intsIn_row ho9).old⟩, HB.out.trans (hcur.mono HB.out.size)⟩

set_option maxRecDepth 100000 in
set_option maxHeartbeats 4000000 in
theorem ancSelf_any (h : Ax Rb w v g keys) (id : Int) (r : Rec) (kv av : Value) (hk : IntsIn (Old w.heap.size) w kv r.kids) (ha : IntsIn (Old w.heap.size) w av r.attrs) :
    Calls Try.prog 118 #[nodeV v id r kv av] w (AxPost w (id :: upF g (keys.length + 1) id)) := by
  obtain ⟨W, hW⟩ : ∃ W, w.alloc (.cells #[ptr v, iv id, .int .i64 r.kind, .string r.name, .string r.text, .int .i64 r.parent, kv, av, .bool r.gone] 133) = W := ⟨_, rfl⟩
  have hbW : Below w.heap.size w W := by rw [← hW]; exact (Below.refl _ _).alloc (Nat.le_refl _) _
  have hx0 : W.heap[w.heap.size]? = some (.cells #[ptr v, iv id, .int .i64 r.kind, .string r.name, .string r.text, .int .i64 r.parent, kv, av, .bool r.gone] 133 (0, 0)) := by rw [← hW]; exact Go.heap_alloc_new _ _
  have hlW : w.heap.size < W.heap.size := by rw [← hW]; simp
  have hxl : (upF g (keys.length + 1) id).length ≤ 1000000000 := Nat.le_trans (upF_len h.ko id) h.kl
  obtain ⟨xs, hxs⟩ : ∃ xs, upF g (keys.length + 1) id = xs := ⟨_, rfl⟩
  rw [hxs] at hxl
  have HC := Lib.hid (fun (W2 : World) (hb : Below W.heap.size W W2) => ancestor_any (h.later (hbW.trans (hb.mono hbW.size))) id r kv av)
  rw [hxs] at HC ⊢
  have HS := Lib.hid (fun (W2 : World) => self_any W2 v id r kv av)
  have HW := Lib.hid hW
  have HB := Lib.hid hbW
  have HXL := Lib.hid hxl
  have HCELL := Lib.hid (fun (W2 : World) (hb : Below W.heap.size W W2) => cells9 ((hb.block _ hlW).trans hx0))
  obtain ⟨ka, kc, rfl, -, -, -⟩ := hk
  obtain ⟨aa, ac, rfl, -, -, -⟩ := ha
  clear h hW hbW hx0 hxs hxl
  go_enter Try.func118, Try.ntmps118
  go_wp2_with fail
  rw [HW.out]
  have hcur : Below W.heap.size W W.drew := (Below.refl _ _).drew
  go_region_held3 (fun w' => w'.cell? ⟨w.heap.size, 0, none⟩ = some (ptr v) ∧ w'.cell? ⟨w.heap.size, 1, none⟩ = some (iv id) ∧ w'.cell? ⟨w.heap.size, 2, none⟩ = some (.int .i64 r.kind) ∧ w'.cell? ⟨w.heap.size, 3, none⟩ = some (.string r.name) ∧ w'.cell? ⟨w.heap.size, 4, none⟩ = some (.string r.text) ∧ w'.cell? ⟨w.heap.size, 5, none⟩ = some (.int .i64 r.parent) ∧ w'.cell? ⟨w.heap.size, 6, none⟩ = some (.slice ka r.kids.length kc) ∧ w'.cell? ⟨w.heap.size, 7, none⟩ = some (.slice aa r.attrs.length ac) ∧ w'.cell? ⟨w.heap.size, 8, none⟩ = some (.bool r.gone))
    (exact HCELL.out _ hcur)
    (first
      | (go_at_call 116; refine (HS.out _).mono ?_; rintro e w7 ⟨⟨u7, rfl, ho7⟩, hb7⟩; have HO7 := Lib.hid ho7; obtain ⟨a7, c7, rfl⟩ := shape3 ho7; have hs7 : W.heap.size ≤ W.drew.heap.size := Nat.le_refl _; have hcur := hcur.trans (hb7.mono hcur.size); clear hb7 ho7)
      | (go_at_call 110; refine (HC.out _ hcur).mono ?_; rintro e w8 ⟨⟨u8, rfl, ho8⟩, hb8⟩; have HO8 := Lib.hid ho8; have HO9 := Lib.hid (ownsRow_keeps HO7.out (fun g hg => hb8.block g (ownsRow_base HO7.out hg).2)); obtain ⟨a8, c8, rfl, -, -, -⟩ := ho8; have hcur := hcur.trans (hb8.mono hcur.size); clear hb8)
      | (refine step_append_ints rfl _ _ rfl (zs := [id]) (ys := xs) rfl rfl HO9.out HO8.out (by have := HXL.out; simp only [List.length_cons, List.length_nil]; omega) hcur.size ?_; intro u9 w9 ho9 hg9 hl9; have hcur := hcur.grown hg9 hcur.size (fun k hk => (ownsRow_base HO9.out hk).1)))
  all_goals
    obtain ⟨a9, c9, rfl⟩ := shape3 ho9
    go_wp2_with fail
    go_ret
    exact ⟨⟨_, rfl, (intsIn_row ho9).old⟩, HB.out.trans (hcur.mono HB.out.size)⟩
end
end Go.Proofs.Ytinkjhkbaadbpaa
/- The reference's parts (80), back (81). -/
namespace Go.Proofs.Ytinkjhkbaadbpaa
open Go.RowKit
set_option linter.unusedVariables false

/-- what stands ahead of a number's first place, and behind it -/
def aheadF (xs : List Int) (y : Int) : List Int := xs.take (idxI xs y).toNat
def behindF (xs : List Int) (y : Int) : List Int := if idxI xs y < 0 then [] else xs.drop ((idxI xs y).toNat + 1)
theorem head_eq (a : Option Addr) (k cap : Nat) : sliced a 0 k cap 1 = .slice a k cap := by
  unfold sliced
  cases a <;> simp [Addr.add]

def PartsPost (F : Nat → Prop) (w : World) (xs : List Int) (y : Int) (e : Ending) (w' : World) : Prop :=
  (∃ u1 u2 b, e = .returned (.tuple #[u1, u2, .bool b]) ∧ IntsIn F w' u1 (aheadF xs y) ∧ IntsIn F w' u2 (behindF xs y)) ∧ Below w.heap.size w w'
set_option maxRecDepth 100000 in
set_option maxHeartbeats 4000000 in
theorem rparts_any {w : World} {F : Nat → Prop} {l : Value} {xs : List Int} (hv : IntsIn F w l xs) (y : Int) :
    Calls Try.prog 80 #[l, iv y] w (PartsPost F w xs y) := by
  have HV := Lib.hid hv
  have hln := hv.len
  obtain ⟨a, cap, rfl, hcap, -, hx⟩ := hv
  have HX := Lib.hid hx
  clear hx
  go_enter Try.func80, Try.ntmps80
  go_wp2
  go_loop [7] (fun i => ∃ k : Nat, k ≤ xs.length ∧ i = .int .i64 k ∧ ∀ j z, j < k → xs[j]? = some z → z ≠ y) (fun i => xs.length - (intOf i).toNat)
  case atStart => exact ⟨0, Nat.zero_le _, rfl, fun j z hj => by omega⟩
  case round =>
    obtain ⟨k, hk, rfl, hno⟩ := hrel
    have HN := Lib.hid hno
    clear hno
    by_cases hlt : k < xs.length
    · obtain ⟨x, hxk⟩ : ∃ x, xs[k]? = some x := ⟨_, List.getElem?_eq_getElem hlt⟩
      obtain ⟨g, off, rfl, -, hc⟩ : ∃ g off, a = some ⟨g, off, none⟩ ∧ F g ∧ ∀ j x, xs[j]? = some x → w.cell? ⟨g, off + j, none⟩ = some (.int .i64 x) := by
        rcases HX.out with h | h
        · rw [h] at hlt; simp at hlt
        · exact h
      have hck := hc k x hxk
      have HXK := Lib.hid hxk
      have h0 : (0 : Int) ≤ k := by omega
      have h1 : (k : Int) < xs.length := by omega
      clear hxk hc
      by_cases hy : x = y
      · have hyb : (x == y) = true := by simpa using hy
        have hidx : idxI xs y = k := idxI_hit (by rw [HXK.out, hy]) HN.out
        have ha : aheadF xs y = xs.take k := by unfold aheadF; rw [hidx]; rfl
        have hb : behindF xs y = xs.drop (k + 1) := by unfold behindF; rw [hidx, if_neg (by omega)]; rfl
        have HA := Lib.hid ha
        have HB := Lib.hid hb
        have ek : ((k : Int) + 1).toNat = k + 1 := by omega
        have e9 : (0 : Int) ≤ (k : Int) + 1 := by omega
        have e8 : (k : Int) + 1 ≤ xs.length := by omega
        have e7 : (k : Int) ≤ cap := by omega
        clear ha hb hidx
        go_wp2
        go_region
        all_goals go_wp2
        · have hcap9 : cap = k + 1 := by assumption
          subst hcap9
          refine bodyPost_ret (v := .tuple #[.slice (some ⟨g, off, none⟩) k (k + 1), sliced (some ⟨g, off, none⟩) (k + 1) xs.length (k + 1) 1, .bool true]) (by simp [results, Try.results80, go_sem, sliced, *]) rfl ?_
          refine ⟨⟨_, _, _, rfl, ?_, ?_⟩, (Below.refl _ _).drew⟩
          · rw [HA.out]; exact IntsIn.keep (w' := w.drew) (HV.out.head k (by omega)) (fun _ _ => rfl)
          · rw [HB.out]; exact IntsIn.keep (w' := w.drew) (HV.out.drop (k + 1) (by omega)) (fun _ _ => rfl)
        · refine bodyPost_ret (v := .tuple #[.slice (some ⟨g, off, none⟩) k cap, sliced (some ⟨g, off, none⟩) (k + 1) xs.length cap 1, .bool true]) (by simp [results, Try.results80, go_sem, sliced, *]) rfl ?_
          refine ⟨⟨_, _, _, rfl, ?_, ?_⟩, (Below.refl _ _).drew⟩
          · rw [HA.out]; exact IntsIn.keep (w' := w.drew) (HV.out.head k (by omega)) (fun _ _ => rfl)
          · rw [HB.out]; exact IntsIn.keep (w' := w.drew) (HV.out.drop (k + 1) (by omega)) (fun _ _ => rfl)
      · have hyb : (x == y) = false := by simpa using hy
        go_wp2
        go_round
        case rel => exact ⟨k + 1, by omega, by go_num, fun j z hj hz => by
          by_cases e : j = k
          · subst e; rw [HXK.out] at hz; cases hz; exact fun h => hy h
          · exact HN.out j z (by omega) hz⟩
        case measure => simp [intOf]; omega
    · have hidx : idxI xs y = -1 := idxI_none (fun hm => by
        obtain ⟨j, hj⟩ := List.getElem?_of_mem hm
        exact HN.out j y (by have := (List.getElem?_eq_some_iff.1 hj).1; omega) hj rfl : y ∉ xs)
      have HI := Lib.hid hidx
      clear hidx
      go_wp2
      refine bodyPost_ret (v := .tuple #[.slice none 0 0, .slice none 0 0, .bool false]) (by simp [results, Try.results80, go_sem]) rfl ?_
      exact ⟨⟨_, _, _, rfl, by unfold aheadF; rw [HI.out]; exact intsIn_nil _ _, by unfold behindF; rw [HI.out]; exact intsIn_nil _ _⟩, Below.refl _ _⟩

set_option maxRecDepth 100000 in
set_option maxHeartbeats 4000000 in
theorem rback_any {w : World} {F : Nat → Prop} {l : Value} {xs : List Int} (hv : IntsIn F w l xs) (hF : ∀ k, F k → k < w.heap.size) (hlen : xs.length * 8 ≤ 140737488351232) :
    Calls Try.prog 81 #[l] w fun e w' => (∃ u, e = .returned u ∧ w'.ownsRow w.heap.size 3 1 u xs.reverse.length (xs.reverse.map iv)) ∧ Below w.heap.size w w' := by
  obtain ⟨i0, hi, hz0, hz1, hz2⟩ := info_parts Try.info3
  obtain ⟨a, cap, rfl, -, -, hx⟩ := hv
  have HX := Lib.hid hx
  have HF := Lib.hid hF
  clear hx hF
  have hsub : wrap64 ((xs.length : Int) - 1) = (xs.length : Int) - 1 := by unfold wrap64; omega
  go_enter Try.func81, Try.ntmps81
  go_wp2
  go_loopw [3, 4] (fun m i wr => ∃ k : Nat, k ≤ xs.length ∧ i = .int .i64 ((k : Int) - 1) ∧ wr.ownsRow w.heap.size 3 1 m (xs.drop k).reverse.length ((xs.drop k).reverse.map iv) ∧ Below w.heap.size w wr) (fun _ i _ => (intOf i + 1).toNat)
  case atStart => exact ⟨xs.length, Nat.le_refl _, rfl, by simpa using World.ownsRow_nil _ _ _ _, Below.refl _ _⟩
  case round =>
    obtain ⟨k, hk, rfl, hown, hbr⟩ := hrel
    have hlm : (xs.drop k).reverse.length ≤ xs.length := by simp
    obtain ⟨outl, hout⟩ : ∃ outl, (xs.drop k).reverse = outl := ⟨_, rfl⟩
    rw [hout] at hown hlm
    obtain ⟨am, cm, rfl⟩ := ownsRow_shape hown
    have HOWN := Lib.hid hown
    have HBR := Lib.hid hbr
    have HOUT := Lib.hid hout
    clear hown hbr hout
    by_cases hlt : 0 < k
    · obtain ⟨j, rfl⟩ : ∃ j, k = j + 1 := ⟨k - 1, by omega⟩
      obtain ⟨x, hxk⟩ : ∃ x, xs[j]? = some x := ⟨_, List.getElem?_eq_getElem (by omega)⟩
      obtain ⟨gb, off, rfl, hFg, hc⟩ : ∃ g off, a = some ⟨g, off, none⟩ ∧ F g ∧ ∀ j x, xs[j]? = some x → w.cell? ⟨g, off + j, none⟩ = some (.int .i64 x) := by
        rcases HX.out with h | h
        · rw [h] at hk; simp at hk
        · exact h
      have hck : wr.cell? ⟨gb, off + j, none⟩ = some (.int .i64 x) := (HBR.out.cell (p := ⟨gb, off + j, none⟩) (HF.out gb hFg)).trans (hc j x hxk)
      have hsucc : (xs.drop j).reverse = outl ++ [x] := by
        rw [← HOUT.out, List.drop_eq_getElem_cons (show j < xs.length by omega), List.reverse_cons]
        have : xs[j] = x := by have := (List.getElem?_eq_some_iff.1 hxk).2; exact this
        rw [this]
      have HS := Lib.hid hsucc
      have hee : ((j + 1 : Nat) : Int) - 1 = j := by omega
      rw [hee]
      have hk0 : (0 : Int) ≤ j := by omega
      have hkl : (j : Int) < xs.length := by omega
      clear hc hxk hsucc
      go_wp2_with (at_builtin; refine wpList_append_own_at _ rfl _ _ 33 rfl w.heap.size 3 i0 (.int .i64 0) 1 8 Try.underlying33 hi hz0 hz1 hz2 rfl (by decide) _ _ _ rfl (ownsRow_alloc HOWN.out _) ⟨wr.heap.size, 0, none⟩ 1 1 [iv x] rfl rfl (cell_one_new _ _ _) (by simp [Value.oneCell']) (by unfold maxLen; omega) (by omega) (by have := HBR.out.size; simp; omega) ?_; intro v' w8 hown8 hgrow hnil hloc; have HO8 := Lib.hid hown8; have HB8 := Lib.hid (keeps_grown (D := fun _ => False) (fun _ h => h.elim) ((Below.refl _ _).alloc (Nat.le_refl _) _) HBR.out (fun k h => (ownsRow_base HOWN.out h).1) hgrow).2; obtain ⟨a8, c8, rfl⟩ := ownsRow_shape hown8; clear hown8 hgrow hloc)
      go_roundw
      case rel => exact ⟨j, by omega, by go_num, by rw [HS.out]; simpa using HO8.out, HB8.out⟩
      case measure => simp [intOf]
    · obtain rfl : k = 0 := by omega
      go_wp2
      go_ret
      exact ⟨⟨_, rfl, by rw [show xs.reverse = outl from HOUT.out]; exact HOWN.out⟩, HBR.out⟩
end Go.Proofs.Ytinkjhkbaadbpaa
/- axis.back (136): slices.Clone, slices.Reverse. -/
namespace Go.Proofs.Ytinkjhkbaadbpaa
open Go.Shelf Go.Sort Go.RowKit
set_option linter.unusedVariables false
def Try.lays112_ren : Go.Shelf.Ren := ⟨fun | 112 => 160 | n => n, fun | 28 => 33 | n => n, fun n => n⟩
theorem Try.lays112 : Go.Proofs.Lays.n112 Try.prog Try.lays112_ren := {
  mixed := by kernel_rfl
  f112 := Try.func160.trans (congrArg some (by kernel_rfl))
  t0 := Try.underlying0
  a0 := Try.isAgg0
  z0 := Try.sizeOf0
  v0 := Try.zeroValue0
  t3 := Try.underlying3
  a3 := Try.isAgg3
  z3 := Try.sizeOf3
  v3 := Try.zeroValue3
  t4 := Try.underlying4
  a4 := Try.isAgg4
  z4 := Try.sizeOf4
  v4 := Try.zeroValue4
  t28 := Try.underlying33
  a28 := Try.isAgg33
  z28 := Try.sizeOf33
  v28 := Try.zeroValue33 }
set_option maxRecDepth 100000 in
theorem clone_own (xs : List Int) (F : Nat → Prop) (v : Value) (w : World) (h : IntsIn F w v xs) (hF : ∀ k, F k → k < w.heap.size) (hr : xs.length * 8 ≤ 140737488351232) :
    Calls Try.prog 121 #[v] w fun e w' => (∃ v', e = .returned v' ∧ w'.ownsRow w.heap.size 3 1 v' xs.length (xs.map iv)) ∧ Below w.heap.size w w' := by
  obtain ⟨a, cap, rfl, h1, h2, hx⟩ := h
  cases a with
  | none =>
    obtain rfl : xs = [] := by rcases hx with h | ⟨g, off, h, _⟩; exact h; cases h
    have hq := fun w => @Lib.run_eql_slice_nil Try.prog w 33 3 none 0 cap
    go_enter Try.func121, Try.ntmps121
    go_wp2
    go_ret
    exact ⟨⟨_, rfl, World.ownsRow_nil _ _ _ _⟩, Below.refl _ _⟩
  | some ad =>
    obtain ⟨i0, hi, hz0, hz1, hz2⟩ := info_parts Try.info3
    have hl : xs.length ≤ maxLen := Nat.le_trans h1 h2
    have HL := Lib.hid hl
    have HR := Lib.hid hr
    have hnews : ∀ j u, (xs.map (Value.int .i64))[j]? = some u → w.cell? (ad.add j) = some u := by
      intro j u hu
      rw [List.getElem?_map] at hu
      obtain ⟨x, hx', rfl⟩ := Option.map_eq_some_iff.1 hu
      rcases hx with rfl | ⟨g, off, e, hg, hc⟩
      · simp at hx'
      · cases e
        have := hc j x hx'
        by_cases hj : j = 0
        · subst hj; simpa [Addr.add] using this
        · simpa [Addr.add, hj] using this
    have hold : xs ≠ [] → ad.block < w.heap.size := by
      intro hne
      rcases hx with h | ⟨g, off, e, hg, hc⟩
      · exact absurd h hne
      · cases e; exact hF _ hg
    have hnews2 : ∀ j u, (xs.map (Value.int .i64))[j]? = some u → (w.alloc (.cells #[] 3)).cell? (ad.add j) = some u := by
      intro j u hu
      have hb : (ad.add j).block = ad.block := by unfold Addr.add; split <;> rfl
      have hne : xs ≠ [] := by rintro rfl; simp at hu
      exact (World.cell?_of_block (w := w) (Go.heap_alloc_old w _ (by rw [hb]; exact hold hne))).trans (hnews j u hu)
    have HN := Lib.hid hnews2
    have HO := Lib.hid hold
    have HS := Lib.hid (World.ownsRow_made (e := 3) (size := 1) (base := w.heap.size) w #[] 0 (Nat.le_refl _) (Nat.zero_le _) rfl)
    have H4 : Hid (0 + xs.length ≤ maxLen) := by show 0 + xs.length ≤ maxLen; omega
    have H5 : Hid ((0 + xs.length) * 8 ≤ 140737488355328) := by show (0 + xs.length) * 8 ≤ 140737488355328; omega
    have hq := fun w => Lib.run_eql_slice_nil (P := Try.prog) w 33 3 (some ad) xs.length cap 0 0 Try.underlying33
    clear hl hr h1 h2 hx hF hnews hold hnews2 HL HR
    go_enter Try.func121, Try.ntmps121
    go_wp2_with (at_builtin; refine wpList_append_own_at _ rfl _ _ 33 rfl w.heap.size 3 i0 (.int .i64 0) 1 8 Try.underlying33 hi hz0 hz1 hz2 rfl (by decide) _ _ _ rfl HS.out ad xs.length cap (xs.map (Value.int .i64)) rfl (by simp) HN.out (by simp [Value.oneCell']) H4.out H5.out (by simp) ?_; intro v' w1 hown hgrow hnil hloc)
    go_ret
    have hown2 : w1.ownsRow w.heap.size 3 1 v' xs.length (xs.map (Value.int .i64)) := by simpa using hown
    exact ⟨⟨v', rfl, hown2⟩, ((Below.refl _ _).alloc (Nat.le_refl _) _).grown hgrow (by simp) (fun k hk => by cases hk; exact Nat.le_refl _)⟩
theorem reverse_own {w : World} {B : Nat} {v : Value} {zs : List Int} (h : w.ownsRow B 3 1 v zs.length (zs.map iv)) :
    Calls Try.prog 160 #[v] w fun e w' => e = .returned (.tuple #[]) ∧ IntsIn (fun k => B ≤ k ∧ k < w.heap.size) w' v zs.reverse ∧ Chg (fun k => B ≤ k) w w' := by
  rcases h.2 with ⟨rfl, h0⟩ | ⟨g, cap, cur, rfl, hb, hg, h1, h2, h3, h4⟩
  · obtain rfl : zs = [] := List.eq_nil_of_length_eq_zero h0
    refine (Any.slices_Reverse_int_empty Try.lays112 none 0 w).mono ?_
    rintro e w' ⟨rfl, rfl⟩
    exact ⟨rfl, intsIn_nil _ _, Chg.refl _ _⟩
  · have hlt : g < w.heap.size := (Array.getElem?_eq_some_iff.1 hg).1
    have hlen : zs.length ≤ maxLen := Nat.le_trans h1 h2
    have hH : Holds (Value.int .i64) w g 0 zs.toArray := by
      intro j hj
      have hj' : j < zs.length := by simpa using hj
      refine ⟨?_, free_block hg _⟩
      have h5 : (cur.toList.take (zs.length * 1))[j]? = some (iv zs[j]) := by rw [h4]; simp [hj']
      rw [List.getElem?_take_of_lt (by omega)] at h5
      simp only [World.cell?, hg, Nat.zero_add]
      rw [Array.getElem?_toList] at h5
      simp [h5, hj']
    refine (Any.slices_Reverse_int Try.lays112 g 0 cap zs w hH (by unfold maxLen at hlen; omega)).mono ?_
    rintro e w' ⟨rfl, n, rfl⟩
    refine ⟨rfl, ⟨_, cap, by rw [List.length_reverse], by rw [List.length_reverse]; exact h1, h2, .inr ⟨g, 0, rfl, ⟨hb, hlt⟩, fun j x hj => ?_⟩⟩, ⟨rfl, rfl, rfl, by simp [putRow, mapBlock, Sort.ahead], fun k hk hn => ?_⟩⟩
    · have hj' : j < zs.reverse.toArray.size := by have := (List.getElem?_eq_some_iff.1 hj).1; simpa using this
      have := (holds_putRow (Value.int .i64) (Sort.ahead w n) g 0 zs.toArray zs.reverse.toArray (holds_ahead _ _ n _ _ _ hH) (by simp) j hj').1
      rw [this]
      have hx : (zs.reverse.toArray)[j]! = x := by simp [hj]
      rw [hx]
    · simp only [putRow, mapBlock]
      rw [Array.getElem?_modify, if_neg (fun e => hn (by omega))]
      rfl

set_option maxRecDepth 100000 in
set_option maxHeartbeats 4000000 in
theorem back_any {w : World} {F : Nat → Prop} {v : Value} {xs : List Int} (h : IntsIn F w v xs) (hF : ∀ k, F k → k < w.heap.size) (hr : xs.length * 8 ≤ 140737488351232) :
    Calls Try.prog 136 #[v] w fun e w' => (∃ u, e = .returned u ∧ IntsIn (Old w'.heap.size) w' u xs.reverse) ∧ Below w.heap.size w w' := by
  have HC := Lib.hid (clone_own xs F v w h hF hr)
  clear h hF hr
  go_enter Try.func136, Try.ntmps136
  go_wp2_with fail
  refine HC.out.mono ?_
  rintro e w1 ⟨⟨u, rfl, ho⟩, hb⟩
  have HR := Lib.hid (reverse_own ho)
  obtain ⟨a, n, c, rfl⟩ : ∃ a n c, u = .slice a n c := by
    rcases ho.2 with ⟨rfl, _⟩ | ⟨g, cp, cur, rfl, _⟩
    · exact ⟨_, _, _, rfl⟩
    · exact ⟨_, _, _, rfl⟩
  have HB := Lib.hid hb
  clear ho hb
  go_wp2_with fail
  refine HR.out.mono ?_
  rintro e w2 ⟨rfl, hi, hc⟩
  go_wp2
  go_ret
  exact ⟨⟨_, rfl, hi.mono (fun k hk => Nat.lt_of_lt_of_le hk.2 hc.size)⟩, HB.out.trans ⟨hc.os, hc.tape, hc.output, hc.size, fun k hk => hc.block k (Nat.lt_of_lt_of_le hk HB.out.size) (fun e => by omega)⟩⟩
end Go.Proofs.Ytinkjhkbaadbpaa
/- beside (135), following-sibling (111), preceding-sibling (112). -/
namespace Go.Proofs.Ytinkjhkbaadbpaa
open Go.RowKit
set_option linter.unusedVariables false
set_option linter.unusedSimpArgs false

/-- a node's parent's children -/
def sibO (g : Int → Option Rec) (kind : Int) : Option Rec → List Int
  | none => []
  | some p => if kind = 3 then [] else onceF (isThere g) p.kids
def sibL (g : Int → Option Rec) (r : Rec) : List Int := sibO g r.kind (g r.parent)
def SibPost (w : World) (xs : List Int) (id : Int) (e : Ending) (w' : World) : Prop := (∃ u, e = .returned (.tuple #[u, iv (idxI xs id)]) ∧ IntsIn (Old w'.heap.size) w' u xs) ∧ Below w.heap.size w w'
theorem idxI_nil (y : Int) : idxI [] y = -1 := idxI_none (by simp)
section
variable {Rb : Nat → Prop} {w : World} {v : Nat} {g : Int → Option Rec} {keys : List Int}

set_option maxRecDepth 100000 in
set_option maxHeartbeats 4000000 in
theorem beside_any (h : Ax Rb w v g keys) (id : Int) (r : Rec) (kv av : Value) :
    Calls Try.prog 135 #[nodeV v id r kv av] w (SibPost w (sibL g r) id) := by
  obtain ⟨W, hW⟩ : ∃ W, w.alloc (.cells #[ptr v, iv id, .int .i64 r.kind, .string r.name, .string r.text, .int .i64 r.parent, kv, av, .bool r.gone] 133) = W := ⟨_, rfl⟩
  have hbW : Below w.heap.size w W := by rw [← hW]; exact (Below.refl _ _).alloc (Nat.le_refl _) _
  have hx0 : W.heap[w.heap.size]? = some (.cells #[ptr v, iv id, .int .i64 r.kind, .string r.name, .string r.text, .int .i64 r.parent, kv, av, .bool r.gone] 133 (0, 0)) := by rw [← hW]; exact Go.heap_alloc_new _ _
  have hlW : w.heap.size < W.heap.size := by rw [← hW]; simp
  have hc := (h.later hbW).n.reads W (Below.refl _ _) r.parent
  obtain ⟨o, ho⟩ : ∃ o, g r.parent = o := ⟨_, rfl⟩
  have hok : ∀ p, o = some p → RecOk p := fun p hp => h.ok r.parent p (by rw [ho, hp])
  have hfin : sibL g r = sibO g r.kind o := by unfold sibL; rw [ho]
  rw [ho] at hc
  rw [hfin]
  have HC := Lib.hid hc
  have HOK := Lib.hid hok
  have HW := Lib.hid hW
  have HB := Lib.hid hbW
  have HAX := Lib.hid (h.later hbW)
  have HCELL := Lib.hid (fun (W2 : World) (hb : Below W.heap.size W W2) => cells9 ((hb.block _ hlW).trans hx0))
  obtain ⟨c0, c1, c2, c3, c4, c5, c6, c7, c8⟩ := cells9 hx0
  clear h hW hbW hx0 hfin ho hc hok c6 c7
  go_enter Try.func135, Try.ntmps135
  go_wp2_with fail
  rw [HW.out]
  go_wp2_with fail
  refine HC.out.mono ?_
  rintro e w2 ⟨⟨kv2, av2, rfl, hk2, ha2⟩, hb2⟩
  have HK := Lib.hid hk2
  have HA := Lib.hid ha2
  obtain ⟨ka, kc, rfl, -, -, -⟩ := hk2
  obtain ⟨aa, ac, rfl, -, -, -⟩ := ha2
  go_upto_region 2 with fail
  obtain ⟨W3, hW3⟩ : ∃ W3, w2.alloc (.cells #[.int .i64 (o.getD Rec.zero).kind, .string (o.getD Rec.zero).name, .string (o.getD Rec.zero).text, .int .i64 (o.getD Rec.zero).parent, .slice ka (o.getD Rec.zero).kids.length kc, .slice aa (o.getD Rec.zero).attrs.length ac, .bool (o.getD Rec.zero).gone] 52) = W3 := ⟨_, rfl⟩
  have hr3 : W3.heap[w2.heap.size]? = some (.cells #[.int .i64 (o.getD Rec.zero).kind, .string (o.getD Rec.zero).name, .string (o.getD Rec.zero).text, .int .i64 (o.getD Rec.zero).parent, .slice ka (o.getD Rec.zero).kids.length kc, .slice aa (o.getD Rec.zero).attrs.length ac, .bool (o.getD Rec.zero).gone] 52 (0, 0)) := by rw [← hW3]; exact Go.heap_alloc_new _ _
  rw [hW3]
  have hb23 : Below w2.heap.size w2 W3 := by rw [← hW3]; exact (Below.refl _ _).alloc (Nat.le_refl _) _
  have hb3 : Below W.heap.size W W3 := hb2.trans (hb23.mono hb2.size)
  have HB3 := Lib.hid hb3
  have HK3 := Lib.hid (HK.out.later hb23)
  have HA3 := Lib.hid (HA.out.later hb23)
  clear c0 c1 c2 c3 c4 c5 c8
  obtain ⟨c0, c1, c2, c3, c4, c5, -, -, c8⟩ := HCELL.out W3 hb3
  obtain ⟨p0, p1, p2, p3, p4, p5, p6⟩ := cells7 hr3
  clear hb3 hb23 hb2 hW3 hr3
  cases o with
  | none =>
    simp only [Option.getD_none, Option.isSome_none] at *
    go_wp2_with fail
    refine bodyPost_ret (v := .tuple #[.slice none 0 0, .int .i64 (-1)]) (by simp [results, Try.results135, go_sem]) rfl ?_
    exact ⟨⟨_, by unfold sibO; rw [idxI_nil], intsIn_nil _ _⟩, HB.out.trans (HB3.out.mono HB.out.size)⟩
  | some p =>
    simp only [Option.getD_some, Option.isSome_some] at *
    by_cases hk : r.kind = 3
    · have hkb : (r.kind == 3) = true := by simpa using hk
      have HF := Lib.hid (show sibO g r.kind (some p) = [] by unfold sibO; simp [hk])
      clear hk
      go_wp2_with fail
      refine bodyPost_ret (v := .tuple #[.slice none 0 0, .int .i64 (-1)]) (by simp [results, Try.results135, go_sem]) rfl ?_
      exact ⟨⟨_, by rw [HF.out, idxI_nil], by rw [HF.out]; exact intsIn_nil _ _⟩, HB.out.trans (HB3.out.mono HB.out.size)⟩
    · have hkb : (r.kind == 3) = false := by simpa using hk
      have HF := Lib.hid (show sibO g r.kind (some p) = onceF (isThere g) p.kids by unfold sibO; simp [hk])
      have HCH := Lib.hid (child_any (HAX.out.later HB3.out).n.reads r.parent (HOK.out p rfl) HK3.out HA3.out)
      obtain ⟨xs, hxs⟩ : ∃ xs, onceF (isThere g) p.kids = xs := ⟨_, rfl⟩
      rw [hxs] at HCH HF
      clear hk hxs
      go_wp2_with fail
      refine HCH.out.mono ?_
      rintro e w4 ⟨⟨u, rfl, hu⟩, hb4⟩
      have HU := Lib.hid hu
      have HI := Lib.hid (idx_any xs _ u id w4 hu)
      obtain ⟨au, cu, rfl, -, -, -⟩ := hu
      clear c0 c1 c2 c3 c4 c5 c8 p0 p1 p2 p3 p4 p5 p6
      have hb5 := HB3.out.trans (hb4.mono HB3.out.size)
      obtain ⟨c0, c1, c2, c3, c4, c5, -, -, c8⟩ := HCELL.out w4 hb5
      have HB5 := Lib.hid hb5
      clear hb4 hb5
      go_wp2_with (go_at_call 137; refine HI.out.mono ?_; rintro e w5 ⟨rfl, rfl⟩)
      refine bodyPost_ret (v := .tuple #[.slice au xs.length cu, iv (idxI xs id)]) (by simp [results, Try.results135, go_sem]) rfl ?_
      exact ⟨⟨_, by rw [HF.out], by rw [HF.out]; exact HU.out⟩, HB.out.trans (HB5.out.mono HB.out.size)⟩
set_option maxRecDepth 100000 in
set_option maxHeartbeats 4000000 in
theorem followSib_any (h : Ax Rb w v g keys) (id : Int) (r : Rec) (kv av : Value) (hk : IntsIn (Old w.heap.size) w kv r.kids) (ha : IntsIn (Old w.heap.size) w av r.attrs) :
    Calls Try.prog 111 #[nodeV v id r kv av] w (AxPost w (behindF (sibL g r) id)) := by
  obtain ⟨W, hW⟩ : ∃ W, w.alloc (.cells #[ptr v, iv id, .int .i64 r.kind, .string r.name, .string r.text, .int .i64 r.parent, kv, av, .bool r.gone] 133) = W := ⟨_, rfl⟩
  have hbW : Below w.heap.size w W := by rw [← hW]; exact (Below.refl _ _).alloc (Nat.le_refl _) _
  have hx0 : W.heap[w.heap.size]? = some (.cells #[ptr v, iv id, .int .i64 r.kind, .string r.name, .string r.text, .int .i64 r.parent, kv, av, .bool r.gone] 133 (0, 0)) := by rw [← hW]; exact Go.heap_alloc_new _ _
  obtain ⟨c0, c1, c2, c3, c4, c5, c6, c7, c8⟩ := cells9 hx0
  obtain ⟨xs, hxs⟩ : ∃ xs, sibL g r = xs := ⟨_, rfl⟩
  have HC := Lib.hid (beside_any (h.later hbW) id r kv av)
  rw [hxs] at HC ⊢
  have HW := Lib.hid hW
  have HB := Lib.hid hbW
  obtain ⟨ka, kc, rfl, -, -, -⟩ := hk
  obtain ⟨aa, ac, rfl, -, -, -⟩ := ha
  clear h hW hbW hx0 hxs
  go_enter Try.func111, Try.ntmps111
  go_wp2_with fail
  rw [HW.out]
  go_wp2_with fail
  refine HC.out.mono ?_
  rintro e w2 ⟨⟨u, rfl, hu⟩, hb2⟩
  have HU := Lib.hid hu
  have hln := hu.len
  obtain ⟨au, cu, rfl, -, -, -⟩ := hu
  rcases idxI_cases xs id with ⟨hi, -⟩ | ⟨k, hi, -, -, hlt⟩
  · have HF := Lib.hid (show behindF xs id = [] by unfold behindF; rw [hi]; simp)
    rw [hi]
    clear hi
    go_wp2_with fail
    go_ret
    exact ⟨⟨_, rfl, by rw [HF.out]; exact intsIn_nil _ _⟩, HB.out.trans (hb2.mono HB.out.size)⟩
  · have HF := Lib.hid (show behindF xs id = xs.drop (k + 1) by unfold behindF; rw [hi, if_neg (by omega)]; rfl)
    rw [hi]
    clear hi
    have h0 : ¬ (k : Int) < 0 := by omega
    have ek : ((k : Int) + 1).toNat = k + 1 := by omega
    have e9 : (0 : Int) ≤ (k : Int) + 1 := by omega
    have e8 : (k : Int) + 1 ≤ xs.length := by omega
    obtain ⟨v9, hv9⟩ : ∃ v9, sliced au (k + 1) xs.length cu 1 = v9 := ⟨_, rfl⟩
    have HD := Lib.hid (HU.out.drop (k + 1) (by omega))
    rw [hv9] at HD
    go_wp2_with fail
    all_goals
      go_ret
      refine ⟨⟨_, rfl, ?_⟩, HB.out.trans (hb2.mono HB.out.size)⟩
      have := HD.out
      rw [← hv9] at this
      rw [HF.out]
      simpa [sliced, Addr.add, *] using this
set_option maxRecDepth 100000 in
set_option maxHeartbeats 4000000 in
theorem precSib_any (h : Ax Rb w v g keys) (id : Int) (r : Rec) (kv av : Value) (hk : IntsIn (Old w.heap.size) w kv r.kids) (ha : IntsIn (Old w.heap.size) w av r.attrs) (hsz : (sibL g r).length * 8 ≤ 140737488351232) :
    Calls Try.prog 112 #[nodeV v id r kv av] w (AxPost w (aheadF (sibL g r) id).reverse) := by
  obtain ⟨W, hW⟩ : ∃ W, w.alloc (.cells #[ptr v, iv id, .int .i64 r.kind, .string r.name, .string r.text, .int .i64 r.parent, kv, av, .bool r.gone] 133) = W := ⟨_, rfl⟩
  have hbW : Below w.heap.size w W := by rw [← hW]; exact (Below.refl _ _).alloc (Nat.le_refl _) _
  have hx0 : W.heap[w.heap.size]? = some (.cells #[ptr v, iv id, .int .i64 r.kind, .string r.name, .string r.text, .int .i64 r.parent, kv, av, .bool r.gone] 133 (0, 0)) := by rw [← hW]; exact Go.heap_alloc_new _ _
  obtain ⟨c0, c1, c2, c3, c4, c5, c6, c7, c8⟩ := cells9 hx0
  obtain ⟨xs, hxs⟩ : ∃ xs, sibL g r = xs := ⟨_, rfl⟩
  have HC := Lib.hid (beside_any (h.later hbW) id r kv av)
  rw [hxs] at HC hsz ⊢
  have HSZ := Lib.hid hsz
  have HW := Lib.hid hW
  have HB := Lib.hid hbW
  obtain ⟨ka, kc, rfl, -, -, -⟩ := hk
  obtain ⟨aa, ac, rfl, -, -, -⟩ := ha
  clear h hW hbW hx0 hxs hsz
  go_enter Try.func112, Try.ntmps112
  go_wp2_with fail
  rw [HW.out]
  go_wp2_with fail
  refine HC.out.mono ?_
  rintro e w2 ⟨⟨u, rfl, hu⟩, hb2⟩
  have HU := Lib.hid hu
  have hln := hu.len
  obtain ⟨au, cu, rfl, hcu, -, -⟩ := hu
  obtain ⟨k, hk, hmx⟩ : ∃ k : Nat, k = (idxI xs id).toNat ∧ max (idxI xs id) 0 = (k : Int) := ⟨_, rfl, by omega⟩
  have hkl : k ≤ xs.length := by
    rcases idxI_cases xs id with ⟨hi, -⟩ | ⟨j, hi, -, -, hlt⟩ <;> omega
  have HF := Lib.hid (show aheadF xs id = xs.take k by unfold aheadF; rw [hk])
  obtain ⟨ix, hix⟩ : ∃ ix, idxI xs id = ix := ⟨_, rfl⟩
  rw [hix] at hmx ⊢
  have HBK := Lib.hid (back_any (HU.out.head k hkl) (fun _ h => h) (by have := HSZ.out; simp; omega))
  have HB2 := Lib.hid hb2
  have h0 : (0 : Int) ≤ k := by omega
  have h1 : (k : Int) ≤ cu := by omega
  clear hb2 hk hix
  go_wp2_with fail
  refine HBK.out.mono ?_
  rintro e w3 ⟨⟨u3, rfl, hu3⟩, hb3⟩
  go_wp2_with fail
  go_ret
  exact ⟨⟨_, rfl, by rw [HF.out]; exact hu3⟩, HB.out.trans ((HB2.out.trans (hb3.mono HB2.out.size)).mono HB.out.size)⟩
end
end Go.Proofs.Ytinkjhkbaadbpaa
/- following (113), preceding (114), their closures 138, 141. -/
namespace Go.Proofs.Ytinkjhkbaadbpaa
open Go.RowKit
set_option linter.unusedVariables false
set_option linter.unusedSimpArgs false

/-- a node that is no attribute and not in a list -/
def offP (g : Int → Option Rec) (out : List Int) (x : Int) : Bool := isPlain g x && decide (x ∉ out)
theorem allF_len {g : Int → Option Rec} {keys : List Int} (hk : KeysOf g keys) : (allF g (keys.length + 1)).length ≤ keys.length := by
  unfold allF
  have := (goS_inv hk (keys.length + 1) 1 false [] (GoInv.nil keys)).len
  rw [List.length_map]
  unfold goF; omega

set_option maxRecDepth 100000 in
set_option maxHeartbeats 4000000 in
theorem off_138 {w : World} {v : Nat} {g : Int → Option Rec} {id : Int} {r : Rec} {ka aa : Option Addr} {nk kc na ac nb lb : Nat} {a : Option Addr} {c : Nat} {xs : List Int} (h : Reads 29 w v g)
    (hn : w.heap[nb]? = some (.cells #[ptr v, iv id, .int .i64 r.kind, .string r.name, .string r.text, .int .i64 r.parent, .slice ka nk kc, .slice aa na ac, .bool r.gone] 133 (0, 0)))
    (hl : w.heap[lb]? = some (.cells #[.slice a xs.length c] 33 (0, 0))) (hx : IntsIn (Old w.heap.size) w (.slice a xs.length c) xs) (x : Int) :
    Calls Try.prog 138 #[iv x, ptr nb, ptr lb] w fun e w' => e = .returned (.bool (offP g xs x)) ∧ Below w.heap.size w w' := by
  have hlt : lb < w.heap.size := (Array.getElem?_eq_some_iff.1 hl).1
  obtain ⟨c0, c1, c2, c3, c4, c5, c6, c7, c8⟩ := cells9 hn
  have l0 : w.cell? ⟨lb, 0, none⟩ = some (.slice a xs.length c) := by simp [World.cell?, hl]
  have HP := Lib.hid (plain_any h id r (.slice ka nk kc) (.slice aa na ac) x)
  obtain ⟨b, hb⟩ : ∃ b, isPlain g x = b := ⟨_, rfl⟩
  rw [hb] at HP
  have HO := Lib.hid (show offP g xs x = (b && decide (x ∉ xs)) by unfold offP; rw [hb])
  have HCT := Lib.hid (fun (W : World) (hb : Below w.heap.size w W) => contains_any xs _ _ x W (hx.later hb))
  have HLL := Lib.hid (fun (W : World) (hb : Below w.heap.size w W) => (hb.cell (p := ⟨lb, 0, none⟩) hlt).trans l0)
  clear hb h hn hl hx
  go_enter Try.func138, Try.ntmps138
  go_wp2_with fail
  refine HP.out.mono ?_
  rintro e w2 ⟨rfl, hb2⟩
  have HB2 := Lib.hid hb2
  have l2 := HLL.out w2 hb2
  have hct := HCT.out w2 hb2
  clear hb2 l0 c0 c1 c2 c3 c4 c5 c6 c7 c8
  cases b with
  | false =>
    go_wp2_with fail
    go_ret
    exact ⟨ret_b (by rw [HO.out]; rfl), HB2.out⟩
  | true =>
    by_cases hm : x ∈ xs
    · rw [decide_eq_true hm] at hct
      have HM := Lib.hid hm
      have HCX := Lib.hid hct
      clear hm hct
      go_wp2_with (go_at_call 140; refine HCX.out.mono ?_; rintro e w3 ⟨rfl, rfl⟩)
      go_ret
      exact ⟨ret_b (by rw [HO.out]; simp [HM.out]), HB2.out⟩
    · rw [decide_eq_false hm] at hct
      have HM := Lib.hid hm
      have HCX := Lib.hid hct
      clear hm hct
      go_wp2_with (go_at_call 140; refine HCX.out.mono ?_; rintro e w3 ⟨rfl, rfl⟩)
      go_ret
      exact ⟨ret_b (by rw [HO.out]; simp [HM.out]), HB2.out⟩

set_option maxRecDepth 100000 in
set_option maxHeartbeats 4000000 in
theorem off_141 {w : World} {v : Nat} {g : Int → Option Rec} {id : Int} {r : Rec} {ka aa : Option Addr} {nk kc na ac nb lb : Nat} {a : Option Addr} {c : Nat} {xs : List Int} (h : Reads 29 w v g)
    (hn : w.heap[nb]? = some (.cells #[ptr v, iv id, .int .i64 r.kind, .string r.name, .string r.text, .int .i64 r.parent, .slice ka nk kc, .slice aa na ac, .bool r.gone] 133 (0, 0)))
    (hl : w.heap[lb]? = some (.cells #[.slice a xs.length c] 33 (0, 0))) (hx : IntsIn (Old w.heap.size) w (.slice a xs.length c) xs) (x : Int) :
    Calls Try.prog 141 #[iv x, ptr nb, ptr lb] w fun e w' => e = .returned (.bool (offP g xs x)) ∧ Below w.heap.size w w' := by
  have hlt : lb < w.heap.size := (Array.getElem?_eq_some_iff.1 hl).1
  obtain ⟨c0, c1, c2, c3, c4, c5, c6, c7, c8⟩ := cells9 hn
  have l0 : w.cell? ⟨lb, 0, none⟩ = some (.slice a xs.length c) := by simp [World.cell?, hl]
  have HP := Lib.hid (plain_any h id r (.slice ka nk kc) (.slice aa na ac) x)
  obtain ⟨b, hb⟩ : ∃ b, isPlain g x = b := ⟨_, rfl⟩
  rw [hb] at HP
  have HO := Lib.hid (show offP g xs x = (b && decide (x ∉ xs)) by unfold offP; rw [hb])
  have HCT := Lib.hid (fun (W : World) (hb : Below w.heap.size w W) => contains_any xs _ _ x W (hx.later hb))
  have HLL := Lib.hid (fun (W : World) (hb : Below w.heap.size w W) => (hb.cell (p := ⟨lb, 0, none⟩) hlt).trans l0)
  clear hb h hn hl hx
  go_enter Try.func141, Try.ntmps141
  go_wp2_with fail
  refine HP.out.mono ?_
  rintro e w2 ⟨rfl, hb2⟩
  have HB2 := Lib.hid hb2
  have l2 := HLL.out w2 hb2
  have hct := HCT.out w2 hb2
  clear hb2 l0 c0 c1 c2 c3 c4 c5 c6 c7 c8
  cases b with
  | false =>
    go_wp2_with fail
    go_ret
    exact ⟨ret_b (by rw [HO.out]; rfl), HB2.out⟩
  | true =>
    by_cases hm : x ∈ xs
    · rw [decide_eq_true hm] at hct
      have HM := Lib.hid hm
      have HCX := Lib.hid hct
      clear hm hct
      go_wp2_with (go_at_call 140; refine HCX.out.mono ?_; rintro e w3 ⟨rfl, rfl⟩)
      go_ret
      exact ⟨ret_b (by rw [HO.out]; simp [HM.out]), HB2.out⟩
    · rw [decide_eq_false hm] at hct
      have HM := Lib.hid hm
      have HCX := Lib.hid hct
      clear hm hct
      go_wp2_with (go_at_call 140; refine HCX.out.mono ?_; rintro e w3 ⟨rfl, rfl⟩)
      go_ret
      exact ⟨ret_b (by rw [HO.out]; simp [HM.out]), HB2.out⟩

set_option maxRecDepth 100000 in
set_option maxHeartbeats 4000000 in
theorem following_any {Rb : Nat → Prop} {w : World} {v : Nat} {g : Int → Option Rec} {keys : List Int} (h : Ax Rb w v g keys) (id : Int) (r : Rec) (kv av : Value) (hk : IntsIn (Old w.heap.size) w kv r.kids) (ha : IntsIn (Old w.heap.size) w av r.attrs) :
    Calls Try.prog 113 #[nodeV v id r kv av] w (AxPost w (onceF (offP g (belowF g (keys.length + 1) id)) (behindF (allF g (keys.length + 1)) id))) := by
  obtain ⟨W, hW⟩ : ∃ W, w.alloc (.cells #[ptr v, iv id, .int .i64 r.kind, .string r.name, .string r.text, .int .i64 r.parent, kv, av, .bool r.gone] 133) = W := ⟨_, rfl⟩
  have hbW : Below w.heap.size w W := by rw [← hW]; exact (Below.refl _ _).alloc (Nat.le_refl _) _
  have hx0 : W.heap[w.heap.size]? = some (.cells #[ptr v, iv id, .int .i64 r.kind, .string r.name, .string r.text, .int .i64 r.parent, kv, av, .bool r.gone] 133 (0, 0)) := by rw [← hW]; exact Go.heap_alloc_new _ _
  have hlW : w.heap.size < W.heap.size := by rw [← hW]; simp
  have hal : (allF g (keys.length + 1)).length ≤ 1000000000 := Nat.le_trans (allF_len h.ko) h.kl
  have hA := all_any (h.later hbW).k (h.later hbW).rl h.ko h.kl
  obtain ⟨xs, hxs⟩ : ∃ xs, allF g (keys.length + 1) = xs := ⟨_, rfl⟩
  rw [hxs] at hal hA ⊢
  obtain ⟨ys, hys⟩ : ∃ ys, belowF g (keys.length + 1) id = ys := ⟨_, rfl⟩
  have hC := fun (W2 : World) (hb : Below W.heap.size W W2) => descendant_any ((h.later hbW).later hb) id r kv av
  rw [hys] at hC ⊢
  have HA := Lib.hid hA
  have HC := Lib.hid hC
  have HAL := Lib.hid hal
  have HW := Lib.hid hW
  have HB := Lib.hid hbW
  have HAX := Lib.hid (h.later hbW)
  obtain ⟨ka, kc, rfl, -, -, -⟩ := hk
  obtain ⟨aa, ac, rfl, -, -, -⟩ := ha
  have HNODE := Lib.hid (fun (W2 : World) (hb : Below W.heap.size W W2) => (hb.block _ hlW).trans hx0)
  obtain ⟨c0, c1, c2, c3, c4, c5, c6, c7, c8⟩ := cells9 hx0
  have hmf : ∀ (fn : Fn) (first cap : Array Value) (w : World), (Instr.makeFunc fn first cap).run Try.prog w = .ok (.func fn first cap) w := fun _ _ _ _ => rfl
  clear h hW hbW hx0 hxs hys hal hA hC
  go_enter Try.func113, Try.ntmps113
  go_wp2_with fail
  rw [HW.out]
  go_wp2_with fail
  refine HA.out.mono ?_
  rintro e w2 ⟨⟨u, rfl, hu⟩, hb2⟩
  have HU := Lib.hid hu
  have hln := hu.len
  have hidx := idx_any xs _ u id w2 hu
  obtain ⟨au, cu, rfl, hcu, -, -⟩ := hu
  have HB2 := Lib.hid hb2
  obtain ⟨ix, hix⟩ : ∃ ix, idxI xs id = ix := ⟨_, rfl⟩
  rw [hix] at hidx
  have HI := Lib.hid hidx
  clear hidx c0 c1 c2 c3 c4 c5 c6 c7 c8
  obtain ⟨c0, c1, c2, c3, c4, c5, c6, c7, c8⟩ := cells9 (HNODE.out w2 hb2)
  clear hb2
  rcases idxI_cases xs id with ⟨hi, -⟩ | ⟨k, hi, -, -, hlt⟩
  · have HF := Lib.hid (show onceF (offP g ys) (behindF xs id) = [] by unfold behindF; rw [hi]; rfl)
    rw [hi] at hix
    subst hix
    go_wp2_with (go_at_call 137; refine HI.out.mono ?_; rintro e w3 ⟨rfl, rfl⟩)
    go_ret
    exact ⟨⟨_, rfl, by rw [HF.out]; exact intsIn_nil _ _⟩, HB.out.trans (HB2.out.mono HB.out.size)⟩
  · have HF := Lib.hid (show behindF xs id = xs.drop (k + 1) by unfold behindF; rw [hi, if_neg (by omega)]; rfl)
    rw [hi] at hix
    subst hix
    clear hi
    have h0 : ¬ (k : Int) < 0 := by omega
    have ek : ((k : Int) + 1).toNat = k + 1 := by omega
    have e9 : (0 : Int) ≤ (k : Int) + 1 := by omega
    have e8 : (k : Int) + 1 ≤ xs.length := by omega
    have hCd := HC.out w2 HB2.out
    have HCD := Lib.hid hCd
    clear hCd
    go_wp2_with (first
      | (go_at_call 108; refine HCD.out.mono ?_; rintro e w4 ⟨⟨u4, rfl, hu4⟩, hb4⟩; have HU4 := Lib.hid hu4; obtain ⟨a4, c4', rfl, -, -, -⟩ := hu4; have HB4 := Lib.hid hb4; clear hb4; have H5 := Lib.hid (show Below w2.heap.size w2 (w4.alloc (.cells #[.slice a4 ys.length c4'] 33)) ∧ (w4.alloc (.cells #[.slice a4 ys.length c4'] 33)).heap[w4.heap.size]? = some (.cells #[.slice a4 ys.length c4'] 33 (0, 0)) ∧ w4.heap.size < (w4.alloc (.cells #[.slice a4 ys.length c4'] 33)).heap.size ∧ IntsIn (Old (w4.alloc (.cells #[.slice a4 ys.length c4'] 33)).heap.size) (w4.alloc (.cells #[.slice a4 ys.length c4'] 33)) (.slice a4 ys.length c4') ys ∧ Below W.heap.size W (w4.alloc (.cells #[.slice a4 ys.length c4'] 33)) from ⟨HB4.out.alloc HB4.out.size _, Go.heap_alloc_new _ _, by simp, HU4.out.later ((Below.refl _ _).alloc (Nat.le_refl _) _), HB2.out.trans ((HB4.out.alloc HB4.out.size _).mono HB2.out.size)⟩))
      | (go_at_call 137; refine HI.out.mono ?_; rintro e w3 ⟨rfl, rfl⟩))
    all_goals
      obtain ⟨hb5, hL5, hl5, HY5, HBW5⟩ := H5.out
      have hall : ∀ W6, Below (w4.alloc (.cells #[.slice a4 ys.length c4'] 33)).heap.size (w4.alloc (.cells #[.slice a4 ys.length c4'] 33)) W6 → ∀ x, Calls Try.prog 138 #[iv x, ptr w.heap.size, ptr w4.heap.size] W6 fun e w' => e = .returned (.bool (offP g ys x)) ∧ Below W6.heap.size W6 w' := fun W6 h6 x =>
        off_138 (HAX.out.later (HBW5.trans (h6.mono HBW5.size))).n.reads (HNODE.out W6 (HBW5.trans (h6.mono HBW5.size))) ((h6.block _ hl5).trans hL5) (HY5.later h6) x
      have hD := (HU.out.drop (k + 1) (by omega)).later hb5
      refine (once_138 (p := offP g ys) (xs := xs.drop (k + 1)) (by simpa [sliced, Addr.add, *] using hD) (fun _ h => h) (by have := HAL.out; simp; omega) hall).mono ?_
      rintro e w6 ⟨⟨u6, rfl, ho⟩, hb6⟩
      obtain ⟨a6, n6, rfl⟩ := shape3 ho
      go_wp2
      go_ret
      exact ⟨⟨_, rfl, by rw [HF.out]; exact (intsIn_row ho).old⟩, HB.out.trans ((HBW5.trans (hb6.mono HBW5.size)).mono HB.out.size)⟩

set_option maxRecDepth 100000 in
set_option maxHeartbeats 4000000 in
theorem preceding_any {Rb : Nat → Prop} {w : World} {v : Nat} {g : Int → Option Rec} {keys : List Int} (h : Ax Rb w v g keys) (id : Int) (r : Rec) (kv av : Value) (hk : IntsIn (Old w.heap.size) w kv r.kids) (ha : IntsIn (Old w.heap.size) w av r.attrs) :
    Calls Try.prog 114 #[nodeV v id r kv av] w (AxPost w (onceF (offP g (upF g (keys.length + 1) id)) (aheadF (allF g (keys.length + 1)) id)).reverse) := by
  obtain ⟨W, hW⟩ : ∃ W, w.alloc (.cells #[ptr v, iv id, .int .i64 r.kind, .string r.name, .string r.text, .int .i64 r.parent, kv, av, .bool r.gone] 133) = W := ⟨_, rfl⟩
  have hbW : Below w.heap.size w W := by rw [← hW]; exact (Below.refl _ _).alloc (Nat.le_refl _) _
  have hx0 : W.heap[w.heap.size]? = some (.cells #[ptr v, iv id, .int .i64 r.kind, .string r.name, .string r.text, .int .i64 r.parent, kv, av, .bool r.gone] 133 (0, 0)) := by rw [← hW]; exact Go.heap_alloc_new _ _
  have hlW : w.heap.size < W.heap.size := by rw [← hW]; simp
  have hal : (allF g (keys.length + 1)).length ≤ 1000000000 := Nat.le_trans (allF_len h.ko) h.kl
  have hA := all_any (h.later hbW).k (h.later hbW).rl h.ko h.kl
  obtain ⟨xs, hxs⟩ : ∃ xs, allF g (keys.length + 1) = xs := ⟨_, rfl⟩
  rw [hxs] at hal hA ⊢
  obtain ⟨ys, hys⟩ : ∃ ys, upF g (keys.length + 1) id = ys := ⟨_, rfl⟩
  have hC := fun (W2 : World) (hb : Below W.heap.size W W2) => ancestor_any ((h.later hbW).later hb) id r kv av
  rw [hys] at hC ⊢
  have HA := Lib.hid hA
  have HC := Lib.hid hC
  have HAL := Lib.hid hal
  have HW := Lib.hid hW
  have HB := Lib.hid hbW
  have HAX := Lib.hid (h.later hbW)
  obtain ⟨ka, kc, rfl, -, -, -⟩ := hk
  obtain ⟨aa, ac, rfl, -, -, -⟩ := ha
  have HNODE := Lib.hid (fun (W2 : World) (hb : Below W.heap.size W W2) => (hb.block _ hlW).trans hx0)
  obtain ⟨c0, c1, c2, c3, c4, c5, c6, c7, c8⟩ := cells9 hx0
  have hmf : ∀ (fn : Fn) (first cap : Array Value) (w : World), (Instr.makeFunc fn first cap).run Try.prog w = .ok (.func fn first cap) w := fun _ _ _ _ => rfl
  clear h hW hbW hx0 hxs hys hal hA hC
  go_enter Try.func114, Try.ntmps114
  go_wp2_with fail
  rw [HW.out]
  go_wp2_with fail
  refine HA.out.mono ?_
  rintro e w2 ⟨⟨u, rfl, hu⟩, hb2⟩
  have HU := Lib.hid hu
  have hln := hu.len
  have hidx := idx_any xs _ u id w2 hu
  obtain ⟨au, cu, rfl, hcu, -, -⟩ := hu
  have HB2 := Lib.hid hb2
  obtain ⟨ix, hix⟩ : ∃ ix, idxI xs id = ix := ⟨_, rfl⟩
  rw [hix] at hidx
  have HI := Lib.hid hidx
  clear hidx c0 c1 c2 c3 c4 c5 c6 c7 c8
  obtain ⟨c0, c1, c2, c3, c4, c5, c6, c7, c8⟩ := cells9 (HNODE.out w2 hb2)
  clear hb2
  obtain ⟨k, hk, hmx⟩ : ∃ k : Nat, k = (idxI xs id).toNat ∧ max (idxI xs id) 0 = (k : Int) := ⟨_, rfl, by omega⟩
  have hkl : k ≤ xs.length := by
    rcases idxI_cases xs id with ⟨hi, -⟩ | ⟨j, hi, -, -, hlt⟩ <;> omega
  have HF := Lib.hid (show aheadF xs id = xs.take k by unfold aheadF; rw [hk])
  rw [hix] at hmx
  clear hk hix
  have h0 : (0 : Int) ≤ k := by omega
  have h1 : (k : Int) ≤ cu := by omega
  have hCd := HC.out w2 HB2.out
  have HCD := Lib.hid hCd
  clear hCd
  go_wp2_with (first
    | (go_at_call 110; refine HCD.out.mono ?_; rintro e w4 ⟨⟨u4, rfl, hu4⟩, hb4⟩; have HU4 := Lib.hid hu4; obtain ⟨a4, c4', rfl, -, -, -⟩ := hu4; have HB4 := Lib.hid hb4; clear hb4; have H5 := Lib.hid (show Below w2.heap.size w2 (w4.alloc (.cells #[.slice a4 ys.length c4'] 33)) ∧ (w4.alloc (.cells #[.slice a4 ys.length c4'] 33)).heap[w4.heap.size]? = some (.cells #[.slice a4 ys.length c4'] 33 (0, 0)) ∧ w4.heap.size < (w4.alloc (.cells #[.slice a4 ys.length c4'] 33)).heap.size ∧ IntsIn (Old (w4.alloc (.cells #[.slice a4 ys.length c4'] 33)).heap.size) (w4.alloc (.cells #[.slice a4 ys.length c4'] 33)) (.slice a4 ys.length c4') ys ∧ Below W.heap.size W (w4.alloc (.cells #[.slice a4 ys.length c4'] 33)) from ⟨HB4.out.alloc HB4.out.size _, Go.heap_alloc_new _ _, by simp, HU4.out.later ((Below.refl _ _).alloc (Nat.le_refl _) _), HB2.out.trans ((HB4.out.alloc HB4.out.size _).mono HB2.out.size)⟩))
    | (go_at_call 137; refine HI.out.mono ?_; rintro e w3 ⟨rfl, rfl⟩))
  obtain ⟨hb5, hL5, hl5, HY5, HBW5⟩ := H5.out
  have hall : ∀ W6, Below (w4.alloc (.cells #[.slice a4 ys.length c4'] 33)).heap.size (w4.alloc (.cells #[.slice a4 ys.length c4'] 33)) W6 → ∀ x, Calls Try.prog 141 #[iv x, ptr w.heap.size, ptr w4.heap.size] W6 fun e w' => e = .returned (.bool (offP g ys x)) ∧ Below W6.heap.size W6 w' := fun W6 h6 x =>
    off_141 (HAX.out.later (HBW5.trans (h6.mono HBW5.size))).n.reads (HNODE.out W6 (HBW5.trans (h6.mono HBW5.size))) ((h6.block _ hl5).trans hL5) (HY5.later h6) x
  have hD := (HU.out.head k hkl).later hb5
  refine (once_141 (p := offP g ys) (xs := xs.take k) hD (fun _ h => h) (by have := HAL.out; simp; omega) hall).mono ?_
  rintro e w6 ⟨⟨u6, rfl, ho⟩, hb6⟩
  have hlen6 := onceF_len (offP g ys) (xs.take k) []
  have HBK := Lib.hid (back_any (intsIn_row ho).old (fun _ h => h) (by have := HAL.out; simp only [List.length_nil, List.length_take] at hlen6; unfold onceF; omega))
  obtain ⟨a6, n6, rfl⟩ := shape3 ho
  clear hlen6 ho hD hall
  go_wp2_with fail
  refine HBK.out.mono ?_
  rintro e w7 ⟨⟨u7, rfl, hu7⟩, hb7⟩
  have HU7 := Lib.hid hu7
  obtain ⟨a7, n7, rfl, -, -, -⟩ := hu7
  go_wp2_with fail
  go_ret
  have hbw6 := HBW5.trans (hb6.mono HBW5.size)
  exact ⟨⟨_, rfl, by rw [HF.out]; have h8 := HU7.out; rw [List.length_reverse] at h8; exact h8⟩, HB.out.trans ((hbw6.trans (hb7.mono hbw6.size)).mono HB.out.size)⟩
end Go.Proofs.Ytinkjhkbaadbpaa
/- The reference's there (78), without (82). -/
namespace Go.Proofs.Ytinkjhkbaadbpaa
open Go.RowKit
set_option linter.unusedVariables false

def kindOf (g : Int → Option Rec) (x : Int) : Int := ((g x).getD Rec.zero).kind
/-- what of a list is no attribute, and not in another one -/
def woutP (g : Int → Option Rec) (out : List Int) (x : Int) : Bool := kindOf g x != 3 && decide (x ∉ out)
def woutF (g : Int → Option Rec) (out xs : List Int) : List Int := xs.filter (woutP g out)
theorem woutF_succ {g : Int → Option Rec} {out xs : List Int} {k : Nat} {x : Int} (h : xs[k]? = some x) : woutF g out (xs.take (k + 1)) = woutF g out (xs.take k) ++ (if woutP g out x = true then [x] else []) := by
  unfold woutF
  rw [List.take_add_one, h, Option.toList_some, List.filter_append, List.filter_cons, List.filter_nil]
theorem woutF_len (g : Int → Option Rec) (out xs : List Int) : (woutF g out xs).length ≤ xs.length := List.length_filter_le _ _

set_option maxRecDepth 100000 in
set_option maxHeartbeats 4000000 in
theorem rthere_any {w : World} {v : Nat} {g : Int → Option Rec} {F : Nat → Prop} {l : Value} {xs : List Int}  (hR : Reads 76 w v g) (hv : IntsIn F w l xs) (hF : ∀ k, F k → k < w.heap.size) (hlen : xs.length * 8 ≤ 140737488351232) :
    Calls Try.prog 78 #[ptr v, l] w fun e w' => (∃ u, e = .returned u ∧ w'.ownsRow w.heap.size 3 1 u (onceF (isThere g) xs).length ((onceF (isThere g) xs).map iv)) ∧ Below w.heap.size w w' := by
  obtain ⟨i0, hi, hz0, hz1, hz2⟩ := info_parts Try.info3
  obtain ⟨a, cap, rfl, -, -, hx⟩ := hv
  have HX := Lib.hid hx
  have HF := Lib.hid hF
  have HY := Lib.hid hR
  clear hx hF hR
  go_enter Try.func78, Try.ntmps78
  go_wp2
  go_loopw [5, 6] (fun m i wr => ∃ k : Nat, k ≤ xs.length ∧ i = .int .i64 k ∧ wr.ownsRow w.heap.size 3 1 m (onceF (isThere g) (xs.take k)).length ((onceF (isThere g) (xs.take k)).map iv) ∧ Below w.heap.size w wr) (fun _ i _ => xs.length - (intOf i).toNat)
  case atStart => exact ⟨0, Nat.zero_le _, rfl, World.ownsRow_nil _ _ _ _, Below.refl _ _⟩
  case round =>
    obtain ⟨k, hk, rfl, hown, hbr⟩ := hrel
    obtain ⟨am, cm, rfl⟩ := ownsRow_shape hown
    have HOWN := Lib.hid hown
    have HBR := Lib.hid hbr
    have hlm := onceF_len (isThere g) (xs.take k) []
    simp only [List.length_nil, List.length_take, Nat.min_eq_left hk] at hlm
    have hlm2 : (onceF (isThere g) (xs.take k)).length ≤ k := by unfold onceF; omega
    clear hlm
    clear hown hbr
    by_cases hlt : k < xs.length
    · obtain ⟨x, hxk⟩ : ∃ x, xs[k]? = some x := ⟨_, List.getElem?_eq_getElem hlt⟩
      obtain ⟨gb, off, rfl, hFg, hc⟩ : ∃ g off, a = some ⟨g, off, none⟩ ∧ F g ∧ ∀ j x, xs[j]? = some x → w.cell? ⟨g, off + j, none⟩ = some (.int .i64 x) := by
        rcases HX.out with h | h
        · rw [h] at hlt; simp at hlt
        · exact h
      have hck0 : wr.cell? ⟨gb, off + k, none⟩ = some (.int .i64 x) := (HBR.out.cell (p := ⟨gb, off + k, none⟩) (HF.out gb hFg)).trans (hc k x hxk)
      have hsucc := onceF_succ (p := isThere g) hxk
      have HS := Lib.hid hsucc
      have hk0 : (0 : Int) ≤ k := by omega
      have hkl : (k : Int) < xs.length := by omega
      have hcy := HY.out wr HBR.out x
      have HWX := Lib.hid (HF.out gb hFg)
      have HCK := Lib.hid (hc k x hxk)
      obtain ⟨outl, hout⟩ : ∃ outl, onceF (isThere g) (xs.take k) = outl := ⟨_, rfl⟩
      rw [hout] at HOWN HS hlm2 ⊢
      obtain ⟨o, ho⟩ : ∃ o, g x = o := ⟨_, rfl⟩
      rw [ho] at hcy
      have HCY := Lib.hid hcy
      have HG := Lib.hid ho
      clear hc hxk hsucc hout ho hcy
      go_wp2_with fail
      refine HCY.out.mono ?_
      rintro e w2 ⟨⟨kv2, av2, rfl, hk2, ha2⟩, hb2⟩
      obtain ⟨ka, kc, rfl, -, -, -⟩ := hk2
      obtain ⟨aa, ac, rfl, -, -, -⟩ := ha2
      clear hck0
      go_upto_region 6 with fail
      obtain ⟨W3, hW3⟩ : ∃ W3, w2.alloc (.cells #[.int .i64 (o.getD Rec.zero).kind, .string (o.getD Rec.zero).name, .string (o.getD Rec.zero).text, .int .i64 (o.getD Rec.zero).parent, .slice ka (o.getD Rec.zero).kids.length kc, .slice aa (o.getD Rec.zero).attrs.length ac, .bool (o.getD Rec.zero).gone] 52) = W3 := ⟨_, rfl⟩
      have hr3 : W3.heap[w2.heap.size]? = some (.cells #[.int .i64 (o.getD Rec.zero).kind, .string (o.getD Rec.zero).name, .string (o.getD Rec.zero).text, .int .i64 (o.getD Rec.zero).parent, .slice ka (o.getD Rec.zero).kids.length kc, .slice aa (o.getD Rec.zero).attrs.length ac, .bool (o.getD Rec.zero).gone] 52 (0, 0)) := by rw [← hW3]; exact Go.heap_alloc_new _ _
      have hkc : W3.cell? ⟨w2.heap.size, 0, none⟩ = some (.int .i64 (o.getD Rec.zero).kind) := by simp [World.cell?, hr3]
      rw [hW3]
      have hb3 : Below wr.heap.size wr W3 := by rw [← hW3]; exact hb2.alloc hb2.size _
      have HBR3 := Lib.hid (HBR.out.trans (hb3.mono HBR.out.size))
      have hck : W3.cell? ⟨gb, off + k, none⟩ = some (.int .i64 x) := (HBR3.out.cell (p := ⟨gb, off + k, none⟩) HWX.out).trans HCK.out
      have HOWN2 := Lib.hid (ownsRow_keeps HOWN.out (fun g hg => hb3.block g (ownsRow_base HOWN.out hg).2 : ∀ g, (Value.slice am outl.length cm).ownBlock = some g → W3.heap[g]? = wr.heap[g]?))
      have HCT := Lib.hid (rhas_any outl _ _ x W3 (intsIn_row HOWN2.out))
      obtain ⟨b, hb⟩ : ∃ b, o.isSome = b := ⟨_, rfl⟩
      have HIS := Lib.hid (show isThere g x = b by unfold isThere; rw [HG.out]; exact hb)
      rw [hb]
      clear hb
      clear hb3 hb2 hW3 hr3
      cases b with
      | false =>
        have hst : onceS (isThere g) outl x = outl := by unfold onceS; rw [HIS.out]; simp
        have HST := Lib.hid hst
        clear hst
        go_wp2_with fail
        go_roundw
        case rel => exact ⟨k + 1, by omega, by go_num, by rw [HS.out, HST.out]; exact HOWN2.out, HBR3.out⟩
        case measure => simp [intOf]; omega
      | true =>
        by_cases hm : x ∈ outl
        · have hd : decide (x ∈ outl) = true := decide_eq_true hm
          rw [hd] at HCT
          have hst : onceS (isThere g) outl x = outl := by unfold onceS; rw [if_neg (fun h => h.2 hm)]
          have HST := Lib.hid hst
          clear hst hd hm
          go_wp2_with (go_at_call 30; refine HCT.out.mono ?_; rintro e w3 ⟨rfl, rfl⟩)
          go_roundw
          case rel => exact ⟨k + 1, by omega, by go_num, by rw [HS.out, HST.out]; exact HOWN2.out, HBR3.out⟩
          case measure => simp [intOf]; omega
        · have hd : decide (x ∈ outl) = false := decide_eq_false hm
          rw [hd] at HCT
          have hst : onceS (isThere g) outl x = outl ++ [x] := by unfold onceS; rw [HIS.out, if_pos ⟨rfl, hm⟩]
          have HST := Lib.hid hst
          clear hst hd hm
          go_wp2_with (first
            | (at_builtin; refine wpList_append_own_at _ rfl _ _ 33 rfl w.heap.size 3 i0 (.int .i64 0) 1 8 Try.underlying33 hi hz0 hz1 hz2 rfl (by decide) _ _ _ rfl (ownsRow_alloc HOWN2.out _) ⟨W3.heap.size, 0, none⟩ 1 1 [iv x] rfl rfl (cell_one_new _ _ _) (by simp [Value.oneCell']) (by unfold maxLen; omega) (by omega) (by have := HBR3.out.size; simp; omega) ?_; intro v' w8 hown8 hgrow hnil hloc; have HO8 := Lib.hid hown8; have HB8 := Lib.hid (keeps_grown (D := fun _ => False) (fun _ h => h.elim) ((Below.refl _ _).alloc (Nat.le_refl _) _) HBR3.out (fun k h => (ownsRow_base HOWN2.out h).1) hgrow).2; obtain ⟨a8, c8, rfl⟩ := ownsRow_shape hown8; clear hown8 hgrow hloc)
            | (go_at_call 30; refine HCT.out.mono ?_; rintro e w3 ⟨rfl, rfl⟩))
          go_roundw
          case rel => exact ⟨k + 1, by omega, by go_num, by rw [HS.out, HST.out]; simpa using HO8.out, HB8.out⟩
          case measure => simp [intOf]; omega
    · obtain rfl : k = xs.length := by omega
      have hfull : onceF (isThere g) (xs.take xs.length) = onceF (isThere g) xs := by rw [List.take_length]
      have HFULL := Lib.hid hfull
      clear hfull
      go_wp2_with fail
      go_ret
      exact ⟨⟨_, rfl, by rw [← HFULL.out]; exact HOWN.out⟩, HBR.out⟩

set_option maxRecDepth 100000 in
set_option maxHeartbeats 4000000 in
theorem rwithout_any {w : World} {v : Nat} {g : Int → Option Rec} {F : Nat → Prop} {l : Value} {xs : List Int} {l2 : Value} {out : List Int} (hR : Reads 76 w v g) (hv : IntsIn F w l xs) (hF : ∀ k, F k → k < w.heap.size) (hlen : xs.length * 8 ≤ 140737488351232) (hv2 : IntsIn (Old w.heap.size) w l2 out) :
    Calls Try.prog 82 #[ptr v, l, l2] w fun e w' => (∃ u, e = .returned u ∧ w'.ownsRow w.heap.size 3 1 u (woutF g out xs).length ((woutF g out xs).map iv)) ∧ Below w.heap.size w w' := by
  obtain ⟨i0, hi, hz0, hz1, hz2⟩ := info_parts Try.info3
  obtain ⟨a, cap, rfl, -, -, hx⟩ := hv
  have HO2 := Lib.hid hv2
  obtain ⟨a2, c2, rfl, -, -, -⟩ := hv2
  have HX := Lib.hid hx
  have HF := Lib.hid hF
  have HY := Lib.hid hR
  clear hx hF hR
  go_enter Try.func82, Try.ntmps82
  go_wp2
  go_loopw [7, 8] (fun m i wr => ∃ k : Nat, k ≤ xs.length ∧ i = .int .i64 k ∧ wr.ownsRow w.heap.size 3 1 m (woutF g out (xs.take k)).length ((woutF g out (xs.take k)).map iv) ∧ Below w.heap.size w wr) (fun _ i _ => xs.length - (intOf i).toNat)
  case atStart => exact ⟨0, Nat.zero_le _, rfl, World.ownsRow_nil _ _ _ _, Below.refl _ _⟩
  case round =>
    obtain ⟨k, hk, rfl, hown, hbr⟩ := hrel
    obtain ⟨am, cm, rfl⟩ := ownsRow_shape hown
    have HOWN := Lib.hid hown
    have HBR := Lib.hid hbr
    have hlm2 := woutF_len g out (xs.take k)
    rw [List.length_take, Nat.min_eq_left hk] at hlm2
    clear hown hbr
    by_cases hlt : k < xs.length
    · obtain ⟨x, hxk⟩ : ∃ x, xs[k]? = some x := ⟨_, List.getElem?_eq_getElem hlt⟩
      obtain ⟨gb, off, rfl, hFg, hc⟩ : ∃ g off, a = some ⟨g, off, none⟩ ∧ F g ∧ ∀ j x, xs[j]? = some x → w.cell? ⟨g, off + j, none⟩ = some (.int .i64 x) := by
        rcases HX.out with h | h
        · rw [h] at hlt; simp at hlt
        · exact h
      have hck0 : wr.cell? ⟨gb, off + k, none⟩ = some (.int .i64 x) := (HBR.out.cell (p := ⟨gb, off + k, none⟩) (HF.out gb hFg)).trans (hc k x hxk)
      have hsucc := woutF_succ (g := g) (out := out) hxk
      have HS := Lib.hid hsucc
      have hk0 : (0 : Int) ≤ k := by omega
      have hkl : (k : Int) < xs.length := by omega
      have hcy := HY.out wr HBR.out x
      have HWX := Lib.hid (HF.out gb hFg)
      have HCK := Lib.hid (hc k x hxk)
      obtain ⟨outl, hout⟩ : ∃ outl, woutF g out (xs.take k) = outl := ⟨_, rfl⟩
      rw [hout] at HOWN HS hlm2 ⊢
      obtain ⟨o, ho⟩ : ∃ o, g x = o := ⟨_, rfl⟩
      rw [ho] at hcy
      have HCY := Lib.hid hcy
      have HG := Lib.hid ho
      clear hc hxk hsucc hout ho hcy
      go_wp2_with fail
      refine HCY.out.mono ?_
      rintro e w2 ⟨⟨kv2, av2, rfl, hk2, ha2⟩, hb2⟩
      obtain ⟨ka, kc, rfl, -, -, -⟩ := hk2
      obtain ⟨aa, ac, rfl, -, -, -⟩ := ha2
      clear hck0
      go_upto_region 6 with fail
      obtain ⟨W3, hW3⟩ : ∃ W3, w2.alloc (.cells #[.int .i64 (o.getD Rec.zero).kind, .string (o.getD Rec.zero).name, .string (o.getD Rec.zero).text, .int .i64 (o.getD Rec.zero).parent, .slice ka (o.getD Rec.zero).kids.length kc, .slice aa (o.getD Rec.zero).attrs.length ac, .bool (o.getD Rec.zero).gone] 52) = W3 := ⟨_, rfl⟩
      have hr3 : W3.heap[w2.heap.size]? = some (.cells #[.int .i64 (o.getD Rec.zero).kind, .string (o.getD Rec.zero).name, .string (o.getD Rec.zero).text, .int .i64 (o.getD Rec.zero).parent, .slice ka (o.getD Rec.zero).kids.length kc, .slice aa (o.getD Rec.zero).attrs.length ac, .bool (o.getD Rec.zero).gone] 52 (0, 0)) := by rw [← hW3]; exact Go.heap_alloc_new _ _
      have hkc : W3.cell? ⟨w2.heap.size, 0, none⟩ = some (.int .i64 (o.getD Rec.zero).kind) := by simp [World.cell?, hr3]
      rw [hW3]
      have hb3 : Below wr.heap.size wr W3 := by rw [← hW3]; exact hb2.alloc hb2.size _
      have HBR3 := Lib.hid (HBR.out.trans (hb3.mono HBR.out.size))
      have hck : W3.cell? ⟨gb, off + k, none⟩ = some (.int .i64 x) := (HBR3.out.cell (p := ⟨gb, off + k, none⟩) HWX.out).trans HCK.out
      have HOWN2 := Lib.hid (ownsRow_keeps HOWN.out (fun g hg => hb3.block g (ownsRow_base HOWN.out hg).2 : ∀ g, (Value.slice am outl.length cm).ownBlock = some g → W3.heap[g]? = wr.heap[g]?))
      have HCT := Lib.hid (rhas_any out _ _ x W3 (HO2.out.later HBR3.out))
      obtain ⟨b, hb⟩ : ∃ b, ((o.getD Rec.zero).kind != 3) = b := ⟨_, rfl⟩
      have HIS := Lib.hid (show (kindOf g x != 3) = b by unfold kindOf; rw [HG.out]; exact hb)
      clear HG
      clear hb3 hb2 hW3 hr3
      cases b with
      | false =>
        have hst : (if woutP g out x = true then [x] else []) = [] := by unfold woutP; rw [HIS.out]; simp
        have HST := Lib.hid hst
        clear hst
        go_wp2_with fail
        go_roundw
        case rel => exact ⟨k + 1, by omega, by go_num, by rw [HS.out, HST.out, List.append_nil]; exact HOWN2.out, HBR3.out⟩
        case measure => simp [intOf]; omega
      | true =>
        by_cases hm : x ∈ out
        · have hd : decide (x ∈ out) = true := decide_eq_true hm
          rw [hd] at HCT
          have hst : (if woutP g out x = true then [x] else []) = [] := by unfold woutP; simp [hm]
          have HST := Lib.hid hst
          clear hst hd hm
          go_wp2_with (go_at_call 30; refine HCT.out.mono ?_; rintro e w3 ⟨rfl, rfl⟩)
          go_roundw
          case rel => exact ⟨k + 1, by omega, by go_num, by rw [HS.out, HST.out, List.append_nil]; exact HOWN2.out, HBR3.out⟩
          case measure => simp [intOf]; omega
        · have hd : decide (x ∈ out) = false := decide_eq_false hm
          rw [hd] at HCT
          have hst : (if woutP g out x = true then [x] else []) = [x] := by unfold woutP; rw [HIS.out]; simp [hm]
          have HST := Lib.hid hst
          clear hst hd hm
          go_wp2_with (first
            | (at_builtin; refine wpList_append_own_at _ rfl _ _ 33 rfl w.heap.size 3 i0 (.int .i64 0) 1 8 Try.underlying33 hi hz0 hz1 hz2 rfl (by decide) _ _ _ rfl (ownsRow_alloc HOWN2.out _) ⟨W3.heap.size, 0, none⟩ 1 1 [iv x] rfl rfl (cell_one_new _ _ _) (by simp [Value.oneCell']) (by unfold maxLen; omega) (by omega) (by have := HBR3.out.size; simp; omega) ?_; intro v' w8 hown8 hgrow hnil hloc; have HO8 := Lib.hid hown8; have HB8 := Lib.hid (keeps_grown (D := fun _ => False) (fun _ h => h.elim) ((Below.refl _ _).alloc (Nat.le_refl _) _) HBR3.out (fun k h => (ownsRow_base HOWN2.out h).1) hgrow).2; obtain ⟨a8, c8, rfl⟩ := ownsRow_shape hown8; clear hown8 hgrow hloc)
            | (go_at_call 30; refine HCT.out.mono ?_; rintro e w3 ⟨rfl, rfl⟩))
          go_roundw
          case rel => exact ⟨k + 1, by omega, by go_num, by rw [HS.out, HST.out]; simpa using HO8.out, HB8.out⟩
          case measure => simp [intOf]; omega
    · obtain rfl : k = xs.length := by omega
      have hfull : woutF g out (xs.take xs.length) = woutF g out xs := by rw [List.take_length]
      have HFULL := Lib.hid hfull
      clear hfull
      go_wp2_with fail
      go_ret
      exact ⟨⟨_, rfl, by rw [← HFULL.out]; exact HOWN.out⟩, HBR.out⟩
end Go.Proofs.Ytinkjhkbaadbpaa
/- The reference's Parents (77). -/
namespace Go.Proofs.Ytinkjhkbaadbpaa
open Go.RowKit
set_option linter.unusedVariables false

set_option maxRecDepth 100000 in
set_option maxHeartbeats 4000000 in
theorem rparents_any {w : World} {v : Nat} {g : Int → Option Rec} {keys : List Int} (h : Reads 76 w v g) (hk : KeysOf g keys) (hkl : keys.length ≤ 1000000000) (id : Int) :
    Calls Try.prog 77 #[ptr v, iv id] w (AxPost w (upF g (keys.length + 1) id)) := by
  obtain ⟨i0, hi, hz0, hz1, hz2⟩ := info_parts Try.info3
  obtain ⟨W, hW⟩ : ∃ W, w.alloc (.cells #[iv id] 3) = W := ⟨_, rfl⟩
  have hbW : Below w.heap.size w W := by rw [← hW]; exact (Below.refl _ _).alloc (Nat.le_refl _) _
  have hsW : W.heap.size = w.heap.size + 1 := by rw [← hW]; simp
  have hown0 : W.ownsRow w.heap.size 3 1 (.slice (some ⟨w.heap.size, 0, none⟩) 1 1) (id :: ([] : List Int)).length ((id :: ([] : List Int)).map iv) := by
    rw [← hW]
    exact ⟨rfl, .inr ⟨w.heap.size, 1, _, rfl, Nat.le_refl _, Go.heap_alloc_new w _, Nat.le_refl _, by decide, rfl, rfl⟩⟩
  have HC := Lib.hid (h W hbW id)
  obtain ⟨o, ho⟩ : ∃ o, g id = o := ⟨_, rfl⟩
  have hfin : upF g (keys.length + 1) id = upO g (keys.length + 1) id o := by rw [upF_eq, ho]
  rw [ho] at HC
  obtain ⟨fin, hf⟩ : ∃ fin, upF g (keys.length + 1) id = fin := ⟨_, rfl⟩
  rw [hf] at hfin ⊢
  have HFIN := Lib.hid hfin
  have HW := Lib.hid hW
  have HBW := Lib.hid hbW
  have HSW := Lib.hid hsW
  have HR := Lib.hid h
  have HK := Lib.hid hk
  have HOWN0 := Lib.hid hown0
  clear hW hbW h hsW hk ho hf hfin hown0
  go_enter Try.func77, Try.ntmps77
  go_wp2_with fail
  rw [HW.out]
  refine HC.out.mono ?_
  rintro e w1 ⟨⟨kv1, av1, rfl, hk1, ha1⟩, hb1⟩
  obtain ⟨ka, kc, rfl, -, -, -⟩ := hk1
  obtain ⟨aa, ac, rfl, -, -, -⟩ := ha1
  have hs1 := hb1.size
  have hms : w.heap.size < w1.heap.size := by have := HSW.out; omega
  have HOWN1 := Lib.hid (ownsRow_keeps HOWN0.out (fun q hq => by have := ownsRow_base HOWN0.out hq; exact hb1.block q this.2 : ∀ q, (Value.slice (some ⟨w.heap.size, 0, none⟩) 1 1).ownBlock = some q → w1.heap[q]? = W.heap[q]?))
  have HB1 := Lib.hid (HBW.out.trans (hb1.mono HBW.out.size))
  clear hb1
  go_upto_region 4 with fail
  obtain ⟨W2, hW2⟩ : ∃ W2, w1.alloc (recCells (o.getD Rec.zero) (.slice ka (o.getD Rec.zero).kids.length kc) (.slice aa (o.getD Rec.zero).attrs.length ac)) = W2 := ⟨_, rfl⟩
  have hs2 : W2.heap.size = w1.heap.size + 1 := by rw [← hW2]; simp
  have hb2 : Below w1.heap.size w1 W2 := by rw [← hW2]; exact (Below.refl _ _).alloc (Nat.le_refl _) _
  have hr2 : W2.heap[w1.heap.size]? = some (recCells (o.getD Rec.zero) (.slice ka (o.getD Rec.zero).kids.length kc) (.slice aa (o.getD Rec.zero).attrs.length ac)) := by rw [← hW2]; exact Go.heap_alloc_new _ _
  rw [show w1.alloc (.cells #[.int .i64 (o.getD Rec.zero).kind, .string (o.getD Rec.zero).name, .string (o.getD Rec.zero).text, .int .i64 (o.getD Rec.zero).parent, .slice ka (o.getD Rec.zero).kids.length kc, .slice aa (o.getD Rec.zero).attrs.length ac, .bool (o.getD Rec.zero).gone] 52) = W2 from hW2]
  have HOWN2 := Lib.hid (ownsRow_keeps HOWN1.out (fun q hq => by have := ownsRow_base HOWN1.out hq; exact hb2.block q this.2 : ∀ q, (Value.slice (some ⟨w.heap.size, 0, none⟩) 1 1).ownBlock = some q → W2.heap[q]? = w1.heap[q]?))
  have HB2 := Lib.hid (HB1.out.trans (hb2.mono HB1.out.size))
  have HS2 := Lib.hid hs2
  have HR2 := Lib.hid hr2
  clear hW2 hs2 hb2 hr2
  go_loopw [5, 6, 8] (fun u us ub wr => ∃ (b : Bool) (l : List Int), ub = .bool b ∧ wr.ownsRow (w1.heap.size + 1) 3 1 u l.length (l.map iv) ∧ wr.ownsRow w.heap.size 3 1 us (id :: l).length ((id :: l).map iv) ∧ (∀ q, us.ownBlock = some q → u.ownBlock ≠ some q ∧ q ≠ w1.heap.size) ∧ Below w.heap.size w wr ∧ w1.heap.size < wr.heap.size ∧
      (∃ r kv av, wr.heap[w1.heap.size]? = some (recCells r kv av) ∧ (b = true → ∃ n, n + l.length = keys.length + 1 ∧ fin = upS g n id l r.parent)) ∧ (b = false → l = fin) ∧ (l.Nodup ∧ id ∉ l ∧ ∀ x ∈ l, x ∈ keys)) (fun u _ ub _ => (keys.length + 2 - (match u with | .slice _ n _ => n | _ => 0)))
  case atStart =>
    refine ⟨o.isSome, [], rfl, World.ownsRow_nil _ _ _ _, HOWN2.out, fun q hq => ⟨by simp [Value.ownBlock], fun e => by simp [Value.ownBlock] at hq; omega⟩, HB2.out, by have := HS2.out; omega, ⟨_, _, _, HR2.out, fun hb => ⟨keys.length + 1, rfl, ?_⟩⟩, fun hb => ?_, List.nodup_nil, by simp, by simp⟩
    · cases o with
      | none => cases hb
      | some r => exact HFIN.out
    · cases o with
      | none => exact HFIN.out.symm
      | some r => cases hb
  case round =>
    obtain ⟨b, l, rfl, hown, hseen, hapart, hbr, hlr, ⟨r, kv, av, hrec, hgo⟩, hend, hnd⟩ := hrel
    obtain ⟨al, cl, rfl⟩ := ownsRow_shape hown
    obtain ⟨aS, cS, rfl⟩ := ownsRow_shape hseen
    have hlen := nodup_len hnd.1 hnd.2.2
    have HOWN := Lib.hid hown
    have HSN := Lib.hid hseen
    have HAP := Lib.hid hapart
    have HBR := Lib.hid hbr
    have HREC := Lib.hid hrec
    have HGO := Lib.hid hgo
    have HEND := Lib.hid hend
    have HND := Lib.hid hnd
    obtain ⟨z0, z1, z2, z3, z4, z5, z6⟩ := cells7 hrec
    have fz := free_block hrec
    clear hown hseen hapart hbr hgo hend hnd hrec
    cases b with
    | false =>
      have he := HEND.out rfl
      have HE := Lib.hid he
      clear he
      go_wp2
      go_ret
      rw [← HE.out]
      exact ⟨⟨_, rfl, (intsIn_row HOWN.out).old⟩, HBR.out⟩
    | true =>
      have hsr := HBR.out.size
      obtain ⟨o2, ho2⟩ : ∃ o2, g r.parent = o2 := ⟨_, rfl⟩
      have hc2 := HR.out wr HBR.out r.parent
      rw [ho2] at hc2
      obtain ⟨n, hn, hfin⟩ := HGO.out rfl
      obtain ⟨n, rfl⟩ : ∃ n', n = n' + 1 := ⟨n - 1, by omega⟩
      have hstep : fin = upN g n id l r.parent o2 := by rw [hfin, upS_succ, ho2]
      have HC2 := Lib.hid hc2
      have HSTEP := Lib.hid hstep
      have HO2 := Lib.hid ho2
      clear hc2 hstep ho2 hfin
      go_upto_region 7 with (go_at_call 76; refine HC2.out.mono ?_; rintro e w2 ⟨⟨kv2, av2, rfl, hk2, ha2⟩, hb2⟩; obtain ⟨ka2, kc2, rfl, -, -, -⟩ := hk2; obtain ⟨aa2, ac2, rfl, -, -, -⟩ := ha2; have hr2 := (hb2.block w1.heap.size hlr).trans HREC.out; obtain ⟨y0, y1, y2, y3, y4, y5, y6⟩ := cells7 hr2; have fy := free_block hr2; have HR2 := Lib.hid hr2; have HB2x := Lib.hid hb2; clear hr2 hb2)
      obtain ⟨W3, hW3⟩ : ∃ W3, (((((((w2.setCell ⟨w1.heap.size, 0, none⟩ (.int .i64 (o2.getD Rec.zero).kind)).setCell ⟨w1.heap.size, 1, none⟩ (.string (o2.getD Rec.zero).name)).setCell ⟨w1.heap.size, 2, none⟩ (.string (o2.getD Rec.zero).text)).setCell ⟨w1.heap.size, 3, none⟩ (.int .i64 (o2.getD Rec.zero).parent)).setCell ⟨w1.heap.size, 4, none⟩ (.slice ka2 (o2.getD Rec.zero).kids.length kc2)).setCell ⟨w1.heap.size, 5, none⟩ (.slice aa2 (o2.getD Rec.zero).attrs.length ac2)).setCell ⟨w1.heap.size, 6, none⟩ (.bool (o2.getD Rec.zero).gone)) = W3 := ⟨_, rfl⟩
      rw [hW3]
      have hs2 := HB2x.out.size
      have hb3 : Below w.heap.size w W3 := by rw [← hW3]; exact set7_below (HBR.out.trans (HB2x.out.mono HBR.out.size)) (Nat.le_of_lt hms) _ _ _ _ _ _ _
      have hr3 : W3.heap[w1.heap.size]? = some (recCells (o2.getD Rec.zero) (.slice ka2 (o2.getD Rec.zero).kids.length kc2) (.slice aa2 (o2.getD Rec.zero).attrs.length ac2)) := by rw [← hW3]; exact set7 HR2.out _ _ _ _ _ _ _
      have hk3 : ∀ j, j < wr.heap.size → j ≠ w1.heap.size → W3.heap[j]? = wr.heap[j]? := fun j h1 h2 => by
        rw [← hW3]
        exact (set7_other h2 _ _ _ _ _ _ _).trans (HB2x.out.block j h1)
      have hsz3 : W3.heap.size = w2.heap.size := by rw [← hW3]; simp [World.setCell]
      have hown3 := ownsRow_keeps HOWN.out (fun q hq => by have := ownsRow_base HOWN.out hq; exact hk3 q this.2 (by omega) : ∀ q, (Value.slice al l.length cl).ownBlock = some q → W3.heap[q]? = wr.heap[q]?)
      have hsn3 := ownsRow_keeps HSN.out (fun q hq => by have := ownsRow_base HSN.out hq; exact hk3 q this.2 (HAP.out q hq).2 : ∀ q, (Value.slice aS (id :: l).length cS).ownBlock = some q → W3.heap[q]? = wr.heap[q]?)
      have HB3 := Lib.hid hb3
      have HR3 := Lib.hid hr3
      have HOWN3 := Lib.hid hown3
      have HSN3 := Lib.hid hsn3
      have hls3 : w1.heap.size < W3.heap.size := by omega
      have HHAS := Lib.hid (rhas_any (id :: l) _ (.slice aS (id :: l).length cS) r.parent W3 (intsIn_row hsn3))
      clear hW3 hb3 hr3 hk3 hown3 hsn3 hsz3
      cases o2 with
      | none =>
        have he : fin = l := HSTEP.out
        have HE := Lib.hid he
        clear he
        simp only [Option.isSome_none]
        go_wp2
        go_ret
        rw [HE.out]
        exact ⟨⟨_, rfl, (intsIn_row HOWN3.out).old⟩, HB3.out⟩
      | some r2 =>
        simp only [Option.isSome_some, Option.getD_some] at *
        by_cases hin : r.parent = id ∨ r.parent ∈ l
        · have hd : decide (r.parent ∈ id :: l) = true := decide_eq_true (by simpa using hin)
          rw [hd] at HHAS
          have he : fin = l := by have := HSTEP.out; simp only [upN] at this; rw [if_pos hin] at this; exact this
          have HE := Lib.hid he
          clear he hin hd
          go_wp2_with (go_at_call 30; refine HHAS.out.mono ?_; rintro e w5 ⟨rfl, rfl⟩)
          go_ret
          rw [HE.out]
          exact ⟨⟨_, rfl, (intsIn_row HOWN3.out).old⟩, HB3.out⟩
        · have hd : decide (r.parent ∈ id :: l) = false := decide_eq_false (by simpa using hin)
          rw [hd] at HHAS
          have he : fin = upS g n id (l ++ [r.parent]) r2.parent := by have := HSTEP.out; simp only [upN] at this; rw [if_neg hin] at this; exact this
          have HE := Lib.hid he
          have HIN := Lib.hid hin
          clear he hin hd
          go_upto_region 10 with (first
            | (at_builtin; refine wpList_append_own_at _ rfl _ _ 33 rfl w.heap.size 3 i0 (.int .i64 0) 1 8 Try.underlying33 hi hz0 hz1 hz2 rfl (by decide) _ _ _ rfl (ownsRow_alloc HSN3.out _) ⟨W3.heap.size, 0, none⟩ 1 1 [iv r.parent] rfl rfl (cell_one_new _ _ _) (by simp [Value.oneCell']) (by unfold maxLen; simp; omega) (by simp; omega) (by simp; omega) ?_; intro v' w6 hown6 hgrow6 hnil6 hloc6; have HO6 := Lib.hid hown6; have HG6 := Lib.hid hgrow6; have HL6 := Lib.hid hloc6; obtain ⟨a6, c6, rfl⟩ := ownsRow_shape hown6; clear hown6 hgrow6 hloc6)
            | (go_at_call 30; refine HHAS.out.mono ?_; rintro e w5 ⟨rfl, rfl⟩))
          have hs6 := HG6.out.size
          simp only [World.size_alloc] at hs6
          have hk6 : ∀ j, j < W3.heap.size → (Value.slice aS (id :: l).length cS).ownBlock ≠ some j → w6.heap[j]? = W3.heap[j]? := fun j h1 h2 => (HG6.out.block j (by simp; omega) (fun e => h2 e.symm)).trans (Go.heap_alloc_old _ _ h1)
          have hown6b := ownsRow_keeps HOWN3.out (fun q hq => by have := ownsRow_base HOWN3.out hq; exact hk6 q this.2 (fun e => (HAP.out q e).1 hq) : ∀ q, (Value.slice al l.length cl).ownBlock = some q → w6.heap[q]? = W3.heap[q]?)
          have HOWN6 := Lib.hid hown6b
          have HR6 := Lib.hid ((hk6 w1.heap.size hls3 (fun e => (HAP.out _ e).2 rfl)).trans HR3.out)
          have hb6 : Below w.heap.size w w6 := below_of_chg (((chg_new (M := New w.heap.size) HB3.out).trans (chg_alloc _ _)).trans (chg_grown HG6.out (fun k h => by have := (ownsRow_base HSN3.out h).1; exact this)))
          have HB6 := Lib.hid hb6
          clear hk6 hown6b hb6
          go_wp2_with (at_builtin; go_loud (refine wpList_append_own_at _ rfl _ _ 33 rfl (w1.heap.size + 1) 3 i0 (.int .i64 0) 1 8 Try.underlying33 hi hz0 hz1 hz2 rfl (by decide) _ _ _ rfl (ownsRow_alloc HOWN6.out _) ⟨w6.heap.size, 0, none⟩ 1 1 [iv r.parent] rfl rfl (cell_one_new _ _ _) (by simp [Value.oneCell']) (by unfold maxLen; omega) (by omega) (by simp; omega) ?_; intro v' w8 hown8 hgrow8 hnil8 hloc8; have HO8 := Lib.hid hown8; have HG8 := Lib.hid hgrow8; have HL8 := Lib.hid hloc8; obtain ⟨a8, c8, rfl⟩ := ownsRow_shape hown8; clear hown8 hgrow8 hloc8))
          go_roundw
          case rel =>
            have hs8 := HG8.out.size
            simp only [World.size_alloc] at hs8
            have hk8 : ∀ j, j < w6.heap.size → (Value.slice al l.length cl).ownBlock ≠ some j → w8.heap[j]? = w6.heap[j]? := fun j h1 h2 => (HG8.out.block j (by simp; omega) (fun e => h2 e.symm)).trans (Go.heap_alloc_old _ _ h1)
            have hl6 := HL6.out
            have hl8 := HL8.out
            simp only [World.size_alloc] at hl6 hl8
            have hsn6 : ∀ q, (Value.slice a6 ((id :: l).length + 1) c6).ownBlock = some q → (Value.slice al l.length cl).ownBlock ≠ some q ∧ q ≠ w1.heap.size ∧ q < w6.heap.size := fun q hq => by
              have h9 := (ownsRow_base HO6.out hq).2
              rcases hl6 with h | h
              · rw [h] at hq; exact ⟨(HAP.out q hq).1, (HAP.out q hq).2, h9⟩
              · rw [h] at hq; cases hq
                exact ⟨fun e => by have := (ownsRow_base HOWN3.out e).2; omega, by omega, h9⟩
            refine ⟨true, l ++ [r.parent], rfl, by simpa using HO8.out, ?_, fun q hq => ⟨fun e => ?_, (hsn6 q hq).2.1⟩, ?_, by omega, ⟨r2, _, _, (hk8 _ (by omega) (fun e => by have := (ownsRow_base HOWN6.out e).1; omega)).trans HR6.out, fun _ => ⟨n, by simp; omega, HE.out⟩⟩, fun h => (by cases h), ?_, ?_, ?_⟩
            · have := ownsRow_keeps HO6.out (fun q hq => hk8 q (hsn6 q hq).2.2 (hsn6 q hq).1 : ∀ q, (Value.slice a6 ((id :: l).length + 1) c6).ownBlock = some q → w8.heap[q]? = w6.heap[q]?)
              simpa using this
            · rcases hl8 with h | h
              · rw [h] at e; exact (hsn6 q hq).1 e
              · rw [h] at e; cases e; have := (hsn6 _ hq).2.2; omega
            · exact below_of_chg (((chg_new (M := New w.heap.size) HB6.out).trans (chg_alloc _ _)).trans (chg_grown HG8.out (fun k h => by have := (ownsRow_base HOWN6.out h).1; show w.heap.size ≤ k; omega)))
            · rw [List.nodup_append]
              refine ⟨HND.out.1, by simp, ?_⟩
              rintro a ha b hb rfl
              simp at hb; subst hb
              exact HIN.out (.inr ha)
            · simp only [List.mem_append, List.mem_singleton, not_or]
              exact ⟨HND.out.2.1, fun e => HIN.out (.inl e.symm)⟩
            · intro x hx
              rcases List.mem_append.1 hx with hx | hx
              · exact HND.out.2.2 x hx
              · simp at hx; rw [hx]; exact HK.out _ (by rw [HO2.out]; simp)
          case measure => simp; omega
end Go.Proofs.Ytinkjhkbaadbpaa
/- The reference's Nodes (23). -/
namespace Go.Proofs.Ytinkjhkbaadbpaa
open Go.RowKit
set_option linter.unusedVariables false
set_option linter.unusedSimpArgs false

/-- where an axis goes from a node -/
def nodesR (g : Int → Option Rec) (K : Nat) (id a : Int) (r : Rec) : List Int :=
  if a = 1 then onceF (isThere g) r.kids else if a = 2 then belowF g K id else if a = 3 then (upF g K id).take 1 else if a = 4 then upF g K id else if a = 5 then behindF (sibL g r) id else
  if a = 6 then (aheadF (sibL g r) id).reverse else if a = 7 then woutF g (belowF g K id) (behindF (allF g K) id) else if a = 8 then (woutF g (upF g K id) (aheadF (allF g K) id)).reverse else
  if a = 9 then onceF (isThere g) r.attrs else if a = 10 then [id] else if a = 11 then id :: belowF g K id else if a = 12 then id :: upF g K id else []
def nodesO (g : Int → Option Rec) (K : Nat) (id a : Int) : Option Rec → List Int
  | none => []
  | some r => nodesR g K id a r
/-- what the reference's side of a pair reads -/
structure Rx (w : World) (v : Nat) (g : Int → Option Rec) (keys : List Int) : Prop where
  n : ReadsN 76 w v g
  ko : KeysOf g keys
  kl : keys.length ≤ 1000000000
  ok : GOk g
theorem Rx.later {w w' : World} {v : Nat} {g : Int → Option Rec} {keys : List Int} (h : Rx w v g keys) (hb : Below w.heap.size w w') : Rx w' v g keys := ⟨h.n.later hb, h.ko, h.kl, h.ok⟩
theorem row_one (w : World) (id : Int) : (w.alloc (.cells #[iv id] 3)).ownsRow w.heap.size 3 1 (.slice (some ⟨w.heap.size, 0, none⟩) 1 1) [id].length ([id].map iv) :=
  ⟨rfl, .inr ⟨w.heap.size, 1, _, rfl, Nat.le_refl _, Go.heap_alloc_new w _, Nat.le_refl _, by decide, rfl, rfl⟩⟩
def RNPost (w : World) (xs : List Int) (e : Ending) (w' : World) : Prop := AxPost w xs e w'

set_option maxRecDepth 100000 in
set_option maxHeartbeats 4000000 in
theorem rnodes_1 {w : World} {v : Nat} {g : Int → Option Rec} {keys : List Int} (h : Rx w v g keys) (id : Int) {r : Rec} (hr : g id = some r) :
    Calls Try.prog 23 #[ptr v, iv id, .int .i64 1] w (RNPost w (nodesO g (keys.length + 1) id 1 (g id))) := by
  have HC := Lib.hid (h.n.reads w (Below.refl _ _) id)
  have HRX := Lib.hid h
  have hres : nodesO g (keys.length + 1) id 1 (g id) = nodesR g (keys.length + 1) id 1 r := by rw [hr]; rfl
  rw [hres]
  have hok := h.ok id r hr
  have HOK := Lib.hid hok
  have HUPL := Lib.hid (Nat.le_trans (upF_len h.ko id) h.kl)
  have HBLL := Lib.hid (Nat.le_trans (belowF_len h.ko id) h.kl)
  have HALL := Lib.hid (Nat.le_trans (allF_len h.ko) h.kl)
  have HP := Lib.hid (fun (W : World) (hb : Below w.heap.size w W) => rparents_any (h.later hb).n.reads h.ko h.kl id)
  obtain ⟨up, hup⟩ : ∃ up, upF g (keys.length + 1) id = up := ⟨_, rfl⟩
  rw [hup] at HP HUPL
  rw [hr] at HC
  have HUP := Lib.hid hup
  clear h hr hres hok hup
  go_enter Try.func23, Try.ntmps23
  go_wp2_with fail
  refine HC.out.mono ?_
  rintro e w2 ⟨⟨kv2, av2, rfl, hk2, ha2⟩, hb2⟩
  simp only [Option.getD_some, Option.isSome_some] at *
  have HK := Lib.hid hk2
  have HA := Lib.hid ha2
  obtain ⟨ka, kc, rfl, -, -, -⟩ := hk2
  obtain ⟨aa, ac, rfl, -, -, -⟩ := ha2
  go_upto_region 4 with fail
  obtain ⟨W3, hW3⟩ : ∃ W3, w2.alloc (.cells #[.int .i64 r.kind, .string r.name, .string r.text, .int .i64 r.parent, .slice ka r.kids.length kc, .slice aa r.attrs.length ac, .bool r.gone] 52) = W3 := ⟨_, rfl⟩
  have hr3 : W3.heap[w2.heap.size]? = some (.cells #[.int .i64 r.kind, .string r.name, .string r.text, .int .i64 r.parent, .slice ka r.kids.length kc, .slice aa r.attrs.length ac, .bool r.gone] 52 (0, 0)) := by rw [← hW3]; exact Go.heap_alloc_new _ _
  rw [hW3]
  have hl3 : w2.heap.size < W3.heap.size := by rw [← hW3]; simp
  have hb23 : Below w2.heap.size w2 W3 := by rw [← hW3]; exact (Below.refl _ _).alloc (Nat.le_refl _) _
  have hb3 : Below w.heap.size w W3 := hb2.trans (hb23.mono hb2.size)
  have HPP := Lib.hid (HP.out W3 hb3)
  have HB3 := Lib.hid hb3
  have HK3 := Lib.hid (HK.out.later hb23)
  have HA3 := Lib.hid (HA.out.later hb23)
  clear hb3 hb23 hb2 hW3
  have HR3 := Lib.hid (fun (W : World) (hb : Below W3.heap.size W3 W) => cells7 ((hb.block _ hl3).trans hr3))
  clear hr3
  go_wp2_with fail
  refine HPP.out.mono ?_
  rintro e w4 ⟨⟨u, rfl, hu⟩, hb4⟩
  have HU := Lib.hid hu
  have hul := hu.len
  obtain ⟨au, cu, rfl, hcu, -, -⟩ := hu
  have hb4w := HB3.out.trans (hb4.mono HB3.out.size)
  have HB4 := Lib.hid hb4w
  have HK4 := Lib.hid (HK3.out.later hb4)
  have HA4 := Lib.hid (HA3.out.later hb4)
  have HR4 := Lib.hid (fun (W : World) (hb : Below w4.heap.size w4 W) => HR3.out W (hb4.trans (hb.mono hb4.size)))
  obtain ⟨p0, p1, p2, p3, p4, p5, p6⟩ := HR3.out w4 hb4
  have HRX4 := Lib.hid (HRX.out.later hb4w)
  clear hb4 hb4w
  have HF := Lib.hid (show nodesR g (keys.length + 1) id 1 r = onceF (isThere g) r.kids by unfold nodesR; simp)
  have HT := Lib.hid (rthere_any HRX4.out.n.reads HK4.out (fun _ h => h) HOK.out.1)
  obtain ⟨xs, hxs⟩ : ∃ xs, onceF (isThere g) r.kids = xs := ⟨_, rfl⟩
  rw [hxs] at HT HF
  clear hxs
  go_wp2_with fail
  refine HT.out.mono ?_
  rintro e w5 ⟨⟨u5, rfl, ho5⟩, hb5⟩
  obtain ⟨a5, c5, rfl⟩ := shape3 ho5
  go_wp2_with fail
  go_ret
  exact ⟨⟨_, rfl, by rw [HF.out]; exact (by simpa using (intsIn_row ho5).old)⟩, HB4.out.trans (hb5.mono HB4.out.size)⟩

set_option maxRecDepth 100000 in
set_option maxHeartbeats 4000000 in
theorem rnodes_9 {w : World} {v : Nat} {g : Int → Option Rec} {keys : List Int} (h : Rx w v g keys) (id : Int) {r : Rec} (hr : g id = some r) :
    Calls Try.prog 23 #[ptr v, iv id, .int .i64 9] w (RNPost w (nodesO g (keys.length + 1) id 9 (g id))) := by
  have HC := Lib.hid (h.n.reads w (Below.refl _ _) id)
  have HRX := Lib.hid h
  have hres : nodesO g (keys.length + 1) id 9 (g id) = nodesR g (keys.length + 1) id 9 r := by rw [hr]; rfl
  rw [hres]
  have hok := h.ok id r hr
  have HOK := Lib.hid hok
  have HUPL := Lib.hid (Nat.le_trans (upF_len h.ko id) h.kl)
  have HBLL := Lib.hid (Nat.le_trans (belowF_len h.ko id) h.kl)
  have HALL := Lib.hid (Nat.le_trans (allF_len h.ko) h.kl)
  have HP := Lib.hid (fun (W : World) (hb : Below w.heap.size w W) => rparents_any (h.later hb).n.reads h.ko h.kl id)
  obtain ⟨up, hup⟩ : ∃ up, upF g (keys.length + 1) id = up := ⟨_, rfl⟩
  rw [hup] at HP HUPL
  rw [hr] at HC
  have HUP := Lib.hid hup
  clear h hr hres hok hup
  go_enter Try.func23, Try.ntmps23
  go_wp2_with fail
  refine HC.out.mono ?_
  rintro e w2 ⟨⟨kv2, av2, rfl, hk2, ha2⟩, hb2⟩
  simp only [Option.getD_some, Option.isSome_some] at *
  have HK := Lib.hid hk2
  have HA := Lib.hid ha2
  obtain ⟨ka, kc, rfl, -, -, -⟩ := hk2
  obtain ⟨aa, ac, rfl, -, -, -⟩ := ha2
  go_upto_region 4 with fail
  obtain ⟨W3, hW3⟩ : ∃ W3, w2.alloc (.cells #[.int .i64 r.kind, .string r.name, .string r.text, .int .i64 r.parent, .slice ka r.kids.length kc, .slice aa r.attrs.length ac, .bool r.gone] 52) = W3 := ⟨_, rfl⟩
  have hr3 : W3.heap[w2.heap.size]? = some (.cells #[.int .i64 r.kind, .string r.name, .string r.text, .int .i64 r.parent, .slice ka r.kids.length kc, .slice aa r.attrs.length ac, .bool r.gone] 52 (0, 0)) := by rw [← hW3]; exact Go.heap_alloc_new _ _
  rw [hW3]
  have hl3 : w2.heap.size < W3.heap.size := by rw [← hW3]; simp
  have hb23 : Below w2.heap.size w2 W3 := by rw [← hW3]; exact (Below.refl _ _).alloc (Nat.le_refl _) _
  have hb3 : Below w.heap.size w W3 := hb2.trans (hb23.mono hb2.size)
  have HPP := Lib.hid (HP.out W3 hb3)
  have HB3 := Lib.hid hb3
  have HK3 := Lib.hid (HK.out.later hb23)
  have HA3 := Lib.hid (HA.out.later hb23)
  clear hb3 hb23 hb2 hW3
  have HR3 := Lib.hid (fun (W : World) (hb : Below W3.heap.size W3 W) => cells7 ((hb.block _ hl3).trans hr3))
  clear hr3
  go_wp2_with fail
  refine HPP.out.mono ?_
  rintro e w4 ⟨⟨u, rfl, hu⟩, hb4⟩
  have HU := Lib.hid hu
  have hul := hu.len
  obtain ⟨au, cu, rfl, hcu, -, -⟩ := hu
  have hb4w := HB3.out.trans (hb4.mono HB3.out.size)
  have HB4 := Lib.hid hb4w
  have HK4 := Lib.hid (HK3.out.later hb4)
  have HA4 := Lib.hid (HA3.out.later hb4)
  have HR4 := Lib.hid (fun (W : World) (hb : Below w4.heap.size w4 W) => HR3.out W (hb4.trans (hb.mono hb4.size)))
  obtain ⟨p0, p1, p2, p3, p4, p5, p6⟩ := HR3.out w4 hb4
  have HRX4 := Lib.hid (HRX.out.later hb4w)
  clear hb4 hb4w
  have HF := Lib.hid (show nodesR g (keys.length + 1) id 9 r = onceF (isThere g) r.attrs by unfold nodesR; simp)
  have HT := Lib.hid (rthere_any HRX4.out.n.reads HA4.out (fun _ h => h) HOK.out.2)
  obtain ⟨xs, hxs⟩ : ∃ xs, onceF (isThere g) r.attrs = xs := ⟨_, rfl⟩
  rw [hxs] at HT HF
  clear hxs
  go_wp2_with fail
  refine HT.out.mono ?_
  rintro e w5 ⟨⟨u5, rfl, ho5⟩, hb5⟩
  obtain ⟨a5, c5, rfl⟩ := shape3 ho5
  go_wp2_with fail
  go_ret
  exact ⟨⟨_, rfl, by rw [HF.out]; exact (by simpa using (intsIn_row ho5).old)⟩, HB4.out.trans (hb5.mono HB4.out.size)⟩

set_option maxRecDepth 100000 in
set_option maxHeartbeats 4000000 in
theorem rnodes_2 {w : World} {v : Nat} {g : Int → Option Rec} {keys : List Int} (h : Rx w v g keys) (id : Int) {r : Rec} (hr : g id = some r) :
    Calls Try.prog 23 #[ptr v, iv id, .int .i64 2] w (RNPost w (nodesO g (keys.length + 1) id 2 (g id))) := by
  have HC := Lib.hid (h.n.reads w (Below.refl _ _) id)
  have HRX := Lib.hid h
  have hres : nodesO g (keys.length + 1) id 2 (g id) = nodesR g (keys.length + 1) id 2 r := by rw [hr]; rfl
  rw [hres]
  have hok := h.ok id r hr
  have HOK := Lib.hid hok
  have HUPL := Lib.hid (Nat.le_trans (upF_len h.ko id) h.kl)
  have HBLL := Lib.hid (Nat.le_trans (belowF_len h.ko id) h.kl)
  have HALL := Lib.hid (Nat.le_trans (allF_len h.ko) h.kl)
  have HP := Lib.hid (fun (W : World) (hb : Below w.heap.size w W) => rparents_any (h.later hb).n.reads h.ko h.kl id)
  obtain ⟨up, hup⟩ : ∃ up, upF g (keys.length + 1) id = up := ⟨_, rfl⟩
  rw [hup] at HP HUPL
  rw [hr] at HC
  have HUP := Lib.hid hup
  clear h hr hres hok hup
  go_enter Try.func23, Try.ntmps23
  go_wp2_with fail
  refine HC.out.mono ?_
  rintro e w2 ⟨⟨kv2, av2, rfl, hk2, ha2⟩, hb2⟩
  simp only [Option.getD_some, Option.isSome_some] at *
  have HK := Lib.hid hk2
  have HA := Lib.hid ha2
  obtain ⟨ka, kc, rfl, -, -, -⟩ := hk2
  obtain ⟨aa, ac, rfl, -, -, -⟩ := ha2
  go_upto_region 4 with fail
  obtain ⟨W3, hW3⟩ : ∃ W3, w2.alloc (.cells #[.int .i64 r.kind, .string r.name, .string r.text, .int .i64 r.parent, .slice ka r.kids.length kc, .slice aa r.attrs.length ac, .bool r.gone] 52) = W3 := ⟨_, rfl⟩
  have hr3 : W3.heap[w2.heap.size]? = some (.cells #[.int .i64 r.kind, .string r.name, .string r.text, .int .i64 r.parent, .slice ka r.kids.length kc, .slice aa r.attrs.length ac, .bool r.gone] 52 (0, 0)) := by rw [← hW3]; exact Go.heap_alloc_new _ _
  rw [hW3]
  have hl3 : w2.heap.size < W3.heap.size := by rw [← hW3]; simp
  have hb23 : Below w2.heap.size w2 W3 := by rw [← hW3]; exact (Below.refl _ _).alloc (Nat.le_refl _) _
  have hb3 : Below w.heap.size w W3 := hb2.trans (hb23.mono hb2.size)
  have HPP := Lib.hid (HP.out W3 hb3)
  have HB3 := Lib.hid hb3
  have HK3 := Lib.hid (HK.out.later hb23)
  have HA3 := Lib.hid (HA.out.later hb23)
  clear hb3 hb23 hb2 hW3
  have HR3 := Lib.hid (fun (W : World) (hb : Below W3.heap.size W3 W) => cells7 ((hb.block _ hl3).trans hr3))
  clear hr3
  go_wp2_with fail
  refine HPP.out.mono ?_
  rintro e w4 ⟨⟨u, rfl, hu⟩, hb4⟩
  have HU := Lib.hid hu
  have hul := hu.len
  obtain ⟨au, cu, rfl, hcu, -, -⟩ := hu
  have hb4w := HB3.out.trans (hb4.mono HB3.out.size)
  have HB4 := Lib.hid hb4w
  have HK4 := Lib.hid (HK3.out.later hb4)
  have HA4 := Lib.hid (HA3.out.later hb4)
  have HR4 := Lib.hid (fun (W : World) (hb : Below w4.heap.size w4 W) => HR3.out W (hb4.trans (hb.mono hb4.size)))
  obtain ⟨p0, p1, p2, p3, p4, p5, p6⟩ := HR3.out w4 hb4
  have HRX4 := Lib.hid (HRX.out.later hb4w)
  clear hb4 hb4w
  have HF := Lib.hid (show nodesR g (keys.length + 1) id 2 r = belowF g (keys.length + 1) id by unfold nodesR; simp)
  have HT := Lib.hid (rbelow_any HRX4.out.n HRX4.out.ko HRX4.out.kl id)
  go_wp2_with fail
  refine HT.out.mono ?_
  rintro e w5 ⟨⟨u5, rfl, ho5⟩, hb5⟩
  have HO5 := Lib.hid ho5
  obtain ⟨a5, c5, rfl, -, -, -⟩ := ho5
  go_wp2_with fail
  go_ret
  exact ⟨⟨_, rfl, by rw [HF.out]; exact HO5.out⟩, HB4.out.trans (hb5.mono HB4.out.size)⟩

set_option maxRecDepth 100000 in
set_option maxHeartbeats 4000000 in
theorem rnodes_3 {w : World} {v : Nat} {g : Int → Option Rec} {keys : List Int} (h : Rx w v g keys) (id : Int) {r : Rec} (hr : g id = some r) :
    Calls Try.prog 23 #[ptr v, iv id, .int .i64 3] w (RNPost w (nodesO g (keys.length + 1) id 3 (g id))) := by
  have HC := Lib.hid (h.n.reads w (Below.refl _ _) id)
  have HRX := Lib.hid h
  have hres : nodesO g (keys.length + 1) id 3 (g id) = nodesR g (keys.length + 1) id 3 r := by rw [hr]; rfl
  rw [hres]
  have hok := h.ok id r hr
  have HOK := Lib.hid hok
  have HUPL := Lib.hid (Nat.le_trans (upF_len h.ko id) h.kl)
  have HBLL := Lib.hid (Nat.le_trans (belowF_len h.ko id) h.kl)
  have HALL := Lib.hid (Nat.le_trans (allF_len h.ko) h.kl)
  have HP := Lib.hid (fun (W : World) (hb : Below w.heap.size w W) => rparents_any (h.later hb).n.reads h.ko h.kl id)
  obtain ⟨up, hup⟩ : ∃ up, upF g (keys.length + 1) id = up := ⟨_, rfl⟩
  rw [hup] at HP HUPL
  rw [hr] at HC
  have HUP := Lib.hid hup
  clear h hr hres hok hup
  go_enter Try.func23, Try.ntmps23
  go_wp2_with fail
  refine HC.out.mono ?_
  rintro e w2 ⟨⟨kv2, av2, rfl, hk2, ha2⟩, hb2⟩
  simp only [Option.getD_some, Option.isSome_some] at *
  have HK := Lib.hid hk2
  have HA := Lib.hid ha2
  obtain ⟨ka, kc, rfl, -, -, -⟩ := hk2
  obtain ⟨aa, ac, rfl, -, -, -⟩ := ha2
  go_upto_region 4 with fail
  obtain ⟨W3, hW3⟩ : ∃ W3, w2.alloc (.cells #[.int .i64 r.kind, .string r.name, .string r.text, .int .i64 r.parent, .slice ka r.kids.length kc, .slice aa r.attrs.length ac, .bool r.gone] 52) = W3 := ⟨_, rfl⟩
  have hr3 : W3.heap[w2.heap.size]? = some (.cells #[.int .i64 r.kind, .string r.name, .string r.text, .int .i64 r.parent, .slice ka r.kids.length kc, .slice aa r.attrs.length ac, .bool r.gone] 52 (0, 0)) := by rw [← hW3]; exact Go.heap_alloc_new _ _
  rw [hW3]
  have hl3 : w2.heap.size < W3.heap.size := by rw [← hW3]; simp
  have hb23 : Below w2.heap.size w2 W3 := by rw [← hW3]; exact (Below.refl _ _).alloc (Nat.le_refl _) _
  have hb3 : Below w.heap.size w W3 := hb2.trans (hb23.mono hb2.size)
  have HPP := Lib.hid (HP.out W3 hb3)
  have HB3 := Lib.hid hb3
  have HK3 := Lib.hid (HK.out.later hb23)
  have HA3 := Lib.hid (HA.out.later hb23)
  clear hb3 hb23 hb2 hW3
  have HR3 := Lib.hid (fun (W : World) (hb : Below W3.heap.size W3 W) => cells7 ((hb.block _ hl3).trans hr3))
  clear hr3
  go_wp2_with fail
  refine HPP.out.mono ?_
  rintro e w4 ⟨⟨u, rfl, hu⟩, hb4⟩
  have HU := Lib.hid hu
  have hul := hu.len
  obtain ⟨au, cu, rfl, hcu, -, -⟩ := hu
  have hb4w := HB3.out.trans (hb4.mono HB3.out.size)
  have HB4 := Lib.hid hb4w
  have HK4 := Lib.hid (HK3.out.later hb4)
  have HA4 := Lib.hid (HA3.out.later hb4)
  have HR4 := Lib.hid (fun (W : World) (hb : Below w4.heap.size w4 W) => HR3.out W (hb4.trans (hb.mono hb4.size)))
  obtain ⟨p0, p1, p2, p3, p4, p5, p6⟩ := HR3.out w4 hb4
  have HRX4 := Lib.hid (HRX.out.later hb4w)
  clear hb4 hb4w
  have HF := Lib.hid (show nodesR g (keys.length + 1) id 3 r = up.take 1 by unfold nodesR; simp [HUP.out])
  cases up with
  | nil =>
    simp only [List.length_nil] at *
    go_wp2_with fail
    go_ret
    exact ⟨⟨_, rfl, by rw [HF.out]; exact intsIn_nil _ _⟩, HB4.out⟩
  | cons y up =>
    have hgt : ((up.length + 1 : Nat) : Int) > 0 := by omega
    have hgt2 : (0 : Int) < (up.length : Int) + 1 := by omega
    have hc1 : (1 : Int) ≤ cu := by simp only [List.length_cons] at hcu; omega
    simp only [List.length_cons] at *
    go_wp2_with fail
    go_ret
    exact ⟨⟨_, rfl, by rw [HF.out]; exact HU.out.head 1 (by simp)⟩, HB4.out⟩

set_option maxRecDepth 100000 in
set_option maxHeartbeats 4000000 in
theorem rnodes_4 {w : World} {v : Nat} {g : Int → Option Rec} {keys : List Int} (h : Rx w v g keys) (id : Int) {r : Rec} (hr : g id = some r) :
    Calls Try.prog 23 #[ptr v, iv id, .int .i64 4] w (RNPost w (nodesO g (keys.length + 1) id 4 (g id))) := by
  have HC := Lib.hid (h.n.reads w (Below.refl _ _) id)
  have HRX := Lib.hid h
  have hres : nodesO g (keys.length + 1) id 4 (g id) = nodesR g (keys.length + 1) id 4 r := by rw [hr]; rfl
  rw [hres]
  have hok := h.ok id r hr
  have HOK := Lib.hid hok
  have HUPL := Lib.hid (Nat.le_trans (upF_len h.ko id) h.kl)
  have HBLL := Lib.hid (Nat.le_trans (belowF_len h.ko id) h.kl)
  have HALL := Lib.hid (Nat.le_trans (allF_len h.ko) h.kl)
  have HP := Lib.hid (fun (W : World) (hb : Below w.heap.size w W) => rparents_any (h.later hb).n.reads h.ko h.kl id)
  obtain ⟨up, hup⟩ : ∃ up, upF g (keys.length + 1) id = up := ⟨_, rfl⟩
  rw [hup] at HP HUPL
  rw [hr] at HC
  have HUP := Lib.hid hup
  clear h hr hres hok hup
  go_enter Try.func23, Try.ntmps23
  go_wp2_with fail
  refine HC.out.mono ?_
  rintro e w2 ⟨⟨kv2, av2, rfl, hk2, ha2⟩, hb2⟩
  simp only [Option.getD_some, Option.isSome_some] at *
  have HK := Lib.hid hk2
  have HA := Lib.hid ha2
  obtain ⟨ka, kc, rfl, -, -, -⟩ := hk2
  obtain ⟨aa, ac, rfl, -, -, -⟩ := ha2
  go_upto_region 4 with fail
  obtain ⟨W3, hW3⟩ : ∃ W3, w2.alloc (.cells #[.int .i64 r.kind, .string r.name, .string r.text, .int .i64 r.parent, .slice ka r.kids.length kc, .slice aa r.attrs.length ac, .bool r.gone] 52) = W3 := ⟨_, rfl⟩
  have hr3 : W3.heap[w2.heap.size]? = some (.cells #[.int .i64 r.kind, .string r.name, .string r.text, .int .i64 r.parent, .slice ka r.kids.length kc, .slice aa r.attrs.length ac, .bool r.gone] 52 (0, 0)) := by rw [← hW3]; exact Go.heap_alloc_new _ _
  rw [hW3]
  have hl3 : w2.heap.size < W3.heap.size := by rw [← hW3]; simp
  have hb23 : Below w2.heap.size w2 W3 := by rw [← hW3]; exact (Below.refl _ _).alloc (Nat.le_refl _) _
  have hb3 : Below w.heap.size w W3 := hb2.trans (hb23.mono hb2.size)
  have HPP := Lib.hid (HP.out W3 hb3)
  have HB3 := Lib.hid hb3
  have HK3 := Lib.hid (HK.out.later hb23)
  have HA3 := Lib.hid (HA.out.later hb23)
  clear hb3 hb23 hb2 hW3
  have HR3 := Lib.hid (fun (W : World) (hb : Below W3.heap.size W3 W) => cells7 ((hb.block _ hl3).trans hr3))
  clear hr3
  go_wp2_with fail
  refine HPP.out.mono ?_
  rintro e w4 ⟨⟨u, rfl, hu⟩, hb4⟩
  have HU := Lib.hid hu
  have hul := hu.len
  obtain ⟨au, cu, rfl, hcu, -, -⟩ := hu
  have hb4w := HB3.out.trans (hb4.mono HB3.out.size)
  have HB4 := Lib.hid hb4w
  have HK4 := Lib.hid (HK3.out.later hb4)
  have HA4 := Lib.hid (HA3.out.later hb4)
  have HR4 := Lib.hid (fun (W : World) (hb : Below w4.heap.size w4 W) => HR3.out W (hb4.trans (hb.mono hb4.size)))
  obtain ⟨p0, p1, p2, p3, p4, p5, p6⟩ := HR3.out w4 hb4
  have HRX4 := Lib.hid (HRX.out.later hb4w)
  clear hb4 hb4w
  have HF := Lib.hid (show nodesR g (keys.length + 1) id 4 r = up by unfold nodesR; simp [HUP.out])
  go_wp2_with fail
  go_ret
  exact ⟨⟨_, rfl, by rw [HF.out]; exact HU.out⟩, HB4.out⟩

set_option maxRecDepth 100000 in
set_option maxHeartbeats 4000000 in
theorem rnodes_5 {w : World} {v : Nat} {g : Int → Option Rec} {keys : List Int} (h : Rx w v g keys) (id : Int) {r : Rec} (hr : g id = some r) :
    Calls Try.prog 23 #[ptr v, iv id, .int .i64 5] w (RNPost w (nodesO g (keys.length + 1) id 5 (g id))) := by
  have HC := Lib.hid (h.n.reads w (Below.refl _ _) id)
  have HRX := Lib.hid h
  have hres : nodesO g (keys.length + 1) id 5 (g id) = nodesR g (keys.length + 1) id 5 r := by rw [hr]; rfl
  rw [hres]
  have hok := h.ok id r hr
  have HOK := Lib.hid hok
  have HUPL := Lib.hid (Nat.le_trans (upF_len h.ko id) h.kl)
  have HBLL := Lib.hid (Nat.le_trans (belowF_len h.ko id) h.kl)
  have HALL := Lib.hid (Nat.le_trans (allF_len h.ko) h.kl)
  have HP := Lib.hid (fun (W : World) (hb : Below w.heap.size w W) => rparents_any (h.later hb).n.reads h.ko h.kl id)
  obtain ⟨up, hup⟩ : ∃ up, upF g (keys.length + 1) id = up := ⟨_, rfl⟩
  rw [hup] at HP HUPL
  rw [hr] at HC
  have HUP := Lib.hid hup
  clear h hr hres hok hup
  go_enter Try.func23, Try.ntmps23
  go_wp2_with fail
  refine HC.out.mono ?_
  rintro e w2 ⟨⟨kv2, av2, rfl, hk2, ha2⟩, hb2⟩
  simp only [Option.getD_some, Option.isSome_some] at *
  have HK := Lib.hid hk2
  have HA := Lib.hid ha2
  obtain ⟨ka, kc, rfl, -, -, -⟩ := hk2
  obtain ⟨aa, ac, rfl, -, -, -⟩ := ha2
  go_upto_region 4 with fail
  obtain ⟨W3, hW3⟩ : ∃ W3, w2.alloc (.cells #[.int .i64 r.kind, .string r.name, .string r.text, .int .i64 r.parent, .slice ka r.kids.length kc, .slice aa r.attrs.length ac, .bool r.gone] 52) = W3 := ⟨_, rfl⟩
  have hr3 : W3.heap[w2.heap.size]? = some (.cells #[.int .i64 r.kind, .string r.name, .string r.text, .int .i64 r.parent, .slice ka r.kids.length kc, .slice aa r.attrs.length ac, .bool r.gone] 52 (0, 0)) := by rw [← hW3]; exact Go.heap_alloc_new _ _
  rw [hW3]
  have hl3 : w2.heap.size < W3.heap.size := by rw [← hW3]; simp
  have hb23 : Below w2.heap.size w2 W3 := by rw [← hW3]; exact (Below.refl _ _).alloc (Nat.le_refl _) _
  have hb3 : Below w.heap.size w W3 := hb2.trans (hb23.mono hb2.size)
  have HPP := Lib.hid (HP.out W3 hb3)
  have HB3 := Lib.hid hb3
  have HK3 := Lib.hid (HK.out.later hb23)
  have HA3 := Lib.hid (HA.out.later hb23)
  clear hb3 hb23 hb2 hW3
  have HR3 := Lib.hid (fun (W : World) (hb : Below W3.heap.size W3 W) => cells7 ((hb.block _ hl3).trans hr3))
  clear hr3
  go_wp2_with fail
  refine HPP.out.mono ?_
  rintro e w4 ⟨⟨u, rfl, hu⟩, hb4⟩
  have HU := Lib.hid hu
  have hul := hu.len
  obtain ⟨au, cu, rfl, hcu, -, -⟩ := hu
  have hb4w := HB3.out.trans (hb4.mono HB3.out.size)
  have HB4 := Lib.hid hb4w
  have HK4 := Lib.hid (HK3.out.later hb4)
  have HA4 := Lib.hid (HA3.out.later hb4)
  have HR4 := Lib.hid (fun (W : World) (hb : Below w4.heap.size w4 W) => HR3.out W (hb4.trans (hb.mono hb4.size)))
  obtain ⟨p0, p1, p2, p3, p4, p5, p6⟩ := HR3.out w4 hb4
  have HRX4 := Lib.hid (HRX.out.later hb4w)
  clear hb4 hb4w
  have HF := Lib.hid (show nodesR g (keys.length + 1) id 5 r = behindF (sibL g r) id by unfold nodesR; simp)
  obtain ⟨o, ho⟩ : ∃ o, g r.parent = o := ⟨_, rfl⟩
  have hc5 := HRX4.out.n.reads w4 (Below.refl _ _) r.parent
  rw [ho] at hc5
  have HC5 := Lib.hid hc5
  have HSO := Lib.hid (show sibL g r = sibO g r.kind o by unfold sibL; rw [ho])
  have HOKP := Lib.hid (fun p (hp : o = some p) => HRX4.out.ok r.parent p (by rw [ho, hp]))
  clear hc5 ho
  go_wp2_with fail
  refine HC5.out.mono ?_
  rintro e w5 ⟨⟨kv5, av5, rfl, hk5, ha5⟩, hb5⟩
  have HK5 := Lib.hid hk5
  obtain ⟨ka5, kc5, rfl, -, -, -⟩ := hk5
  obtain ⟨aa5, ac5, rfl, -, -, -⟩ := ha5
  go_upto_region 18 with fail
  obtain ⟨W6, hW6⟩ : ∃ W6, w5.alloc (.cells #[.int .i64 (o.getD Rec.zero).kind, .string (o.getD Rec.zero).name, .string (o.getD Rec.zero).text, .int .i64 (o.getD Rec.zero).parent, .slice ka5 (o.getD Rec.zero).kids.length kc5, .slice aa5 (o.getD Rec.zero).attrs.length ac5, .bool (o.getD Rec.zero).gone] 52) = W6 := ⟨_, rfl⟩
  have hr6 : W6.heap[w5.heap.size]? = some (.cells #[.int .i64 (o.getD Rec.zero).kind, .string (o.getD Rec.zero).name, .string (o.getD Rec.zero).text, .int .i64 (o.getD Rec.zero).parent, .slice ka5 (o.getD Rec.zero).kids.length kc5, .slice aa5 (o.getD Rec.zero).attrs.length ac5, .bool (o.getD Rec.zero).gone] 52 (0, 0)) := by rw [← hW6]; exact Go.heap_alloc_new _ _
  rw [hW6]
  have hb56 : Below w5.heap.size w5 W6 := by rw [← hW6]; exact (Below.refl _ _).alloc (Nat.le_refl _) _
  have hb46 : Below w4.heap.size w4 W6 := hb5.trans (hb56.mono hb5.size)
  have HK6 := Lib.hid (HK5.out.later hb56)
  have HB46 := Lib.hid hb46
  have HB6 := Lib.hid (HB4.out.trans (hb46.mono HB4.out.size))
  clear p0 p1 p2 p3 p4 p5 p6
  obtain ⟨p0, -, -, -, -, -, -⟩ := HR4.out W6 hb46
  obtain ⟨q0, q1, q2, q3, q4, q5, q6⟩ := cells7 hr6
  clear hb46 hb56 hb5 hW6 hr6
  cases o with
  | none =>
    simp only [Option.getD_none, Option.isSome_none] at *
    have HS := Lib.hid (show sibL g r = [] from HSO.out)
    go_wp2_with fail
    go_ret
    exact ⟨⟨_, rfl, by rw [HF.out, HS.out]; simpa [behindF, aheadF, idxI_nil] using intsIn_nil _ _⟩, HB6.out⟩
  | some p =>
    simp only [Option.getD_some, Option.isSome_some] at *
    by_cases hk : r.kind = 3
    · have hkb : (r.kind == 3) = true := by simpa using hk
      have HS := Lib.hid (show sibL g r = [] by rw [HSO.out]; unfold sibO; simp [hk])
      clear hk
      go_wp2_with fail
      go_ret
      exact ⟨⟨_, rfl, by rw [HF.out, HS.out]; simpa [behindF, aheadF, idxI_nil] using intsIn_nil _ _⟩, HB6.out⟩
    · have hkb : (r.kind == 3) = false := by simpa using hk
      have hokp := HOKP.out p rfl
      have HT := Lib.hid (rthere_any (HRX4.out.later HB46.out).n.reads HK6.out (fun _ h => h) hokp.1)
      have hXL : (onceF (isThere g) p.kids).length * 8 ≤ 140737488351232 := by
        have := onceF_len (isThere g) p.kids []
        have h2 := hokp.1
        simp only [List.length_nil] at this
        unfold onceF; omega
      obtain ⟨xs, hxs⟩ : ∃ xs, onceF (isThere g) p.kids = xs := ⟨_, rfl⟩
      have HS := Lib.hid (show sibL g r = xs by rw [HSO.out]; unfold sibO; simp [hk, hxs])
      rw [hxs] at HT hXL
      have HXL := Lib.hid hXL
      clear hk hxs hXL hokp
      go_wp2_with fail
      refine HT.out.mono ?_
      rintro e w7 ⟨⟨u7, rfl, ho7⟩, hb7⟩
      have HPA := Lib.hid (rparts_any (intsIn_row ho7).old id)
      obtain ⟨a7, c7, rfl⟩ := shape3 ho7
      simp only [List.length_map] at *
      have HB67 := Lib.hid (HB6.out.trans (hb7.mono HB6.out.size))
      clear hb7 ho7
      go_wp2_with fail
      refine HPA.out.mono ?_
      rintro e w8 ⟨⟨u1, u2, b8, rfl, hi1, hi2⟩, hb8⟩
      have HI1 := Lib.hid (hi1.mono (fun k (hk : k < w7.heap.size) => Nat.lt_of_lt_of_le hk hb8.size))
      have HI2 := Lib.hid (hi2.mono (fun k (hk : k < w7.heap.size) => Nat.lt_of_lt_of_le hk hb8.size))
      obtain ⟨a1', c1', rfl, -, -, -⟩ := hi1
      obtain ⟨a2', c2', rfl, -, -, -⟩ := hi2
      have HB7 := Lib.hid (HB67.out.trans (hb8.mono HB67.out.size))
      clear hb8
      go_wp2_with fail
      go_ret
      exact ⟨⟨_, rfl, by rw [HF.out, HS.out]; exact HI2.out⟩, HB7.out⟩

set_option maxRecDepth 100000 in
set_option maxHeartbeats 4000000 in
theorem rnodes_6 {w : World} {v : Nat} {g : Int → Option Rec} {keys : List Int} (h : Rx w v g keys) (id : Int) {r : Rec} (hr : g id = some r) :
    Calls Try.prog 23 #[ptr v, iv id, .int .i64 6] w (RNPost w (nodesO g (keys.length + 1) id 6 (g id))) := by
  have HC := Lib.hid (h.n.reads w (Below.refl _ _) id)
  have HRX := Lib.hid h
  have hres : nodesO g (keys.length + 1) id 6 (g id) = nodesR g (keys.length + 1) id 6 r := by rw [hr]; rfl
  rw [hres]
  have hok := h.ok id r hr
  have HOK := Lib.hid hok
  have HUPL := Lib.hid (Nat.le_trans (upF_len h.ko id) h.kl)
  have HBLL := Lib.hid (Nat.le_trans (belowF_len h.ko id) h.kl)
  have HALL := Lib.hid (Nat.le_trans (allF_len h.ko) h.kl)
  have HP := Lib.hid (fun (W : World) (hb : Below w.heap.size w W) => rparents_any (h.later hb).n.reads h.ko h.kl id)
  obtain ⟨up, hup⟩ : ∃ up, upF g (keys.length + 1) id = up := ⟨_, rfl⟩
  rw [hup] at HP HUPL
  rw [hr] at HC
  have HUP := Lib.hid hup
  clear h hr hres hok hup
  go_enter Try.func23, Try.ntmps23
  go_wp2_with fail
  refine HC.out.mono ?_
  rintro e w2 ⟨⟨kv2, av2, rfl, hk2, ha2⟩, hb2⟩
  simp only [Option.getD_some, Option.isSome_some] at *
  have HK := Lib.hid hk2
  have HA := Lib.hid ha2
  obtain ⟨ka, kc, rfl, -, -, -⟩ := hk2
  obtain ⟨aa, ac, rfl, -, -, -⟩ := ha2
  go_upto_region 4 with fail
  obtain ⟨W3, hW3⟩ : ∃ W3, w2.alloc (.cells #[.int .i64 r.kind, .string r.name, .string r.text, .int .i64 r.parent, .slice ka r.kids.length kc, .slice aa r.attrs.length ac, .bool r.gone] 52) = W3 := ⟨_, rfl⟩
  have hr3 : W3.heap[w2.heap.size]? = some (.cells #[.int .i64 r.kind, .string r.name, .string r.text, .int .i64 r.parent, .slice ka r.kids.length kc, .slice aa r.attrs.length ac, .bool r.gone] 52 (0, 0)) := by rw [← hW3]; exact Go.heap_alloc_new _ _
  rw [hW3]
  have hl3 : w2.heap.size < W3.heap.size := by rw [← hW3]; simp
  have hb23 : Below w2.heap.size w2 W3 := by rw [← hW3]; exact (Below.refl _ _).alloc (Nat.le_refl _) _
  have hb3 : Below w.heap.size w W3 := hb2.trans (hb23.mono hb2.size)
  have HPP := Lib.hid (HP.out W3 hb3)
  have HB3 := Lib.hid hb3
  have HK3 := Lib.hid (HK.out.later hb23)
  have HA3 := Lib.hid (HA.out.later hb23)
  clear hb3 hb23 hb2 hW3
  have HR3 := Lib.hid (fun (W : World) (hb : Below W3.heap.size W3 W) => cells7 ((hb.block _ hl3).trans hr3))
  clear hr3
  go_wp2_with fail
  refine HPP.out.mono ?_
  rintro e w4 ⟨⟨u, rfl, hu⟩, hb4⟩
  have HU := Lib.hid hu
  have hul := hu.len
  obtain ⟨au, cu, rfl, hcu, -, -⟩ := hu
  have hb4w := HB3.out.trans (hb4.mono HB3.out.size)
  have HB4 := Lib.hid hb4w
  have HK4 := Lib.hid (HK3.out.later hb4)
  have HA4 := Lib.hid (HA3.out.later hb4)
  have HR4 := Lib.hid (fun (W : World) (hb : Below w4.heap.size w4 W) => HR3.out W (hb4.trans (hb.mono hb4.size)))
  obtain ⟨p0, p1, p2, p3, p4, p5, p6⟩ := HR3.out w4 hb4
  have HRX4 := Lib.hid (HRX.out.later hb4w)
  clear hb4 hb4w
  have HF := Lib.hid (show nodesR g (keys.length + 1) id 6 r = (aheadF (sibL g r) id).reverse by unfold nodesR; simp)
  obtain ⟨o, ho⟩ : ∃ o, g r.parent = o := ⟨_, rfl⟩
  have hc5 := HRX4.out.n.reads w4 (Below.refl _ _) r.parent
  rw [ho] at hc5
  have HC5 := Lib.hid hc5
  have HSO := Lib.hid (show sibL g r = sibO g r.kind o by unfold sibL; rw [ho])
  have HOKP := Lib.hid (fun p (hp : o = some p) => HRX4.out.ok r.parent p (by rw [ho, hp]))
  clear hc5 ho
  go_wp2_with fail
  refine HC5.out.mono ?_
  rintro e w5 ⟨⟨kv5, av5, rfl, hk5, ha5⟩, hb5⟩
  have HK5 := Lib.hid hk5
  obtain ⟨ka5, kc5, rfl, -, -, -⟩ := hk5
  obtain ⟨aa5, ac5, rfl, -, -, -⟩ := ha5
  go_upto_region 18 with fail
  obtain ⟨W6, hW6⟩ : ∃ W6, w5.alloc (.cells #[.int .i64 (o.getD Rec.zero).kind, .string (o.getD Rec.zero).name, .string (o.getD Rec.zero).text, .int .i64 (o.getD Rec.zero).parent, .slice ka5 (o.getD Rec.zero).kids.length kc5, .slice aa5 (o.getD Rec.zero).attrs.length ac5, .bool (o.getD Rec.zero).gone] 52) = W6 := ⟨_, rfl⟩
  have hr6 : W6.heap[w5.heap.size]? = some (.cells #[.int .i64 (o.getD Rec.zero).kind, .string (o.getD Rec.zero).name, .string (o.getD Rec.zero).text, .int .i64 (o.getD Rec.zero).parent, .slice ka5 (o.getD Rec.zero).kids.length kc5, .slice aa5 (o.getD Rec.zero).attrs.length ac5, .bool (o.getD Rec.zero).gone] 52 (0, 0)) := by rw [← hW6]; exact Go.heap_alloc_new _ _
  rw [hW6]
  have hb56 : Below w5.heap.size w5 W6 := by rw [← hW6]; exact (Below.refl _ _).alloc (Nat.le_refl _) _
  have hb46 : Below w4.heap.size w4 W6 := hb5.trans (hb56.mono hb5.size)
  have HK6 := Lib.hid (HK5.out.later hb56)
  have HB46 := Lib.hid hb46
  have HB6 := Lib.hid (HB4.out.trans (hb46.mono HB4.out.size))
  clear p0 p1 p2 p3 p4 p5 p6
  obtain ⟨p0, -, -, -, -, -, -⟩ := HR4.out W6 hb46
  obtain ⟨q0, q1, q2, q3, q4, q5, q6⟩ := cells7 hr6
  clear hb46 hb56 hb5 hW6 hr6
  cases o with
  | none =>
    simp only [Option.getD_none, Option.isSome_none] at *
    have HS := Lib.hid (show sibL g r = [] from HSO.out)
    go_wp2_with fail
    go_ret
    exact ⟨⟨_, rfl, by rw [HF.out, HS.out]; simpa [behindF, aheadF, idxI_nil] using intsIn_nil _ _⟩, HB6.out⟩
  | some p =>
    simp only [Option.getD_some, Option.isSome_some] at *
    by_cases hk : r.kind = 3
    · have hkb : (r.kind == 3) = true := by simpa using hk
      have HS := Lib.hid (show sibL g r = [] by rw [HSO.out]; unfold sibO; simp [hk])
      clear hk
      go_wp2_with fail
      go_ret
      exact ⟨⟨_, rfl, by rw [HF.out, HS.out]; simpa [behindF, aheadF, idxI_nil] using intsIn_nil _ _⟩, HB6.out⟩
    · have hkb : (r.kind == 3) = false := by simpa using hk
      have hokp := HOKP.out p rfl
      have HT := Lib.hid (rthere_any (HRX4.out.later HB46.out).n.reads HK6.out (fun _ h => h) hokp.1)
      have hXL : (onceF (isThere g) p.kids).length * 8 ≤ 140737488351232 := by
        have := onceF_len (isThere g) p.kids []
        have h2 := hokp.1
        simp only [List.length_nil] at this
        unfold onceF; omega
      obtain ⟨xs, hxs⟩ : ∃ xs, onceF (isThere g) p.kids = xs := ⟨_, rfl⟩
      have HS := Lib.hid (show sibL g r = xs by rw [HSO.out]; unfold sibO; simp [hk, hxs])
      rw [hxs] at HT hXL
      have HXL := Lib.hid hXL
      clear hk hxs hXL hokp
      go_wp2_with fail
      refine HT.out.mono ?_
      rintro e w7 ⟨⟨u7, rfl, ho7⟩, hb7⟩
      have HPA := Lib.hid (rparts_any (intsIn_row ho7).old id)
      obtain ⟨a7, c7, rfl⟩ := shape3 ho7
      simp only [List.length_map] at *
      have HB67 := Lib.hid (HB6.out.trans (hb7.mono HB6.out.size))
      clear hb7 ho7
      go_wp2_with fail
      refine HPA.out.mono ?_
      rintro e w8 ⟨⟨u1, u2, b8, rfl, hi1, hi2⟩, hb8⟩
      have HI1 := Lib.hid (hi1.mono (fun k (hk : k < w7.heap.size) => Nat.lt_of_lt_of_le hk hb8.size))
      have HI2 := Lib.hid (hi2.mono (fun k (hk : k < w7.heap.size) => Nat.lt_of_lt_of_le hk hb8.size))
      obtain ⟨a1', c1', rfl, -, -, -⟩ := hi1
      obtain ⟨a2', c2', rfl, -, -, -⟩ := hi2
      have HB7 := Lib.hid (HB67.out.trans (hb8.mono HB67.out.size))
      clear hb8
      have hal : (aheadF xs id).length ≤ xs.length := by unfold aheadF; exact List.length_take_le' _ _
      have HBK := Lib.hid (rback_any HI1.out (fun _ h => h) (by have := HXL.out; omega))
      clear hal
      go_wp2_with fail
      refine HBK.out.mono ?_
      rintro e w8 ⟨⟨u8, rfl, ho8⟩, hb8⟩
      obtain ⟨a8, c8, rfl⟩ := shape3 ho8
      go_wp2_with fail
      go_ret
      exact ⟨⟨_, rfl, by rw [HF.out, HS.out]; exact (by simpa using (intsIn_row ho8).old)⟩, HB7.out.trans (hb8.mono HB7.out.size)⟩

set_option maxRecDepth 100000 in
set_option maxHeartbeats 4000000 in
theorem rnodes_7 {w : World} {v : Nat} {g : Int → Option Rec} {keys : List Int} (h : Rx w v g keys) (id : Int) {r : Rec} (hr : g id = some r) :
    Calls Try.prog 23 #[ptr v, iv id, .int .i64 7] w (RNPost w (nodesO g (keys.length + 1) id 7 (g id))) := by
  have HC := Lib.hid (h.n.reads w (Below.refl _ _) id)
  have HRX := Lib.hid h
  have hres : nodesO g (keys.length + 1) id 7 (g id) = nodesR g (keys.length + 1) id 7 r := by rw [hr]; rfl
  rw [hres]
  have hok := h.ok id r hr
  have HOK := Lib.hid hok
  have HUPL := Lib.hid (Nat.le_trans (upF_len h.ko id) h.kl)
  have HBLL := Lib.hid (Nat.le_trans (belowF_len h.ko id) h.kl)
  have HALL := Lib.hid (Nat.le_trans (allF_len h.ko) h.kl)
  have HP := Lib.hid (fun (W : World) (hb : Below w.heap.size w W) => rparents_any (h.later hb).n.reads h.ko h.kl id)
  obtain ⟨up, hup⟩ : ∃ up, upF g (keys.length + 1) id = up := ⟨_, rfl⟩
  rw [hup] at HP HUPL
  rw [hr] at HC
  have HUP := Lib.hid hup
  clear h hr hres hok hup
  go_enter Try.func23, Try.ntmps23
  go_wp2_with fail
  refine HC.out.mono ?_
  rintro e w2 ⟨⟨kv2, av2, rfl, hk2, ha2⟩, hb2⟩
  simp only [Option.getD_some, Option.isSome_some] at *
  have HK := Lib.hid hk2
  have HA := Lib.hid ha2
  obtain ⟨ka, kc, rfl, -, -, -⟩ := hk2
  obtain ⟨aa, ac, rfl, -, -, -⟩ := ha2
  go_upto_region 4 with fail
  obtain ⟨W3, hW3⟩ : ∃ W3, w2.alloc (.cells #[.int .i64 r.kind, .string r.name, .string r.text, .int .i64 r.parent, .slice ka r.kids.length kc, .slice aa r.attrs.length ac, .bool r.gone] 52) = W3 := ⟨_, rfl⟩
  have hr3 : W3.heap[w2.heap.size]? = some (.cells #[.int .i64 r.kind, .string r.name, .string r.text, .int .i64 r.parent, .slice ka r.kids.length kc, .slice aa r.attrs.length ac, .bool r.gone] 52 (0, 0)) := by rw [← hW3]; exact Go.heap_alloc_new _ _
  rw [hW3]
  have hl3 : w2.heap.size < W3.heap.size := by rw [← hW3]; simp
  have hb23 : Below w2.heap.size w2 W3 := by rw [← hW3]; exact (Below.refl _ _).alloc (Nat.le_refl _) _
  have hb3 : Below w.heap.size w W3 := hb2.trans (hb23.mono hb2.size)
  have HPP := Lib.hid (HP.out W3 hb3)
  have HB3 := Lib.hid hb3
  have HK3 := Lib.hid (HK.out.later hb23)
  have HA3 := Lib.hid (HA.out.later hb23)
  clear hb3 hb23 hb2 hW3
  have HR3 := Lib.hid (fun (W : World) (hb : Below W3.heap.size W3 W) => cells7 ((hb.block _ hl3).trans hr3))
  clear hr3
  go_wp2_with fail
  refine HPP.out.mono ?_
  rintro e w4 ⟨⟨u, rfl, hu⟩, hb4⟩
  have HU := Lib.hid hu
  have hul := hu.len
  obtain ⟨au, cu, rfl, hcu, -, -⟩ := hu
  have hb4w := HB3.out.trans (hb4.mono HB3.out.size)
  have HB4 := Lib.hid hb4w
  have HK4 := Lib.hid (HK3.out.later hb4)
  have HA4 := Lib.hid (HA3.out.later hb4)
  have HR4 := Lib.hid (fun (W : World) (hb : Below w4.heap.size w4 W) => HR3.out W (hb4.trans (hb.mono hb4.size)))
  obtain ⟨p0, p1, p2, p3, p4, p5, p6⟩ := HR3.out w4 hb4
  have HRX4 := Lib.hid (HRX.out.later hb4w)
  clear hb4 hb4w
  have HF := Lib.hid (show nodesR g (keys.length + 1) id 7 r = woutF g (belowF g (keys.length + 1) id) (behindF (allF g (keys.length + 1)) id) by unfold nodesR; simp)
  have HT := Lib.hid (rall_any HRX4.out.n HRX4.out.ko HRX4.out.kl)
  obtain ⟨xs, hxs⟩ : ∃ xs, allF g (keys.length + 1) = xs := ⟨_, rfl⟩
  rw [hxs] at HT HF HALL
  clear hxs
  go_wp2_with fail
  refine HT.out.mono ?_
  rintro e w5 ⟨⟨u5, rfl, ho5⟩, hb5⟩
  have HPA := Lib.hid (rparts_any ho5 id)
  obtain ⟨a5, c5, rfl, -, -, -⟩ := ho5
  have HB5 := Lib.hid hb5
  clear hb5
  go_wp2_with fail
  refine HPA.out.mono ?_
  rintro e w6 ⟨⟨u1, u2, b8, rfl, hi1, hi2⟩, hb6⟩
  have HI1 := Lib.hid (hi1.mono (fun k (hk : k < w5.heap.size) => Nat.lt_of_lt_of_le hk hb6.size))
  have HI2 := Lib.hid (hi2.mono (fun k (hk : k < w5.heap.size) => Nat.lt_of_lt_of_le hk hb6.size))
  obtain ⟨a1', c1', rfl, -, -, -⟩ := hi1
  obtain ⟨a2', c2', rfl, -, -, -⟩ := hi2
  have hb46 := HB5.out.trans (hb6.mono HB5.out.size)
  have HB46 := Lib.hid hb46
  clear hb6
  have HBL := Lib.hid (rbelow_any (HRX4.out.later hb46).n HRX4.out.ko HRX4.out.kl id)
  obtain ⟨ys, hys⟩ : ∃ ys, belowF g (keys.length + 1) id = ys := ⟨_, rfl⟩
  rw [hys] at HBL HF
  have hlx : (behindF xs id).length ≤ xs.length := by unfold behindF; split <;> simp
  have HLX := Lib.hid hlx
  clear hys hb46 hlx
  go_wp2_with fail
  refine HBL.out.mono ?_
  rintro e w7 ⟨⟨u7, rfl, ho7⟩, hb7⟩
  have hb47 := HB46.out.trans (hb7.mono HB46.out.size)
  have HWO := Lib.hid (rwithout_any (HRX4.out.later hb47).n.reads (HI2.out.later hb7) (fun _ h => h) (by have h1 := HLX.out; have h2 := HALL.out; omega) ho7)
  obtain ⟨a7, c7, rfl, -, -, -⟩ := ho7
  have HB47 := Lib.hid hb47
  clear hb47 hb7
  go_wp2_with fail
  refine HWO.out.mono ?_
  rintro e w8 ⟨⟨u8, rfl, ho8⟩, hb8⟩
  obtain ⟨a8, c8, rfl⟩ := shape3 ho8
  go_wp2_with fail
  go_ret
  have hb48 := HB47.out.trans (hb8.mono HB47.out.size)
  exact ⟨⟨_, rfl, by rw [HF.out]; exact (by simpa using (intsIn_row ho8).old)⟩, HB4.out.trans (hb48.mono HB4.out.size)⟩

set_option maxRecDepth 100000 in
set_option maxHeartbeats 4000000 in
theorem rnodes_8 {w : World} {v : Nat} {g : Int → Option Rec} {keys : List Int} (h : Rx w v g keys) (id : Int) {r : Rec} (hr : g id = some r) :
    Calls Try.prog 23 #[ptr v, iv id, .int .i64 8] w (RNPost w (nodesO g (keys.length + 1) id 8 (g id))) := by
  have HC := Lib.hid (h.n.reads w (Below.refl _ _) id)
  have HRX := Lib.hid h
  have hres : nodesO g (keys.length + 1) id 8 (g id) = nodesR g (keys.length + 1) id 8 r := by rw [hr]; rfl
  rw [hres]
  have hok := h.ok id r hr
  have HOK := Lib.hid hok
  have HUPL := Lib.hid (Nat.le_trans (upF_len h.ko id) h.kl)
  have HBLL := Lib.hid (Nat.le_trans (belowF_len h.ko id) h.kl)
  have HALL := Lib.hid (Nat.le_trans (allF_len h.ko) h.kl)
  have HP := Lib.hid (fun (W : World) (hb : Below w.heap.size w W) => rparents_any (h.later hb).n.reads h.ko h.kl id)
  obtain ⟨up, hup⟩ : ∃ up, upF g (keys.length + 1) id = up := ⟨_, rfl⟩
  rw [hup] at HP HUPL
  rw [hr] at HC
  have HUP := Lib.hid hup
  clear h hr hres hok hup
  go_enter Try.func23, Try.ntmps23
  go_wp2_with fail
  refine HC.out.mono ?_
  rintro e w2 ⟨⟨kv2, av2, rfl, hk2, ha2⟩, hb2⟩
  simp only [Option.getD_some, Option.isSome_some] at *
  have HK := Lib.hid hk2
  have HA := Lib.hid ha2
  obtain ⟨ka, kc, rfl, -, -, -⟩ := hk2
  obtain ⟨aa, ac, rfl, -, -, -⟩ := ha2
  go_upto_region 4 with fail
  obtain ⟨W3, hW3⟩ : ∃ W3, w2.alloc (.cells #[.int .i64 r.kind, .string r.name, .string r.text, .int .i64 r.parent, .slice ka r.kids.length kc, .slice aa r.attrs.length ac, .bool r.gone] 52) = W3 := ⟨_, rfl⟩
  have hr3 : W3.heap[w2.heap.size]? = some (.cells #[.int .i64 r.kind, .string r.name, .string r.text, .int .i64 r.parent, .slice ka r.kids.length kc, .slice aa r.attrs.length ac, .bool r.gone] 52 (0, 0)) := by rw [← hW3]; exact Go.heap_alloc_new _ _
  rw [hW3]
  have hl3 : w2.heap.size < W3.heap.size := by rw [← hW3]; simp
  have hb23 : Below w2.heap.size w2 W3 := by rw [← hW3]; exact (Below.refl _ _).alloc (Nat.le_refl _) _
  have hb3 : Below w.heap.size w W3 := hb2.trans (hb23.mono hb2.size)
  have HPP := Lib.hid (HP.out W3 hb3)
  have HB3 := Lib.hid hb3
  have HK3 := Lib.hid (HK.out.later hb23)
  have HA3 := Lib.hid (HA.out.later hb23)
  clear hb3 hb23 hb2 hW3
  have HR3 := Lib.hid (fun (W : World) (hb : Below W3.heap.size W3 W) => cells7 ((hb.block _ hl3).trans hr3))
  clear hr3
  go_wp2_with fail
  refine HPP.out.mono ?_
  rintro e w4 ⟨⟨u, rfl, hu⟩, hb4⟩
  have HU := Lib.hid hu
  have hul := hu.len
  obtain ⟨au, cu, rfl, hcu, -, -⟩ := hu
  have hb4w := HB3.out.trans (hb4.mono HB3.out.size)
  have HB4 := Lib.hid hb4w
  have HK4 := Lib.hid (HK3.out.later hb4)
  have HA4 := Lib.hid (HA3.out.later hb4)
  have HR4 := Lib.hid (fun (W : World) (hb : Below w4.heap.size w4 W) => HR3.out W (hb4.trans (hb.mono hb4.size)))
  obtain ⟨p0, p1, p2, p3, p4, p5, p6⟩ := HR3.out w4 hb4
  have HRX4 := Lib.hid (HRX.out.later hb4w)
  clear hb4 hb4w
  have HF := Lib.hid (show nodesR g (keys.length + 1) id 8 r = (woutF g up (aheadF (allF g (keys.length + 1)) id)).reverse by unfold nodesR; simp [HUP.out])
  have HT := Lib.hid (rall_any HRX4.out.n HRX4.out.ko HRX4.out.kl)
  obtain ⟨xs, hxs⟩ : ∃ xs, allF g (keys.length + 1) = xs := ⟨_, rfl⟩
  rw [hxs] at HT HF HALL
  clear hxs
  go_wp2_with fail
  refine HT.out.mono ?_
  rintro e w5 ⟨⟨u5, rfl, ho5⟩, hb5⟩
  have HPA := Lib.hid (rparts_any ho5 id)
  obtain ⟨a5, c5, rfl, -, -, -⟩ := ho5
  have HB5 := Lib.hid hb5
  clear hb5
  go_wp2_with fail
  refine HPA.out.mono ?_
  rintro e w6 ⟨⟨u1, u2, b8, rfl, hi1, hi2⟩, hb6⟩
  have HI1 := Lib.hid (hi1.mono (fun k (hk : k < w5.heap.size) => Nat.lt_of_lt_of_le hk hb6.size))
  have HI2 := Lib.hid (hi2.mono (fun k (hk : k < w5.heap.size) => Nat.lt_of_lt_of_le hk hb6.size))
  obtain ⟨a1', c1', rfl, -, -, -⟩ := hi1
  obtain ⟨a2', c2', rfl, -, -, -⟩ := hi2
  have hb46 := HB5.out.trans (hb6.mono HB5.out.size)
  have HB46 := Lib.hid hb46
  clear hb6
  have hlx : (aheadF xs id).length ≤ xs.length := by unfold aheadF; exact List.length_take_le' _ _
  have HLX := Lib.hid hlx
  have HWO := Lib.hid (rwithout_any (HRX4.out.later hb46).n.reads HI1.out (fun _ h => h) (by have h2 := HALL.out; omega) (HU.out.later hb46))
  clear hb46 hlx
  go_wp2_with fail
  refine HWO.out.mono ?_
  rintro e w7 ⟨⟨u7, rfl, ho7⟩, hb7⟩
  have hlw := woutF_len g up (aheadF xs id)
  have HBK := Lib.hid (rback_any (intsIn_row ho7).old (fun _ h => h) (by have h1 := HLX.out; have h2 := HALL.out; omega))
  obtain ⟨a7, c7, rfl⟩ := shape3 ho7
  have HB47 := Lib.hid (HB46.out.trans (hb7.mono HB46.out.size))
  clear hb7 hlw ho7
  simp only [List.length_map] at *
  go_wp2_with fail
  refine HBK.out.mono ?_
  rintro e w8 ⟨⟨u8, rfl, ho8⟩, hb8⟩
  obtain ⟨a8, c8, rfl⟩ := shape3 ho8
  go_wp2_with fail
  go_ret
  have hb48 := HB47.out.trans (hb8.mono HB47.out.size)
  exact ⟨⟨_, rfl, by rw [HF.out]; exact (by simpa using (intsIn_row ho8).old)⟩, HB4.out.trans (hb48.mono HB4.out.size)⟩

set_option maxRecDepth 100000 in
set_option maxHeartbeats 4000000 in
theorem rnodes_10 {w : World} {v : Nat} {g : Int → Option Rec} {keys : List Int} (h : Rx w v g keys) (id : Int) {r : Rec} (hr : g id = some r) :
    Calls Try.prog 23 #[ptr v, iv id, .int .i64 10] w (RNPost w (nodesO g (keys.length + 1) id 10 (g id))) := by
  have HC := Lib.hid (h.n.reads w (Below.refl _ _) id)
  have HRX := Lib.hid h
  have hres : nodesO g (keys.length + 1) id 10 (g id) = nodesR g (keys.length + 1) id 10 r := by rw [hr]; rfl
  rw [hres]
  have hok := h.ok id r hr
  have HOK := Lib.hid hok
  have HUPL := Lib.hid (Nat.le_trans (upF_len h.ko id) h.kl)
  have HBLL := Lib.hid (Nat.le_trans (belowF_len h.ko id) h.kl)
  have HALL := Lib.hid (Nat.le_trans (allF_len h.ko) h.kl)
  have HP := Lib.hid (fun (W : World) (hb : Below w.heap.size w W) => rparents_any (h.later hb).n.reads h.ko h.kl id)
  obtain ⟨up, hup⟩ : ∃ up, upF g (keys.length + 1) id = up := ⟨_, rfl⟩
  rw [hup] at HP HUPL
  rw [hr] at HC
  have HUP := Lib.hid hup
  clear h hr hres hok hup
  go_enter Try.func23, Try.ntmps23
  go_wp2_with fail
  refine HC.out.mono ?_
  rintro e w2 ⟨⟨kv2, av2, rfl, hk2, ha2⟩, hb2⟩
  simp only [Option.getD_some, Option.isSome_some] at *
  have HK := Lib.hid hk2
  have HA := Lib.hid ha2
  obtain ⟨ka, kc, rfl, -, -, -⟩ := hk2
  obtain ⟨aa, ac, rfl, -, -, -⟩ := ha2
  go_upto_region 4 with fail
  obtain ⟨W3, hW3⟩ : ∃ W3, w2.alloc (.cells #[.int .i64 r.kind, .string r.name, .string r.text, .int .i64 r.parent, .slice ka r.kids.length kc, .slice aa r.attrs.length ac, .bool r.gone] 52) = W3 := ⟨_, rfl⟩
  have hr3 : W3.heap[w2.heap.size]? = some (.cells #[.int .i64 r.kind, .string r.name, .string r.text, .int .i64 r.parent, .slice ka r.kids.length kc, .slice aa r.attrs.length ac, .bool r.gone] 52 (0, 0)) := by rw [← hW3]; exact Go.heap_alloc_new _ _
  rw [hW3]
  have hl3 : w2.heap.size < W3.heap.size := by rw [← hW3]; simp
  have hb23 : Below w2.heap.size w2 W3 := by rw [← hW3]; exact (Below.refl _ _).alloc (Nat.le_refl _) _
  have hb3 : Below w.heap.size w W3 := hb2.trans (hb23.mono hb2.size)
  have HPP := Lib.hid (HP.out W3 hb3)
  have HB3 := Lib.hid hb3
  have HK3 := Lib.hid (HK.out.later hb23)
  have HA3 := Lib.hid (HA.out.later hb23)
  clear hb3 hb23 hb2 hW3
  have HR3 := Lib.hid (fun (W : World) (hb : Below W3.heap.size W3 W) => cells7 ((hb.block _ hl3).trans hr3))
  clear hr3
  go_wp2_with fail
  refine HPP.out.mono ?_
  rintro e w4 ⟨⟨u, rfl, hu⟩, hb4⟩
  have HU := Lib.hid hu
  have hul := hu.len
  obtain ⟨au, cu, rfl, hcu, -, -⟩ := hu
  have hb4w := HB3.out.trans (hb4.mono HB3.out.size)
  have HB4 := Lib.hid hb4w
  have HK4 := Lib.hid (HK3.out.later hb4)
  have HA4 := Lib.hid (HA3.out.later hb4)
  have HR4 := Lib.hid (fun (W : World) (hb : Below w4.heap.size w4 W) => HR3.out W (hb4.trans (hb.mono hb4.size)))
  obtain ⟨p0, p1, p2, p3, p4, p5, p6⟩ := HR3.out w4 hb4
  have HRX4 := Lib.hid (HRX.out.later hb4w)
  clear hb4 hb4w
  have HF := Lib.hid (show nodesR g (keys.length + 1) id 10 r = [id] by unfold nodesR; simp)
  go_wp2_with fail
  go_ret
  exact ⟨⟨_, rfl, by rw [HF.out]; exact ⟨_, 1, rfl, Nat.le_refl _, by decide, .inr ⟨w4.heap.size, 0, rfl, by simp, fun j x hx => by
    cases j with
    | zero => simp at hx; subst hx; exact cell_one_new _ _ _ 0 _ rfl
    | succ j => simp at hx⟩⟩⟩, HB4.out.alloc HB4.out.size _⟩

set_option maxRecDepth 100000 in
set_option maxHeartbeats 4000000 in
theorem rnodes_11 {w : World} {v : Nat} {g : Int → Option Rec} {keys : List Int} (h : Rx w v g keys) (id : Int) {r : Rec} (hr : g id = some r) :
    Calls Try.prog 23 #[ptr v, iv id, .int .i64 11] w (RNPost w (nodesO g (keys.length + 1) id 11 (g id))) := by
  have HC := Lib.hid (h.n.reads w (Below.refl _ _) id)
  have HRX := Lib.hid h
  have hres : nodesO g (keys.length + 1) id 11 (g id) = nodesR g (keys.length + 1) id 11 r := by rw [hr]; rfl
  rw [hres]
  have hok := h.ok id r hr
  have HOK := Lib.hid hok
  have HUPL := Lib.hid (Nat.le_trans (upF_len h.ko id) h.kl)
  have HBLL := Lib.hid (Nat.le_trans (belowF_len h.ko id) h.kl)
  have HALL := Lib.hid (Nat.le_trans (allF_len h.ko) h.kl)
  have HP := Lib.hid (fun (W : World) (hb : Below w.heap.size w W) => rparents_any (h.later hb).n.reads h.ko h.kl id)
  obtain ⟨up, hup⟩ : ∃ up, upF g (keys.length + 1) id = up := ⟨_, rfl⟩
  rw [hup] at HP HUPL
  rw [hr] at HC
  have HUP := Lib.hid hup
  clear h hr hres hok hup
  go_enter Try.func23, Try.ntmps23
  go_wp2_with fail
  refine HC.out.mono ?_
  rintro e w2 ⟨⟨kv2, av2, rfl, hk2, ha2⟩, hb2⟩
  simp only [Option.getD_some, Option.isSome_some] at *
  have HK := Lib.hid hk2
  have HA := Lib.hid ha2
  obtain ⟨ka, kc, rfl, -, -, -⟩ := hk2
  obtain ⟨aa, ac, rfl, -, -, -⟩ := ha2
  go_upto_region 4 with fail
  obtain ⟨W3, hW3⟩ : ∃ W3, w2.alloc (.cells #[.int .i64 r.kind, .string r.name, .string r.text, .int .i64 r.parent, .slice ka r.kids.length kc, .slice aa r.attrs.length ac, .bool r.gone] 52) = W3 := ⟨_, rfl⟩
  have hr3 : W3.heap[w2.heap.size]? = some (.cells #[.int .i64 r.kind, .string r.name, .string r.text, .int .i64 r.parent, .slice ka r.kids.length kc, .slice aa r.attrs.length ac, .bool r.gone] 52 (0, 0)) := by rw [← hW3]; exact Go.heap_alloc_new _ _
  rw [hW3]
  have hl3 : w2.heap.size < W3.heap.size := by rw [← hW3]; simp
  have hb23 : Below w2.heap.size w2 W3 := by rw [← hW3]; exact (Below.refl _ _).alloc (Nat.le_refl _) _
  have hb3 : Below w.heap.size w W3 := hb2.trans (hb23.mono hb2.size)
  have HPP := Lib.hid (HP.out W3 hb3)
  have HB3 := Lib.hid hb3
  have HK3 := Lib.hid (HK.out.later hb23)
  have HA3 := Lib.hid (HA.out.later hb23)
  clear hb3 hb23 hb2 hW3
  have HR3 := Lib.hid (fun (W : World) (hb : Below W3.heap.size W3 W) => cells7 ((hb.block _ hl3).trans hr3))
  clear hr3
  go_wp2_with fail
  refine HPP.out.mono ?_
  rintro e w4 ⟨⟨u, rfl, hu⟩, hb4⟩
  have HU := Lib.hid hu
  have hul := hu.len
  obtain ⟨au, cu, rfl, hcu, -, -⟩ := hu
  have hb4w := HB3.out.trans (hb4.mono HB3.out.size)
  have HB4 := Lib.hid hb4w
  have HK4 := Lib.hid (HK3.out.later hb4)
  have HA4 := Lib.hid (HA3.out.later hb4)
  have HR4 := Lib.hid (fun (W : World) (hb : Below w4.heap.size w4 W) => HR3.out W (hb4.trans (hb.mono hb4.size)))
  obtain ⟨p0, p1, p2, p3, p4, p5, p6⟩ := HR3.out w4 hb4
  have HRX4 := Lib.hid (HRX.out.later hb4w)
  clear hb4 hb4w
  have HF := Lib.hid (show nodesR g (keys.length + 1) id 11 r = id :: belowF g (keys.length + 1) id by unfold nodesR; simp)
  have HT := Lib.hid (fun (W : World) (hb : Below w4.heap.size w4 W) => rbelow_any (HRX4.out.later hb).n HRX4.out.ko HRX4.out.kl id)
  obtain ⟨ys, hys⟩ : ∃ ys, belowF g (keys.length + 1) id = ys := ⟨_, rfl⟩
  rw [hys] at HT HF HBLL
  clear hys
  have hrow := row_one w4 id
  have HROW := Lib.hid hrow
  have hb5 : Below w4.heap.size w4 (w4.alloc (.cells #[iv id] 3)) := (Below.refl _ _).alloc (Nat.le_refl _) _
  have HT5 := Lib.hid (HT.out _ hb5)
  have HB5 := Lib.hid hb5
  clear hrow hb5
  go_wp2_with (first
    | (at_builtin; refine wpList_append_ints rfl _ _ rfl (zs := [id]) (ys := ys) rfl rfl HO7.out HO6.out (by have := HBLL.out; simp only [List.length_cons, List.length_nil]; omega) HS7.out ?_; intro u9 w9 ho9 hg9 hl9; obtain ⟨a9, c9, rfl⟩ := shape3 ho9)
    | (go_at_call 79; refine HT5.out.mono ?_; rintro e w6 ⟨⟨u6, rfl, ho6⟩, hb6⟩; have HO6 := Lib.hid ho6; have HO7 := Lib.hid (ownsRow_keeps HROW.out (fun g hg => hb6.block g (ownsRow_base HROW.out hg).2)); have HB6 := Lib.hid (HB5.out.trans (hb6.mono HB5.out.size)); have HS7 := Lib.hid HB6.out.size; obtain ⟨a6, c6, rfl, -, -, -⟩ := ho6; clear hb6))
  go_ret
  have hb9 := HB6.out.grown hg9 HB6.out.size (fun k hk => (ownsRow_base HO7.out hk).1)
  exact ⟨⟨_, rfl, by rw [HF.out]; exact (intsIn_row ho9).old⟩, HB4.out.trans (hb9.mono HB4.out.size)⟩

set_option maxRecDepth 100000 in
set_option maxHeartbeats 4000000 in
theorem rnodes_12 {w : World} {v : Nat} {g : Int → Option Rec} {keys : List Int} (h : Rx w v g keys) (id : Int) {r : Rec} (hr : g id = some r) :
    Calls Try.prog 23 #[ptr v, iv id, .int .i64 12] w (RNPost w (nodesO g (keys.length + 1) id 12 (g id))) := by
  have HC := Lib.hid (h.n.reads w (Below.refl _ _) id)
  have HRX := Lib.hid h
  have hres : nodesO g (keys.length + 1) id 12 (g id) = nodesR g (keys.length + 1) id 12 r := by rw [hr]; rfl
  rw [hres]
  have hok := h.ok id r hr
  have HOK := Lib.hid hok
  have HUPL := Lib.hid (Nat.le_trans (upF_len h.ko id) h.kl)
  have HBLL := Lib.hid (Nat.le_trans (belowF_len h.ko id) h.kl)
  have HALL := Lib.hid (Nat.le_trans (allF_len h.ko) h.kl)
  have HP := Lib.hid (fun (W : World) (hb : Below w.heap.size w W) => rparents_any (h.later hb).n.reads h.ko h.kl id)
  obtain ⟨up, hup⟩ : ∃ up, upF g (keys.length + 1) id = up := ⟨_, rfl⟩
  rw [hup] at HP HUPL
  rw [hr] at HC
  have HUP := Lib.hid hup
  clear h hr hres hok hup
  go_enter Try.func23, Try.ntmps23
  go_wp2_with fail
  refine HC.out.mono ?_
  rintro e w2 ⟨⟨kv2, av2, rfl, hk2, ha2⟩, hb2⟩
  simp only [Option.getD_some, Option.isSome_some] at *
  have HK := Lib.hid hk2
  have HA := Lib.hid ha2
  obtain ⟨ka, kc, rfl, -, -, -⟩ := hk2
  obtain ⟨aa, ac, rfl, -, -, -⟩ := ha2
  go_upto_region 4 with fail
  obtain ⟨W3, hW3⟩ : ∃ W3, w2.alloc (.cells #[.int .i64 r.kind, .string r.name, .string r.text, .int .i64 r.parent, .slice ka r.kids.length kc, .slice aa r.attrs.length ac, .bool r.gone] 52) = W3 := ⟨_, rfl⟩
  have hr3 : W3.heap[w2.heap.size]? = some (.cells #[.int .i64 r.kind, .string r.name, .string r.text, .int .i64 r.parent, .slice ka r.kids.length kc, .slice aa r.attrs.length ac, .bool r.gone] 52 (0, 0)) := by rw [← hW3]; exact Go.heap_alloc_new _ _
  rw [hW3]
  have hl3 : w2.heap.size < W3.heap.size := by rw [← hW3]; simp
  have hb23 : Below w2.heap.size w2 W3 := by rw [← hW3]; exact (Below.refl _ _).alloc (Nat.le_refl _) _
  have hb3 : Below w.heap.size w W3 := hb2.trans (hb23.mono hb2.size)
  have HPP := Lib.hid (HP.out W3 hb3)
  have HB3 := Lib.hid hb3
  have HK3 := Lib.hid (HK.out.later hb23)
  have HA3 := Lib.hid (HA.out.later hb23)
  clear hb3 hb23 hb2 hW3
  have HR3 := Lib.hid (fun (W : World) (hb : Below W3.heap.size W3 W) => cells7 ((hb.block _ hl3).trans hr3))
  clear hr3
  go_wp2_with fail
  refine HPP.out.mono ?_
  rintro e w4 ⟨⟨u, rfl, hu⟩, hb4⟩
  have HU := Lib.hid hu
  have hul := hu.len
  obtain ⟨au, cu, rfl, hcu, -, -⟩ := hu
  have hb4w := HB3.out.trans (hb4.mono HB3.out.size)
  have HB4 := Lib.hid hb4w
  have HK4 := Lib.hid (HK3.out.later hb4)
  have HA4 := Lib.hid (HA3.out.later hb4)
  have HR4 := Lib.hid (fun (W : World) (hb : Below w4.heap.size w4 W) => HR3.out W (hb4.trans (hb.mono hb4.size)))
  obtain ⟨p0, p1, p2, p3, p4, p5, p6⟩ := HR3.out w4 hb4
  have HRX4 := Lib.hid (HRX.out.later hb4w)
  clear hb4 hb4w
  have HF := Lib.hid (show nodesR g (keys.length + 1) id 12 r = id :: up by unfold nodesR; simp [HUP.out])
  have hrow := row_one w4 id
  have HROW := Lib.hid hrow
  have hb5 : Below w4.heap.size w4 (w4.alloc (.cells #[iv id] 3)) := (Below.refl _ _).alloc (Nat.le_refl _) _
  have HU5 := Lib.hid (HU.out.later hb5)
  have HB5 := Lib.hid hb5
  have HS5 := Lib.hid hb5.size
  clear hrow hb5
  go_wp2_with (at_builtin; refine wpList_append_ints rfl _ _ rfl (zs := [id]) (ys := up) rfl rfl HROW.out HU5.out (by have := HUPL.out; simp only [List.length_cons, List.length_nil]; omega) HS5.out ?_; intro u9 w9 ho9 hg9 hl9; obtain ⟨a9, c9, rfl⟩ := shape3 ho9)
  go_ret
  have hb9 := HB5.out.grown hg9 HB5.out.size (fun k hk => (ownsRow_base HROW.out hk).1)
  exact ⟨⟨_, rfl, by rw [HF.out]; exact (intsIn_row ho9).old⟩, HB4.out.trans (hb9.mono HB4.out.size)⟩

set_option maxRecDepth 100000 in
set_option maxHeartbeats 4000000 in
theorem rnodes_no {w : World} {v : Nat} {g : Int → Option Rec} {keys : List Int} (h : Rx w v g keys) (id a : Int) {r : Rec} (hr : g id = some r) (hno : ¬ (1 ≤ a ∧ a ≤ 12)) :
    Calls Try.prog 23 #[ptr v, iv id, .int .i64 a] w (RNPost w (nodesO g (keys.length + 1) id a (g id))) := by
  have HC := Lib.hid (h.n.reads w (Below.refl _ _) id)
  have HRX := Lib.hid h
  have hres : nodesO g (keys.length + 1) id a (g id) = nodesR g (keys.length + 1) id a r := by rw [hr]; rfl
  rw [hres]
  have hok := h.ok id r hr
  have HOK := Lib.hid hok
  have HUPL := Lib.hid (Nat.le_trans (upF_len h.ko id) h.kl)
  have HBLL := Lib.hid (Nat.le_trans (belowF_len h.ko id) h.kl)
  have HALL := Lib.hid (Nat.le_trans (allF_len h.ko) h.kl)
  have HP := Lib.hid (fun (W : World) (hb : Below w.heap.size w W) => rparents_any (h.later hb).n.reads h.ko h.kl id)
  obtain ⟨up, hup⟩ : ∃ up, upF g (keys.length + 1) id = up := ⟨_, rfl⟩
  rw [hup] at HP HUPL
  rw [hr] at HC
  have HUP := Lib.hid hup
  clear h hr hres hok hup
  go_enter Try.func23, Try.ntmps23
  go_wp2_with fail
  refine HC.out.mono ?_
  rintro e w2 ⟨⟨kv2, av2, rfl, hk2, ha2⟩, hb2⟩
  simp only [Option.getD_some, Option.isSome_some] at *
  have HK := Lib.hid hk2
  have HA := Lib.hid ha2
  obtain ⟨ka, kc, rfl, -, -, -⟩ := hk2
  obtain ⟨aa, ac, rfl, -, -, -⟩ := ha2
  go_upto_region 4 with fail
  obtain ⟨W3, hW3⟩ : ∃ W3, w2.alloc (.cells #[.int .i64 r.kind, .string r.name, .string r.text, .int .i64 r.parent, .slice ka r.kids.length kc, .slice aa r.attrs.length ac, .bool r.gone] 52) = W3 := ⟨_, rfl⟩
  have hr3 : W3.heap[w2.heap.size]? = some (.cells #[.int .i64 r.kind, .string r.name, .string r.text, .int .i64 r.parent, .slice ka r.kids.length kc, .slice aa r.attrs.length ac, .bool r.gone] 52 (0, 0)) := by rw [← hW3]; exact Go.heap_alloc_new _ _
  rw [hW3]
  have hl3 : w2.heap.size < W3.heap.size := by rw [← hW3]; simp
  have hb23 : Below w2.heap.size w2 W3 := by rw [← hW3]; exact (Below.refl _ _).alloc (Nat.le_refl _) _
  have hb3 : Below w.heap.size w W3 := hb2.trans (hb23.mono hb2.size)
  have HPP := Lib.hid (HP.out W3 hb3)
  have HB3 := Lib.hid hb3
  have HK3 := Lib.hid (HK.out.later hb23)
  have HA3 := Lib.hid (HA.out.later hb23)
  clear hb3 hb23 hb2 hW3
  have HR3 := Lib.hid (fun (W : World) (hb : Below W3.heap.size W3 W) => cells7 ((hb.block _ hl3).trans hr3))
  clear hr3
  go_wp2_with fail
  refine HPP.out.mono ?_
  rintro e w4 ⟨⟨u, rfl, hu⟩, hb4⟩
  have HU := Lib.hid hu
  have hul := hu.len
  obtain ⟨au, cu, rfl, hcu, -, -⟩ := hu
  have hb4w := HB3.out.trans (hb4.mono HB3.out.size)
  have HB4 := Lib.hid hb4w
  have HK4 := Lib.hid (HK3.out.later hb4)
  have HA4 := Lib.hid (HA3.out.later hb4)
  have HR4 := Lib.hid (fun (W : World) (hb : Below w4.heap.size w4 W) => HR3.out W (hb4.trans (hb.mono hb4.size)))
  obtain ⟨p0, p1, p2, p3, p4, p5, p6⟩ := HR3.out w4 hb4
  have HRX4 := Lib.hid (HRX.out.later hb4w)
  clear hb4 hb4w
  have HF := Lib.hid (show nodesR g (keys.length + 1) id a r = [] by unfold nodesR; repeat rw [if_neg (by omega)])
  have g1 : (a == 1) = false := by simp; omega
  have g2 : (a == 2) = false := by simp; omega
  have g3 : (a == 3) = false := by simp; omega
  have g4 : (a == 4) = false := by simp; omega
  have g5 : (a == 5) = false := by simp; omega
  have g6 : (a == 6) = false := by simp; omega
  have g7 : (a == 7) = false := by simp; omega
  have g8 : (a == 8) = false := by simp; omega
  have g9 : (a == 9) = false := by simp; omega
  have g10 : (a == 10) = false := by simp; omega
  have g11 : (a == 11) = false := by simp; omega
  have g12 : (a == 12) = false := by simp; omega
  clear hno
  go_wp2_with fail
  go_ret
  exact ⟨⟨_, rfl, by rw [HF.out]; exact intsIn_nil _ _⟩, HB4.out⟩
set_option maxRecDepth 100000 in
set_option maxHeartbeats 4000000 in
theorem rnodes_none {w : World} {v : Nat} {g : Int → Option Rec} {keys : List Int} (h : Rx w v g keys) (id a : Int) (hr : g id = none) :
    Calls Try.prog 23 #[ptr v, iv id, .int .i64 a] w (RNPost w (nodesO g (keys.length + 1) id a (g id))) := by
  have HC := Lib.hid (h.n.reads w (Below.refl _ _) id)
  have HF := Lib.hid (show nodesO g (keys.length + 1) id a (g id) = [] by rw [hr]; rfl)
  rw [hr] at HC
  clear h hr
  go_enter Try.func23, Try.ntmps23
  go_wp2_with fail
  refine HC.out.mono ?_
  rintro e w2 ⟨⟨kv2, av2, rfl, hk2, ha2⟩, hb2⟩
  simp only [Option.getD_none, Option.isSome_none] at *
  obtain ⟨ka, kc, rfl, -, -, -⟩ := hk2
  obtain ⟨aa, ac, rfl, -, -, -⟩ := ha2
  go_wp2_with fail
  go_ret
  exact ⟨⟨_, rfl, by rw [HF.out]; exact intsIn_nil _ _⟩, hb2.alloc hb2.size _⟩
theorem rnodes_any {w : World} {v : Nat} {g : Int → Option Rec} {keys : List Int} (h : Rx w v g keys) (id a : Int) :
    Calls Try.prog 23 #[ptr v, iv id, .int .i64 a] w (AxPost w (nodesO g (keys.length + 1) id a (g id))) := by
  cases hr : g id with
  | none => rw [← hr]; exact rnodes_none h id a hr
  | some r =>
    rw [← hr]
    by_cases hno : 1 ≤ a ∧ a ≤ 12
    · have : a = 1 ∨ a = 2 ∨ a = 3 ∨ a = 4 ∨ a = 5 ∨ a = 6 ∨ a = 7 ∨ a = 8 ∨ a = 9 ∨ a = 10 ∨ a = 11 ∨ a = 12 := by omega
      rcases this with rfl | rfl | rfl | rfl | rfl | rfl | rfl | rfl | rfl | rfl | rfl | rfl
      · exact rnodes_1 h id hr
      · exact rnodes_2 h id hr
      · exact rnodes_3 h id hr
      · exact rnodes_4 h id hr
      · exact rnodes_5 h id hr
      · exact rnodes_6 h id hr
      · exact rnodes_7 h id hr
      · exact rnodes_8 h id hr
      · exact rnodes_9 h id hr
      · exact rnodes_10 h id hr
      · exact rnodes_11 h id hr
      · exact rnodes_12 h id hr
    · exact rnodes_no h id a hr hno
end Go.Proofs.Ytinkjhkbaadbpaa
/- Nodes (22): the program's answer is the reference's. -/
namespace Go.Proofs.Ytinkjhkbaadbpaa
open Go.RowKit
set_option linter.unusedVariables false

theorem onceF_filter (p : Int → Bool) : ∀ (xs m : List Int), xs.Nodup → (∀ x ∈ xs, x ∉ m) → xs.foldl (onceS p) m = m ++ xs.filter p
  | [], m, _, _ => by simp
  | x :: xs, m, hn, hm => by
    obtain ⟨h1, h2⟩ := List.nodup_cons.1 hn
    have hx : x ∉ m := hm x (by simp)
    rw [List.foldl_cons, List.filter_cons]
    by_cases hp : p x = true
    · have hs : onceS p m x = m ++ [x] := by unfold onceS; rw [if_pos ⟨hp, hx⟩]
      rw [hs, if_pos hp, onceF_filter p xs (m ++ [x]) h2 (fun y hy => by
        simp only [List.mem_append, List.mem_singleton, not_or]
        exact ⟨hm y (by simp [hy]), fun e => h1 (e ▸ hy)⟩)]
      simp
    · have hs : onceS p m x = m := by unfold onceS; rw [if_neg (fun h => hp h.1)]
      rw [hs, if_neg hp, onceF_filter p xs m h2 (fun y hy => hm y (by simp [hy]))]
theorem off_wout {g : Int → Option Rec} {out xs : List Int} (hn : xs.Nodup) (h : ∀ x ∈ xs, isThere g x = true) : onceF (offP g out) xs = woutF g out xs := by
  unfold onceF woutF
  rw [onceF_filter _ xs [] hn (by simp), List.nil_append]
  refine List.filter_congr fun x hx => ?_
  have := h x hx
  unfold isThere at this
  unfold offP woutP isPlain kindOf
  rw [this]
  simp
theorem all_nodup {g : Int → Option Rec} {keys : List Int} (hk : KeysOf g keys) : (allF g (keys.length + 1)).Nodup ∧ ∀ x ∈ allF g (keys.length + 1), isThere g x = true := by
  have hk2 : KeysOf g (keys.filter (isThere g)) := fun id h => List.mem_filter.2 ⟨hk id h, by unfold isThere; exact Option.isSome_iff_ne_none.2 h⟩
  have h := goS_inv hk2 (keys.length + 1) 1 false [] (GoInv.nil _)
  exact ⟨h.1, fun x hx => (List.mem_filter.1 (h.2 x hx)).2⟩
theorem behind_sub (xs : List Int) (y : Int) : (behindF xs y).Sublist xs := by
  unfold behindF
  split
  · exact List.nil_sublist _
  · exact List.drop_sublist _ _
theorem ahead_sub (xs : List Int) (y : Int) : (aheadF xs y).Sublist xs := List.take_sublist _ _
theorem Ax.rx_eq {Rb : Nat → Prop} {w : World} {v : Nat} {g : Int → Option Rec} {keys : List Int} (h : Ax Rb w v g keys) : Reads 29 w v g := h.n.reads
theorem sibL_len {g : Int → Option Rec} (hok : GOk g) (r : Rec) : (sibL g r).length * 8 ≤ 140737488351232 := by
  unfold sibL
  cases hp : g r.parent with
  | none => simp [sibO]
  | some p =>
    show (if r.kind = 3 then [] else onceF (isThere g) p.kids).length * 8 ≤ 140737488351232
    split
    · simp
    · have := onceF_len (isThere g) p.kids []
      have h2 := (hok r.parent p hp).1
      simp only [List.length_nil] at this
      unfold onceF; omega
theorem nodes_any {Rb : Nat → Prop} {w : World} {v : Nat} {g : Int → Option Rec} {keys : List Int} (h : Ax Rb w v g keys) (id a : Int) :
    Calls Try.prog 22 #[ptr v, iv id, .int .i64 a] w (AxPost w (nodesO g (keys.length + 1) id a (g id))) := by
  cases hr : g id with
  | none => exact nodes_none h.n.reads id a hr
  | some r =>
    have hok := h.ok id r hr
    obtain ⟨hn, ht⟩ := all_nodup h.ko
    have e7 : ∀ out, onceF (offP g out) (behindF (allF g (keys.length + 1)) id) = woutF g out (behindF (allF g (keys.length + 1)) id) := fun out => off_wout ((behind_sub _ _).nodup hn) (fun x hx => ht x ((behind_sub _ _).subset hx))
    have e8 : ∀ out, onceF (offP g out) (aheadF (allF g (keys.length + 1)) id) = woutF g out (aheadF (allF g (keys.length + 1)) id) := fun out => off_wout ((ahead_sub _ _).nodup hn) (fun x hx => ht x ((ahead_sub _ _).subset hx))
    by_cases hno : 1 ≤ a ∧ a ≤ 12
    · have : a = 1 ∨ a = 2 ∨ a = 3 ∨ a = 4 ∨ a = 5 ∨ a = 6 ∨ a = 7 ∨ a = 8 ∨ a = 9 ∨ a = 10 ∨ a = 11 ∨ a = 12 := by omega
      rcases this with rfl | rfl | rfl | rfl | rfl | rfl | rfl | rfl | rfl | rfl | rfl | rfl
      · exact nodes_1 h.n.reads id hr (fun W kv av hb hk ha => child_any (h.later hb).n.reads id hok hk ha)
      · exact nodes_2 h.n.reads id hr (fun W kv av hb hk ha => descendant_any (h.later hb) id r kv av)
      · exact nodes_3 h.n.reads id hr (fun W kv av hb hk ha => parent_any (h.later hb) id r kv av)
      · exact nodes_4 h.n.reads id hr (fun W kv av hb hk ha => ancestor_any (h.later hb) id r kv av)
      · exact nodes_5 h.n.reads id hr (fun W kv av hb hk ha => followSib_any (h.later hb) id r kv av hk ha)
      · exact nodes_6 h.n.reads id hr (fun W kv av hb hk ha => precSib_any (h.later hb) id r kv av hk ha (sibL_len h.ok r))
      · refine nodes_7 h.n.reads id hr (fun W kv av hb hk ha => ?_)
        have := following_any (h.later hb) id r kv av hk ha
        rw [e7] at this
        exact this
      · refine nodes_8 h.n.reads id hr (fun W kv av hb hk ha => ?_)
        have := preceding_any (h.later hb) id r kv av hk ha
        rw [e8] at this
        exact this
      · exact nodes_9 h.n.reads id hr (fun W kv av hb hk ha => attribute_any (h.later hb).n.reads id hok hk ha)
      · refine nodes_10 h.n.reads id hr (fun W kv av hb hk ha => (self_any W v id r kv av).mono ?_)
        rintro e w' ⟨⟨u, he, ho⟩, hb'⟩
        exact ⟨⟨u, he, (intsIn_row (xs := [id]) ho).old⟩, hb'⟩
      · exact nodes_11 h.n.reads id hr (fun W kv av hb hk ha => descSelf_any (h.later hb) id r kv av hk ha)
      · exact nodes_12 h.n.reads id hr (fun W kv av hb hk ha => ancSelf_any (h.later hb) id r kv av hk ha)
    · have := nodes_no h.n.reads id a hno
      have e : nodesO g (keys.length + 1) id a (some r) = [] := by
        show nodesR g (keys.length + 1) id a r = []
        unfold nodesR
        repeat rw [if_neg (by omega)]
      rw [e]
      exact this
end Go.Proofs.Ytinkjhkbaadbpaa
/- The walk of AxisGoes (3). -/
namespace Go.Proofs.Ytinkjhkbaadbpaa
open Go.RowKit
set_option linter.unusedVariables false

theorem made_gg (t : Tr) (cs : List Chn) : (⟨madeL t cs, 0⟩ : RVw).get (madeD t) = (⟨madeO t cs, 0⟩ : Vw).get (madeS t) := funext (made_get t cs)
/-- the numbers that a pair may have -/
def madeKeys (t : Tr) (cs : List Chn) : List Int := 1 :: (madeL t cs).map (·.1)
theorem fresh_at (t : Tr) (id : Int) (T : Nat) (h : id ≠ 1) : (madeD t).at id T = none := by
  have h2 : ¬ (1 = id) := fun e => h e.symm
  simp [Doc.at, Doc.look, madeD, Doc.fresh, pickE, h2]
theorem made_keys (t : Tr) (cs : List Chn) : KeysOf ((⟨madeO t cs, 0⟩ : Vw).get (madeS t)) (madeKeys t cs) := by
  intro id h
  rw [← made_get] at h
  unfold madeKeys
  by_cases h1 : id = 1
  · simp [h1]
  · refine List.mem_cons_of_mem _ ?_
    unfold RVw.get at h
    simp only at h
    rw [fresh_at t id 0 h1] at h
    cases ho : ownOf (madeL t cs) id with
    | none => rw [ho] at h; exact absurd rfl h
    | some r =>
      unfold ownOf at ho
      obtain ⟨e, he, -⟩ := Option.map_eq_some_iff.1 ho
      have h3 := List.mem_of_find?_eq_some he
      have h4 := List.find?_some he
      simp at h4
      exact List.mem_map.2 ⟨e, h3, h4⟩
set_option maxRecDepth 100000 in
set_option maxHeartbeats 4000000 in
theorem axisGoes_walk {w : World} {t : Tr} {av kv v : Value} {cs : List Chn} (id ax : Int) (hT : TrIn (Old w.heap.size) w t av kv) (hL : ChnsIn (Old w.heap.size) w v cs) (hok : ∀ c ∈ cs, RecOk c.r) (hsz : t.size ≤ 100000000) :
    Calls Try.prog 3 #[trV t av kv, v, .agg #[iv id, iv ax]] w fun e w' => e = .returned (.bool true) ∧ Below w.heap.size w w' := by
  have hT2 := hT
  obtain ⟨kind, name, text, attrs, kids⟩ := t
  simp only [TrIn] at hT2
  obtain ⟨⟨a1, c1, rfl, -, -⟩, zs, ⟨a2, c2, rfl, -, -⟩, -⟩ := hT2
  obtain ⟨a3, c3, rfl, -⟩ := id_ hL
  obtain ⟨t, ht⟩ : ∃ t, Tr.mk kind name text attrs kids = t := ⟨_, rfl⟩
  have htr : trV t (.slice a1 attrs.length c1) (.slice a2 kids.length c2) = .agg #[.int .i64 kind, .string name, .string text, .slice a1 attrs.length c1, .slice a2 kids.length c2] := by rw [← ht]; rfl
  rw [ht] at hT hsz
  obtain ⟨W0, hW0⟩ : ∃ W0, w.alloc (.cells #[.int .i64 kind, .string name, .string text, .slice a1 attrs.length c1, .slice a2 kids.length c2] 25) = W0 := ⟨_, rfl⟩
  obtain ⟨W, hW⟩ : ∃ W, W0.alloc (.cells #[iv id, iv ax] 27) = W := ⟨_, rfl⟩
  have hb0 : Below w.heap.size w W0 := by rw [← hW0]; exact (Below.refl _ _).alloc (Nat.le_refl _) _
  have hs0 : W0.heap.size = w.heap.size + 1 := by rw [← hW0]; simp
  have hb1 : Below W0.heap.size W0 W := by rw [← hW]; exact (Below.refl _ _).alloc (Nat.le_refl _) _
  have hs1 : W.heap.size = w.heap.size + 2 := by rw [← hW]; simp [hs0]
  have hx0 : W.heap[w.heap.size]? = some (.cells #[.int .i64 kind, .string name, .string text, .slice a1 attrs.length c1, .slice a2 kids.length c2] 25 (0, 0)) := (hb1.block _ (by omega)).trans (by rw [← hW0]; exact Go.heap_alloc_new _ _)
  have hx1 : W.heap[w.heap.size + 1]? = some (.cells #[iv id, iv ax] 27 (0, 0)) := by rw [← hs0, ← hW]; exact Go.heap_alloc_new _ _
  have hbB : Below w.heap.size w W := hb0.trans (hb1.mono hb0.size)
  obtain ⟨x0, x1, x2, x3, x4⟩ : W.cell? ⟨w.heap.size, 0, none⟩ = some (.int .i64 kind) ∧ W.cell? ⟨w.heap.size, 1, none⟩ = some (.string name) ∧ W.cell? ⟨w.heap.size, 2, none⟩ = some (.string text) ∧ W.cell? ⟨w.heap.size, 3, none⟩ = some (.slice a1 attrs.length c1) ∧ W.cell? ⟨w.heap.size, 4, none⟩ = some (.slice a2 kids.length c2) := by
    refine ⟨?_, ?_, ?_, ?_, ?_⟩ <;> simp [World.cell?, hx0]
  have hTW : ∀ W2, Below w.heap.size w W2 → TrIn (Old w.heap.size) W2 t (.slice a1 attrs.length c1) (.slice a2 kids.length c2) := fun W2 h2 => TrIn.keep (keeps_below h2) (fun _ h => h) _ _ _ hT
  have hLW : ∀ W2, Below w.heap.size w W2 → ChnsIn (Old w.heap.size) W2 (.slice a3 cs.length c3) cs := fun W2 h2 => hL.keep (keeps_below h2)
  have hfew := few_any (hTW W hbB) (fun k hk => by have : k < w.heap.size := hk; omega)
  rw [htr] at hfew
  have HFEW := Lib.hid hfew
  have HTW := Lib.hid hTW
  have HLW := Lib.hid hLW
  have HTR := Lib.hid htr
  have HW0 := Lib.hid hW0
  have HW := Lib.hid hW
  have HX0 := Lib.hid hx0
  have HX1 := Lib.hid hx1
  have HBB := Lib.hid hbB
  have HS1 := Lib.hid hs1
  have HOK := Lib.hid hok
  clear hT hL hok hW0 hW hb0 hs0 hb1 hs1 hx0 hx1 hbB hTW hLW hfew htr ht
  show Calls Try.prog 3 #[.agg #[.int .i64 kind, .string name, .string text, .slice a1 attrs.length c1, .slice a2 kids.length c2], .slice a3 cs.length c3, .agg #[iv id, iv ax]] w _
  go_enter Try.func3, Try.ntmps3
  go_upto_region 1 with fail
  rw [HW0.out, HW.out]
  go_wp2_with fail
  refine HFEW.out.mono ?_
  rintro e w1 ⟨⟨b, rfl⟩, hbf⟩
  have HB1 := Lib.hid (HBB.out.trans (hbf.mono HBB.out.size))
  have hs1 := hbf.size
  have hx01 := (hbf.block w.heap.size (by have := HS1.out; omega)).trans HX0.out
  have hx11 := (hbf.block (w.heap.size + 1) (by have := HS1.out; omega)).trans HX1.out
  clear hbf x0 x1 x2 x3 x4
  cases b with
  | false =>
    clear hx01 hx11
    go_wp2_with (go_at_call 19; refine (aworks_any _).mono ?_; rintro e w5 ⟨rfl, hb5⟩)
    go_ret
    exact ⟨rfl, HB1.out.trans (hb5.mono HB1.out.size)⟩
  | true =>
    obtain ⟨x0, x1, x2, x3, x4⟩ : w1.cell? ⟨w.heap.size, 0, none⟩ = some (.int .i64 kind) ∧ w1.cell? ⟨w.heap.size, 1, none⟩ = some (.string name) ∧ w1.cell? ⟨w.heap.size, 2, none⟩ = some (.string text) ∧ w1.cell? ⟨w.heap.size, 3, none⟩ = some (.slice a1 attrs.length c1) ∧ w1.cell? ⟨w.heap.size, 4, none⟩ = some (.slice a2 kids.length c2) := by
      refine ⟨?_, ?_, ?_, ?_, ?_⟩ <;> simp [World.cell?, hx01]
    have hmd := made_any (HTW.out w1 HB1.out) (HLW.out w1 HB1.out) HOK.out (fun k hk => Nat.lt_of_lt_of_le hk HB1.out.size) hsz
    rw [HTR.out] at hmd
    have HMD := Lib.hid hmd
    have HX11 := Lib.hid hx11
    clear hmd hx01 hx11
    go_wp2_with fail
    refine HMD.out.mono ?_
    rintro e w2 ⟨R, Rd, p, vv, m, s, v2, s2, rfl, hdu, hpc, hnp, hb2⟩
    obtain ⟨g, hg⟩ : ∃ g, (⟨madeO t (cs.take 12), 0⟩ : Vw).get (madeS t) = g := ⟨_, rfl⟩
    have hkl : (madeKeys t (cs.take 12)).length ≤ 1000000000 := by
      have := made_len t (cs.take 12)
      have h9 := List.length_take_le 12 cs
      unfold madeKeys
      rw [List.length_cons, List.length_map]
      omega
    have hko : KeysOf g (madeKeys t (cs.take 12)) := hg ▸ made_keys t (cs.take 12)
    obtain ⟨keys, hkeys⟩ : ∃ keys, madeKeys t (cs.take 12) = keys := ⟨_, rfl⟩
    rw [hkeys] at hkl hko
    obtain ⟨Rb, hRl, hRk⟩ := hdu.readsK (made_wf t)
    have hrn := hdu.readsN (made_wf t)
    have hgk := hdu.gok (made_wf t)
    have hrr := hdu.rreadsN (by have := made_len t (cs.take 12); have h9 := List.length_take_le 12 cs; show (madeL t (cs.take 12)).length ≤ _; omega) (by show Doc.fresh.L.length ≤ _; decide)
    rw [made_gg, hg] at hrr
    rw [hg] at hRk hrn hgk
    have hax : Ax Rb w2 vv g keys := ⟨hrn, hRk, hRl, hko, hkl, hgk⟩
    have hrx : Rx w2 v2 g keys := ⟨hrr, hko, hkl, hgk⟩
    obtain ⟨xs, hxs⟩ : ∃ xs, nodesO g (keys.length + 1) id ax (g id) = xs := ⟨_, rfl⟩
    have H22 := Lib.hid (show ∀ W2, Below w2.heap.size w2 W2 → Calls Try.prog 22 #[ptr vv, iv id, iv ax] W2 (AxPost W2 xs) from fun W2 h2 => hxs ▸ nodes_any (hax.later h2) id ax)
    have H23 := Lib.hid (show ∀ W2, Below w2.heap.size w2 W2 → Calls Try.prog 23 #[ptr v2, iv id, iv ax] W2 (AxPost W2 xs) from fun W2 h2 => hxs ▸ rnodes_any (hrx.later h2) id ax)
    have hpl : p < w2.heap.size := (Array.getElem?_eq_some_iff.1 hpc).1
    have hs2 := hb2.size
    have hx2 := (hb2.block (w.heap.size + 1) (by have := HS1.out; omega)).trans HX11.out
    have HSS := Lib.hid (show ∀ W2, Below w2.heap.size w2 W2 → W2.cell? ⟨p, 0, none⟩ = some (ptr vv) ∧ W2.cell? ⟨p, 1, none⟩ = some (ptr v2) ∧ W2.cell? ⟨w.heap.size + 1, 0, none⟩ = some (iv id) ∧ W2.cell? ⟨w.heap.size + 1, 1, none⟩ = some (iv ax) from fun W2 h2 => by
      have e1 := (h2.block p hpl).trans hpc
      have e2 := (h2.block (w.heap.size + 1) (by have := HS1.out; omega)).trans hx2
      refine ⟨?_, ?_, ?_, ?_⟩ <;> simp [World.cell?, e1, e2])
    have HB2 := Lib.hid (HB1.out.trans (hb2.mono HB1.out.size))
    clear hdu hpc hnp hb2 hrn hrr hax hrx hxs hg hx2 x0 x1 x2 x3 x4 hkl hko hkeys hRl hRk hgk
    have hcur : Below w2.heap.size w2 w2.drew := (Below.refl _ _).drew
    go_wp2_with fail
    go_region_held3 (fun w' => w'.cell? ⟨p, 0, none⟩ = some (ptr vv) ∧ w'.cell? ⟨p, 1, none⟩ = some (ptr v2) ∧ w'.cell? ⟨w.heap.size + 1, 0, none⟩ = some (iv id) ∧ w'.cell? ⟨w.heap.size + 1, 1, none⟩ = some (iv ax))
      (exact HSS.out _ hcur)
      (first
        | (go_at_call 22; refine (H22.out _ hcur).mono ?_; rintro e w4 ⟨⟨u4, rfl, ho4⟩, hb4⟩; have HO4 := Lib.hid ho4; obtain ⟨a4, c4, rfl, -, -, -⟩ := ho4; have hcur := hcur.trans (hb4.mono hcur.size); have HB4 := Lib.hid hb4; clear hb4)
        | (go_at_call 23; refine (H23.out _ hcur).mono ?_; rintro e w5 ⟨⟨u5, rfl, ho5⟩, hb5⟩; have HO5 := Lib.hid ho5; obtain ⟨a5, c5, rfl, -, -, -⟩ := ho5; have hcur := hcur.trans (hb5.mono hcur.size); have HB5 := Lib.hid hb5; clear hb5)
        | (go_at_call 21; refine (ints_same xs _ _ _ _ _ (HO4.out.later HB5.out) HO5.out).mono ?_; rintro e w6 ⟨rfl, n6, rfl⟩; have hcur := below_drewN hcur n6)
        | (go_at_call 19; refine (aworks_any _).mono ?_; rintro e w8 ⟨rfl, hb8⟩; have hcur := hcur.trans (hb8.mono hcur.size); clear hb8))
    all_goals
      go_wp2
      go_ret
      exact ⟨rfl, HB2.out.trans (hcur.mono HB2.out.size)⟩
end Go.Proofs.Ytinkjhkbaadbpaa
/- A planted tree in plain words: its numbers run in document order, each node's in one piece. -/
namespace Go.Proofs.Ytinkjhkbaadbpaa
open Go.RowKit
set_option linter.unusedVariables false

/-- a node's last number -/
def endOf (e : Int → Int) (id : Int) (r : Rec) : Int := match r.kids.getLast? with
  | some k => e k
  | none => id + r.attrs.length
abbrev OE := Owns × (Int → Int)
def putE (id : Int) (r : Rec) (s : OE) : OE := (putO id r s.1, fun j => if j = id then endOf s.2 id r else s.2 j)
def Chain (e : Int → Int) : Int → List Int → Int → Prop
  | m, [], f => f = m
  | m, k :: ks, f => k = m + 1 ∧ k ≤ e k ∧ Chain e (e k) ks f
theorem Chain.le {e : Int → Int} : ∀ {m : Int} {ks : List Int} {f : Int}, Chain e m ks f → m ≤ f ∧ ∀ k ∈ ks, m < k ∧ k ≤ e k ∧ e k ≤ f
  | m, [], f, h => ⟨Int.le_of_eq h.symm, by simp⟩
  | m, k :: ks, f, ⟨h1, h2, h3⟩ => by
    obtain ⟨h4, h5⟩ := h3.le
    refine ⟨by omega, fun j hj => ?_⟩
    rcases List.mem_cons.1 hj with rfl | hj
    · exact ⟨by omega, h2, h4⟩
    · have := h5 j hj; exact ⟨by omega, this.2.1, this.2.2⟩
theorem Chain.congr {e e' : Int → Int} : ∀ {m : Int} {ks : List Int} {f : Int}, Chain e m ks f → (∀ k ∈ ks, e' k = e k) → Chain e' m ks f
  | m, [], f, h, _ => h
  | m, k :: ks, f, ⟨h1, h2, h3⟩, hc => by
    have hk := hc k (by simp)
    exact ⟨h1, by rw [hk]; exact h2, by rw [hk]; exact h3.congr (fun j hj => hc j (by simp [hj]))⟩
theorem Chain.append {e : Int → Int} : ∀ {m : Int} {ks : List Int} {f : Int} {ls : List Int} {f' : Int}, Chain e m ks f → Chain e f ls f' → Chain e m (ks ++ ls) f'
  | m, [], f, ls, f', h, h' => by obtain rfl : f = m := h; exact h'
  | m, k :: ks, f, ls, f', ⟨h1, h2, h3⟩, h' => ⟨h1, h2, h3.append h'⟩
theorem Chain.last {e : Int → Int} : ∀ {m : Int} {ks : List Int} {f : Int}, Chain e m ks f → f = (ks.getLast?.map e).getD m
  | m, [], f, h => h
  | m, [k], f, ⟨h1, h2, h3⟩ => by simpa using (show f = e k from h3)
  | m, k :: k' :: ks, f, ⟨h1, h2, h3⟩ => by
    have := h3.last
    rw [this]
    simp [List.getLast?_cons]
structure NodeOk (s : OE) (id : Int) (r : Rec) : Prop where
  gone : r.gone = false
  attrs : r.attrs = (List.range r.attrs.length).map (fun (i : Nat) => id + 1 + (i : Int))
  chain : Chain s.2 (id + r.attrs.length) r.kids (s.2 id)
  at_ : ∀ a ∈ r.attrs, ∃ ra, s.1 a = some ra ∧ ra.parent = id ∧ ra.kind = 3
  kd : ∀ k ∈ r.kids, ∃ rk, s.1 k = some rk ∧ rk.parent = id ∧ rk.kind ≠ 3
  leaf : r.kind = 3 → r.attrs = [] ∧ r.kids = []
theorem NodeOk.attr_mem {s : OE} {id : Int} {r : Rec} (h : NodeOk s id r) (a : Int) : a ∈ r.attrs ↔ id < a ∧ a ≤ id + r.attrs.length := by
  rw [h.attrs]
  simp only [List.mem_map, List.mem_range, List.length_map, List.length_range]
  constructor
  · rintro ⟨i, hi, rfl⟩; omega
  · rintro ⟨h1, h2⟩; exact ⟨(a - id - 1).toNat, by omega, by omega⟩
def Span (s : OE) (lo hi : Int) : Prop := ∀ id, lo < id → id ≤ hi → ∃ r, s.1 id = some r ∧ NodeOk s id r ∧ s.2 id ≤ hi
def SameOn (s s' : OE) (lo hi : Int) : Prop := ∀ j, lo < j → j ≤ hi → s'.1 j = s.1 j ∧ s'.2 j = s.2 j
theorem Span.frame {s s' : OE} {lo hi : Int} (h : Span s lo hi) (hf : SameOn s s' lo hi) : Span s' lo hi := by
  intro id h1 h2
  obtain ⟨r, hr, hn, he⟩ := h id h1 h2
  obtain ⟨f1, f2⟩ := hf id h1 h2
  have hc := hn.chain.le
  refine ⟨r, f1.trans hr, ⟨hn.gone, hn.attrs, ?_, ?_, ?_, hn.leaf⟩, by rw [f2]; exact he⟩
  · rw [f2]
    exact hn.chain.congr (fun k hk => (hf k (by have := hc.2 k hk; omega) (by have := hc.2 k hk; omega)).2)
  · intro a ha
    have := (hn.attr_mem a).1 ha
    obtain ⟨ra, h3, h4⟩ := hn.at_ a ha
    exact ⟨ra, (hf a (by omega) (by omega)).1.trans h3, h4⟩
  · intro k hk
    have := hc.2 k hk
    obtain ⟨rk, h3, h4⟩ := hn.kd k hk
    exact ⟨rk, (hf k (by omega) (by omega)).1.trans h3, h4⟩
theorem Span.join {s : OE} {lo mi hi : Int} (h : Span s lo mi) (h' : Span s mi hi) (hm : mi ≤ hi) : Span s lo hi := by
  intro id h1 h2
  by_cases hc : id ≤ mi
  · obtain ⟨r, h3, h4, h5⟩ := h id h1 hc
    exact ⟨r, h3, h4, by omega⟩
  · exact h' id (by omega) h2
/-- all is as it was but what lies in (lo, hi] -/
def OutSame (s s' : OE) (lo hi : Int) : Prop := ∀ j, ¬ (lo < j ∧ j ≤ hi) → s'.1 j = s.1 j ∧ s'.2 j = s.2 j
theorem putE_other {id : Int} {r : Rec} {s : OE} {j : Int} (h : j ≠ id) : (putE id r s).1 j = s.1 j ∧ (putE id r s).2 j = s.2 j := by
  simp [putE, putO, h]
theorem plantAs_ok (id : Int) : ∀ (al : List (ByteArray × ByteArray)) (g : Int) (s : OE) (ns : List Int),
    (plantAs putE id al (g, s, ns)).1 = g + al.length ∧ (plantAs putE id al (g, s, ns)).2.2 = ns ++ (List.range al.length).map (fun (i : Nat) => g + 1 + (i : Int)) ∧
    OutSame s (plantAs putE id al (g, s, ns)).2.1 g (g + al.length) ∧
    ∀ j, g < j → j ≤ g + al.length → ∃ ra, (plantAs putE id al (g, s, ns)).2.1.1 j = some ra ∧ ra.parent = id ∧ ra.kind = 3 ∧ ra.attrs = [] ∧ ra.kids = [] ∧ ra.gone = false ∧ (plantAs putE id al (g, s, ns)).2.1.2 j = j
  | [], g, s, ns => ⟨by simp [plantAs], by simp [plantAs], fun j hj => ⟨rfl, rfl⟩, fun j h1 h2 => by simp at h2; omega⟩
  | p :: ps, g, s, ns => by
    obtain ⟨h1, h2, h3, h4⟩ := plantAs_ok id ps (g + 1) (putE (g + 1) ⟨3, p.1, p.2, id, [], [], false⟩ s) (ns ++ [g + 1])
    simp only [plantAs, List.length_cons]
    refine ⟨by rw [h1]; omega, ?_, fun j hj => ?_, fun j hj1 hj2 => ?_⟩
    · rw [h2, List.range_succ_eq_map, List.map_cons, List.map_map, List.append_assoc]
      congr 1
      simp only [List.singleton_append, List.cons.injEq]
      refine ⟨by simp, ?_⟩
      refine List.map_congr_left fun i _ => ?_
      simp only [Function.comp]
      omega
    · obtain ⟨f1, f2⟩ := h3 j (by omega)
      obtain ⟨f3, f4⟩ := putE_other (id := g + 1) (r := ⟨3, p.1, p.2, id, [], [], false⟩) (s := s) (j := j) (by omega)
      exact ⟨f1.trans f3, f2.trans f4⟩
    · by_cases hj : j = g + 1
      · subst hj
        obtain ⟨f1, f2⟩ := h3 (g + 1) (by omega)
        exact ⟨⟨3, p.1, p.2, id, [], [], false⟩, f1.trans (by simp [putE, putO]), rfl, rfl, rfl, rfl, rfl, f2.trans (by simp [putE, endOf])⟩
      · exact h4 j (by omega) (by omega)
def TOk (g : Int) (s : OE) (parent : Int) (st : Int × Int × OE) : Prop :=
  (st.1 = 0 ∧ st.2 = (g, s)) ∨ (st.1 = g + 1 ∧ g + 1 ≤ st.2.1 ∧ st.2.2.2 (g + 1) = st.2.1 ∧ Span st.2.2 g st.2.1 ∧ (∃ r, st.2.2.1 (g + 1) = some r ∧ r.parent = max parent 0 ∧ r.kind ≠ 3) ∧ OutSame s st.2.2 g st.2.1)
def KOk (g : Int) (s : OE) (ns : List Int) (id : Int) (st : Int × OE × List Int) : Prop :=
  g ≤ st.1 ∧ ∃ ks, st.2.2 = ns ++ ks ∧ Chain st.2.1.2 g ks st.1 ∧ Span st.2.1 g st.1 ∧ (∀ k ∈ ks, ∃ rk, st.2.1.1 k = some rk ∧ rk.parent = max id 0 ∧ rk.kind ≠ 3) ∧ OutSame s st.2.1 g st.1
mutual
theorem plantT_ok : ∀ (t : Tr) (parent g : Int) (s : OE), 0 ≤ g → TOk g s parent (plantT putE t parent (g, s))
  | .mk kind name text attrs kids, parent, g, s, hg => by
    rw [plantT_eq]
    split
    · rename_i hpl
      right
      obtain ⟨a1, a2, a3, a4⟩ := plantAs_ok (g + 1) attrs (g + 1) s []
      obtain ⟨k1, ks0, k2, k3, k4, k5, k6⟩ := plantKs_ok kids (g + 1) (plantAs putE (g + 1) attrs (g + 1, s, [])).1 (plantAs putE (g + 1) attrs (g + 1, s, [])).2.1 [] (by rw [a1]; omega)
      simp only [plK, plA]
      obtain ⟨g1, hg1⟩ : ∃ g1, (plantAs putE (g + 1) attrs (g + 1, s, [])).1 = g1 := ⟨_, rfl⟩
      obtain ⟨s1, hs1⟩ : ∃ s1, (plantAs putE (g + 1) attrs (g + 1, s, [])).2.1 = s1 := ⟨_, rfl⟩
      obtain ⟨al, hal⟩ : ∃ al, (plantAs putE (g + 1) attrs (g + 1, s, [])).2.2 = al := ⟨_, rfl⟩
      rw [hg1] at a1
      rw [hal] at a2
      rw [hs1] at a3 a4
      rw [hg1, hs1] at k1 k2 k3 k4 k5 k6
      rw [hg1, hs1, hal]
      obtain ⟨st, hst⟩ : ∃ st, plantKs putE kids (g + 1) (g1, s1, []) = st := ⟨_, rfl⟩
      rw [hst] at k1 k2 k3 k4 k5 k6 ⊢
      obtain ⟨g2, s2, ks⟩ := st
      simp only [List.nil_append] at k1 k2 k3 k4 k5 k6 a2 ⊢
      subst k2
      have hall : al.length = attrs.length := by rw [a2]; simp
      have hend : endOf s2.2 (g + 1) ⟨kind, name, text, max parent 0, ks, al, false⟩ = g2 := by
        have := k3.last
        unfold endOf
        simp only
        cases hl : ks.getLast? with
        | none => rw [hl] at this; simp at this; simp only [hall]; omega
        | some k => rw [hl] at this; simpa using this.symm
      have hmax : max (g + 1) 0 = g + 1 := by omega
      have hself1 : (putE (g + 1) ⟨kind, name, text, max parent 0, ks, al, false⟩ s2).1 (g + 1) = some ⟨kind, name, text, max parent 0, ks, al, false⟩ := by simp [putE, putO]
      have hself2 : (putE (g + 1) ⟨kind, name, text, max parent 0, ks, al, false⟩ s2).2 (g + 1) = g2 := by simp only [putE, if_pos]; exact hend
      have hoth : ∀ j, j ≠ g + 1 → (putE (g + 1) ⟨kind, name, text, max parent 0, ks, al, false⟩ s2).1 j = s2.1 j ∧ (putE (g + 1) ⟨kind, name, text, max parent 0, ks, al, false⟩ s2).2 j = s2.2 j := fun j hj => putE_other hj
      generalize putE (g + 1) ⟨kind, name, text, max parent 0, ks, al, false⟩ s2 = s3 at *
      have hkind : kind ≠ 3 := by intro e; subst e; simp [plants] at hpl
      have hkle := k3.le
      have hattr : ∀ j, g + 1 < j → j ≤ g1 → ∃ ra, s3.1 j = some ra ∧ ra.parent = g + 1 ∧ ra.kind = 3 ∧ ra.attrs = [] ∧ ra.kids = [] ∧ ra.gone = false ∧ s3.2 j = j := fun j h1 h2 => by
        obtain ⟨ra, b1, b2, b3, b4, b5, b6, b7⟩ := a4 j h1 (by omega)
        have f1 := hoth j (by omega)
        have f2 := k6 j (by omega)
        exact ⟨ra, (f1.1.trans f2.1).trans b1, b2, b3, b4, b5, b6, (f1.2.trans f2.2).trans b7⟩
      refine ⟨by first | rfl | trivial, by omega, hself2, ?_, ⟨_, hself1, rfl, hkind⟩, fun j hj => ?_⟩
      · intro j h1 h2
        by_cases hj1 : j = g + 1
        · subst hj1
          refine ⟨_, hself1, ⟨rfl, ?_, ?_, ?_, ?_, fun h => absurd h hkind⟩, by rw [hself2]; exact Int.le_refl _⟩
          · show al = (List.range al.length).map _
            rw [hall]; exact a2
          · rw [hself2]
            show Chain s3.2 (g + 1 + (al.length : Int)) ks g2
            rw [hall, ← a1]
            exact k3.congr (fun k hk => (hoth k (by have := hkle.2 k hk; omega)).2)
          · intro a ha
            have ha' : a ∈ al := ha
            rw [a2] at ha'
            obtain ⟨i, hi, rfl⟩ := List.mem_map.1 ha'
            have := List.mem_range.1 hi
            obtain ⟨ra, b1, b2, b3, -⟩ := hattr (g + 1 + 1 + (i : Int)) (by omega) (by omega)
            exact ⟨ra, b1, b2, b3⟩
          · intro k hk
            have hk' : k ∈ ks := hk
            have := hkle.2 k hk'
            obtain ⟨rk, b1, b2, b3⟩ := k5 k hk'
            exact ⟨rk, (hoth k (by omega)).1.trans b1, by rw [b2, hmax], b3⟩
        · by_cases hj2 : j ≤ g1
          · obtain ⟨ra, b1, b2, b3, b4, b5, b6, b7⟩ := hattr j (by omega) hj2
            refine ⟨ra, b1, ⟨b6, by rw [b4]; rfl, ?_, by rw [b4]; simp, by rw [b5]; simp, fun _ => ⟨b4, b5⟩⟩, by rw [b7]; omega⟩
            rw [b4, b5]
            show s3.2 j = j + ((0 : Nat) : Int)
            rw [b7]; simp
          · exact (k4.frame (s' := s3) (fun i hi1 hi2 => hoth i (by omega))) j (by omega) h2
      · have f1 := hoth j (by omega)
        have f2 := k6 j (by omega)
        have f3 := a3 j (by omega)
        exact ⟨f1.1.trans (f2.1.trans f3.1), f1.2.trans (f2.2.trans f3.2)⟩
    · exact .inl ⟨rfl, rfl⟩
theorem plantKs_ok : ∀ (ts : List Tr) (id g : Int) (s : OE) (ns : List Int), 0 ≤ g → KOk g s ns id (plantKs putE ts id (g, s, ns))
  | [], id, g, s, ns, hg => by
    simp only [plantKs]
    exact ⟨Int.le_refl _, [], by simp, rfl, fun j h1 h2 => by omega, by simp, fun j hj => ⟨rfl, rfl⟩⟩
  | t :: ts, id, g, s, ns, hg => by
    have hT := plantT_ok t id g s hg
    rw [plantKs_cons]
    simp only [plantK]
    rcases hT with ⟨h1, h2⟩ | ⟨h1, h2, h3, h4, h5, h6⟩
    · rw [h1, h2]
      simpa using plantKs_ok ts id g s ns hg
    · obtain ⟨k1, ks, k2, k3, k4, k5, k6⟩ := plantKs_ok ts id (plantT putE t id (g, s)).2.1 (plantT putE t id (g, s)).2.2 (ns ++ [g + 1]) (by omega)
      rw [h1, if_pos (by omega)]
      refine ⟨by omega, (g + 1) :: ks, ?_, ?_, ?_, ?_, ?_⟩
      · rw [k2]; simp
      · have := k6 (g + 1) (by omega)
        exact ⟨rfl, by rw [this.2, h3]; exact h2, by rw [this.2, h3]; exact k3⟩
      · exact (h4.frame (fun j hj1 hj2 => k6 j (by omega))).join k4 k1
      · intro k hk
        rcases List.mem_cons.1 hk with rfl | hk
        · obtain ⟨r, hr, h7⟩ := h5
          exact ⟨r, (k6 (g + 1) (by omega)).1.trans hr, h7⟩
        · exact k5 k hk
      · intro j hj
        have f1 := k6 j (by omega)
        have f2 := h6 j (by omega)
        exact ⟨f1.1.trans f2.1, f1.2.trans f2.2⟩
end
end Go.Proofs.Ytinkjhkbaadbpaa
/- A planted tree: what is gone through is one piece of numbers; what is above a node. -/
namespace Go.Proofs.Ytinkjhkbaadbpaa
open Go.RowKit
set_option linter.unusedVariables false

/-- g is a tree with the numbers 1 .. N -/
structure Tree (g : Int → Option Rec) (e : Int → Int) (N : Int) : Prop where
  span : Span (g, e) 0 N
  out : ∀ j, ¬ (0 < j ∧ j ≤ N) → g j = none
  one : 1 ≤ N
  root : ∃ r, g 1 = some r ∧ r.parent = 0 ∧ r.kind ≠ 3
  e1 : e 1 = N
theorem Chain.find {e : Int → Int} : ∀ {m : Int} {ks : List Int} {f : Int} {b : Int}, Chain e m ks f → m < b → b ≤ f → ∃ k ∈ ks, k ≤ b ∧ b ≤ e k
  | m, [], f, b, h, h1, h2 => by obtain rfl : f = m := h; omega
  | m, k :: ks, f, b, ⟨h1, h2, h3⟩, h4, h5 => by
    by_cases hb : b ≤ e k
    · exact ⟨k, by simp, by omega, hb⟩
    · obtain ⟨j, hj, h6⟩ := h3.find (by omega) h5
      exact ⟨j, by simp [hj], h6⟩
section
variable {g : Int → Option Rec} {e : Int → Int} {N : Int}
theorem Tree.node (h : Tree g e N) {id : Int} (h1 : 0 < id) (h2 : id ≤ N) : ∃ r, g id = some r ∧ NodeOk (g, e) id r ∧ id ≤ e id ∧ e id ≤ N := by
  obtain ⟨r, hr, hn, he⟩ := h.span id h1 h2
  have := hn.chain.le.1
  exact ⟨r, hr, hn, by simp only at this; omega, he⟩
theorem Tree.is (h : Tree g e N) {id : Int} {r : Rec} (hr : g id = some r) : 0 < id ∧ id ≤ N ∧ NodeOk (g, e) id r ∧ id ≤ e id ∧ e id ≤ N := by
  by_cases hc : 0 < id ∧ id ≤ N
  · obtain ⟨r', hr', h1, h2, h3⟩ := h.node hc.1 hc.2
    rw [hr] at hr'; cases hr'
    exact ⟨hc.1, hc.2, h1, h2, h3⟩
  · rw [h.out id hc] at hr; cases hr
/-- who stands in a node's piece has its parent there -/
theorem Tree.par (h : Tree g e N) : ∀ (n : Nat) (a b : Int), 0 < a → a ≤ N → a < b → b ≤ e a → (e a - a).toNat ≤ n →
    ∃ p rp rb, a ≤ p ∧ p < b ∧ b ≤ e p ∧ e p ≤ e a ∧ g p = some rp ∧ g b = some rb ∧ rb.parent = p ∧ ((b ∈ rp.attrs ∧ rb.kind = 3) ∨ (b ∈ rp.kids ∧ rb.kind ≠ 3))
  | 0, a, b, h1, h2, h3, h4, h5 => by omega
  | n + 1, a, b, h1, h2, h3, h4, h5 => by
    obtain ⟨r, hr, hn, he, heN⟩ := h.node h1 h2
    by_cases hb : b ≤ a + r.attrs.length
    · have hm := (hn.attr_mem b).2 ⟨h3, hb⟩
      obtain ⟨rb, hrb, h6, h7⟩ := hn.at_ b hm
      exact ⟨a, r, rb, Int.le_refl _, h3, h4, Int.le_refl _, hr, hrb, h6, .inl ⟨hm, h7⟩⟩
    · obtain ⟨k, hk, h6, h7⟩ := hn.chain.find (b := b) (by omega) h4
      obtain ⟨h8, h9, h10⟩ := hn.chain.le.2 k hk
      simp only at h7 h9 h10
      obtain ⟨rk, hrk, h11, h12⟩ := hn.kd k hk
      by_cases hbk : b = k
      · subst hbk
        exact ⟨a, r, rk, Int.le_refl _, h3, h4, Int.le_refl _, hr, hrk, h11, .inr ⟨hk, h12⟩⟩
      · obtain ⟨p, rp, rb, q1, q2, q3, q4, q5⟩ := h.par n k b (by omega) (by omega) (by omega) h7 (by omega)
        exact ⟨p, rp, rb, by omega, q2, q3, by omega, q5⟩
/-- the parent of a node that is not the first -/
theorem Tree.up1 (h : Tree g e N) {b : Int} {rb : Rec} (hb : g b = some rb) (h1 : b ≠ 1) : ∃ rp, g rb.parent = some rp ∧ 0 < rb.parent ∧ rb.parent < b ∧ b ≤ e rb.parent ∧ ((b ∈ rp.attrs ∧ rb.kind = 3) ∨ (b ∈ rp.kids ∧ rb.kind ≠ 3)) := by
  obtain ⟨h2, h3, -⟩ := h.is hb
  obtain ⟨p, rp, rb', q1, q2, q3, q4, q5, q6, q7, q8⟩ := h.par _ 1 b (by omega) h.one (by omega) (by rw [h.e1]; exact h3) (Nat.le_refl _)
  rw [hb] at q6; cases q6
  subst q7
  exact ⟨rp, q5, by omega, q2, q3, q8⟩
theorem Tree.nest (h : Tree g e N) {a b : Int} {rb : Rec} (ha : 0 < a) (haN : a ≤ N) (h1 : a < b) (h2 : b ≤ e a) (hb : g b = some rb) : a ≤ rb.parent ∧ rb.parent ≤ e a := by
  obtain ⟨p, rp, rb', q1, q2, q3, q4, q5, q6, q7, q8⟩ := h.par _ a b ha haN h1 h2 (Nat.le_refl _)
  rw [hb] at q6; cases q6
  subst q7
  exact ⟨q1, by omega⟩
theorem Tree.leaf (h : Tree g e N) {b : Int} {rb : Rec} (hb : g b = some rb) (hk : rb.kind = 3) : e b = b := by
  obtain ⟨-, -, hn, -⟩ := h.is hb
  obtain ⟨h1, h2⟩ := hn.leaf hk
  have := hn.chain
  rw [h1, h2] at this
  have h3 : e b = b + ((0 : Nat) : Int) := this
  simpa using h3
/-- a node's piece holds the pieces of those in it -/
theorem Tree.inside (h : Tree g e N) : ∀ (n : Nat) (a b : Int), 0 < a → a ≤ N → a < b → b ≤ e a → (e a - a).toNat ≤ n → e b ≤ e a
  | 0, a, b, h1, h2, h3, h4, h5 => by omega
  | n + 1, a, b, h1, h2, h3, h4, h5 => by
    obtain ⟨r, hr, hn, he, heN⟩ := h.node h1 h2
    by_cases hb : b ≤ a + r.attrs.length
    · have hm := (hn.attr_mem b).2 ⟨h3, hb⟩
      obtain ⟨rb, hrb, h6, h7⟩ := hn.at_ b hm
      rw [h.leaf hrb h7]; exact h4
    · obtain ⟨k, hk, h6, h7⟩ := hn.chain.find (b := b) (by omega) h4
      obtain ⟨h8, h9, h10⟩ := hn.chain.le.2 k hk
      simp only at h7 h9 h10
      by_cases hbk : b = k
      · subst hbk; exact h10
      · have := h.inside n k b (by omega) (by omega) (by omega) h7 (by omega)
        omega
/-- x is p or above it -/
def Abv (e : Int → Int) (x p : Int) : Prop := 0 < x ∧ x ≤ p ∧ p ≤ e x
theorem Tree.abv_step (h : Tree g e N) {p : Int} {r : Rec} (hp : g p = some r) (x : Int) : Abv e x p ↔ x = p ∨ Abv e x r.parent := by
  obtain ⟨h1, h2, h3, h4, h5⟩ := h.is hp
  constructor
  · rintro ⟨a1, a2, a3⟩
    by_cases hx : x = p
    · exact .inl hx
    · have := h.nest a1 (by omega) (by omega) a3 hp
      exact .inr ⟨a1, this.1, this.2⟩
  · rintro (rfl | ⟨a1, a2, a3⟩)
    · exact ⟨h1, Int.le_refl _, h4⟩
    · by_cases hp1 : p = 1
      · subst hp1
        obtain ⟨r', hr', h6, -⟩ := h.root
        rw [hp] at hr'; cases hr'
        omega
      · obtain ⟨rp, b1, b2, b3, b4, -⟩ := h.up1 hp hp1
        obtain ⟨rx, hrx, hnx, hx1, hx2⟩ := h.node a1 (by have := h.is b1; omega)
        refine ⟨a1, by omega, ?_⟩
        by_cases hxp : x = r.parent
        · rw [hxp]; exact b4
        · -- the parent's piece lies in x's
          have := h.inside _ x r.parent a1 (by have := h.is b1; omega) (by omega) a3 (Nat.le_refl _)
          omega
theorem Tree.up_list (h : Tree g e N) (id : Int) : ∀ (n : Nat) (l : List Int) (p : Int), (∀ x ∈ l, p < x) → 0 ≤ p → p ≤ N → p < id → p.toNat < n + 1 →
    ∃ ls, upS g n id l p = l ++ ls ∧ ls.Pairwise (· > ·) ∧ ∀ x, x ∈ ls ↔ Abv e x p
  | 0, l, p, h1, h2, h3, h4, h5 => by
    obtain rfl : p = 0 := by omega
    exact ⟨[], by simp [upS], List.Pairwise.nil, fun x => ⟨by simp, fun ⟨a1, a2, a3⟩ => by omega⟩⟩
  | n + 1, l, p, h1, h2, h3, h4, h5 => by
    by_cases hp0 : p = 0
    · subst hp0
      have hn : g 0 = none := h.out 0 (by omega)
      exact ⟨[], by rw [upS, hn]; simp, List.Pairwise.nil, fun x => ⟨by simp, fun ⟨a1, a2, a3⟩ => by omega⟩⟩
    · obtain ⟨r, hr, hn, he, heN⟩ := h.node (id := p) (by omega) h3
      have hpl : ¬ (p = id ∨ p ∈ l) := by
        rintro (rfl | hm)
        · omega
        · have := h1 p hm; omega
      have hpar : 0 ≤ r.parent ∧ r.parent < p := by
        by_cases hp1 : p = 1
        · subst hp1
          obtain ⟨r', hr', h6, -⟩ := h.root
          rw [hr] at hr'; cases hr'
          omega
        · obtain ⟨rp, b1, b2, b3, -⟩ := h.up1 hr hp1
          omega
      obtain ⟨ls, e1, e2, e3⟩ := h.up_list id n (l ++ [p]) r.parent (fun x hx => by
        rcases List.mem_append.1 hx with hx | hx
        · have := h1 x hx; omega
        · simp at hx; subst hx; exact hpar.2) hpar.1 (by omega) (by omega) (by omega)
      refine ⟨p :: ls, by rw [upS, hr]; simp only; rw [if_neg hpl, e1]; simp, List.pairwise_cons.2 ⟨fun x hx => ?_, e2⟩, fun x => ?_⟩
      · have := (e3 x).1 hx
        have := this.2.1
        omega
      · rw [List.mem_cons, e3 x, h.abv_step hr x]
/-- what is above a node: falling, and just who has it in its piece -/
theorem Tree.up (h : Tree g e N) {K : Nat} (hK : N < K) {b : Int} {rb : Rec} (hb : g b = some rb) : (upF g K b).Pairwise (· > ·) ∧ ∀ x, x ∈ upF g K b ↔ 0 < x ∧ x < b ∧ b ≤ e x := by
  obtain ⟨h1, h2, hn, h4, h5⟩ := h.is hb
  have hpar : 0 ≤ rb.parent ∧ rb.parent < b := by
    by_cases hp1 : b = 1
    · subst hp1
      obtain ⟨r', hr', h6, -⟩ := h.root
      rw [hb] at hr'; cases hr'
      omega
    · obtain ⟨rp, b1, b2, b3, -⟩ := h.up1 hb hp1
      omega
  obtain ⟨ls, e1, e2, e3⟩ := h.up_list b K [] rb.parent (by simp) hpar.1 (by omega) hpar.2 (by omega)
  have e4 : upF g K b = ls := by rw [upF_eq, hb]; exact e1
  rw [e4]
  refine ⟨e2, fun x => ?_⟩
  rw [e3 x]
  have := h.abv_step hb x
  constructor
  · intro hx
    obtain ⟨a1, a2, a3⟩ := this.2 (.inr hx)
    exact ⟨a1, by have := hx.2.1; omega, a3⟩
  · rintro ⟨a1, a2, a3⟩
    rcases this.1 ⟨a1, by omega, a3⟩ with hx | hx
    · omega
    · exact hx
end
end Go.Proofs.Ytinkjhkbaadbpaa
/- A planted tree: what is gone through, as a run of numbers. -/
namespace Go.Proofs.Ytinkjhkbaadbpaa
open Go.RowKit
set_option linter.unusedVariables false

def isAttr (g : Int → Option Rec) (j : Int) : Bool := decide (((g j).getD Rec.zero).kind = 3)
/-- the numbers behind lo up to hi, and whether each is an attribute's -/
def segL (g : Int → Option Rec) (lo hi : Int) : List (Int × Bool) := (List.range (hi - lo).toNat).map (fun (i : Nat) => (lo + 1 + (i : Int), isAttr g (lo + 1 + (i : Int))))
theorem segL_nil (g : Int → Option Rec) (lo : Int) : segL g lo lo = [] := by simp [segL]
theorem segL_append (g : Int → Option Rec) {lo mi hi : Int} (h1 : lo ≤ mi) (h2 : mi ≤ hi) : segL g lo mi ++ segL g mi hi = segL g lo hi := by
  unfold segL
  have e : (hi - lo).toNat = (mi - lo).toNat + (hi - mi).toNat := by omega
  rw [e, List.range_add, List.map_append, List.map_map]
  congr 1
  refine List.map_congr_left fun i _ => ?_
  simp only [Function.comp]
  have : mi + 1 + (i : Int) = lo + 1 + (((mi - lo).toNat + i : Nat) : Int) := by omega
  rw [this]
theorem segL_one (g : Int → Option Rec) (lo : Int) : segL g lo (lo + 1) = [(lo + 1, isAttr g (lo + 1))] := by
  have e : (lo + 1 - lo).toNat = 1 := by omega
  unfold segL
  rw [e]
  simp
theorem segL_mem (g : Int → Option Rec) {lo hi : Int} (x : Int) (b : Bool) : (x, b) ∈ segL g lo hi ↔ lo < x ∧ x ≤ hi ∧ b = isAttr g x := by
  unfold segL
  simp only [List.mem_map, List.mem_range, Prod.mk.injEq]
  constructor
  · rintro ⟨i, hi, rfl, rfl⟩; exact ⟨by omega, by omega, rfl⟩
  · rintro ⟨h1, h2, rfl⟩
    exact ⟨(x - lo - 1).toNat, by omega, by omega, by rw [show lo + 1 + ((x - lo - 1).toNat : Int) = x by omega]⟩
theorem segL_fst (g : Int → Option Rec) {lo hi : Int} (x : Int) : x ∈ (segL g lo hi).map (·.1) ↔ lo < x ∧ x ≤ hi := by
  constructor
  · intro h
    obtain ⟨⟨y, b⟩, h1, rfl⟩ := List.mem_map.1 h
    have := (segL_mem g y b).1 h1
    exact ⟨this.1, this.2.1⟩
  · rintro ⟨h1, h2⟩
    exact List.mem_map.2 ⟨(x, isAttr g x), (segL_mem g x _).2 ⟨h1, h2, rfl⟩, rfl⟩
theorem segL_rise (g : Int → Option Rec) (lo hi : Int) : ((segL g lo hi).map (·.1)).Pairwise (· < ·) := by
  unfold segL
  rw [List.map_map, List.pairwise_map]
  exact List.pairwise_lt_range.imp (fun h => by simp only [Function.comp]; omega)
section
variable {g : Int → Option Rec} {e : Int → Int} {N : Int}
theorem isAttr_eq {j : Int} {r : Rec} (h : g j = some r) : isAttr g j = decide (r.kind = 3) := by unfold isAttr; rw [h]; rfl
/-- the attributes, one by one -/
theorem attrs_fold (h : Tree g e N) (n : Nat) (hn : ∀ a ra acc, g a = some ra → ra.kind = 3 → (∀ x ∈ acc.map (·.1), x < a) → goS g n a true acc = acc ++ segL g (a - 1) (e a)) :
    ∀ (k : Nat) (m : Int) (acc : List (Int × Bool)), (∀ i : Nat, i < k → ∃ ra, g (m + 1 + (i : Int)) = some ra ∧ ra.kind = 3) → (∀ x ∈ acc.map (·.1), x ≤ m) →
      ((List.range k).map (fun (i : Nat) => m + 1 + (i : Int))).foldl (fun a x => goS g n x true a) acc = acc ++ segL g m (m + k)
  | 0, m, acc, h1, h2 => by simp [segL]
  | k + 1, m, acc, h1, h2 => by
    rw [List.range_succ, List.map_append, List.foldl_append, attrs_fold h n hn k m acc (fun i hi => h1 i (by omega)) h2]
    obtain ⟨ra, hra, hk⟩ := h1 k (by omega)
    simp only [List.map_cons, List.map_nil, List.foldl_cons, List.foldl_nil]
    rw [hn _ ra _ hra hk (fun x hx => by
      rw [List.map_append, List.mem_append] at hx
      rcases hx with hx | hx
      · have := h2 x hx; omega
      · have := (segL_fst g x).1 hx; omega), h.leaf hra hk, List.append_assoc]
    congr 1
    rw [show m + 1 + (k : Int) - 1 = m + k by omega, segL_append g (by omega) (by omega)]
    congr 1
    omega
theorem kids_fold (h : Tree g e N) (n : Nat) (hn : ∀ a ra acc, g a = some ra → ra.kind ≠ 3 → (e a - a).toNat < n → (∀ x ∈ acc.map (·.1), x < a) → goS g n a false acc = acc ++ segL g (a - 1) (e a)) :
    ∀ (ks : List Int) (m f : Int) (acc : List (Int × Bool)), Chain e m ks f → (∀ k ∈ ks, ∃ rk, g k = some rk ∧ rk.kind ≠ 3) → (f - m).toNat ≤ n → (∀ x ∈ acc.map (·.1), x ≤ m) →
      ks.foldl (fun a x => goS g n x false a) acc = acc ++ segL g m f
  | [], m, f, acc, hc, h1, hf, h2 => by obtain rfl : f = m := hc; simp [segL]
  | k :: ks, m, f, acc, ⟨c1, c2, c3⟩, h1, hf, h2 => by
    obtain ⟨rk, hrk, hk⟩ := h1 k (by simp)
    have hle := c3.le.1
    rw [List.foldl_cons, hn k rk acc hrk hk (by omega) (fun x hx => by have := h2 x hx; omega), kids_fold h n hn ks (e k) f _ c3 (fun j hj => h1 j (by simp [hj])) (by omega) (fun x hx => by
      rw [List.map_append, List.mem_append] at hx
      rcases hx with hx | hx
      · have := h2 x hx; omega
      · have := (segL_fst g x).1 hx; omega), List.append_assoc]
    congr 1
    rw [show k - 1 = m by omega, segL_append g (by omega) hle]
theorem Tree.goS_seg (h : Tree g e N) : ∀ (n : Nat) (id : Int) (r : Rec) (acc : List (Int × Bool)), g id = some r → (e id - id).toNat < n → (∀ x ∈ acc.map (·.1), x < id) → goS g n id (decide (r.kind = 3)) acc = acc ++ segL g (id - 1) (e id)
  | 0, id, r, acc, hr, hn, ha => by omega
  | n + 1, id, r, acc, hr, hn, ha => by
    obtain ⟨h1, h2, hok, h4, h5⟩ := h.is hr
    have hno : id ∉ acc.map (·.1) := fun hm => by have := ha id hm; omega
    have hc := hok.chain
    have hcl := hc.le
    simp only at hc hcl
    rw [goS, hr]
    simp only
    rw [if_neg hno]
    have hone : segL g (id - 1) id = [(id, isAttr g id)] := by
      have := segL_one g (id - 1)
      rw [show id - 1 + 1 = id by omega] at this
      exact this
    by_cases hk3 : r.kind = 3
    · obtain ⟨l1, l2⟩ := hok.leaf hk3
      rw [l1, l2, h.leaf hr hk3, hone, isAttr_eq hr]
      rfl
    · have hatt := hok.attrs
      have hA : r.attrs.foldl (fun a x => goS g n x true a) (acc ++ [(id, decide (r.kind = 3))]) = acc ++ [(id, decide (r.kind = 3))] ++ segL g id (id + r.attrs.length) := by
        by_cases hn0 : r.attrs.length = 0
        · have h0 : r.attrs = [] := List.eq_nil_of_length_eq_zero hn0
          rw [h0]; simp [segL]
        · have hA := attrs_fold h n (fun a ra acc hga hka hacc => by
            have hlf := h.leaf hga hka
            have := h.goS_seg n a ra acc hga (by rw [hlf]; omega) hacc
            rw [decide_eq_true hka] at this
            exact this) r.attrs.length id (acc ++ [(id, decide (r.kind = 3))]) (fun i hi => by
            have hm := (hok.attr_mem (id + 1 + (i : Int))).2 ⟨by omega, by omega⟩
            obtain ⟨ra, b1, b2, b3⟩ := hok.at_ _ hm
            exact ⟨ra, b1, b3⟩) (fun x hx => by
            rw [List.map_append, List.mem_append] at hx
            rcases hx with hx | hx
            · have := ha x hx; omega
            · simp at hx; omega)
          rw [← hatt] at hA
          exact hA
      rw [hA]
      have hK := kids_fold h n (fun a ra acc hga hka hlt hacc => by
          have := h.goS_seg n a ra acc hga hlt hacc
          rw [decide_eq_false hka] at this
          exact this) r.kids (id + r.attrs.length) (e id) (acc ++ [(id, decide (r.kind = 3))] ++ segL g id (id + r.attrs.length)) hc (fun k hk => by
          obtain ⟨rk, b1, b2, b3⟩ := hok.kd k hk
          exact ⟨rk, b1, b3⟩) (by omega) (fun x hx => by
          rw [List.map_append, List.mem_append] at hx
          rcases hx with hx | hx
          · rw [List.map_append, List.mem_append] at hx
            rcases hx with hx | hx
            · have := ha x hx; omega
            · simp at hx; omega
          · have := (segL_fst g x).1 hx; omega)
      rw [decide_eq_false hk3] at hK ⊢
      rw [hK, List.append_assoc, List.append_assoc]
      congr 1
      rw [segL_append g (by omega) hcl.1, show [(id, false)] = segL g (id - 1) id by rw [hone, isAttr_eq hr, decide_eq_false hk3], segL_append g (by omega) h4]
theorem Tree.go (h : Tree g e N) {K : Nat} (hK : N < K) {id : Int} {r : Rec} (hr : g id = some r) (hk : r.kind ≠ 3) : goF g K id = segL g (id - 1) (e id) := by
  obtain ⟨h1, h2, -, h4, h5⟩ := h.is hr
  have := h.goS_seg K id r [] hr (by omega) (by simp)
  rw [decide_eq_false hk] at this
  unfold goF
  rw [this]; rfl
theorem Tree.goAttr (h : Tree g e N) {K : Nat} (hK : 0 < K) {id : Int} {r : Rec} (hr : g id = some r) (hk : r.kind = 3) : goF g K id = [(id, false)] := by
  obtain ⟨h1, h2, hok, h4, h5⟩ := h.is hr
  obtain ⟨l1, l2⟩ := hok.leaf hk
  obtain ⟨n, rfl⟩ : ∃ n, K = n + 1 := ⟨K - 1, by omega⟩
  unfold goF
  rw [goS, hr]
  simp [l1, l2]
end
end Go.Proofs.Ytinkjhkbaadbpaa
/- What Made makes of a tree alone is a tree of numbers. -/
namespace Go.Proofs.Ytinkjhkbaadbpaa
open Go.RowKit
set_option linter.unusedVariables false

theorem fresh_at1 (t : Tr) (id : Int) (T : Nat) (h : id ≠ 1) : (madeS t).at id T = none := by
  rw [← made_at]
  have h2 : ¬ (1 = id) := fun e => h e.symm
  simp [Doc.at, Doc.look, madeD, Doc.fresh, pickE, h2]
theorem tree_of {s : OE} {N : Int} (hN : 1 ≤ N) (hs : Span s 0 N) (ho : ∀ j, ¬ (0 < j ∧ j ≤ N) → s.1 j = none) (hr : ∃ r, s.1 1 = some r ∧ r.parent = 0 ∧ r.kind ≠ 3) (h1 : s.2 1 = N) {g : Int → Option Rec} (hg : ∀ j, g j = s.1 j) : Tree g s.2 N := by
  obtain rfl : g = s.1 := funext hg
  exact ⟨hs, ho, hN, hr, h1⟩
theorem made_tree (t : Tr) : ∃ e N, Tree ((⟨madeO t [], 0⟩ : Vw).get (madeS t)) e N := by
  obtain ⟨o1, o2, o3⟩ := plantT_sim putE putO (fun (a : OE) (b : Owns) => a.1 = b) (fun id r a b hab => by subst hab; rfl) t 1 1 (fun _ => none, fun _ => 0) (fun _ => none) rfl
  have hT := plantT_ok t 1 1 (fun _ => none, fun _ => 0) (by omega)
  obtain ⟨st, hst⟩ : ∃ st, plantT putE t 1 (1, ((fun _ => none, fun _ => 0) : OE)) = st := ⟨_, rfl⟩
  rw [hst] at hT o1 o2 o3
  have hO : madeO t [] = (putE 1 (rootR st.1) st.2.2).1 := by
    show putO 1 (rootR (ownV t).1) (ownV t).2.2 = putO 1 (rootR st.1) st.2.2.1
    rw [o1, o3]; rfl
  obtain ⟨s3, hs3⟩ : ∃ s3, putE 1 (rootR st.1) st.2.2 = s3 := ⟨_, rfl⟩
  have h1 : s3.1 1 = some (rootR st.1) := by rw [← hs3]; simp [putE, putO]
  have h2 : s3.2 1 = endOf st.2.2.2 1 (rootR st.1) := by rw [← hs3]; simp [putE]
  have hoth : ∀ j, j ≠ 1 → s3.1 j = st.2.2.1 j ∧ s3.2 j = st.2.2.2 j := fun j hj => by rw [← hs3]; exact putE_other hj
  rw [hs3] at hO
  have hg : ∀ N, Span s3 0 N → (∀ j, ¬ (0 < j ∧ j ≤ N) → s3.1 j = none) → 1 ≤ N → ∀ j, (⟨madeO t [], 0⟩ : Vw).get (madeS t) j = s3.1 j := fun N hs ho hN j => by
    unfold Vw.get
    simp only [hO]
    by_cases hj : 0 < j ∧ j ≤ N
    · obtain ⟨r, hr, hn, -⟩ := hs j hj.1 hj.2
      rw [hr]
      simp [hn.gone]
    · rw [ho j hj]
      exact fresh_at1 t j 0 (by omega)
  rcases hT with ⟨q1, q2⟩ | ⟨q1, q2, q3, q4, ⟨r2, q5, q6, q7⟩, q8⟩
  · have hs : Span s3 0 1 := fun j a b => by
      obtain rfl : j = 1 := by omega
      have hr0 : rootR st.1 = rootR 0 := by rw [q1]
      rw [hr0] at h1 h2
      have h3 : s3.2 1 = 1 := by rw [h2]; simp [endOf, rootR]
      refine ⟨_, h1, ⟨rfl, rfl, ?_, by simp [rootR], by simp [rootR], by simp [rootR]⟩, by rw [h3]; exact Int.le_refl _⟩
      rw [h3]; simp [rootR, Chain]
    have ho : ∀ j, ¬ (0 < j ∧ j ≤ 1) → s3.1 j = none := fun j hj => by
      rw [(hoth j (by omega)).1, q2]
    have h3 : s3.2 1 = 1 := by rw [h2, q1]; simp [endOf, rootR]
    exact ⟨s3.2, 1, tree_of (by omega) hs ho ⟨_, h1, rfl, by simp [rootR]⟩ h3 (hg 1 hs ho (by omega))⟩
  · have hr2 : rootR st.1 = rootR 2 := by rw [q1]; rfl
    rw [hr2] at h1 h2
    have h3 : s3.2 1 = st.2.1 := by
      rw [h2]
      have : endOf st.2.2.2 1 (rootR 2) = st.2.2.2 2 := by simp [endOf, rootR]
      rw [this]; exact q3
    have hsame : SameOn st.2.2 s3 1 st.2.1 := fun j a b => hoth j (by omega)
    have hs1 := q4.frame hsame
    have h4 : s3.2 2 = st.2.1 := (hoth 2 (by omega)).2.trans q3
    have hs : Span s3 0 st.2.1 := fun j a b => by
      by_cases hj : j = 1
      · subst hj
        refine ⟨_, h1, ⟨rfl, rfl, ?_, by simp [rootR], fun k hk => ?_, by simp [rootR]⟩, by rw [h3]; exact Int.le_refl _⟩
        · show Chain s3.2 (1 + ((0 : Nat) : Int)) [2] (s3.2 1)
          exact ⟨by simp, by rw [h4]; exact q2, by rw [h3, h4]; rfl⟩
        · have hk2 : k = 2 := by simpa [rootR] using hk
          subst hk2
          exact ⟨r2, (hoth 2 (by omega)).1.trans q5, by rw [q6]; rfl, q7⟩
      · exact hs1 j (by omega) b
    have ho : ∀ j, ¬ (0 < j ∧ j ≤ st.2.1) → s3.1 j = none := fun j hj => by
      have hj1 : j ≠ 1 := by omega
      rw [(hoth j hj1).1]
      have := (q8 j (by omega)).1
      exact this
    exact ⟨s3.2, st.2.1, tree_of (by omega) hs ho ⟨_, h1, rfl, by simp [rootR]⟩ h3 (hg _ hs ho (by omega))⟩
theorem Tree.keys {g : Int → Option Rec} {e : Int → Int} {N : Int} (h : Tree g e N) {keys : List Int} (hk : KeysOf g keys) : N < ((keys.length + 1 : Nat) : Int) := by
  have h1 : ((List.range N.toNat).map (fun (i : Nat) => (i : Int) + 1)).length ≤ keys.length := nodup_len (by
    rw [List.nodup_iff_pairwise_ne, List.pairwise_map]
    exact (List.nodup_iff_pairwise_ne.1 List.nodup_range).imp (fun hab hc => hab (by omega))) (fun x hx => by
    obtain ⟨i, hi, rfl⟩ := List.mem_map.1 hx
    have := List.mem_range.1 hi
    obtain ⟨r, hr, -⟩ := h.node (id := (i : Int) + 1) (by omega) (by omega)
    exact hk _ (by rw [hr]; simp))
  have := h.one
  simp at h1
  omega
end Go.Proofs.Ytinkjhkbaadbpaa
/- Of a planted tree: each axis turns into its other one. -/
namespace Go.Proofs.Ytinkjhkbaadbpaa
open Go.RowKit
set_option linter.unusedVariables false

theorem mem_onceF (p : Int → Bool) : ∀ (xs m : List Int) (x : Int), x ∈ xs.foldl (onceS p) m ↔ x ∈ m ∨ (x ∈ xs ∧ p x = true)
  | [], m, x => by simp
  | y :: xs, m, x => by
    rw [List.foldl_cons, mem_onceF p xs]
    have h : x ∈ onceS p m y ↔ x ∈ m ∨ (x = y ∧ p x = true) := by
      unfold onceS
      by_cases hc : p y = true ∧ y ∉ m
      · rw [if_pos hc, List.mem_append, List.mem_singleton]
        constructor
        · rintro (h | rfl)
          · exact .inl h
          · exact .inr ⟨rfl, hc.1⟩
        · rintro (h | ⟨rfl, _⟩)
          · exact .inl h
          · exact .inr rfl
      · rw [if_neg hc]
        constructor
        · exact .inl
        · rintro (h | ⟨rfl, h⟩)
          · exact h
          · by_cases hm : x ∈ m
            · exact hm
            · exact absurd ⟨h, hm⟩ hc
    rw [h, List.mem_cons]
    constructor
    · rintro ((h | ⟨h1, h2⟩) | ⟨h1, h2⟩)
      · exact .inl h
      · exact .inr ⟨.inl h1, h2⟩
      · exact .inr ⟨.inr h1, h2⟩
    · rintro (h | ⟨h1 | h1, h2⟩)
      · exact .inl (.inl h)
      · exact .inl (.inr ⟨h1, h2⟩)
      · exact .inr ⟨h1, h2⟩
theorem nodup_onceF (p : Int → Bool) : ∀ (xs m : List Int), m.Nodup → (xs.foldl (onceS p) m).Nodup
  | [], m, h => h
  | y :: xs, m, h => by
    rw [List.foldl_cons]
    refine nodup_onceF p xs _ ?_
    unfold onceS
    split
    · rename_i hc
      rw [List.nodup_append]
      exact ⟨h, by simp, by rintro a ha b hb rfl; simp at hb; subst hb; exact hc.2 ha⟩
    · exact h
/-- in a list without doubles: who stands behind one has it ahead -/
theorem behind_ahead {S : List Int} (hn : S.Nodup) (a b : Int) : b ∈ behindF S a ↔ a ∈ aheadF S b := by
  have key : ∀ i j : Nat, ∀ x : Int, S[i]? = some x → S[j]? = some x → i = j := fun i j x hi hj => by
    obtain ⟨h1, h2⟩ := List.getElem?_eq_some_iff.1 hi
    obtain ⟨h3, h4⟩ := List.getElem?_eq_some_iff.1 hj
    have hp := List.pairwise_iff_getElem.1 (List.nodup_iff_pairwise_ne.1 hn)
    rcases Nat.lt_trichotomy i j with hlt | heq | hlt
    · exact absurd (h2.trans h4.symm) (hp i j h1 h3 hlt)
    · exact heq
    · exact absurd (h4.trans h2.symm) (hp j i h3 h1 hlt)
  constructor
  · intro h
    unfold behindF at h
    rcases idxI_cases S a with ⟨h1, -⟩ | ⟨i, h1, h2, -, h4⟩
    · rw [h1] at h; simp at h
    · rw [h1, if_neg (by omega)] at h
      obtain ⟨k, hk⟩ := List.getElem?_of_mem h
      rw [List.getElem?_drop] at hk
      simp only [Int.toNat_natCast] at hk
      have hb : b ∈ S := List.mem_of_getElem? hk
      rcases idxI_cases S b with ⟨-, h5⟩ | ⟨j, h5, h6, -, h8⟩
      · exact absurd hb h5
      · have := key _ _ _ hk h6
        unfold aheadF
        rw [h5]
        refine List.mem_of_getElem? (i := i) ?_
        rw [List.getElem?_take]
        simp only [Int.toNat_natCast]
        rw [if_pos (by omega)]
        exact h2
  · intro h
    unfold aheadF at h
    rcases idxI_cases S b with ⟨h1, -⟩ | ⟨j, h1, h2, -, h4⟩
    · rw [h1] at h; simp at h
    · rw [h1] at h
      obtain ⟨k, hk⟩ := List.getElem?_of_mem h
      rw [List.getElem?_take] at hk
      simp only [Int.toNat_natCast] at hk
      split at hk
      · have ha : a ∈ S := List.mem_of_getElem? hk
        rcases idxI_cases S a with ⟨-, h5⟩ | ⟨i, h5, h6, -, h8⟩
        · exact absurd ha h5
        · have := key _ _ _ hk h6
          unfold behindF
          rw [h5, if_neg (by omega)]
          refine List.mem_of_getElem? (i := j - (i + 1)) ?_
          rw [List.getElem?_drop]
          simp only [Int.toNat_natCast]
          rw [show i + 1 + (j - (i + 1)) = j by omega]
          exact h2
      · cases hk
section
variable {g : Int → Option Rec} {e : Int → Int} {N : Int} {K : Nat}
theorem Tree.all (h : Tree g e N) (hK : N < K) : allF g K = (segL g 0 N).map (·.1) := by
  obtain ⟨r, hr, -, hk⟩ := h.root
  unfold allF
  rw [h.go hK hr hk, h.e1]
  rfl
theorem Tree.mem_all (h : Tree g e N) (hK : N < K) (x : Int) : x ∈ allF g K ↔ 0 < x ∧ x ≤ N := by rw [h.all hK, segL_fst]
theorem Tree.nodup_all (h : Tree g e N) (hK : N < K) : (allF g K).Nodup := by
  rw [h.all hK]
  exact (segL_rise g 0 N).imp (fun hab hc => by omega)
theorem Tree.mem_below (h : Tree g e N) (hK : N < K) {a : Int} {r : Rec} (hr : g a = some r) (hk : r.kind ≠ 3) (x : Int) : x ∈ belowF g K a ↔ a < x ∧ x ≤ e a ∧ isAttr g x = false := by
  unfold belowF
  rw [h.go hK hr hk]
  simp only [List.mem_map, List.mem_filter]
  constructor
  · rintro ⟨⟨y, b⟩, ⟨h1, h2⟩, rfl⟩
    obtain ⟨h3, h4, h5⟩ := (segL_mem g y b).1 h1
    simp at h2
    subst h5
    exact ⟨by have := h2.1; omega, h4, h2.2⟩
  · rintro ⟨h1, h2, h3⟩
    refine ⟨(x, isAttr g x), ⟨(segL_mem g x _).2 ⟨by omega, h2, rfl⟩, ?_⟩, rfl⟩
    simp [h3]; omega
theorem Tree.turn2 (h : Tree g e N) (hK : N < K) {a b : Int} {ra rb : Rec} (ha : g a = some ra) (hb : g b = some rb) (ka : ra.kind ≠ 3) (kb : rb.kind ≠ 3) : b ∈ belowF g K a ↔ a ∈ upF g K b := by
  rw [h.mem_below hK ha ka, (h.up hK hb).2, isAttr_eq hb]
  have := (h.is ha).1
  simp [kb]
  omega
theorem Tree.par_kid (h : Tree g e N) {a b : Int} {ra rb : Rec} (ha : g a = some ra) (hb : g b = some rb) (kb : rb.kind ≠ 3) : b ∈ ra.kids ↔ rb.parent = a := by
  obtain ⟨h1, h2, hn, -⟩ := h.is ha
  constructor
  · intro hm
    obtain ⟨rk, h3, h4, -⟩ := hn.kd b hm
    have h3' : g b = some rk := h3
    rw [hb] at h3'; cases h3'
    exact h4
  · intro hp
    by_cases hb1 : b = 1
    · subst hb1
      obtain ⟨r', hr', h6, -⟩ := h.root
      rw [hb] at hr'; cases hr'
      omega
    · obtain ⟨rp, b1, -, -, -, b5⟩ := h.up1 hb hb1
      rw [hp, ha] at b1
      cases b1
      rcases b5 with b5 | b5
      · exact absurd b5.2 kb
      · exact b5.1
theorem Tree.up_take (h : Tree g e N) (hK : N < K) {b : Int} {rb : Rec} (hb : g b = some rb) (a : Int) : a ∈ (upF g K b).take 1 ↔ rb.parent = a ∧ 0 < a := by
  have hup := h.up hK hb
  have h1 := h.one
  obtain ⟨n, rfl⟩ : ∃ n, K = n + 1 := ⟨K - 1, by omega⟩
  obtain ⟨i1, i2, -⟩ := h.is hb
  by_cases hb1 : b = 1
  · subst hb1
    obtain ⟨r', hr', h6, -⟩ := h.root
    rw [hb] at hr'; cases hr'
    rw [upF_eq, hb]
    show a ∈ (upS g (n + 1) 1 [] rb.parent).take 1 ↔ _
    rw [upS, h6, h.out 0 (by omega)]
    simp
    omega
  · obtain ⟨rp, b1, b2, b3, b4, -⟩ := h.up1 hb hb1
    rw [upF_eq, hb]
    show a ∈ (upS g (n + 1) b [] rb.parent).take 1 ↔ _
    rw [upS, b1]
    simp only
    rw [if_neg (by simp; omega)]
    have hpp : 0 ≤ rp.parent ∧ rp.parent < rb.parent := by
      by_cases hp1 : rb.parent = 1
      · obtain ⟨r', hr', h6, -⟩ := h.root
        rw [hp1] at b1
        rw [b1] at hr'; cases hr'
        omega
      · obtain ⟨rq, c1, c2, c3, -⟩ := h.up1 b1 hp1
        omega
    obtain ⟨ls, e1, -⟩ := h.up_list b n ([] ++ [rb.parent]) rp.parent (by simp; omega) hpp.1 (by omega) (by omega) (by omega)
    rw [e1]
    simp
    constructor
    · rintro rfl; exact ⟨rfl, b2⟩
    · rintro ⟨h, -⟩; exact h.symm
theorem kindOf_eq {j : Int} {r : Rec} (h : g j = some r) : kindOf g j = r.kind := by unfold kindOf; rw [h]; rfl
theorem sibL_nodup (g : Int → Option Rec) (r : Rec) : (sibL g r).Nodup := by
  unfold sibL
  cases hp : g r.parent with
  | none => simp [sibO]
  | some p =>
    show (if r.kind = 3 then [] else onceF (isThere g) p.kids).Nodup
    split
    · simp
    · exact nodup_onceF _ _ _ (by simp)
theorem Tree.sib_same (h : Tree g e N) {a b : Int} {ra rb : Rec} (ha : g a = some ra) (hb : g b = some rb) (ka : ra.kind ≠ 3) (kb : rb.kind ≠ 3) (hm : b ∈ sibL g ra) : sibL g rb = sibL g ra := by
  unfold sibL at hm ⊢
  cases hp : g ra.parent with
  | none => rw [hp] at hm; simp [sibO] at hm
  | some p =>
    rw [hp] at hm
    have hm2 : b ∈ (if ra.kind = 3 then [] else onceF (isThere g) p.kids) := hm
    rw [if_neg ka] at hm2
    have hb2 := ((mem_onceF _ _ _ _).1 hm2).resolve_left (by simp)
    have := (h.par_kid hp hb kb).1 hb2.1
    rw [this, hp]
    show (if rb.kind = 3 then [] else onceF (isThere g) p.kids) = (if ra.kind = 3 then [] else onceF (isThere g) p.kids)
    rw [if_neg ka, if_neg kb]
theorem sub_behind {S : List Int} {a b : Int} (h : b ∈ behindF S a) : b ∈ S := (behind_sub S a).subset h
theorem sub_ahead {S : List Int} {a b : Int} (h : b ∈ aheadF S a) : b ∈ S := (ahead_sub S a).subset h
/-- the six pairs of axes -/
def turnOk (p q : Int) : Prop := (p = 7 ∧ q = 8) ∨ (p = 2 ∧ q = 4) ∨ (p = 1 ∧ q = 3) ∨ (p = 5 ∧ q = 6) ∨ (p = 11 ∧ q = 12) ∨ (p = 10 ∧ q = 10)
theorem Tree.turns (h : Tree g e N) (hK : N < K) {a b : Int} {ra rb : Rec} (ha : g a = some ra) (hb : g b = some rb) (ka : ra.kind ≠ 3) (kb : rb.kind ≠ 3) {p q : Int} (hpq : turnOk p q) :
    b ∈ nodesO g K a p (g a) ↔ a ∈ nodesO g K b q (g b) := by
  rw [ha, hb]
  show b ∈ nodesR g K a p ra ↔ a ∈ nodesR g K b q rb
  have t2 := h.turn2 hK ha hb ka kb
  rcases hpq with ⟨rfl, rfl⟩ | ⟨rfl, rfl⟩ | ⟨rfl, rfl⟩ | ⟨rfl, rfl⟩ | ⟨rfl, rfl⟩ | ⟨rfl, rfl⟩
  · have e7 : nodesR g K a 7 ra = woutF g (belowF g K a) (behindF (allF g K) a) := by unfold nodesR; simp
    have e8 : nodesR g K b 8 rb = (woutF g (upF g K b) (aheadF (allF g K) b)).reverse := by unfold nodesR; simp
    rw [e7, e8, List.mem_reverse]
    unfold woutF
    rw [List.mem_filter, List.mem_filter, behind_ahead (h.nodup_all hK) a b]
    unfold woutP
    rw [kindOf_eq ha, kindOf_eq hb]
    simp [ka, kb, t2]
  · have e2 : nodesR g K a 2 ra = belowF g K a := by unfold nodesR; simp
    have e4 : nodesR g K b 4 rb = upF g K b := by unfold nodesR; simp
    rw [e2, e4, t2]
  · have e1 : nodesR g K a 1 ra = onceF (isThere g) ra.kids := by unfold nodesR; simp
    have e3 : nodesR g K b 3 rb = (upF g K b).take 1 := by unfold nodesR; simp
    rw [e1, e3, h.up_take hK hb]
    unfold onceF
    rw [mem_onceF, h.par_kid ha hb kb]
    have hi : isThere g b = true := by unfold isThere; rw [hb]; rfl
    have := (h.is ha).1
    simp [hi]
    intro _
    exact this
  · have e5 : nodesR g K a 5 ra = behindF (sibL g ra) a := by unfold nodesR; simp
    have e6 : nodesR g K b 6 rb = (aheadF (sibL g rb) b).reverse := by unfold nodesR; simp
    rw [e5, e6, List.mem_reverse]
    constructor
    · intro hm
      have := h.sib_same ha hb ka kb (sub_behind hm)
      rw [this]
      exact (behind_ahead (sibL_nodup g ra) a b).1 hm
    · intro hm
      have := h.sib_same hb ha kb ka (sub_ahead hm)
      rw [this]
      exact (behind_ahead (sibL_nodup g rb) a b).2 hm
  · have e1 : nodesR g K a 11 ra = a :: belowF g K a := by unfold nodesR; simp
    have e3 : nodesR g K b 12 rb = b :: upF g K b := by unfold nodesR; simp
    rw [e1, e3, List.mem_cons, List.mem_cons, t2]
    constructor
    · rintro (h | h)
      · exact .inl h.symm
      · exact .inr h
    · rintro (h | h)
      · exact .inl h.symm
      · exact .inr h
  · have e1 : nodesR g K a 10 ra = [a] := by unfold nodesR; simp
    have e3 : nodesR g K b 10 rb = [b] := by unfold nodesR; simp
    rw [e1, e3, List.mem_singleton, List.mem_singleton]
    exact ⟨fun h => h.symm, fun h => h.symm⟩
end
end Go.Proofs.Ytinkjhkbaadbpaa
/- What is made, and the axes; an argument of 16 bits. -/
namespace Go.Proofs.Ytinkjhkbaadbpaa
open Go.RowKit
set_option linter.unusedVariables false
set_option maxRecDepth 100000

theorem chnsIn_nil (F : Nat → Prop) (w : World) : ChnsIn F w (.slice none 0 0) [] := ⟨_, _, rfl, by simp, by simp, .inl rfl⟩
theorem made_ax {R Ds Rd Dd : Nat → Prop} {n0 : Nat} {w : World} {v m s v2 s2 : Nat} {V2 : RVw} {d : Doc} {t : Tr} (h : Duo R Ds Rd Dd n0 w v m s v2 s2 ⟨madeO t [], 0⟩ (madeS t) V2 d) (hsz : t.size ≤ 100000000) :
    ∃ (Rb : Nat → Prop) (g : Int → Option Rec) (keys : List Int) (e : Int → Int) (N : Int), Ax Rb w v g keys ∧ Tree g e N ∧ N < ((keys.length + 1 : Nat) : Int) := by
  obtain ⟨e, N, hT⟩ := made_tree t
  obtain ⟨Rb, hRl, hRk⟩ := h.readsK (made_wf t)
  have hko := made_keys t []
  refine ⟨Rb, _, madeKeys t [], e, N, ⟨h.readsN (made_wf t), hRk, hRl, hko, ?_, h.gok (made_wf t)⟩, hT, hT.keys hko⟩
  have := made_len t []
  unfold madeKeys
  rw [List.length_cons, List.length_map]
  simp at this
  omega

end Go.Proofs.Ytinkjhkbaadbpaa
