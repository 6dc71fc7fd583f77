/- The walk of AxisTests (4). -/
import Derived.Test.YtinkjhkbaadbpaaWA
import Derived.Test.YtinkjhkbaadbpaaMY
import Derived.Test.YtinkjhkbaadbpaaFW
import Derived.Deep.RegionHeld3
namespace Go.Proofs.Ytinkjhkbaadbpaa
open Go.RowKit
set_option linter.unusedVariables false

theorem made_g (t : Tr) (cs : List Chn) : (⟨madeL t cs, 0⟩ : RVw).get (madeD t) = (⟨madeO t cs, 0⟩ : Vw).get (madeS t) := funext (made_get t cs)
set_option maxRecDepth 100000 in
set_option maxHeartbeats 4000000 in
theorem axisTests_walk {w : World} {t : Tr} {av kv v : Value} {cs : List Chn} (id ax : Int) (T : Tst) (hT : TrIn (Old w.heap.size) w t av kv) (hL : ChnsIn (Old w.heap.size) w v cs) (hok : ∀ c ∈ cs, RecOk c.r) (hsz : t.size ≤ 100000000) :
    Calls Try.prog 4 #[trV t av kv, v, .agg #[iv id, iv ax, .int .i64 T.kind, .string T.name, .bool T.has]] w fun e w' => e = .returned (.bool true) ∧ Below w.heap.size w w' := by
  have hT2 := hT
  obtain ⟨kind, name, text, attrs, kids⟩ := t
  simp only [TrIn] at hT2
  obtain ⟨⟨a1, c1, rfl, -, -⟩, zs, ⟨a2, c2, rfl, -, -⟩, -⟩ := hT2
  obtain ⟨a3, c3, rfl, -⟩ := id_ hL
  obtain ⟨t, ht⟩ : ∃ t, Tr.mk kind name text attrs kids = t := ⟨_, rfl⟩
  have htr : trV t (.slice a1 attrs.length c1) (.slice a2 kids.length c2) = .agg #[.int .i64 kind, .string name, .string text, .slice a1 attrs.length c1, .slice a2 kids.length c2] := by rw [← ht]; rfl
  rw [ht] at hT hsz
  obtain ⟨W0, hW0⟩ : ∃ W0, w.alloc (.cells #[.int .i64 kind, .string name, .string text, .slice a1 attrs.length c1, .slice a2 kids.length c2] 25) = W0 := ⟨_, rfl⟩
  obtain ⟨W, hW⟩ : ∃ W, W0.alloc (.cells #[iv id, iv ax, .int .i64 T.kind, .string T.name, .bool T.has] 44) = W := ⟨_, rfl⟩
  have hb0 : Below w.heap.size w W0 := by rw [← hW0]; exact (Below.refl _ _).alloc (Nat.le_refl _) _
  have hs0 : W0.heap.size = w.heap.size + 1 := by rw [← hW0]; simp
  have hb1 : Below W0.heap.size W0 W := by rw [← hW]; exact (Below.refl _ _).alloc (Nat.le_refl _) _
  have hs1 : W.heap.size = w.heap.size + 2 := by rw [← hW]; simp [hs0]
  have hx0 : W.heap[w.heap.size]? = some (.cells #[.int .i64 kind, .string name, .string text, .slice a1 attrs.length c1, .slice a2 kids.length c2] 25 (0, 0)) := (hb1.block _ (by omega)).trans (by rw [← hW0]; exact Go.heap_alloc_new _ _)
  have hx1 : W.heap[w.heap.size + 1]? = some (.cells #[iv id, iv ax, .int .i64 T.kind, .string T.name, .bool T.has] 44 (0, 0)) := by rw [← hs0, ← hW]; exact Go.heap_alloc_new _ _
  have hbB : Below w.heap.size w W := hb0.trans (hb1.mono hb0.size)
  obtain ⟨x0, x1, x2, x3, x4⟩ : W.cell? ⟨w.heap.size, 0, none⟩ = some (.int .i64 kind) ∧ W.cell? ⟨w.heap.size, 1, none⟩ = some (.string name) ∧ W.cell? ⟨w.heap.size, 2, none⟩ = some (.string text) ∧ W.cell? ⟨w.heap.size, 3, none⟩ = some (.slice a1 attrs.length c1) ∧ W.cell? ⟨w.heap.size, 4, none⟩ = some (.slice a2 kids.length c2) := by
    refine ⟨?_, ?_, ?_, ?_, ?_⟩ <;> simp [World.cell?, hx0]
  have hTW : ∀ W2, Below w.heap.size w W2 → TrIn (Old w.heap.size) W2 t (.slice a1 attrs.length c1) (.slice a2 kids.length c2) := fun W2 h2 => TrIn.keep (keeps_below h2) (fun _ h => h) _ _ _ hT
  have hLW : ∀ W2, Below w.heap.size w W2 → ChnsIn (Old w.heap.size) W2 (.slice a3 cs.length c3) cs := fun W2 h2 => hL.keep (keeps_below h2)
  have hfew := few_any (hTW W hbB) (fun k hk => by have : k < w.heap.size := hk; omega)
  rw [htr] at hfew
  have HFEW := Lib.hid hfew
  have HTW := Lib.hid hTW
  have HLW := Lib.hid hLW
  have HTR := Lib.hid htr
  have HW0 := Lib.hid hW0
  have HW := Lib.hid hW
  have HX0 := Lib.hid hx0
  have HX1 := Lib.hid hx1
  have HBB := Lib.hid hbB
  have HS1 := Lib.hid hs1
  have HOK := Lib.hid hok
  clear hT hL hok hW0 hW hb0 hs0 hb1 hs1 hx0 hx1 hbB hTW hLW hfew htr ht
  show Calls Try.prog 4 #[.agg #[.int .i64 kind, .string name, .string text, .slice a1 attrs.length c1, .slice a2 kids.length c2], .slice a3 cs.length c3, .agg #[iv id, iv ax, .int .i64 T.kind, .string T.name, .bool T.has]] w _
  go_enter Try.func4, Try.ntmps4
  go_upto_region 1 with fail
  rw [HW0.out, HW.out]
  go_wp2_with fail
  refine HFEW.out.mono ?_
  rintro e w1 ⟨⟨b, rfl⟩, hbf⟩
  have HB1 := Lib.hid (HBB.out.trans (hbf.mono HBB.out.size))
  have hs1 := hbf.size
  have hx01 := (hbf.block w.heap.size (by have := HS1.out; omega)).trans HX0.out
  have hx11 := (hbf.block (w.heap.size + 1) (by have := HS1.out; omega)).trans HX1.out
  clear hbf x0 x1 x2 x3 x4
  cases b with
  | false =>
    clear hx01 hx11
    go_wp2_with (go_at_call 19; refine (aworks_any _).mono ?_; rintro e w5 ⟨rfl, hb5⟩)
    go_ret
    exact ⟨rfl, HB1.out.trans (hb5.mono HB1.out.size)⟩
  | true =>
    obtain ⟨x0, x1, x2, x3, x4⟩ : w1.cell? ⟨w.heap.size, 0, none⟩ = some (.int .i64 kind) ∧ w1.cell? ⟨w.heap.size, 1, none⟩ = some (.string name) ∧ w1.cell? ⟨w.heap.size, 2, none⟩ = some (.string text) ∧ w1.cell? ⟨w.heap.size, 3, none⟩ = some (.slice a1 attrs.length c1) ∧ w1.cell? ⟨w.heap.size, 4, none⟩ = some (.slice a2 kids.length c2) := by
      refine ⟨?_, ?_, ?_, ?_, ?_⟩ <;> simp [World.cell?, hx01]
    have hmd := made_any (HTW.out w1 HB1.out) (HLW.out w1 HB1.out) HOK.out (fun k hk => Nat.lt_of_lt_of_le hk HB1.out.size) hsz
    rw [HTR.out] at hmd
    have HMD := Lib.hid hmd
    have HX11 := Lib.hid hx11
    clear hmd hx01 hx11
    go_wp2_with fail
    refine HMD.out.mono ?_
    rintro e w2 ⟨R, Rd, p, vv, m, s, v2, s2, rfl, hdu, hpc, hnp, hb2⟩
    obtain ⟨g, hg⟩ : ∃ g, (⟨madeO t (cs.take 12), 0⟩ : Vw).get (madeS t) = g := ⟨_, rfl⟩
    have hrd := hdu.reads (made_wf t)
    have hrr := hdu.rreads (by have := made_len t (cs.take 12); have h9 := List.length_take_le 12 cs; show (madeL t (cs.take 12)).length ≤ _; omega) (by show Doc.fresh.L.length ≤ _; decide)
    rw [made_g, hg] at hrr
    rw [hg] at hrd
    have h24 := match_any hrd ax T id
    obtain ⟨mb, hmb⟩ : ∃ mb, matchF g ax T id = mb := ⟨_, rfl⟩
    obtain ⟨rb, hrb⟩ : ∃ rb, tRight T = rb := ⟨_, rfl⟩
    have H24 := Lib.hid (show ∀ W2, Below w2.heap.size w2 W2 → Calls Try.prog 24 #[ptr vv, .int .i64 ax, tstV T, iv id] W2 fun e w' => e = .returned (.bool mb) ∧ Below W2.heap.size W2 w' from fun W2 h2 => hmb ▸ match_any (hrd.below h2) ax T id)
    have H25 := Lib.hid (show ∀ W2, Below w2.heap.size w2 W2 → Calls Try.prog 25 #[ptr v2, .int .i64 ax, tstV T, iv id] W2 fun e w' => e = .returned (.bool mb) ∧ Below W2.heap.size W2 w' from fun W2 h2 => hmb ▸ rmatch_any (hrr.below h2) ax T id)
    have H26 := Lib.hid (show ∀ W2, Calls Try.prog 26 #[tstV T] W2 fun e w' => e = .returned (.bool rb) ∧ Below W2.heap.size W2 w' from fun W2 => hrb ▸ tright_any T W2)
    have H27 := Lib.hid (show ∀ W2, Calls Try.prog 27 #[tstV T] W2 fun e w' => e = .returned (.bool rb) ∧ Below W2.heap.size W2 w' from fun W2 => hrb ▸ rtright_any T W2)
    have hpl : p < w2.heap.size := (Array.getElem?_eq_some_iff.1 hpc).1
    have hs2 := hb2.size
    have hx2 := (hb2.block (w.heap.size + 1) (by have := HS1.out; omega)).trans HX11.out
    have HSS := Lib.hid (show ∀ W2, Below w2.heap.size w2 W2 → W2.cell? ⟨p, 0, none⟩ = some (ptr vv) ∧ W2.cell? ⟨p, 1, none⟩ = some (ptr v2) ∧ W2.cell? ⟨w.heap.size + 1, 0, none⟩ = some (iv id) ∧ W2.cell? ⟨w.heap.size + 1, 1, none⟩ = some (iv ax) ∧ W2.cell? ⟨w.heap.size + 1, 2, none⟩ = some (.int .i64 T.kind) ∧ W2.cell? ⟨w.heap.size + 1, 3, none⟩ = some (.string T.name) ∧ W2.cell? ⟨w.heap.size + 1, 4, none⟩ = some (.bool T.has) from fun W2 h2 => by
      have e1 := (h2.block p hpl).trans hpc
      have e2 := (h2.block (w.heap.size + 1) (by have := HS1.out; omega)).trans hx2
      refine ⟨?_, ?_, ?_, ?_, ?_, ?_, ?_⟩ <;> simp [World.cell?, e1, e2])
    have HB2 := Lib.hid (HB1.out.trans (hb2.mono HB1.out.size))
    clear hdu hpc hnp hb2 hrd hrr h24 hmb hrb hg hx2 x0 x1 x2 x3 x4
    obtain ⟨tk, tn, th⟩ := T
    simp only at *
    have hcur : Below w2.heap.size w2 w2.drew := (Below.refl _ _).drew
    go_wp2_with fail
    go_region_held3 (fun w' => w'.cell? ⟨p, 0, none⟩ = some (ptr vv) ∧ w'.cell? ⟨p, 1, none⟩ = some (ptr v2) ∧ w'.cell? ⟨w.heap.size + 1, 0, none⟩ = some (iv id) ∧ w'.cell? ⟨w.heap.size + 1, 1, none⟩ = some (iv ax) ∧ w'.cell? ⟨w.heap.size + 1, 2, none⟩ = some (.int .i64 tk) ∧ w'.cell? ⟨w.heap.size + 1, 3, none⟩ = some (.string tn) ∧ w'.cell? ⟨w.heap.size + 1, 4, none⟩ = some (.bool th))
      (exact HSS.out _ hcur)
      (first
        | (go_at_call 24; refine (H24.out _ hcur).mono ?_; rintro e w4 ⟨rfl, hb4⟩; have hcur := hcur.trans (hb4.mono hcur.size); clear hb4)
        | (go_at_call 25; refine (H25.out _ hcur).mono ?_; rintro e w5 ⟨rfl, hb5⟩; have hcur := hcur.trans (hb5.mono hcur.size); clear hb5)
        | (go_at_call 26; refine (H26.out _).mono ?_; rintro e w6 ⟨rfl, hb6⟩; have hcur := hcur.trans (hb6.mono hcur.size); clear hb6)
        | (go_at_call 27; refine (H27.out _).mono ?_; rintro e w7 ⟨rfl, hb7⟩; have hcur := hcur.trans (hb7.mono hcur.size); clear hb7)
        | (go_at_call 19; refine (aworks_any _).mono ?_; rintro e w8 ⟨rfl, hb8⟩; have hcur := hcur.trans (hb8.mono hcur.size); clear hb8))
    all_goals
      go_wp2
      go_ret
      exact ⟨rfl, HB2.out.trans (hcur.mono HB2.out.size)⟩
end Go.Proofs.Ytinkjhkbaadbpaa
