/- works (19) of the axis statements. -/
import Derived.Test.YtinkjhkbaadbpaaNC
import Derived.Test.YtinkjhkbaadbpaaMX
namespace Go.Proofs.Ytinkjhkbaadbpaa
open Go.RowKit
set_option linter.unusedVariables false

def t0 : Tr := .mk 2 ⟨#[97]⟩ ⟨#[]⟩ [] [.mk 2 ⟨#[98]⟩ ⟨#[]⟩ [] [], .mk 4 ⟨#[]⟩ ⟨#[116]⟩ [] []]
def g0 : Int → Option Rec := (⟨madeO t0 [], 0⟩ : Vw).get (madeS t0)
theorem g0_2 : g0 2 = some ⟨2, ⟨#[97]⟩, ⟨#[]⟩, 1, [3, 4], [], false⟩ := by
  rfl
theorem g0_3 : g0 3 = some ⟨2, ⟨#[98]⟩, ⟨#[]⟩, 2, [], [], false⟩ := by
  rfl
theorem g0_4 : g0 4 = some ⟨4, ⟨#[]⟩, ⟨#[116]⟩, 2, [], [], false⟩ := by
  rfl
theorem t0_once : onceF (isThere g0) [3, 4] = [3, 4] := by
  simp [onceF, onceS, isThere, g0_3, g0_4]
theorem t0_match : matchF g0 1 ⟨4, ⟨#[]⟩, false⟩ 4 = true := by
  unfold matchF
  rw [g0_4]
  simp [tRight, emptyB]
theorem Duo.gok {R Ds Rd Dd : Nat → Prop} {n0 : Nat} {w : World} {v m s v2 s2 : Nat} {V : Vw} {S : Store} {V2 : RVw} {d : Doc} (h : Duo R Ds Rd Dd n0 w v m s v2 s2 V S V2 d) (hS : S.Wf) : GOk (V.get S) := by
  obtain ⟨D, D2, h⟩ := h
  have hok := h.vs.view.ok
  intro id r h
  unfold Vw.get at h
  cases e : V.own id with
  | some r' =>
    rw [e] at h
    simp only at h
    split at h
    · cases h
    · cases h; exact hok id _ e
  | none =>
    rw [e] at h
    simp only at h
    unfold Store.at at h
    split at h
    · rename_i v hv
      split at h
      · cases h
      · cases h
        have hm := List.mem_of_getLast? hv
        exact hS.ok id v (List.mem_filter.1 hm).1
    · cases h

set_option maxRecDepth 100000 in
set_option maxHeartbeats 4000000 in
theorem aworks_any (w : World) : Calls Try.prog 19 #[] w fun e w' => e = .returned (.bool true) ∧ Below w.heap.size w w' := by
  obtain ⟨W, hW⟩ : ∃ W, w.alloc (.cells #[.int .i64 2, .string ⟨#[98]⟩, .string ⟨#[]⟩, .slice none 0 0, .slice none 0 0, .int .i64 4, .string ⟨#[]⟩, .string ⟨#[116]⟩, .slice none 0 0, .slice none 0 0] 25) = W := ⟨_, rfl⟩
  have hbW : Below w.heap.size w W := by rw [← hW]; exact (Below.refl _ _).alloc (Nat.le_refl _) _
  have hsW : W.heap.size = w.heap.size + 1 := by rw [← hW]; simp
  have hx0 : W.heap[w.heap.size]? = some (.cells #[.int .i64 2, .string ⟨#[98]⟩, .string ⟨#[]⟩, .slice none 0 0, .slice none 0 0, .int .i64 4, .string ⟨#[]⟩, .string ⟨#[116]⟩, .slice none 0 0, .slice none 0 0] 25 (0, 0)) := by rw [← hW]; exact Go.heap_alloc_new _ _
  have nilT : ∀ (xs : List Value), CellsIn (fun k => k < W.heap.size) W (.slice none 0 0) 0 xs := fun xs => ⟨none, 0, rfl, by omega, .inl rfl⟩
  have hT : TrIn (fun k => k < W.heap.size) W t0 (.slice none 0 0) (.slice (some ⟨w.heap.size, 0, none⟩) 2 2) := by
    unfold t0
    simp only [TrIn]
    refine ⟨nilT _, trL (.mk 2 ⟨#[98]⟩ ⟨#[]⟩ [] []) (.slice none 0 0) (.slice none 0 0) ++ (trL (.mk 4 ⟨#[]⟩ ⟨#[116]⟩ [] []) (.slice none 0 0) (.slice none 0 0) ++ []), ⟨_, 2, rfl, by simp, .inr ⟨w.heap.size, 0, rfl, by omega, fun j u hj => ?_⟩⟩, ?_⟩
    · have : W.cell? ⟨w.heap.size, 0 + j, none⟩ = (trL (.mk 2 ⟨#[98]⟩ ⟨#[]⟩ [] []) (.slice none 0 0) (.slice none 0 0) ++ (trL (.mk 4 ⟨#[]⟩ ⟨#[116]⟩ [] []) (.slice none 0 0) (.slice none 0 0) ++ []))[j]? := by
        rw [Nat.zero_add]
        simp only [World.cell?, hx0]
        have hj10 : j < 10 := by have := (List.getElem?_eq_some_iff.1 hj).1; simpa using this
        match j, hj10 with
        | 0, _ => rfl
        | 1, _ => rfl
        | 2, _ => rfl
        | 3, _ => rfl
        | 4, _ => rfl
        | 5, _ => rfl
        | 6, _ => rfl
        | 7, _ => rfl
        | 8, _ => rfl
        | 9, _ => rfl
      rw [this]; exact hj
    · simp only [KidsAre]
      refine ⟨_, _, _, rfl, ?_, _, _, _, rfl, ?_, rfl⟩
      · simp only [TrIn]; exact ⟨nilT _, [], nilT _, by simp [KidsAre]⟩
      · simp only [TrIn]; exact ⟨nilT _, [], nilT _, by simp [KidsAre]⟩
  have hmd := made_any (t := t0) (cs := []) (v := .slice none 0 0) (F := fun k => k < W.heap.size) hT ⟨none, 0, rfl, by simp, by simp, .inl rfl⟩ (fun c hc => by cases hc) (fun _ h => h) (by decide)
  have HMD := Lib.hid hmd
  have HW := Lib.hid hW
  have HB := Lib.hid hbW
  clear hW hsW hx0 nilT hT hmd hbW
  go_enter Try.func19, Try.ntmps19
  go_wp2_with fail
  rw [HW.out]
  go_wp2_with fail
  refine HMD.out.mono ?_
  rintro e w1 ⟨R, Rd, p, v, m, s, v2, s2, rfl, hdu, hpc, hnp, hb1⟩
  have hrd : Reads 29 w1 v g0 := hdu.reads (made_wf t0)
  have hgk : GOk g0 := hdu.gok (made_wf t0)
  have hpl : p < w1.heap.size := (Array.getElem?_eq_some_iff.1 hpc).1
  have y0 : w1.cell? ⟨p, 0, none⟩ = some (ptr v) := by simp [World.cell?, hpc]
  have hnod := nodes_1 (xs := onceF (isThere g0) [3, 4]) hrd 2 g0_2 (fun W2 kv av hW2 hk ha => child_any (hrd.below hW2) 2 (hgk _ _ g0_2) hk ha)
  rw [t0_once] at hnod
  have HND := Lib.hid hnod
  have HPC := Lib.hid hpc
  have HRD := Lib.hid hrd
  have HB1 := Lib.hid (HB.out.trans (hb1.mono HB.out.size))
  clear hdu hpc hgk hnod hrd hb1 hnp
  go_wp2_with fail
  refine HND.out.mono ?_
  rintro e w2 ⟨⟨u, rfl, hu⟩, hb2⟩
  have hw3 : Below w2.heap.size w2 (w2.alloc (.cells #[.int .i64 3, .int .i64 4] 3)) := (Below.refl _ _).alloc (Nat.le_refl _) _
  have hi3 : IntsIn (Old (w2.alloc (.cells #[.int .i64 3, .int .i64 4] 3)).heap.size) (w2.alloc (.cells #[.int .i64 3, .int .i64 4] 3)) (.slice (some ⟨w2.heap.size, 0, none⟩) 2 2) [3, 4] := by
    refine ⟨_, 2, rfl, by simp, by decide, .inr ⟨w2.heap.size, 0, rfl, by simp [Old], fun j x hj => ?_⟩⟩
    match j, hj with
    | 0, hj => simp at hj; subst hj; simp [go_sem]
    | 1, hj => simp at hj; subst hj; simp [go_sem]
  have HIN := Lib.hid (ints_same [3, 4] _ _ u _ _ (hu.later hw3) hi3)
  have HB3 := Lib.hid ((HB1.out.trans (hb2.mono HB1.out.size)).trans (hw3.mono (Nat.le_trans HB1.out.size hb2.size)))
  have HB23 := Lib.hid (hb2.trans (hw3.mono hb2.size))
  have HNM := Lib.hid (show ∀ w, Calls Try.prog 32 #[.int .i64 10] w fun e w' => e = .returned (.string ⟨#[115, 101, 108, 102]⟩) ∧ w = w' from fun w => name_any 10 w)
  clear hu hb2 hw3 hi3
  go_wp2_with fail
  refine HIN.out.mono ?_
  rintro e w4 ⟨rfl, n4, hn4⟩
  have hb4 : Below w1.heap.size w1 w4 := by rw [← hn4]; exact below_drewN HB23.out _
  have hmt := match_any (HRD.out.below hb4) 1 ⟨4, ⟨#[]⟩, false⟩ 4
  rw [t0_match] at hmt
  have HMT := Lib.hid hmt
  have y4 : w4.cell? ⟨p, 0, none⟩ = some (ptr v) := (hb4.cell (p := ⟨p, 0, none⟩) hpl).trans y0
  have HB4 := Lib.hid (HB1.out.trans (hb4.mono HB1.out.size))
  clear hb4 hmt hn4
  go_wp2_with (first
    | (go_at_call 24; refine HMT.out.mono ?_; rintro e w5 ⟨rfl, hb5⟩)
    | (go_at_call 32; refine (HNM.out _).mono ?_; rintro e w6 ⟨rfl, rfl⟩))
  go_ret
  exact ⟨rfl, HB4.out.trans (hb5.mono HB4.out.size)⟩
end Go.Proofs.Ytinkjhkbaadbpaa
