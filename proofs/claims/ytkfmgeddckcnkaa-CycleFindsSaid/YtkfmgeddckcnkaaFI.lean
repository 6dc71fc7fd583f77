/- find. -/
import Derived.Test.YtkfmgeddckcnkaaFA
import Derived.Deep.LoopGhost
namespace Go.Proofs.Ytkfmgeddckcnkaa
open Go.RowKit
open Go.ChangeMaps (setBlock)
set_option linter.unusedVariables false

def bestStep (f : Int → Option Nat) (b : Nat) (n : Int) : Nat :=
  match f n with
  | some d => if b = 0 ∨ d < b then d else b
  | none => b
def bestOf (G : List Edge) (t : Int) : Nat := (nextOf G t).foldl (bestStep (farOf G t)) 0
def walkStep (o : Option Int) (f : Int → List Int) (z : List Int) : List Int :=
  match o with
  | some n => n :: f n
  | none => z
def walkF (G : List Edge) (t : Int) : Nat → Int → List Int
  | 0, _ => []
  | left + 1, x => walkStep ((nextOf G x).find? (fun n => decide (farOf G t n = some (left + 1)))) (walkF G t left) (walkF G t left x)
theorem walkF_zero (G : List Edge) (t x : Int) : walkF G t 0 x = [] := rfl
theorem walkF_succ (G : List Edge) (t x : Int) (left : Nat) : walkF G t (left + 1) x = walkStep ((nextOf G x).find? (fun n => decide (farOf G t n = some (left + 1)))) (walkF G t left) (walkF G t left x) := rfl
theorem walkF_some {G : List Edge} {t x : Int} {left : Nat} {n : Int} (h : (nextOf G x).find? (fun n => decide (farOf G t n = some (left + 1))) = some n) : walkF G t (left + 1) x = n :: walkF G t left n := by
  rw [walkF_succ, h]
  rfl
theorem walkF_none {G : List Edge} {t x : Int} {left : Nat} (h : (nextOf G x).find? (fun n => decide (farOf G t n = some (left + 1))) = none) : walkF G t (left + 1) x = walkF G t left x := by
  rw [walkF_succ, h]
  rfl
def findOf (G : List Edge) (t : Int) : List Int := if bestOf G t = 0 then [] else t :: walkF G t (bestOf G t) t
theorem farOf_le {G : List Edge} {t x : Int} {d : Nat} (h : farOf G t x = some d) : d ≤ 201 := farS_le h
theorem best_le (G : List Edge) (t : Int) : ∀ (l : List Int) (b : Nat), b ≤ 201 → l.foldl (bestStep (farOf G t)) b ≤ 201
  | [], b, h => h
  | n :: l, b, h => by
    rw [List.foldl_cons]
    refine best_le G t l _ ?_
    unfold bestStep
    split
    · rename_i d hd
      have := farOf_le hd
      split <;> omega
    · exact h
theorem nextOf_length (G : List Edge) (n : Int) : (nextOf G n).length ≤ 1001 := by
  unfold nextOf
  refine Nat.le_trans (List.length_filter_le _ _) ?_
  simp
theorem far_look {w : World} {b : Nat} {f : Int → Option Nat} (h : MapIs iv w b (fF f)) (x : Int) :
    (Instr.lookup 44 (.map (some b)) (.int .i64 x) true).run Try.prog w = .ok (.tuple #[.int .i64 (((f x).getD 0 : Nat) : Int), .bool (f x).isSome]) w := by
  have := h.look key3 Try.underlying44 Try.zero3 x true
  unfold fF at this
  cases e : f x with
  | none => rw [e] at this; simpa using this
  | some d => rw [e] at this; simpa using this

theorem find_at {p : Int → Bool} {ys : List Int} {j : Nat} {y : Int} (h : (ys.take j).find? p = none) (hy : ys[j]? = some y) (hp : p y = true) : ys.find? p = some y := by
  have e : ys = ys.take j ++ y :: ys.drop (j + 1) := by
    obtain ⟨hl, rfl⟩ := List.getElem?_eq_some_iff.1 hy
    rw [← List.drop_eq_getElem_cons hl, List.take_append_drop]
  rw [e, List.find?_append, h]
  simp [hp]
theorem find_on {p : Int → Bool} {ys : List Int} {j : Nat} {y : Int} (h : (ys.take j).find? p = none) (hy : ys[j]? = some y) (hp : p y = false) : (ys.take (j + 1)).find? p = none := by
  rw [List.take_add_one, hy, List.find?_append, h]
  simp [hp]
theorem ownsRow_one (w : World) (B : Nat) (hB : B ≤ w.heap.size) (t : Int) : (w.alloc (.cells #[.int .i64 t] 3)).ownsRow B 3 1 (.slice (some ⟨w.heap.size, 0, none⟩) 1 1) [t].length ([t].map iv) :=
  ⟨rfl, .inr ⟨w.heap.size, 1, #[.int .i64 t], rfl, hB, Go.heap_alloc_new w _, Nat.le_refl _, by unfold maxLen; omega, rfl, rfl⟩⟩

set_option maxRecDepth 100000 in
set_option maxHeartbeats 8000000 in
theorem find_any {w : World} {m : Nat} {G : List Edge} (hg : GIs w m G) (hG : Fine G) (t : Int) :
    Calls Try.prog 15 #[.map (some m), .int .i64 t] w fun e w' => (∃ v, e = .returned v ∧ IntsIn (fun k => w.heap.size ≤ k ∧ k < w'.heap.size) w' v (findOf G t)) ∧ Below w.heap.size w w' := by
  have HG := Lib.hid hg
  have hml : m < w.heap.size := hg.lt
  obtain ⟨i0, hi, hz0, hz1, hz2⟩ := info_parts Try.info3
  have HFA := Lib.hid (far_any hg hG t)
  clear hg
  go_enter Try.func15, Try.ntmps15
  go_wp2
  go_step3
  go_wp2_with (first
    | (go_at_call 24; refine HFA.out.mono ?_; rintro e w1 ⟨rfl, hfar, hb1⟩; have HFAR := Lib.hid hfar; have HB1 := Lib.hid hb1; have hwl : w.heap.size < w1.heap.size := hfar.lt; have HNX := Lib.hid (next_any (HG.out.keep (hb1.block m hml)) hG t); clear hfar hb1)
    | (go_at_call 25; refine HNX.out.mono ?_; rintro e w2 ⟨⟨v, rfl, hi2⟩, hb2⟩; have HI2 := Lib.hid hi2; obtain ⟨a2, c2, rfl, -, -, hx2⟩ := hi2; have HX2 := Lib.hid hx2; have HB2 := Lib.hid hb2; have HFM := Lib.hid (HFAR.out.keep (hb2.block w.heap.size hwl)); clear hx2 hb2))
  have hnl := nextOf_length G t
  obtain ⟨zs, hzs⟩ : ∃ zs, nextOf G t = zs := ⟨_, rfl⟩
  rw [hzs] at HX2 hnl ⊢
  have HZS := Lib.hid hzs
  clear hzs
  go_loopw [6, 25] (fun b i wx => ∃ k : Nat, k ≤ zs.length ∧ i = .int .i64 k ∧ b = .int .i64 (((zs.take k).foldl (bestStep (farOf G t)) 0 : Nat) : Int) ∧ w2 = wx) (fun _ i _ => zs.length - (Lib.intOf i).toNat)
  case atStart => exact ⟨0, Nat.zero_le _, rfl, rfl, rfl⟩
  case round =>
    obtain ⟨k, hk, rfl, rfl, rfl⟩ := hrel
    have hbl := best_le G t (zs.take k) 0 (by omega)
    by_cases hlt : k < zs.length
    · rcases HX2.out with rfl | ⟨g, off, rfl, -, hc⟩
      · simp at hlt
      obtain ⟨y, hyk⟩ : ∃ y, zs[k]? = some y := ⟨_, List.getElem?_eq_getElem hlt⟩
      have hcy := hc k y hyk
      have hlk := far_look HFM.out y
      have hst : (zs.take (k + 1)).foldl (bestStep (farOf G t)) 0 = bestStep (farOf G t) ((zs.take k).foldl (bestStep (farOf G t)) 0) y := by
        rw [List.take_add_one, hyk]; simp
      have HST := Lib.hid hst
      have q0 : (0 : Int) ≤ (k : Int) := by omega
      have q1 : (k : Int) < (zs.length : Int) := by omega
      clear hst hc hyk
      obtain ⟨b, hb⟩ : ∃ b, (zs.take k).foldl (bestStep (farOf G t)) 0 = b := ⟨_, rfl⟩
      rw [hb] at HST hbl ⊢
      clear hb
      cases hf : farOf G t y with
      | none =>
        rw [hf] at hlk
        have HF := Lib.hid hf
        clear hf
        simp only [Option.getD_none, Option.isSome_none] at hlk
        go_wp2
        go_roundw
        case rel => exact ⟨k + 1, by omega, by go_num, by rw [HST.out]; unfold bestStep; rw [HF.out], trivial⟩
        case measure => simp [Lib.intOf]; omega
      | some d =>
        rw [hf] at hlk
        have HF := Lib.hid hf
        have hd := farOf_le hf
        clear hf
        simp only [Option.getD_some, Option.isSome_some] at hlk
        by_cases hb0 : b = 0
        · subst hb0
          go_wp2
          go_roundw
          case rel => exact ⟨k + 1, by omega, by go_num, by rw [HST.out]; unfold bestStep; rw [HF.out]; simp, trivial⟩
          case measure => simp [Lib.intOf]; omega
        · by_cases hdb : d < b
          · have hb0' : ¬ ((b : Int) = 0) := by omega
            have hdb' : (d : Int) < (b : Int) := by omega
            go_wp2
            go_roundw
            case rel => exact ⟨k + 1, by omega, by go_num, by rw [HST.out]; unfold bestStep; rw [HF.out]; simp [hdb], trivial⟩
            case measure => simp [Lib.intOf]; omega
          · have hb0' : ¬ ((b : Int) = 0) := by omega
            have hdb' : ¬ ((d : Int) < (b : Int)) := by omega
            go_wp2
            go_roundw
            case rel => exact ⟨k + 1, by omega, by go_num, by rw [HST.out]; unfold bestStep; rw [HF.out]; simp [hdb, hb0], trivial⟩
            case measure => simp [Lib.intOf]; omega
    · obtain rfl : k = zs.length := by omega
      have hbo : (zs.take zs.length).foldl (bestStep (farOf G t)) 0 = bestOf G t := by rw [List.take_length, ← HZS.out]; rfl
      rw [hbo] at hbl ⊢
      have hfd : findOf G t = if bestOf G t = 0 then [] else t :: walkF G t (bestOf G t) t := rfl
      obtain ⟨b, hb⟩ : ∃ b, bestOf G t = b := ⟨_, rfl⟩
      rw [hb] at hfd hbl ⊢
      have HFD := Lib.hid hfd
      clear hb hbo hfd
      by_cases hb0 : b = 0
      · subst hb0
        go_wp2
        go_ret
        refine ⟨⟨_, rfl, ?_⟩, HB1.out.trans (HB2.out.mono HB1.out.size)⟩
        rw [HFD.out]
        exact intsIn_nil _ _
      · have hb0' : ¬ ((b : Int) = 0) := by omega
        rw [if_neg hb0] at HFD
        go_wp2
        go_step3
        go_wp2
        have hr0 := ownsRow_one w2 (w.heap.size + 1) (Nat.le_trans hwl HB2.out.size) t
        have hm0 : MapIs iv (w2.alloc (.cells #[.int .i64 t] 3)) w.heap.size (fF (farOf G t)) := HFM.out.keep (Go.heap_alloc_old _ _ (Nat.lt_of_lt_of_le hwl HB2.out.size))
        have hb0 : Below w.heap.size w (w2.alloc (.cells #[.int .i64 t] 3)) := (HB1.out.trans (HB2.out.mono HB1.out.size)).alloc (Nat.le_trans (Nat.le_of_lt hwl) HB2.out.size) _
        have HR0 := Lib.hid hr0
        have HM0 := Lib.hid hm0
        have HBE0 := Lib.hid hb0
        clear hr0 hm0 hb0
        generalize ((b : Int) == 0) = bz
        go_loopg [11, 12, 13] b (fun g s11 s12 s13 wx => ∃ (rv : Value) (x : Int) (acc : List Int), rv = s11 ∧ s12 = .int .i64 x ∧ s13 = .int .i64 g ∧ Aside (acc ++ walkF G t g x = t :: walkF G t b t) ∧ acc.length + g ≤ 202 ∧ wx.ownsRow (w.heap.size + 1) 3 1 rv acc.length (acc.map iv) ∧ MapIs iv wx w.heap.size (fF (farOf G t)) ∧ Below w.heap.size w wx)
        case atStart => exact ⟨_, t, [t], rfl, rfl, rfl, rfl, by simp; omega, HR0.out, HM0.out, HBE0.out⟩
        case round =>
          obtain ⟨rv, x, acc, rfl, rfl, rfl, HW, hal, hrow, hmp, hbx⟩ := hrel
          have HROW := Lib.hid hrow
          have HMP := Lib.hid hmp
          have HBX := Lib.hid hbx
          have hmx : m < wr.heap.size := Nat.lt_of_lt_of_le hml hbx.size
          have hmwx : w.heap.size < wr.heap.size := hmp.lt
          cases gk with
          | zero =>
            clear hrow hmp hbx
            rw [show ((0 : Nat) : Int) = 0 from rfl]
            go_wp2
            try rw [Exit.noGoto_ret]
            go_ret
            refine ⟨⟨_, rfl, ?_⟩, HBX.out⟩
            rw [HFD.out, ← HW.out]
            rw [walkF_zero, List.append_nil]
            exact (intsIn_row HROW.out).bound.mono (fun k hk => ⟨Nat.le_of_succ_le hk.1, hk.2⟩)
          | succ g =>
            have HNX2 := Lib.hid (next_any (HG.out.keep (hbx.block m hml)) hG x)
            obtain ⟨W0, rfl⟩ : ∃ W0, W0 = wr := ⟨wr, rfl⟩
            have hg0 : (0 : Int) < (g : Int) + 1 := by omega
            clear hrow hmp hbx
            go_wp2_with (go_at_call 25; refine HNX2.out.mono ?_; rintro e w4 ⟨⟨v, rfl, hi4⟩, hb4⟩; have HI4 := Lib.hid hi4; obtain ⟨a4, c4, rfl, -, -, hx4⟩ := hi4; have HX4 := Lib.hid hx4; have HB4 := Lib.hid hb4; have HFM4 := Lib.hid (HMP.out.keep (hb4.block w.heap.size hmwx)); clear hx4 hb4)
            have hnl4 := nextOf_length G x
            obtain ⟨ys, hys⟩ : ∃ ys, nextOf G x = ys := ⟨_, rfl⟩
            rw [hys] at HX4 hnl4 ⊢
            have HYS := Lib.hid hys
            clear hys
            go_loopw [11, 12, 61] (fun a c i wx => ∃ j : Nat, j ≤ ys.length ∧ i = .int .i64 j ∧ a = rv ∧ c = .int .i64 x ∧ Aside ((ys.take j).find? (fun n => decide (farOf G t n = some (g + 1))) = none) ∧ w4 = wx) (fun _ _ i _ => ys.length - (Lib.intOf i).toNat)
            case atStart => exact ⟨0, Nat.zero_le _, rfl, rfl, rfl, rfl, rfl⟩
            case round =>
              obtain ⟨j, hj, rfl, rfl, rfl, HA, rfl⟩ := hrel
              by_cases hlt : j < ys.length
              · rcases HX4.out with rfl | ⟨gb, off, rfl, -, hc⟩
                · simp at hlt
                obtain ⟨y, hyk⟩ : ∃ y, ys[j]? = some y := ⟨_, List.getElem?_eq_getElem hlt⟩
                have hcy := hc j y hyk
                have hlk := far_look HFM4.out y
                have HYK := Lib.hid hyk
                have q0 : (0 : Int) ≤ (j : Int) := by omega
                have q1 : (j : Int) < (ys.length : Int) := by omega
                clear hc hyk
                cases hf : farOf G t y with
                | none =>
                  rw [hf] at hlk
                  have HF := Lib.hid hf
                  clear hf
                  simp only [Option.getD_none, Option.isSome_none] at hlk
                  go_wp2
                  go_roundw
                  case rel => exact ⟨j + 1, by omega, by go_num, rfl, rfl, find_on HA.out HYK.out (by rw [HF.out]; simp), trivial⟩
                  case measure => simp [Lib.intOf]; omega
                | some d =>
                  rw [hf] at hlk
                  have HF := Lib.hid hf
                  have hd := farOf_le hf
                  clear hf
                  simp only [Option.getD_some, Option.isSome_some] at hlk
                  by_cases hdg : d = g + 1
                  · subst hdg
                    have HWK := Lib.hid (show walkF G t (g + 1) x = y :: walkF G t g y from walkF_some (by rw [HYS.out]; exact find_at HA.out HYK.out (by rw [HF.out]; simp)))
                    have hown1 := ownsRow_alloc (ownsRow_keeps HROW.out (fun k hk => HB4.out.block k (ownsRow_base HROW.out hk).2)) (.cells #[iv y] 3)
                    have HOWN1 := Lib.hid hown1
                    have hc1 : ∀ j' u, [iv y][j']? = some u → (w4.alloc (.cells #[iv y] 3)).cell? ((⟨w4.heap.size, 0, none⟩ : Addr).add j') = some u := fun j' u h => cell_one_new w4 (iv y) 3 j' u h
                    have HC1 := Lib.hid hc1
                    have hs4 : w.heap.size + 1 ≤ w4.heap.size := Nat.le_trans hmwx HB4.out.size
                    clear hown1 hc1
                    go_wp2_with (at_builtin; refine wpList_append_own_at _ rfl _ _ 27 rfl (w.heap.size + 1) 3 i0 (.int .i64 0) 1 8 Try.underlying27 hi hz0 hz1 hz2 rfl (by decide) _ _ _ rfl HOWN1.out ⟨w4.heap.size, 0, none⟩ 1 1 [iv y] rfl rfl HC1.out (by simp [Value.oneCell']) (by unfold maxLen; omega) (by omega) (by simp; omega) ?_; intro v' w6 hown6 hgrow hnil hloc)
                    go_roundg g
                    case rel =>
                      have hch : Chg (fun k => w.heap.size + 1 ≤ k) (w4.alloc (.cells #[iv y] 3)) w6 := chg_grown hgrow (fun k e => (ownsRow_base HROW.out e).1)
                      have hold : ∀ k, k ≤ w.heap.size → w6.heap[k]? = w4.heap[k]? := fun k hk => (hch.block k (by simp; omega) (by omega)).trans (Go.heap_alloc_old w4 _ (by omega))
                      have hb6 : Below w.heap.size w w6 := (HBX.out.trans (HB4.out.mono HBX.out.size)).trans ⟨hch.os, hch.tape, hch.output, by have := hch.size; simp at this; omega, fun k hk => hold k (by omega)⟩
                      refine ⟨_, y, acc ++ [y], rfl, rfl, by go_num, ?_, by simp; omega, ?_, HFM4.out.keep (hold _ (Nat.le_refl _)), hb6⟩
                      · have := HW.out
                        rw [HWK.out] at this
                        show (acc ++ [y]) ++ _ = _
                        rw [← this]; simp
                      · rw [List.length_append, List.map_append]
                        exact hown6
                    case measure => omega
                  · have hdg' : ¬ ((d : Int) = (g : Int) + 1) := by omega
                    go_wp2
                    go_roundw
                    case rel => exact ⟨j + 1, by omega, by go_num, rfl, rfl, find_on HA.out HYK.out (by rw [HF.out]; simp [hdg]), trivial⟩
                    case measure => simp [Lib.intOf]; omega
              · obtain rfl : j = ys.length := by omega
                have HWK := Lib.hid (show walkF G t (g + 1) x = walkF G t g x from walkF_none (by
                  have h1 := HA.out
                  rw [List.take_length] at h1
                  rw [HYS.out]; exact h1))
                go_wp2
                go_roundg g
                case rel =>
                  have hb4 : Below w.heap.size w w4 := HBX.out.trans (HB4.out.mono HBX.out.size)
                  exact ⟨_, x, acc, rfl, rfl, by go_num, by have := HW.out; rw [HWK.out] at this; exact this, by omega, ownsRow_keeps HROW.out (fun k hk => HB4.out.block k (ownsRow_base HROW.out hk).2), HFM4.out, hb4⟩
                case measure => omega
end Go.Proofs.Ytkfmgeddckcnkaa
