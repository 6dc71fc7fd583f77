/- New (8), none (27), can (32). -/
import Derived.Test.YtamjopgpmeeheaaLT
import Derived.Test.YtamjopgpmeeheaaMB
namespace Go.Proofs.Ytamjopgpmeeheaa
open Go.RowKit
open Go.ChangeMaps (setBlock)
set_option linter.unusedVariables false

/-- can a transaction have a mode? -/
def canB (hs : List W2) (t m : Int) : Bool := hs.all (fun h => h.1 == t || compB h.2 m)
theorem canB_iff {hs : List W2} (hr : Rise hs) {t m : Int} : canB hs t m = true ↔ ∀ x v, findH hs x = some v → x = t ∨ compB v m = true := by
  unfold canB
  rw [List.all_eq_true]
  constructor
  · intro h x v hx
    have := h _ (findH_mem hx)
    simpa using this
  · intro h e he
    have := h e.1 e.2 (mem_findH hr he)
    simpa using this
theorem canB_not {hs : List W2} (hr : Rise hs) {t m x v : Int} (h : findH hs x = some v) (h1 : x ≠ t) (h2 : compB v m = false) : canB hs t m = false := by
  cases hc : canB hs t m with
  | false => rfl
  | true =>
    rcases (canB_iff hr).1 hc x v h with h3 | h3
    · exact absurd h3 h1
    · rw [h2] at h3; cases h3

theorem key3 : MKey Try.prog 3 iv := mkey_int Try.underlying3
theorem new_any (w : World) : Calls Try.prog 8 #[] w fun e w' => (∃ p, e = .returned p ∧ Tab (fun k => w.heap.size ≤ k ∧ k < w'.heap.size) w' p (fun _ => Nd.nil) 0) ∧ Below w.heap.size w w' := by
  have hmm := @run_makeMap Try.prog
  go_enter Try.func8, Try.ntmps8
  go_wp2
  go_ret
  refine ⟨⟨_, rfl, (fun k => k = w.heap.size ∨ k = w.heap.size + 1), (fun _ => False), w.heap.size + 1, w.heap.size, fun _ => none, by simp, ?_, fun _ h => h.elim, fun _ h => h.elim, ?_⟩, ((Below.refl _ _).alloc (Nat.le_refl _) _).alloc (by simp) _⟩
  · rintro k (rfl | rfl) <;> simp <;> omega
  · have hm := mapIs_new iv w
    refine ⟨.inr rfl, .inl rfl, by omega, ?_, ?_, ?_, fun _ _ => rfl, ?_, ⟨[], by simp, by simp⟩⟩
    · have := Go.heap_alloc_new (w.alloc (.map #[] 0)) (.cells #[.map (some w.heap.size)] 51)
      simpa using this
    · exact hm.keep (Go.heap_alloc_old _ _ (by simp))
    · intro id v hv; cases hv
    · intro id id' hb qv qv' hv; cases hv
theorem none_any {s m : Nat} {w : World} (h : w.cell? ⟨s, 0, none⟩ = some (.map (some m))) : Calls Try.prog 27 #[.pointer (some ⟨s, 0, none⟩)] w fun e w' => e = .returned (.bool false) ∧ w = w' := by
  have hq := fun w => run_eql_map_nil (P := Try.prog) w 49 3 60 (some m) Try.underlying49
  go_enter Try.func27, Try.ntmps27
  go_wp2
  go_ret
  exact ⟨rfl, rfl⟩

theorem hF_some {hs : List W2} {x : Int} {v : Value} (h : hF hs x = some v) : ∃ vm, findH hs x = some vm ∧ v = iv vm := by
  unfold hF at h
  obtain ⟨vm, h1, h2⟩ := Option.map_eq_some_iff.1 h
  exact ⟨vm, h1, h2.symm⟩
set_option maxRecDepth 100000 in
set_option maxHeartbeats 1000000 in
theorem can_any {w : World} {hb : Nat} {hs : List W2} (h : MapIs iv w hb (hF hs)) (hr : Rise hs) (qv : Value) (t m : Int) :
    Calls Try.prog 32 #[.agg #[.map (some hb), qv], iv t, iv m] w fun e w' => e = .returned (.bool (canB hs t m)) ∧ Below w.heap.size w w' := by
  have hlt := h.lt
  have h0 : MapIs iv (w.alloc (.cells #[.map (some hb), qv] 60)) hb (hF hs) := h.keep (Go.heap_alloc_old _ _ hlt)
  have H0 := Lib.hid h0
  clear h h0
  go_enter Try.func32, Try.ntmps32
  go_wp2_with ((refine wpList_mapRange rfl _ 57 rfl Try.underlying57 rfl H0.out ?_; intro ob n0 hit))
  have HIT := Lib.hid hit
  have hne : hb ≠ w.heap.size + 1 := by omega
  clear hit
  go_simp
  go_loopw [7] (fun _ wr => ∃ (L : Int → Prop) (n : Nat), Iter iv wr (w.heap.size + 1) hb (hF hs) L n ∧ (∀ x v, findH hs x = some v → L x ∨ x = t ∨ compB v m = true) ∧ Below w.heap.size w wr) (fun _ wr => iterLeft (w.heap.size + 1) hb wr)
  case atStart => exact ⟨_, n0, by simpa using HIT.out, fun x v hx => .inl (by simp [hF, hx]), by simpa using ((Below.refl w.heap.size w).alloc (Nat.le_refl _) (.cells #[.map (some hb), qv] 60)).alloc (by simp) ob⟩
  case round =>
    obtain ⟨L, n, hit, hall, hbel⟩ := hrel
    have hleft := hit.left
    have HIT2 := Lib.hid hit
    have HALL := Lib.hid hall
    have HBEL := Lib.hid hbel
    clear hit hall hbel
    go_wp2_with (first
      | (refine wpList_mapNext rfl _ rfl key3 rfl HIT2.out (fun hno => ?_) (fun x v w1 ob' n' hLx hfx hst hob hi' hlt' hen => ?_); rotate_left; (have hen1 := hen w1 (hst.2.2.2.2 hb hne) hob; have HST := Lib.hid hst; have HI2 := Lib.hid hi'; have HLX := Lib.hid hLx; obtain ⟨vm, hvm, rfl⟩ := hF_some hfx; have HFX := Lib.hid hvm; clear hst hi' hLx hen hfx hvm); rotate_left; (have HNO := Lib.hid hno; clear hno)))
    · go_ret
      exact ⟨ret_b ((canB_iff hr).2 (fun x v hx => (HALL.out x v hx).resolve_left (HNO.out x))).symm, HBEL.out⟩
    case roundEnd =>
      have hxt : x = t := by assumption
      exact ⟨⟨_, n', HI2.out, fun y u hy => (HALL.out y u hy).elim (fun hl => by
        by_cases e : y = x
        · exact .inr (.inl (by rw [e, hxt]))
        · exact .inl ⟨hl, e⟩) .inr, HBEL.out.trans (below_stepped HST.out (by omega))⟩, by rw [HI2.out.left]; omega⟩
    · have hxt : ¬ x = t := by assumption
      refine (comp_any _ _ _).mono ?_
      rintro e w2 ⟨rfl, hb2⟩
      have HB2 := Lib.hid hb2
      have hs2 := hb2.size
      clear hb2
      have hi3 := HI2.out.keep (HB2.out.block _ HI2.out.lt.1) (HB2.out.block _ HI2.out.lt.2)
      have hw2 : Below w.heap.size w w2 := (HBEL.out.trans (below_stepped HST.out (by omega))).trans (HB2.out.mono (by have := HI2.out.lt; omega))
      have HI3 := Lib.hid hi3
      have HW2 := Lib.hid hw2
      clear hi3 hw2
      by_cases hc : compB vm m = true
      · rw [hc]
        have HC := Lib.hid hc
        clear hc
        go_wp2
        go_roundw
        case rel => exact ⟨_, n', HI3.out, fun y u hy => (HALL.out y u hy).elim (fun hl => by
          by_cases e : y = x
          · refine .inr (.inr ?_)
            rw [e, HFX.out] at hy
            cases hy; exact HC.out
          · exact .inl ⟨hl, e⟩) .inr, HW2.out⟩
        case measure => rw [HI3.out.left]; omega
      · have hc : compB vm m = false := by simpa using hc
        rw [hc]
        have hcan := canB_not hr HFX.out hxt hc
        have HCAN := Lib.hid hcan
        clear hc hcan
        go_wp2
        go_ret
        exact ⟨ret_b HCAN.out.symm, HW2.out⟩
end Go.Proofs.Ytamjopgpmeeheaa
