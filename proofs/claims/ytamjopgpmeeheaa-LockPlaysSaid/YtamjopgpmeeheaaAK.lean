/- Ask (9). -/
import Derived.Test.YtamjopgpmeeheaaRL
import Derived.Test.YtamjopgpmeeheaaLI
import Derived.Test.YtamjopgpmeeheaaLW
import Derived.Test.YtamjopgpmeeheaaMC
import Derived.Test.YtamjopgpmeeheaaMD
namespace Go.Proofs.Ytamjopgpmeeheaa
open Go.RowKit
open Go.ChangeMaps (setBlock)
set_option linter.unusedVariables false

def hasI (hs : List W2) (t : Int) : Int := (findH hs t).getD 0
def atI (n : Nd) (t : Int) : Nat := if hasI n.hs t = 0 then n.q.length else (n.q.takeWhile (fun x => hasI n.hs x.1 != 0)).length
/-- what is asked of a node, when it may be asked -/
def askN (n : Nd) (t m : Int) : Bool × Nd :=
  if covB (hasI n.hs t) m = true then (true, n)
  else if canB n.hs t (joinI (hasI n.hs t) m) = true ∧ (hasI n.hs t ≠ 0 ∨ n.q = []) then (true, ⟨putH n.hs t (joinI (hasI n.hs t) m), n.q⟩)
  else (false, ⟨n.hs, n.q.take (atI n t) ++ (t, joinI (hasI n.hs t) m) :: n.q.drop (atI n t)⟩)
def waitsP (T : Tb) (t : Int) : Prop := ∃ id, ∃ x ∈ (T id).q, x.1 = t
def mayAsk (T : Tb) (t id m : Int) : Prop := 1 ≤ t ∧ t ≤ 1000 ∧ 1 ≤ id ∧ rightB m = true ∧ ¬ waitsP T t

theorem wants_any' {M R : Nat → Prop} {w : World} {s m : Nat} {f : Int → Option Value} {T : Tb} {c : Nat} (h : TabF M R w s m f T c) (hM : ∀ k, M k → k < w.heap.size) (hR : ∀ k, R k → k < w.heap.size) (t : Int) :
    Calls Try.prog 14 #[.pointer (some ⟨s, 0, none⟩), iv t] w fun e w' => ∃ a b d wb, (wb = true ↔ waitsP T t) ∧ e = .returned (.tuple #[.agg #[iv a, iv b, iv d], .bool wb]) ∧ Below w.heap.size w w' := by
  refine (wants_any h hM hR t).mono ?_
  rintro e w' ⟨⟨id, mo, hin, rfl⟩ | ⟨hno, rfl⟩, hb⟩
  · exact ⟨t, id, mo, true, ⟨fun _ => ⟨id, (t, mo), hin, rfl⟩, fun _ => rfl⟩, rfl, hb⟩
  · exact ⟨0, 0, 0, false, ⟨fun h => (by cases h), fun ⟨id, x, hx, e⟩ => by subst e; exact absurd hx (hno id x.2)⟩, rfl, hb⟩
theorem nameS_empty (m : Int) : (nameS m).toList.isEmpty = !rightB m := by
  by_cases h : rightB m = true
  · have hm : m = 1 ∨ m = 2 ∨ m = 3 ∨ m = 4 ∨ m = 5 ∨ m = 6 ∨ m = 7 := by simp [rightB] at h; omega
    rcases hm with rfl | rfl | rfl | rfl | rfl | rfl | rfl <;> decide +kernel
  · rw [Bool.not_eq_true] at h
    rw [h]; unfold nameS; rw [h]
    show (⟨#[]⟩ : ByteArray).toList.isEmpty = true
    decide +kernel

set_option maxRecDepth 100000 in
set_option maxHeartbeats 4000000 in
theorem ask_bad {M R : Nat → Prop} {w : World} {s m : Nat} {f : Int → Option Value} {T : Tb} {c : Nat} (h : TabF M R w s m f T c) (hM : ∀ k, M k → k < w.heap.size) (hR : ∀ k, R k → k < w.heap.size ∧ ¬ M k) (t id mo : Int) (hbad : ¬ mayAsk T t id mo) :
    Calls Try.prog 9 #[.pointer (some ⟨s, 0, none⟩), iv t, iv id, iv mo] w fun e w' => e = .returned (.tuple #[.bool false, .int .i64 2]) ∧ Below w.heap.size w w' := by
  have hms := hM _ h.ms
  have c0 : w.cell? ⟨s, 0, none⟩ = some (.map (some m)) := by simp [World.cell?, h.cell]
  have HNO := Lib.hid (none_any c0)
  have HWA := Lib.hid (wants_any' h hM (fun k hk => (hR k hk).1) t)
  have HBAD := Lib.hid hbad
  clear h hM hR hbad
  by_cases h1 : t < 1
  · go_enter Try.func9, Try.ntmps9
    go_wp2_with (first
      | (go_at_call 28; refine (name_any _ _).mono ?_; rintro e w2 ⟨rfl, hb2⟩)
      | (go_at_call 14; refine HWA.out.mono ?_; rintro e w1 ⟨a, b, d, wb, hwb, rfl, hb1⟩; have HWB := Lib.hid hwb; clear hwb)
      | (go_at_call 27; refine HNO.out.mono ?_; rintro e w' ⟨rfl, rfl⟩))
    exact bodyPost_ret (results_tmp2 rfl _ _ _) rfl ⟨rfl, hb1.alloc hb1.size _⟩
  have h1' : ¬ t < 1 := h1
  by_cases h2 : 1000 < t
  · go_enter Try.func9, Try.ntmps9
    go_wp2_with (first
      | (go_at_call 28; refine (name_any _ _).mono ?_; rintro e w2 ⟨rfl, hb2⟩)
      | (go_at_call 14; refine HWA.out.mono ?_; rintro e w1 ⟨a, b, d, wb, hwb, rfl, hb1⟩; have HWB := Lib.hid hwb; clear hwb)
      | (go_at_call 27; refine HNO.out.mono ?_; rintro e w' ⟨rfl, rfl⟩))
    exact bodyPost_ret (results_tmp2 rfl _ _ _) rfl ⟨rfl, hb1.alloc hb1.size _⟩
  by_cases h3 : id < 1
  · go_enter Try.func9, Try.ntmps9
    go_wp2_with (first
      | (go_at_call 28; refine (name_any _ _).mono ?_; rintro e w2 ⟨rfl, hb2⟩)
      | (go_at_call 14; refine HWA.out.mono ?_; rintro e w1 ⟨a, b, d, wb, hwb, rfl, hb1⟩; have HWB := Lib.hid hwb; clear hwb)
      | (go_at_call 27; refine HNO.out.mono ?_; rintro e w' ⟨rfl, rfl⟩))
    exact bodyPost_ret (results_tmp2 rfl _ _ _) rfl ⟨rfl, hb1.alloc hb1.size _⟩
  have hd1 : decide (t < 1) = false := decide_eq_false h1
  have hd2 : decide (1000 < t) = false := decide_eq_false h2
  have hd3 : decide (id < 1) = false := decide_eq_false h3
  by_cases h4 : rightB mo = true
  · have hnm : (nameS mo).toList.isEmpty = false := by rw [nameS_empty, h4]; rfl
    have hw : ∀ wb, (wb = true ↔ waitsP T t) → true = wb := fun wb hwb => by
      by_cases hp : waitsP T t
      · exact (hwb.2 hp).symm
      · exact absurd ⟨by omega, by omega, by omega, h4, hp⟩ HBAD.out
    have HW := Lib.hid hw
    clear hw
    go_enter Try.func9, Try.ntmps9
    go_wp2_with (first
      | (go_at_call 28; refine (name_any _ _).mono ?_; rintro e w2 ⟨rfl, hb2⟩)
      | (go_at_call 14; refine HWA.out.mono ?_; rintro e w1 ⟨a, b, d, wb, hwb, rfl, hb1⟩; obtain rfl := HW.out wb hwb; clear hwb)
      | (go_at_call 27; refine HNO.out.mono ?_; rintro e w' ⟨rfl, rfl⟩))
    exact bodyPost_ret (results_tmp2 rfl _ _ _) rfl ⟨rfl, (hb1.alloc hb1.size _).trans (hb2.mono (by have := hb1.size; simp; omega))⟩
  · have hnm : (nameS mo).toList.isEmpty = true := by rw [Bool.not_eq_true] at h4; rw [nameS_empty, h4]; rfl
    go_enter Try.func9, Try.ntmps9
    go_wp2_with (first
      | (go_at_call 28; refine (name_any _ _).mono ?_; rintro e w2 ⟨rfl, hb2⟩)
      | (go_at_call 14; refine HWA.out.mono ?_; rintro e w1 ⟨a, b, d, wb, hwb, rfl, hb1⟩; clear hwb)
      | (go_at_call 27; refine HNO.out.mono ?_; rintro e w' ⟨rfl, rfl⟩))
    exact bodyPost_ret (results_tmp2 rfl _ _ _) rfl ⟨rfl, (hb1.alloc hb1.size _).trans (hb2.mono (by have := hb1.size; simp; omega))⟩
end Go.Proofs.Ytamjopgpmeeheaa
