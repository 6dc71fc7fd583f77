/- The reference's Has (19), can (54). -/
import Derived.Test.YtamjopgpmeeheaaRQ
import Derived.Test.YtamjopgpmeeheaaMD
namespace Go.Proofs.Ytamjopgpmeeheaa
open Go.RowKit
set_option linter.unusedVariables false

/-- what the reference says one has of a node -/
def hasG (hd : List G3) (t nd : Int) : Int := ((hd.find? (fun g => g.1 == t && g.2.1 == nd)).map (fun g => g.2.2)).getD 0
theorem hasG_at {hd : List G3} {t nd : Int} {k : Nat} {x : G3} (hno : ∀ g ∈ hd.take k, (g.1 == t && g.2.1 == nd) = false) (hx : hd[k]? = some x) (h : (x.1 == t && x.2.1 == nd) = true) : hasG hd t nd = x.2.2 := by
  obtain ⟨hk, rfl⟩ := List.getElem?_eq_some_iff.1 hx
  have hsp : hd = hd.take k ++ hd[k] :: hd.drop (k + 1) := by rw [List.getElem_cons_drop]; exact (List.take_append_drop k hd).symm
  unfold hasG
  have : hd.find? (fun g => g.1 == t && g.2.1 == nd) = some hd[k] := by
    conv => lhs; rw [hsp]
    rw [List.find?_append, List.find?_eq_none.2 (fun g hg => by rw [hno g hg]; simp)]
    simp only [Option.none_or]
    rw [List.find?_cons, h]
  rw [this]; rfl
theorem hasG_none {hd : List G3} {t nd : Int} (hno : ∀ g ∈ hd, (g.1 == t && g.2.1 == nd) = false) : hasG hd t nd = 0 := by
  unfold hasG
  rw [List.find?_eq_none.2 (fun g hg => by rw [hno g hg]; simp)]; rfl
theorem no_snoc {α : Type} {p : α → Bool} {l : List α} {k : Nat} {x : α} (hno : ∀ g ∈ l.take k, p g = false) (hx : l[k]? = some x) (h : p x = false) : ∀ g ∈ l.take (k + 1), p g = false := fun g hg => by
  rw [List.take_add_one, hx] at hg
  rcases List.mem_append.1 hg with hg | hg
  · exact hno g hg
  · simp at hg; subst hg; exact h

set_option maxRecDepth 100000 in
set_option maxHeartbeats 4000000 in
theorem rhas_any {F : Nat → Prop} {w : World} {s : Nat} {hd wt : List G3} (h : RTab F w s hd wt) (hF : ∀ k, F k → k < w.heap.size) (t nd : Int) :
    Calls Try.prog 19 #[.pointer (some ⟨s, 0, none⟩), iv t, iv nd] w fun e w' => e = .returned (.int .i64 (hasG hd t nd)) ∧ Below w.heap.size w w' := by
  obtain ⟨v1, v2, hcell, ht1, ht2⟩ := h
  obtain ⟨a, c, rfl, hl1, hl2, hc⟩ := ht1
  obtain ⟨ao, co, rfl, -, -, -⟩ := ht2
  unfold maxLen at hl2
  have hsl : s < w.heap.size := (Array.getElem?_eq_some_iff.1 hcell).1
  have c0 : w.cell? ⟨s, 0, none⟩ = some (.slice a hd.length c) := by simp [World.cell?, hcell]
  have HC := Lib.hid hc
  have HC0 := Lib.hid c0
  clear hc hcell c0
  go_enter Try.func19, Try.ntmps19
  go_wp2_with fail
  go_loopw [7] (fun i wr => ∃ k : Nat, k ≤ hd.length ∧ i = .int .i64 k ∧ (∀ g ∈ hd.take k, (g.1 == t && g.2.1 == nd) = false) ∧ Below w.heap.size w wr) (fun i _ => hd.length - (Lib.intOf i).toNat)
  case atStart => exact ⟨0, Nat.zero_le _, rfl, by simp, Below.refl _ _⟩
  case round =>
    obtain ⟨k, hk, rfl, hno, hbr⟩ := hrel
    have HBR := Lib.hid hbr
    have HNO := Lib.hid hno
    have hsr := hbr.size
    have x9 := (hbr.cell (p := ⟨s, 0, none⟩) hsl).trans HC0.out
    clear hbr hno
    by_cases hlt : k < hd.length
    · obtain ⟨⟨x0, x1, x2⟩, hx⟩ : ∃ x, hd[k]? = some x := ⟨_, List.getElem?_eq_getElem hlt⟩
      rcases HC.out with h | ⟨g, off, rfl, hg, hcl⟩
      · rw [h] at hlt; simp at hlt
      have hgl := hF g hg
      obtain ⟨a0, a1, a2⟩ := hcl k _ hx
      have d0 := (HBR.out.cell (p := ⟨g, off + k * 3, none⟩) hgl).trans a0
      have d1 := (HBR.out.cell (p := ⟨g, off + k * 3 + 1, none⟩) hgl).trans a1
      have d2 := (HBR.out.cell (p := ⟨g, off + k * 3 + 2, none⟩) hgl).trans a2
      simp only at d0 d1 d2
      have k0 : (0 : Int) ≤ (k : Int) := by omega
      have k1 : (k : Int) < (hd.length : Int) := by omega
      have HX := Lib.hid hx
      clear a0 a1 a2 hcl hx
      obtain ⟨p, hp⟩ : ∃ p, (x0 == t) = p := ⟨_, rfl⟩
      obtain ⟨q, hq⟩ : ∃ q, (x1 == nd) = q := ⟨_, rfl⟩
      cases p with
      | false =>
        have HNS := Lib.hid (no_snoc HNO.out HX.out (by simp only [hp, Bool.false_and]))
        go_wp2
        go_roundw
        case rel => exact ⟨k + 1, by omega, by go_num, HNS.out, HBR.out⟩
        case measure => simp [Lib.intOf]; omega
      | true =>
        cases q with
        | false =>
          have HNS := Lib.hid (no_snoc HNO.out HX.out (by simp only [hp, hq, Bool.and_false]))
          go_wp2
          go_roundw
          case rel => exact ⟨k + 1, by omega, by go_num, HNS.out, HBR.out⟩
          case measure => simp [Lib.intOf]; omega
        | true =>
          have HV := Lib.hid (hasG_at HNO.out HX.out (by simp only [hp, hq, Bool.and_self]))
          go_wp2
          go_ret
          exact ⟨by rw [HV.out]; rfl, HBR.out⟩
    · obtain rfl : k = hd.length := by omega
      have HV := Lib.hid (hasG_none (hd := hd) (t := t) (nd := nd) (by have := HNO.out; rw [List.take_length] at this; exact this))
      go_wp2
      go_ret
      exact ⟨by rw [HV.out]; rfl, HBR.out⟩

/-- can one have a mode, by the reference -/
def canG (hd : List G3) (t nd m : Int) : Bool := hd.all (fun g => !(g.2.1 == nd && g.1 != t && !compB g.2.2 m))
set_option maxRecDepth 100000 in
set_option maxHeartbeats 4000000 in
theorem rcan_any {F : Nat → Prop} {w : World} {s : Nat} {hd wt : List G3} (h : RTab F w s hd wt) (hF : ∀ k, F k → k < w.heap.size) (t nd m : Int) :
    Calls Try.prog 54 #[.pointer (some ⟨s, 0, none⟩), iv t, iv nd, iv m] w fun e w' => e = .returned (.bool (canG hd t nd m)) ∧ Below w.heap.size w w' := by
  obtain ⟨v1, v2, hcell, ht1, ht2⟩ := h
  obtain ⟨a, c, rfl, hl1, hl2, hc⟩ := ht1
  obtain ⟨ao, co, rfl, -, -, -⟩ := ht2
  unfold maxLen at hl2
  have hsl : s < w.heap.size := (Array.getElem?_eq_some_iff.1 hcell).1
  have c0 : w.cell? ⟨s, 0, none⟩ = some (.slice a hd.length c) := by simp [World.cell?, hcell]
  have HC := Lib.hid hc
  have HC0 := Lib.hid c0
  clear hc hcell c0
  go_enter Try.func54, Try.ntmps54
  go_wp2_with fail
  go_loopw [9] (fun i wr => ∃ k : Nat, k ≤ hd.length ∧ i = .int .i64 k ∧ (∀ g ∈ hd.take k, (g.2.1 == nd && g.1 != t && !compB g.2.2 m) = false) ∧ Below w.heap.size w wr) (fun i _ => hd.length - (Lib.intOf i).toNat)
  case atStart => exact ⟨0, Nat.zero_le _, rfl, by simp, Below.refl _ _⟩
  case round =>
    obtain ⟨k, hk, rfl, hno, hbr⟩ := hrel
    have HBR := Lib.hid hbr
    have HNO := Lib.hid hno
    have hsr := hbr.size
    have x9 := (hbr.cell (p := ⟨s, 0, none⟩) hsl).trans HC0.out
    clear hbr hno
    by_cases hlt : k < hd.length
    · obtain ⟨⟨x0, x1, x2⟩, hx⟩ : ∃ x, hd[k]? = some x := ⟨_, List.getElem?_eq_getElem hlt⟩
      rcases HC.out with h | ⟨g, off, rfl, hg, hcl⟩
      · rw [h] at hlt; simp at hlt
      have hgl := hF g hg
      obtain ⟨a0, a1, a2⟩ := hcl k _ hx
      have d0 := (HBR.out.cell (p := ⟨g, off + k * 3, none⟩) hgl).trans a0
      have d1 := (HBR.out.cell (p := ⟨g, off + k * 3 + 1, none⟩) hgl).trans a1
      have d2 := (HBR.out.cell (p := ⟨g, off + k * 3 + 2, none⟩) hgl).trans a2
      simp only at d0 d1 d2
      have k0 : (0 : Int) ≤ (k : Int) := by omega
      have k1 : (k : Int) < (hd.length : Int) := by omega
      have HX := Lib.hid hx
      have HB1 := Lib.hid (HBR.out.alloc hsr (.cells #[.int .i64 x0, .int .i64 x1, .int .i64 x2] 34))
      clear a0 a1 a2 hcl hx
      obtain ⟨p, hp⟩ : ∃ p, (x1 == nd) = p := ⟨_, rfl⟩
      obtain ⟨q, hq⟩ : ∃ q, (x0 != t) = q := ⟨_, rfl⟩
      obtain ⟨r, hr⟩ : ∃ r, compB x2 m = r := ⟨_, rfl⟩
      have hcomp : ∀ w', Calls Try.prog 16 #[.int .i64 x2, .int .i64 m] w' fun e w'' => e = .returned (.bool r) ∧ Below w'.heap.size w' w'' := fun w' => by rw [← hr]; exact rcomp_any x2 m w'
      have HCOMP := Lib.hid hcomp
      have HR := Lib.hid hr
      clear hcomp hr
      cases p with
      | false =>
        have HNS := Lib.hid (no_snoc HNO.out HX.out (by simp only [hp, Bool.false_and]))
        go_wp2
        go_roundw
        case rel => exact ⟨k + 1, by omega, by go_num, HNS.out, HB1.out⟩
        case measure => simp [Lib.intOf]; omega
      | true =>
        cases q with
        | false =>
          have HNS := Lib.hid (no_snoc HNO.out HX.out (by simp only [hp, hq, Bool.and_false, Bool.false_and]))
          go_wp2
          go_roundw
          case rel => exact ⟨k + 1, by omega, by go_num, HNS.out, HB1.out⟩
          case measure => simp [Lib.intOf]; omega
        | true =>
          cases r with
          | true =>
            have HNS := Lib.hid (no_snoc HNO.out HX.out (by simp only [hp, hq, HR.out, Bool.not_true, Bool.and_false]))
            go_wp2_with (go_at_call 16; have h1 := HCOMP.out (wr.alloc (.cells #[.int .i64 x0, .int .i64 x1, .int .i64 x2] 34)); refine h1.mono ?_; rintro e w6 ⟨rfl, hb6⟩)
            go_roundw
            case rel => exact ⟨k + 1, by omega, by go_num, HNS.out, HB1.out.trans (hb6.mono HB1.out.size)⟩
            case measure => simp [Lib.intOf]; omega
          | false =>
            have HV := Lib.hid (show canG hd t nd m = false by
              cases hcg : canG hd t nd m with
              | false => rfl
              | true =>
                have := List.all_eq_true.1 hcg _ (List.mem_of_getElem? HX.out)
                simp [hp, hq, HR.out] at this)
            go_wp2_with (go_at_call 16; have h1 := HCOMP.out (wr.alloc (.cells #[.int .i64 x0, .int .i64 x1, .int .i64 x2] 34)); refine h1.mono ?_; rintro e w6 ⟨rfl, hb6⟩)
            go_ret
            exact ⟨by rw [HV.out]; rfl, HB1.out.trans (hb6.mono HB1.out.size)⟩
    · obtain rfl : k = hd.length := by omega
      have HV := Lib.hid (show canG hd t nd m = true by
        have := HNO.out
        rw [List.take_length] at this
        exact List.all_eq_true.2 (fun g hg => by rw [this g hg]; rfl))
      go_wp2
      go_ret
      exact ⟨by rw [HV.out]; rfl, HBR.out⟩
end Go.Proofs.Ytamjopgpmeeheaa
