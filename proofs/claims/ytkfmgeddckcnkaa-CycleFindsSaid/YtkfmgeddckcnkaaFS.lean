/- How far each number is: plain words; slices.Contains. -/
import Derived.Test.YtkfmgeddckcnkaaNX
namespace Go.Proofs.Ytkfmgeddckcnkaa
open Go.RowKit
set_option linter.unusedVariables false

/-- how far a number is from t, as far as n edges tell -/
def farS (G : List Edge) (t : Int) : Nat → Int → Option Nat
  | 0, x => if x = t then some 0 else none
  | n + 1, x => match farS G t n x with
    | some d => some d
    | none => if G.any (fun e => decide (e.1 = x) && decide (farS G t n e.2 = some n)) then some (n + 1) else none
theorem farS_le {G : List Edge} {t : Int} : ∀ {n : Nat} {x : Int} {d : Nat}, farS G t n x = some d → d ≤ n
  | 0, x, d, h => by
    unfold farS at h
    split at h <;> simp at h
    omega
  | n + 1, x, d, h => by
    unfold farS at h
    cases e : farS G t n x with
    | some d' => rw [e] at h; have := farS_le e; simp at h; omega
    | none =>
      rw [e] at h
      simp only at h
      split at h <;> simp at h
      omega
theorem farS_mono {G : List Edge} {t : Int} {n : Nat} {x : Int} {d : Nat} (h : farS G t n x = some d) : farS G t (n + 1) x = some d := by
  show (match farS G t n x with | some d => some d | none => _) = _
  rw [h]
theorem farS_new {G : List Edge} {t : Int} {n : Nat} {x : Int} : farS G t (n + 1) x = some (n + 1) ↔ farS G t n x = none ∧ ∃ e ∈ G, e.1 = x ∧ farS G t n e.2 = some n := by
  constructor
  · intro h
    cases e : farS G t n x with
    | some d =>
      rw [farS_mono e] at h
      have := farS_le e
      simp at h; omega
    | none =>
      refine ⟨rfl, ?_⟩
      have h2 : (if G.any (fun e => decide (e.1 = x) && decide (farS G t n e.2 = some n)) then some (n + 1) else none) = some (n + 1) := by
        have h' : (match farS G t n x with | some d => some d | none => if G.any (fun e => decide (e.1 = x) && decide (farS G t n e.2 = some n)) then some (n + 1) else none) = some (n + 1) := h
        rw [e] at h'
        exact h'
      split at h2
      · rename_i ha
        obtain ⟨e', he', h3⟩ := List.any_eq_true.1 ha
        simp at h3
        exact ⟨e', he', h3⟩
      · cases h2
  · rintro ⟨h1, e, he, h2, h3⟩
    show (match farS G t n x with | some d => some d | none => _) = _
    rw [h1]
    simp only
    rw [if_pos (List.any_eq_true.2 ⟨e, he, by simp [h2, h3]⟩)]
theorem farS_succ (G : List Edge) (t : Int) (n : Nat) (x : Int) : farS G t (n + 1) x = if farS G t (n + 1) x = some (n + 1) then some (n + 1) else farS G t n x := by
  split
  · assumption
  · rename_i h
    cases e : farS G t n x with
    | some d => exact farS_mono e
    | none =>
      show (match farS G t n x with | some d => some d | none => _) = _
      rw [e]
      simp only
      split
      · rename_i ha
        exfalso; apply h
        obtain ⟨e', he', h3⟩ := List.any_eq_true.1 ha
        simp at h3
        exact farS_new.2 ⟨e, e', he', h3⟩
      · rfl
/-- where a level is empty, nothing comes any more -/
theorem farS_still {G : List Edge} {t : Int} {n : Nat} (h : ∀ y, farS G t n y ≠ some n) : ∀ m x, farS G t (n + m) x = farS G t n x ∧ ∀ y, farS G t (n + m) y ≠ some (n + m)
  | 0, x => ⟨rfl, h⟩
  | m + 1, x => by
    have ih := fun x => farS_still h m x
    have key : ∀ x, farS G t (n + (m + 1)) x ≠ some (n + (m + 1)) := fun x hx => by
      obtain ⟨_, e, _, _, h3⟩ := farS_new.1 (show farS G t ((n + m) + 1) x = some ((n + m) + 1) from hx)
      exact (ih x).2 e.2 h3
    refine ⟨?_, key⟩
    have := farS_succ G t (n + m) x
    rw [if_neg (show ¬ farS G t (n + m + 1) x = some (n + m + 1) from key x)] at this
    exact this.trans (ih x).1
/-- each level that is there has a number of its own -/
theorem levels {G : List Edge} {t : Int} : ∀ (k : Nat), (∃ y, farS G t k y = some k) → ∃ L : List Int, L.length = k ∧ L.Nodup ∧ (∀ x ∈ L, x ∈ G.map (·.1)) ∧ ∀ x ∈ L, ∃ d, 1 ≤ d ∧ d ≤ k ∧ farS G t k x = some d
  | 0, _ => ⟨[], rfl, List.nodup_nil, by simp, by simp⟩
  | k + 1, ⟨y, hy⟩ => by
    obtain ⟨h1, e, he, h2, h3⟩ := farS_new.1 hy
    obtain ⟨L, hl, hn, hm, hd⟩ := levels k ⟨e.2, h3⟩
    refine ⟨y :: L, by simp [hl], List.nodup_cons.2 ⟨fun hm' => ?_, hn⟩, fun x hx => ?_, fun x hx => ?_⟩
    · obtain ⟨d, _, _, h⟩ := hd y hm'
      rw [h1] at h; cases h
    · rcases List.mem_cons.1 hx with rfl | hx
      · exact List.mem_map.2 ⟨e, he, h2⟩
      · exact hm x hx
    · rcases List.mem_cons.1 hx with rfl | hx
      · exact ⟨k + 1, by omega, by omega, hy⟩
      · obtain ⟨d, q1, q2, q3⟩ := hd x hx
        exact ⟨d, q1, by omega, farS_mono q3⟩
theorem level_bound {G : List Edge} {t : Int} {k : Nat} (h : ∃ y, farS G t k y = some k) : k ≤ G.length := by
  obtain ⟨L, hl, hn, hm, _⟩ := levels k h
  have := nodup_sub_length hn hm
  rw [List.length_map] at this
  omega
/-- how far a number is from t -/
def farOf (G : List Edge) (t : Int) (x : Int) : Option Nat := farS G t 201 x
theorem farOf_still {G : List Edge} (hG : Fine G) {t : Int} {k : Nat} (hk : k ≤ 201) (h : ∀ y, farS G t k y ≠ some k) (x : Int) : farOf G t x = farS G t k x := by
  have := (farS_still h (201 - k) x).1
  rw [show k + (201 - k) = 201 by omega] at this
  exact this

theorem index_any (xs : List Int) (F : Nat → Prop) (v : Value) (y : Int) (w : World) (h : IntsIn F w v xs) :
    Calls Try.prog 28 #[v, .int .i64 y] w fun e w' => (∃ i : Int, e = .returned (.int .i64 i) ∧ (0 ≤ i ↔ y ∈ xs)) ∧ w = w' := by
  have hl := h.len
  obtain ⟨a, cap, rfl, -, -, hx⟩ := h
  go_enter Try.func28, Try.ntmps28
  go_wp2
  go_loop [8] (fun i => ∃ k : Nat, k ≤ xs.length ∧ i = .int .i64 k ∧ ∀ j z, j < k → xs[j]? = some z → z ≠ y) (fun i => xs.length - (Lib.intOf i).toNat)
  case atStart => exact ⟨0, Nat.zero_le _, rfl, fun j z hj => by omega⟩
  case round =>
    obtain ⟨k, hk, rfl, hno⟩ := hrel
    have HN := Lib.hid hno
    clear hno
    by_cases hlt : k < xs.length
    · rcases hx with rfl | ⟨g, off, rfl, -, hc⟩
      · simp at hlt
      obtain ⟨x, hxk⟩ : ∃ x, xs[k]? = some x := ⟨_, List.getElem?_eq_getElem hlt⟩
      have hck := hc k x hxk
      have HX := Lib.hid hxk
      have h0 : (0 : Int) ≤ k := by omega
      have h1 : (k : Int) < xs.length := by omega
      clear hxk hc
      by_cases hy : y = x
      · have hyb : (y == x) = true := by simpa using hy
        go_wp2
        go_ret
        exact ⟨⟨_, rfl, ⟨fun _ => by first | exact List.mem_of_getElem? HX.out | (rw [hy]; exact List.mem_of_getElem? HX.out), fun _ => h0⟩⟩, rfl⟩
      · have hyb : (y == x) = false := by simpa using hy
        go_wp2
        go_round
        case rel => exact ⟨k + 1, by omega, by go_num, fun j z hj hz => by
          by_cases e : j = k
          · subst e; rw [HX.out] at hz; cases hz; exact fun h => hy h.symm
          · exact HN.out j z (by omega) hz⟩
        case measure => simp [Lib.intOf]; omega
    · go_wp2
      go_ret
      refine ⟨⟨_, rfl, ⟨fun h => absurd h (by omega), fun hm => ?_⟩⟩, rfl⟩
      obtain ⟨j, hj⟩ := List.getElem?_of_mem hm
      exact absurd rfl (HN.out j y (by have := (List.getElem?_eq_some_iff.1 hj).1; omega) hj)
theorem contains_any (xs : List Int) (F : Nat → Prop) (v : Value) (y : Int) (w : World) (h : IntsIn F w v xs) :
    Calls Try.prog 26 #[v, .int .i64 y] w fun e w' => e = .returned (.bool (decide (y ∈ xs))) ∧ w = w' := by
  have H := Lib.hid (index_any xs F v y w h)
  clear h
  go_enter Try.func26, Try.ntmps26
  go_wp2_with (go_at_call 28; refine H.out.mono ?_; rintro e w' ⟨⟨i, rfl, hi⟩, rfl⟩; have HI := Lib.hid hi; clear hi)
  all_goals
    go_ret
    refine ⟨ret_b ?_, rfl⟩
    have := HI.out
    by_cases hy : y ∈ xs
    · simp_all
    · simp_all
end Go.Proofs.Ytkfmgeddckcnkaa
