/- Reading a view, whichever; slices.Index (137), Contains (140), the reference's Has (30). -/
import Derived.Test.YtinkjhkbaadbpaaMA
namespace Go.Proofs.Ytinkjhkbaadbpaa
open Go.RowKit
set_option linter.unusedVariables false

/-- f answers, in any later world, what g says of a number -/
def Reads (f : Nat) (w : World) (v : Nat) (g : Int → Option Rec) : Prop :=
  ∀ W, Below w.heap.size w W → ∀ id, Calls Try.prog f #[ptr v, iv id] W fun e w' => RecIn (Old w'.heap.size) w' (g id) e ∧ Below W.heap.size W w'
theorem Reads.below {f : Nat} {w w' : World} {v : Nat} {g : Int → Option Rec} (h : Reads f w v g) (hb : Below w.heap.size w w') : Reads f w' v g :=
  fun W hW id => h W (hb.trans (hW.mono hb.size)) id
section
variable {R Ds Rd Dd : Nat → Prop} {n0 : Nat} {w w' : World} {v m s v2 s2 : Nat} {V : Vw} {S : Store} {V2 : RVw} {d : Doc}
theorem Duo.reads (h : Duo R Ds Rd Dd n0 w v m s v2 s2 V S V2 d) (hS : S.Wf) : Reads 29 w v (V.get S) := fun W hW id => by
  refine ((h.below hW).get hS id).mono ?_
  rintro e w' ⟨⟨kv, av, he, h1, h2⟩, hb⟩
  exact ⟨⟨kv, av, he, h1.bound.mono (fun k hk => hk.2), h2.bound.mono (fun k hk => hk.2)⟩, hb⟩
theorem Duo.rreads (h : Duo R Ds Rd Dd n0 w v m s v2 s2 V S V2 d) (hl : V2.own.length ≤ 1000000000) (hld : d.L.length ≤ 1000000000) : Reads 76 w v2 (V2.get d) := fun W hW id => by
  refine ((h.below hW).rget hl hld id).mono ?_
  rintro e w' ⟨⟨kv, av, he, h1, h2⟩, hb⟩
  exact ⟨⟨kv, av, he, h1.bound.mono (fun k hk => hk.2), h2.bound.mono (fun k hk => hk.2)⟩, hb⟩
end
theorem IntsIn.old {F : Nat → Prop} {w : World} {v : Value} {xs : List Int} (h : IntsIn F w v xs) : IntsIn (Old w.heap.size) w v xs := h.bound.mono (fun k hk => hk.2)
theorem IntsIn.later {w w' : World} {v : Value} {xs : List Int} (h : IntsIn (Old w.heap.size) w v xs) (hb : Below w.heap.size w w') : IntsIn (Old w'.heap.size) w' v xs :=
  (h.keep (keeps_below hb)).mono (fun k hk => Nat.lt_of_lt_of_le hk hb.size)

/-- the first place of a number; -1: none -/
def idxI (xs : List Int) (y : Int) : Int := (xs.findIdx? (fun x => decide (x = y))).elim (-1) (fun i => (i : Int))
theorem idxI_hit {xs : List Int} {y : Int} {k : Nat} (hx : xs[k]? = some y) (h : ∀ j z, j < k → xs[j]? = some z → z ≠ y) : idxI xs y = k := by
  have hk : k < xs.length := (List.getElem?_eq_some_iff.1 hx).1
  have : xs.findIdx? (fun x => decide (x = y)) = some k := by
    rw [List.findIdx?_eq_some_iff_getElem]
    refine ⟨hk, ?_, ?_⟩
    · have := (List.getElem?_eq_some_iff.1 hx).2; simp [this]
    · intro j hj
      have := h j xs[j] hj (by simp)
      simpa using this
  simp [idxI, this]
theorem idxI_none {xs : List Int} {y : Int} (h : y ∉ xs) : idxI xs y = -1 := by
  have : xs.findIdx? (fun x => decide (x = y)) = none := by
    rw [List.findIdx?_eq_none_iff]
    intro x hx
    simp
    rintro rfl
    exact h hx
  simp [idxI, this]
theorem idxI_cases (xs : List Int) (y : Int) : (idxI xs y = -1 ∧ y ∉ xs) ∨ ∃ k : Nat, idxI xs y = k ∧ xs[k]? = some y ∧ (∀ j z, j < k → xs[j]? = some z → z ≠ y) ∧ k < xs.length := by
  by_cases h : y ∈ xs
  · right
    cases e : xs.findIdx? (fun x => decide (x = y)) with
    | none =>
      rw [List.findIdx?_eq_none_iff] at e
      have := e y h
      simp at this
    | some k =>
      have e2 := e
      rw [List.findIdx?_eq_some_iff_getElem] at e
      obtain ⟨hk, h1, h2⟩ := e
      simp at h1
      refine ⟨k, by simp [idxI, e2], by rw [List.getElem?_eq_getElem hk, h1], fun j z hj hz => ?_, hk⟩
      have := h2 j hj
      obtain ⟨hjl, rfl⟩ := List.getElem?_eq_some_iff.1 hz
      simpa using this
  · exact .inl ⟨idxI_none h, h⟩
theorem idxI_mem (xs : List Int) (y : Int) : 0 ≤ idxI xs y ↔ y ∈ xs := by
  rcases idxI_cases xs y with ⟨h1, h2⟩ | ⟨k, h1, h2, -, -⟩
  · rw [h1]; constructor
    · intro h; omega
    · intro h; exact absurd h h2
  · rw [h1]; exact ⟨fun _ => List.mem_of_getElem? h2, fun _ => by omega⟩

theorem idx_any (xs : List Int) (F : Nat → Prop) (v : Value) (y : Int) (w : World) (h : IntsIn F w v xs) :
    Calls Try.prog 137 #[v, .int .i64 y] w fun e w' => e = .returned (.int .i64 (idxI xs y)) ∧ w = w' := by
  have hl := h.len
  obtain ⟨a, cap, rfl, -, -, hx⟩ := h
  go_enter Try.func137, Try.ntmps137
  go_wp2
  go_loop [8] (fun i => ∃ k : Nat, k ≤ xs.length ∧ i = .int .i64 k ∧ ∀ j z, j < k → xs[j]? = some z → z ≠ y) (fun i => xs.length - (intOf i).toNat)
  case atStart => exact ⟨0, Nat.zero_le _, rfl, fun j z hj => by omega⟩
  case round =>
    obtain ⟨k, hk, rfl, hno⟩ := hrel
    have HN := Lib.hid hno
    clear hno
    by_cases hlt : k < xs.length
    · rcases hx with rfl | ⟨g, off, rfl, -, hc⟩
      · simp at hlt
      obtain ⟨x, hxk⟩ : ∃ x, xs[k]? = some x := ⟨_, List.getElem?_eq_getElem hlt⟩
      have hck := hc k x hxk
      have HX := Lib.hid hxk
      have h0 : (0 : Int) ≤ k := by omega
      have h1 : (k : Int) < xs.length := by omega
      clear hxk hc
      by_cases hy : y = x
      · have hyb : (y == x) = true := by simpa using hy
        subst hy
        have fin := Lib.hid (idxI_hit HX.out HN.out)
        go_wp2
        go_ret
        exact ⟨ret_i fin.out.symm, rfl⟩
      · have hyb : (y == x) = false := by simpa using hy
        go_wp2
        go_round
        case rel => exact ⟨k + 1, by omega, by go_num, fun j z hj hz => by
          by_cases e : j = k
          · subst e; rw [HX.out] at hz; cases hz; exact fun h => hy h.symm
          · exact HN.out j z (by omega) hz⟩
        case measure => simp [intOf]; omega
    · have fin := Lib.hid (idxI_none (fun hm => by
        obtain ⟨j, hj⟩ := List.getElem?_of_mem hm
        exact HN.out j y (by have := (List.getElem?_eq_some_iff.1 hj).1; omega) hj rfl : y ∉ xs))
      go_wp2
      go_ret
      exact ⟨ret_i fin.out.symm, rfl⟩
theorem contains_any (xs : List Int) (F : Nat → Prop) (v : Value) (y : Int) (w : World) (h : IntsIn F w v xs) :
    Calls Try.prog 140 #[v, .int .i64 y] w fun e w' => e = .returned (.bool (decide (y ∈ xs))) ∧ w = w' := by
  have H := Lib.hid (idx_any xs F v y w h)
  have hm := idxI_mem xs y
  obtain ⟨i, hi⟩ : ∃ i, idxI xs y = i := ⟨_, rfl⟩
  rw [hi] at H hm
  have HM := Lib.hid hm
  clear h hm hi
  go_enter Try.func140, Try.ntmps140
  go_wp2_with (go_at_call 137; refine H.out.mono ?_; rintro e w' ⟨rfl, rfl⟩)
  all_goals
    go_ret
    refine ⟨ret_b ?_, rfl⟩
    have := HM.out
    by_cases hy : y ∈ xs
    · simp_all
    · simp_all
theorem rhas_any (xs : List Int) (F : Nat → Prop) (v : Value) (y : Int) (w : World) (h : IntsIn F w v xs) :
    Calls Try.prog 30 #[v, .int .i64 y] w fun e w' => e = .returned (.bool (decide (y ∈ xs))) ∧ w = w' := by
  have hl := h.len
  obtain ⟨a, cap, rfl, -, -, hx⟩ := h
  go_enter Try.func30, Try.ntmps30
  go_wp2
  go_loop [5] (fun i => ∃ k : Nat, k ≤ xs.length ∧ i = .int .i64 k ∧ ∀ j z, j < k → xs[j]? = some z → z ≠ y) (fun i => xs.length - (intOf i).toNat)
  case atStart => exact ⟨0, Nat.zero_le _, rfl, fun j z hj => by omega⟩
  case round =>
    obtain ⟨k, hk, rfl, hno⟩ := hrel
    have HN := Lib.hid hno
    clear hno
    by_cases hlt : k < xs.length
    · rcases hx with rfl | ⟨g, off, rfl, -, hc⟩
      · simp at hlt
      obtain ⟨x, hxk⟩ : ∃ x, xs[k]? = some x := ⟨_, List.getElem?_eq_getElem hlt⟩
      have hck := hc k x hxk
      have HX := Lib.hid hxk
      have h0 : (0 : Int) ≤ k := by omega
      have h1 : (k : Int) < xs.length := by omega
      clear hxk hc
      by_cases hy : x = y
      · have hyb : (x == y) = true := by simpa using hy
        subst hy
        have fin := Lib.hid (List.mem_of_getElem? HX.out)
        go_wp2
        go_ret
        exact ⟨ret_b (decide_eq_true fin.out).symm, rfl⟩
      · have hyb : (x == y) = false := by simpa using hy
        go_wp2
        go_round
        case rel => exact ⟨k + 1, by omega, by go_num, fun j z hj hz => by
          by_cases e : j = k
          · subst e; rw [HX.out] at hz; cases hz; exact hy
          · exact HN.out j z (by omega) hz⟩
        case measure => simp [intOf]; omega
    · have fin := Lib.hid ((fun hm => by
        obtain ⟨j, hj⟩ := List.getElem?_of_mem hm
        exact HN.out j y (by have := (List.getElem?_eq_some_iff.1 hj).1; omega) hj rfl) : y ∉ xs)
      go_wp2
      go_ret
      exact ⟨ret_b (decide_eq_false fin.out).symm, rfl⟩
end Go.Proofs.Ytinkjhkbaadbpaa
