/- Slices of ints and records in memory; the functions of package store that read them. -/
import Derived.Test.YtinkjhkbaadbpaaBase
import Derived.Test.YtinkjhkbaadbpaaRows
import Derived.Deep.RegionWith
namespace Go.Proofs.Ytinkjhkbaadbpaa
open Go.RowKit

theorem ret_eq {a b : Value} (h : a = b) : Ending.returned a = Ending.returned b := by rw [h]
theorem ret_b {a b : Bool} (h : a = b) : Ending.returned (.bool a) = Ending.returned (.bool b) := by rw [h]
theorem ret_i {k : IntKind} {a b : Int} (h : a = b) : Ending.returned (.int k a) = Ending.returned (.int k b) := by rw [h]

/-- Of what w' holds in blocks of F it holds what w does. -/
def Keeps (F : Nat → Prop) (w w' : World) : Prop := ∀ b, F b → w'.heap[b]? = w.heap[b]?
theorem Keeps.refl (F : Nat → Prop) (w : World) : Keeps F w w := fun _ _ => rfl
theorem Keeps.trans {F : Nat → Prop} {a b c : World} (h : Keeps F a b) (h' : Keeps F b c) : Keeps F a c := fun k hk => (h' k hk).trans (h k hk)
theorem Keeps.mono {F G : Nat → Prop} {a b : World} (h : Keeps G a b) (hf : ∀ k, F k → G k) : Keeps F a b := fun k hk => h k (hf k hk)
theorem Keeps.cell {F : Nat → Prop} {w w' : World} (h : Keeps F w w') {p : Addr} (hp : F p.block) : w'.cell? p = w.cell? p := World.cell?_of_block (h _ hp)
/-- The blocks that lie in a world of n blocks. -/
abbrev Old (n : Nat) : Nat → Prop := fun b => b < n
theorem keeps_below {n : Nat} {w w' : World} (h : Below n w w') : Keeps (Old n) w w' := fun k hk => h.block k hk

/-- A slice of ints in memory, in a block of F. -/
def IntsIn (F : Nat → Prop) (w : World) (v : Value) (xs : List Int) : Prop :=
  ∃ a cap, v = .slice a xs.length cap ∧ xs.length ≤ cap ∧ cap ≤ maxLen ∧ (xs = [] ∨ ∃ g off, a = some ⟨g, off, none⟩ ∧ F g ∧ ∀ j x, xs[j]? = some x → w.cell? ⟨g, off + j, none⟩ = some (.int .i64 x))
theorem IntsIn.keep {F : Nat → Prop} {w w' : World} {v : Value} {xs : List Int} (h : IntsIn F w v xs) (hk : Keeps F w w') : IntsIn F w' v xs := by
  obtain ⟨a, cap, rfl, h1, h2, rfl | ⟨g, off, rfl, hg, hc⟩⟩ := h
  · exact ⟨a, cap, rfl, h1, h2, .inl rfl⟩
  · exact ⟨_, cap, rfl, h1, h2, .inr ⟨g, off, rfl, hg, fun j x hx => (hk.cell (p := ⟨g, off + j, none⟩) hg).trans (hc j x hx)⟩⟩
theorem IntsIn.mono {F G : Nat → Prop} {w : World} {v : Value} {xs : List Int} (h : IntsIn F w v xs) (hf : ∀ k, F k → G k) : IntsIn G w v xs := by
  obtain ⟨a, cap, rfl, h1, h2, rfl | ⟨g, off, rfl, hg, hc⟩⟩ := h
  · exact ⟨a, cap, rfl, h1, h2, .inl rfl⟩
  · exact ⟨_, cap, rfl, h1, h2, .inr ⟨g, off, rfl, hf _ hg, hc⟩⟩
theorem IntsIn.len {F : Nat → Prop} {w : World} {v : Value} {xs : List Int} (h : IntsIn F w v xs) : xs.length ≤ 9223372036854775807 := by
  obtain ⟨a, cap, rfl, h1, h2, _⟩ := h
  unfold maxLen at h2
  omega
theorem intsIn_nil (F : Nat → Prop) (w : World) : IntsIn F w (.slice none 0 0) [] := ⟨none, 0, rfl, by simp, by simp, .inl rfl⟩

/-- A node's record. -/
structure Rec where
  kind : Int
  name : ByteArray
  text : ByteArray
  parent : Int
  kids : List Int
  attrs : List Int
  gone : Bool
def Rec.zero : Rec := ⟨0, ⟨#[]⟩, ⟨#[]⟩, 0, [], [], false⟩
abbrev recL (r : Rec) (kv av : Value) : List Value := [.int .i64 r.kind, .string r.name, .string r.text, .int .i64 r.parent, kv, av, .bool r.gone]
abbrev recV (r : Rec) (kv av : Value) : Value := .agg #[.int .i64 r.kind, .string r.name, .string r.text, .int .i64 r.parent, kv, av, .bool r.gone]
def lowIdx (xs : List Int) : Int := (xs.findIdx? (fun x => decide (x < 1))).elim (-1) (fun i => (i : Int))
def allPos (xs : List Int) : Bool := xs.all (fun x => decide (1 ≤ x))
def emptyB (s : ByteArray) : Bool := s.toList.isEmpty
def rightR (r : Rec) : Bool :=
  if r.gone then r.kind == 0 && emptyB r.name && emptyB r.text && r.parent == 0 && r.kids.isEmpty && r.attrs.isEmpty
  else decide (1 ≤ r.kind) && decide (r.kind ≤ 6) && decide (0 ≤ r.parent) && allPos r.kids && allPos r.attrs

theorem numbers1_any (n : Int) (w : World) : Calls Try.prog 123 #[.int .i64 n] w fun e w' => e = .returned (.bool (decide (n < 1))) ∧ w = w' := by
  by_cases h : n < 1
  · go_enter Try.func123, Try.ntmps123
    go_wp2
    go_ret
    exact ⟨by simp [h], rfl⟩
  · go_enter Try.func123, Try.ntmps123
    go_wp2
    go_ret
    exact ⟨by simp [h], rfl⟩

theorem lowIdx_hit (xs : List Int) (k : Nat) (x : Int) (hx : xs[k]? = some x) (h1 : x < 1) (h : ∀ j y, j < k → xs[j]? = some y → 1 ≤ y) : lowIdx xs = k := by
  have hk : k < xs.length := (List.getElem?_eq_some_iff.1 hx).1
  have : xs.findIdx? (fun x => decide (x < 1)) = some k := by
    rw [List.findIdx?_eq_some_iff_getElem]
    refine ⟨hk, ?_, ?_⟩
    · have := (List.getElem?_eq_some_iff.1 hx).2; simp [this, h1]
    · intro j hj
      have := h j xs[j] hj (by simp)
      simp; omega
  simp [lowIdx, this]
theorem lowIdx_none (xs : List Int) (h : ∀ j y, j < xs.length → xs[j]? = some y → 1 ≤ y) : lowIdx xs = -1 := by
  have : xs.findIdx? (fun x => decide (x < 1)) = none := by
    rw [List.findIdx?_eq_none_iff]
    intro x hx
    obtain ⟨j, hj, rfl⟩ := List.getElem_of_mem hx
    have := h j xs[j] hj (by simp)
    simp; omega
  simp [lowIdx, this]
theorem allPos_iff (xs : List Int) : allPos xs = decide (lowIdx xs < 0) := by
  unfold allPos lowIdx
  cases h : xs.findIdx? (fun x => decide (x < 1)) with
  | none =>
    rw [List.findIdx?_eq_none_iff] at h
    simp
    intro x hx
    have := h x hx
    simp at this
    omega
  | some i =>
    rw [List.findIdx?_eq_some_iff_getElem] at h
    obtain ⟨hi, h1, _⟩ := h
    simp at h1
    have : xs.all (fun x => decide (1 ≤ x)) = false := by
      rw [List.all_eq_false]
      exact ⟨xs[i], List.getElem_mem _, by simp; omega⟩
    rw [this]
    exact (decide_eq_false (by show ¬ ((i : Nat) : Int) < 0; omega)).symm

theorem indexFunc_low (xs : List Int) (F : Nat → Prop) (v : Value) (w : World) (h : IntsIn F w v xs) :
    Calls Try.prog 142 #[v, .func (.func 123) #[] #[]] w fun e w' => e = .returned (.int .i64 (lowIdx xs)) ∧ w = w' := by
  have hl := h.len
  obtain ⟨a, cap, rfl, -, -, hx⟩ := h
  go_enter Try.func142, Try.ntmps142
  go_wp2
  go_loop [8] (fun i => ∃ k : Nat, k ≤ xs.length ∧ i = .int .i64 k ∧ ∀ j y, j < k → xs[j]? = some y → 1 ≤ y) (fun i => xs.length - (intOf i).toNat)
  case atStart => exact ⟨0, Nat.zero_le _, rfl, fun j y hj => by omega⟩
  case round =>
    obtain ⟨k, hk, rfl, hno⟩ := hrel
    have HN := Lib.hid hno
    clear hno
    by_cases hlt : k < xs.length
    · rcases hx with rfl | ⟨g, off, rfl, -, hc⟩
      · simp at hlt
      · obtain ⟨x, hxk⟩ : ∃ x, xs[k]? = some x := ⟨_, List.getElem?_eq_getElem hlt⟩
        have hck := hc k x hxk
        have HX := Lib.hid hxk
        clear hxk hc
        by_cases h1 : x < 1
        · have fin := Lib.hid (lowIdx_hit xs k x HX.out h1 HN.out)
          go_wp2_with (go_at_call 123; refine (numbers1_any _ _).mono ?_; rintro e w' ⟨rfl, rfl⟩)
          go_ret
          exact ⟨ret_eq (by rw [fin.out]; rfl), rfl⟩
        · go_wp2_with (go_at_call 123; refine (numbers1_any _ _).mono ?_; rintro e w' ⟨rfl, rfl⟩)
          go_round
          case rel => exact ⟨k + 1, by omega, by go_num, fun j y hj hy => by
            by_cases e : j = k
            · subst e; have := HX.out; rw [this] at hy; cases hy; omega
            · exact HN.out j y (by omega) hy⟩
          case measure => simp [intOf]; omega
    · have fin := Lib.hid (lowIdx_none xs (fun j y hj hy => HN.out j y (by omega) hy))
      go_wp2
      go_ret
      exact ⟨ret_eq (by rw [fin.out]; rfl), rfl⟩

theorem containsFunc_low (xs : List Int) (F : Nat → Prop) (v : Value) (w : World) (h : IntsIn F w v xs) :
    Calls Try.prog 122 #[v, .func (.func 123) #[] #[]] w fun e w' => e = .returned (.bool (!allPos xs)) ∧ w = w' := by
  rw [allPos_iff]
  go_enter Try.func122, Try.ntmps122
  go_wp2_with (go_at_call 142; refine (indexFunc_low xs F _ _ h).mono ?_; rintro e w' ⟨rfl, rfl⟩)
  go_ret
  exact ⟨ret_b (show decide (0 ≤ lowIdx xs) = !decide (lowIdx xs < 0) by rw [← decide_not]; congr 1; simp), rfl⟩

theorem numbers_any (xs : List Int) (F : Nat → Prop) (v : Value) (w : World) (h : IntsIn F w v xs) :
    Calls Try.prog 86 #[v] w fun e w' => e = .returned (.bool (allPos xs)) ∧ w = w' := by
  go_enter Try.func86, Try.ntmps86
  go_wp2_with (go_at_call 122; refine (containsFunc_low xs F _ _ h).mono ?_; rintro e w' ⟨rfl, rfl⟩)
  go_ret
  exact ⟨rfl, rfl⟩

theorem len0 (l : List Int) : ((l.length : Int) == 0) = l.isEmpty := by cases l <;> simp; omega
theorem right_any (r : Rec) (kv av : Value) (F : Nat → Prop) (w : World) (hk : IntsIn F w kv r.kids) (ha : IntsIn F w av r.attrs) (hF : ∀ k, F k → k < w.heap.size) :
    Calls Try.prog 36 #[recV r kv av] w fun e w' => e = .returned (.bool (rightR r)) ∧ Below w.heap.size w w' := by
  have hk2 := hk
  have ha2 := ha
  obtain ⟨ka, kc, rfl, -, -, -⟩ := hk2
  obtain ⟨aa, ac, rfl, -, -, -⟩ := ha2
  obtain ⟨kind, name, text, parent, kids, attrs, gone⟩ := r
  simp only at *
  have HK : ∀ w' : World, Below w.heap.size w w' → IntsIn F w' (.slice ka kids.length kc) kids := fun w' hb => hk.keep ((keeps_below hb).mono hF)
  have HA : ∀ w' : World, Below w.heap.size w w' → IntsIn F w' (.slice aa attrs.length ac) attrs := fun w' hb => ha.keep ((keeps_below hb).mono hF)
  have HK := Lib.hid HK
  have HA := Lib.hid HA
  clear hk ha hF
  have hb1 : ∀ o, Below w.heap.size w (w.alloc o) := fun o => (Below.refl _ _).alloc (Nat.le_refl _) o
  have HB := Lib.hid hb1
  clear hb1
  cases gone
  · go_enter Try.func36, Try.ntmps36
    go_wp2_with (first | (go_at_call_of 86 (Value.slice ka kids.length kc); refine (numbers_any kids F _ _ (HK.out _ (HB.out _))).mono ?_; rintro e w' ⟨rfl, rfl⟩) | (go_at_call 86; refine (numbers_any attrs F _ _ (HA.out _ (HB.out _))).mono ?_; rintro e w' ⟨rfl, rfl⟩))
    all_goals (go_ret; refine ⟨ret_b ?_, HB.out _⟩; simp [rightR, *] <;> (intros; first | omega | (simp_all; done)))
  · go_enter Try.func36, Try.ntmps36
    go_wp2_with fail
    all_goals (go_ret; refine ⟨ret_b ?_, HB.out _⟩; simp [rightR, emptyB, len0, *] <;> (intros; first | omega | (simp_all; done)))

end Go.Proofs.Ytinkjhkbaadbpaa
