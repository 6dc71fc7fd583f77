/- A view and its store together: what planting walks over; plants (101). -/
import Derived.Test.YtinkjhkbaadbpaaTR
namespace Go.Proofs.Ytinkjhkbaadbpaa
open Go.RowKit
open Go.ChangeMaps (setBlock)
set_option linter.unusedVariables false
set_option linter.unusedSimpArgs false

/-- a view and its store in memory, apart from one another -/
structure VS (R Ds D : Nat → Prop) (w : World) (v m : Nat) (sp : Value) (V : Vw) (S : Store) : Prop where
  view : VIn D w v m sp V
  store : StoreIn R Ds w sp S
  rl : ∀ k, R k → k < w.heap.size ∧ k ≠ v ∧ k ≠ m ∧ ¬ D k ∧ ¬ Ds k
  dl : ∀ k, D k → k < w.heap.size ∧ k ≠ m ∧ k ≠ v
  dsl : ∀ k, Ds k → k < w.heap.size ∧ k ≠ m ∧ k ≠ v
theorem VS.quiet {R Ds D M : Nat → Prop} {w w' : World} {v m : Nat} {sp : Value} {V : Vw} {S : Store} (h : VS R Ds D w v m sp V S) (hb : Chg M w w') (hM : ∀ k, M k → k ≠ v ∧ k ≠ m ∧ ¬ R k ∧ ¬ D k ∧ ¬ Ds k) : VS R Ds D w' v m sp V S := by
  obtain ⟨hv, hm⟩ := h.view.lt
  have hs := hb.size
  refine ⟨h.view.keep (hb.block v hv (fun h => (hM v h).1 rfl)) (hb.block m hm (fun h => (hM m h).2.1 rfl)) (hb.keeps (fun k hk => ⟨(h.dl k hk).1, fun h => (hM k h).2.2.2.1 hk⟩)),
    h.store.keep (hb.keeps (fun k hk => ⟨(h.rl k hk).1, fun h => (hM k h).2.2.1 hk⟩)) (hb.keeps (fun k hk => ⟨(h.dsl k hk).1, fun h => (hM k h).2.2.2.2 hk⟩)),
    fun k hk => ⟨Nat.lt_of_lt_of_le (h.rl k hk).1 hs, (h.rl k hk).2⟩, fun k hk => ⟨Nat.lt_of_lt_of_le (h.dl k hk).1 hs, (h.dl k hk).2⟩, fun k hk => ⟨Nat.lt_of_lt_of_le (h.dsl k hk).1 hs, (h.dsl k hk).2⟩⟩
theorem VS.below {R Ds D : Nat → Prop} {w w' : World} {v m : Nat} {sp : Value} {V : Vw} {S : Store} (h : VS R Ds D w v m sp V S) (hb : Below w.heap.size w w') : VS R Ds D w' v m sp V S :=
  h.quiet (M := fun _ => False) (chg_new hb) (fun _ h => h.elim)
/-- a number is given -/
theorem VS.fresh {R Ds D : Nat → Prop} {w : World} {v m : Nat} {sp : Value} {V : Vw} {S : Store} (h : VS R Ds D w v m sp V S) (h0 : 0 ≤ S.given) (hg : S.given < 9223372036854775807) :
    Calls Try.prog 54 #[sp] w fun e w' => e = .returned (.int .i64 (S.given + 1)) ∧ VS R Ds D w' v m sp V { S with given := S.given + 1 } ∧ Chg R w w' := by
  refine (fresh_any h.store (fun k hk => (h.rl k hk).2.2.2.2) h0 hg).mono ?_
  rintro e w' ⟨he, hs, hc⟩
  obtain ⟨hv, hm⟩ := h.view.lt
  have hz := hc.size
  exact ⟨he, ⟨h.view.keep (hc.block v hv (fun hR => (h.rl v hR).2.1 rfl)) (hc.block m hm (fun hR => (h.rl m hR).2.2.1 rfl)) (hc.keeps (fun k hk => ⟨(h.dl k hk).1, fun hR => (h.rl k hR).2.2.2.1 hk⟩)), hs,
    fun k hk => ⟨Nat.lt_of_lt_of_le (h.rl k hk).1 hz, (h.rl k hk).2⟩, fun k hk => ⟨Nat.lt_of_lt_of_le (h.dl k hk).1 hz, (h.dl k hk).2⟩, fun k hk => ⟨Nat.lt_of_lt_of_le (h.dsl k hk).1 hz, (h.dsl k hk).2⟩⟩, hc⟩
/-- what the view's map is, to store in it -/
theorem VS.map {R Ds D E : Nat → Prop} {w : World} {v m : Nat} {sp : Value} {V : Vw} {S : Store} (h : VS R Ds D w v m sp V S) {id : Int} {r : Rec} {x : Value} (hok : RecOk r) (hx : RecV E w x r) (hE : ∀ k, E k → k < w.heap.size ∧ k ≠ m ∧ k ≠ v ∧ ¬ R k) :
    ∃ f, MapIs iv w m f ∧ ∀ ob, MapIs iv (setBlock w m ob) m (upd f id (some x)) → VS R Ds (fun k => D k ∨ E k) (setBlock w m ob) v m sp (setV V id r) S ∧ Chg (fun k => k = m) w (setBlock w m ob) := by
  obtain ⟨f, hm, hf1, hf2⟩ := h.view.map
  obtain ⟨hvl, hml⟩ := h.view.lt
  refine ⟨f, hm, fun ob hob => ?_⟩
  have hch : Chg (fun k => k = m) w (setBlock w m ob) := chg_setBlock (M := fun k => k = m) rfl _
  have hkD : Keeps D w (setBlock w m ob) := hch.keeps (fun k hk => ⟨(h.dl k hk).1, (h.dl k hk).2.1⟩)
  have hkE : Keeps E w (setBlock w m ob) := hch.keeps (fun k hk => ⟨(hE k hk).1, (hE k hk).2.1⟩)
  have hz : (setBlock w m ob).heap.size = w.heap.size := by simp [setBlock]
  refine ⟨⟨⟨?_, ⟨upd f id (some x), hob, fun j y hy => ?_, fun j hj => ?_⟩, fun j r' hr' => ?_⟩, h.store.keep (hch.keeps (fun k hk => ⟨(h.rl k hk).1, (h.rl k hk).2.2.1⟩)) (hch.keeps (fun k hk => ⟨(h.dsl k hk).1, (h.dsl k hk).2.1⟩)), ?_, ?_, ?_⟩, hch⟩
  · exact (hch.block v hvl h.view.ne).trans h.view.cell
  · by_cases e : j = id
    · subst e
      rw [upd_same] at hy
      cases hy
      exact ⟨r, by simp [setV], (hx.keep hkE).mono (fun k hk => .inr hk)⟩
    · rw [upd_other _ _ e] at hy
      obtain ⟨r', h1, h2⟩ := hf1 j y hy
      exact ⟨r', by simp [setV, e, h1], (h2.keep hkD).mono (fun k hk => .inl hk)⟩
  · by_cases e : j = id
    · subst e; rw [upd_same] at hj; cases hj
    · rw [upd_other _ _ e] at hj
      simp [setV, e, hf2 j hj]
  · by_cases e : j = id
    · subst e
      simp [setV] at hr'
      subst hr'; exact hok
    · simp [setV, e] at hr'
      exact h.view.ok j r' hr'
  · intro k hk
    have h1 := h.rl k hk
    exact ⟨by rw [hz]; exact h1.1, h1.2.1, h1.2.2.1, fun hd => hd.elim h1.2.2.2.1 (fun he => (hE k he).2.2.2 hk), h1.2.2.2.2⟩
  · rintro k (hk | hk)
    · exact ⟨by rw [hz]; exact (h.dl k hk).1, (h.dl k hk).2⟩
    · exact ⟨by rw [hz]; exact (hE k hk).1, (hE k hk).2.1, (hE k hk).2.2.1⟩
  · exact fun k hk => ⟨by rw [hz]; exact (h.dsl k hk).1, (h.dsl k hk).2⟩

set_option maxRecDepth 100000 in
set_option maxHeartbeats 4000000 in
/-- plants -/
theorem plants_any (kind : Int) (name text : ByteArray) (av kv : Value) (w : World) : Calls Try.prog 101 #[.agg #[.int .i64 kind, .string name, .string text, av, kv]] w fun e w' => e = .returned (.bool (plants kind)) ∧ Below w.heap.size w w' := by
  have hb : Below w.heap.size w (w.alloc (.cells #[.int .i64 kind, .string name, .string text, av, kv] 25)) := (Below.refl _ _).alloc (Nat.le_refl _) _
  have HB := Lib.hid hb
  clear hb
  by_cases h2 : kind = 2
  · subst h2
    go_enter Try.func101, Try.ntmps101
    go_wp2
    go_ret
    exact ⟨by simp [plants], HB.out⟩
  · by_cases h4 : kind = 4
    · subst h4
      go_enter Try.func101, Try.ntmps101
      go_wp2
      go_ret
      exact ⟨by simp [plants], HB.out⟩
    · by_cases h5 : kind = 5
      · subst h5
        go_enter Try.func101, Try.ntmps101
        go_wp2
        go_ret
        exact ⟨by simp [plants], HB.out⟩
      · by_cases h6 : kind = 6
        · subst h6
          go_enter Try.func101, Try.ntmps101
          go_wp2
          go_ret
          exact ⟨by simp [plants], HB.out⟩
        · go_enter Try.func101, Try.ntmps101
          go_wp2
          go_ret
          exact ⟨by simp [plants, h2, h4, h5, h6], HB.out⟩
end Go.Proofs.Ytinkjhkbaadbpaa
