/- A version is laid into a store in memory. -/
import Derived.Test.YtinkjhkbaadbpaaCO
namespace Go.Proofs.Ytinkjhkbaadbpaa
open Go.RowKit
open Go.ChangeMaps (setBlock)
set_option linter.unusedVariables false

/-- a store in memory, with its two kinds of blocks -/
structure StoreAt (R D : Nat → Prop) (w : World) (p : Value) (S : Store) : Prop where
  is : StoreIn R D w p S
  rlt : ∀ k, R k → k < w.heap.size
  dlt : ∀ k, D k → k < w.heap.size
  rd : ∀ k, R k → ¬ D k

structure Chn where
  id : Int
  r : Rec
def putN (T : Nat) (N : Int → List Ver) (c : Chn) : Int → List Ver := fun id => if id = c.id then N id ++ [⟨T, c.r⟩] else N id

theorem Try.info93 : (Try.prog.info? 93).map (fun i => (i.zero, i.size, i.bytes)) = some (some (.agg #[.int .u64 0, .int .i64 0, .string ⟨#[]⟩, .string ⟨#[]⟩, .int .i64 0, .slice none 0 0, .slice none 0 0, .bool false]), 8, 112) := by kernel_rfl

/-- the row that a map's entry leads to, or none -/
theorem row_or_nil {R D : Nat → Prop} {W : World} {f : Int → Option Value} {S : Store} (h1 : ∀ id v, f id = some v → RowIs R D W v (S.N id)) (h2 : ∀ id, f id = none → S.N id = []) (id : Int) :
    ∃ a n cap xs, (f id).getD (.slice none 0 0) = .slice a n cap ∧ n = (S.N id).length ∧ W.ownsRow 0 93 8 (.slice a n cap) n xs ∧ VersAre D W (S.N id) xs ∧ ∀ g, Value.ownBlock (.slice a n cap) = some g → R g := by
  cases e : f id with
  | none => exact ⟨none, 0, 0, [], rfl, by rw [h2 id e]; rfl, World.ownsRow_nil _ _ _ _, by rw [h2 id e]; rfl, fun g hg => by cases hg⟩
  | some v =>
    obtain ⟨-, g, cap, xs, rfl, hg, ho, hv⟩ := h1 id v e
    exact ⟨some ⟨g, 0, none⟩, _, cap, xs, rfl, rfl, ho, hv, fun g' hg' => by cases hg'; exact hg⟩

theorem put_step {R D : Nat → Prop} {W W2 w3 : World} {s m : Nat} {f : Int → Option Value} {S : Store} {id : Int} {T n : Nat} {r : Rec} {V v' : Value} {xs : List Value} {kv av : Value} {ob : Obj}
    (hR : ∀ k, R k → k < W.heap.size) (hD : ∀ k, D k → k < W.heap.size) (hRD : ∀ k, R k → ¬ D k) (hs : R s) (hm : R m) (hb : W.heap[s]? = some (.cells #[.map (some m), iv S.given, .int .u64 S.last] 98)) (hf : MapIs iv W m f)
    (h1 : ∀ id v, f id = some v → RowIs R D W v (S.N id)) (h2 : ∀ id, f id = none → S.N id = []) (h3 : ∀ id id' v v', f id = some v → f id' = some v' → v.ownBlock = v'.ownBlock → id = id')
    (hV : V = (f id).getD (.slice none 0 0)) (hc2 : Chg (fun _ => False) W W2) (hn : n = (S.N id).length) (hown : w3.ownsRow 0 93 8 v' (n + 1) (xs ++ verL ⟨T, r⟩ kv av)) (hxs : VersAre D W (S.N id) xs)
    (hg : W2.grownBy w3 V.ownBlock) (hloc : v'.ownBlock = V.ownBlock ∨ v'.ownBlock = some W2.heap.size)
    (hk : IntsIn (fun k => W.heap.size ≤ k ∧ k < W2.heap.size) W2 kv r.kids) (ha : IntsIn (fun k => W.heap.size ≤ k ∧ k < W2.heap.size) W2 av r.attrs)
    (hm4 : MapIs iv (setBlock w3 m ob) m (upd f id (some v'))) :
    StoreAt (fun k => R k ∨ v'.ownBlock = some k) (fun k => D k ∨ (W.heap.size ≤ k ∧ k < W2.heap.size)) (setBlock w3 m ob) (.pointer (some ⟨s, 0, none⟩)) ⟨putN T S.N ⟨id, r⟩, S.given, S.last⟩ ∧ Chg R W (setBlock w3 m ob) ∧
      (∀ k, v'.ownBlock = some k → R k ∨ W.heap.size ≤ k) := by
  have hVR : ∀ g, V.ownBlock = some g → R g ∧ ∃ cur, W.heap[g]? = some (.cells cur 93 (0, 0)) := by
    intro g hg
    cases e : f id with
    | none => rw [hV, e] at hg; cases hg
    | some v =>
      obtain ⟨-, g', cap, ys, rfl, hg', ho, hv⟩ := h1 id v e
      rw [hV, e] at hg
      cases hg
      refine ⟨hg', ?_⟩
      rcases ho.2 with ⟨e, _⟩ | ⟨g2, cap2, cur, e, _, hgg, _⟩
      · cases e
      · cases e; exact ⟨cur, hgg⟩
  have hsz2 : W.heap.size ≤ W2.heap.size := hc2.size
  have hsz3 : W2.heap.size ≤ w3.heap.size := hg.size
  have hlast : ∀ k, k < W.heap.size → k ≠ m → V.ownBlock ≠ some k → (setBlock w3 m ob).heap[k]? = W.heap[k]? := fun k hk hkm hkv =>
    (heap_setBlock_other _ hkm).trans ((hg.block k (by omega) (fun e => hkv e.symm)).trans (hc2.block k hk (fun f => f)))
  have hsm : s ≠ m := by
    rintro rfl
    obtain ⟨es, c, e, _⟩ := hf
    rw [hb] at e; cases e
  have hsV : V.ownBlock ≠ some s := by
    intro e
    obtain ⟨cur, hc⟩ := (hVR s e).2
    rw [hb] at hc
    cases hc
  have hv' : ∀ k, v'.ownBlock = some k → R k ∨ k = W2.heap.size := by
    intro k e
    rcases hloc with h | h
    · exact .inl (hVR k (by rw [← h]; exact e)).1
    · rw [h] at e; cases e; exact .inr rfl
  have hsz4 : (setBlock w3 m ob).heap.size = w3.heap.size := by simp
  have hkeepD : Keeps (fun k => D k ∨ (W.heap.size ≤ k ∧ k < W2.heap.size)) W2 (setBlock w3 m ob) := by
    intro k hk
    have hkm : k ≠ m := by
      rintro rfl
      rcases hk with h | h
      · exact hRD k hm h
      · have := hR k hm; omega
    have hkV : V.ownBlock ≠ some k := by
      intro e
      have hRk := (hVR k e).1
      rcases hk with h | h
      · exact hRD k hRk h
      · have := hR k hRk; omega
    refine (heap_setBlock_other _ hkm).trans (hg.block k ?_ (fun e => hkV e.symm))
    rcases hk with h | h
    · have := hD k h; omega
    · exact h.2
  have hkeepD0 : Keeps D W (setBlock w3 m ob) := fun k hk => (hkeepD k (.inl hk)).trans (hc2.block k (hD k hk) (fun f => f))
  have hVers : VersAre (fun k => D k ∨ (W.heap.size ≤ k ∧ k < W2.heap.size)) (setBlock w3 m ob) (S.N id ++ [⟨T, r⟩]) (xs ++ verL ⟨T, r⟩ kv av) :=
    VersAre.snoc (v := ⟨T, r⟩) ((hk.mono (fun k hk => .inr hk)).keep hkeepD) ((ha.mono (fun k hk => .inr hk)).keep hkeepD) (hxs.keep hkeepD0 (fun k hk => .inl hk))
  obtain ⟨g', hg'⟩ : ∃ g', v'.ownBlock = some g' := by
    rcases hown.2 with ⟨_, h⟩ | ⟨g, cap, cur, rfl, _⟩
    · omega
    · exact ⟨g, rfl⟩
  have hg'm : g' ≠ m := by
    rintro rfl
    have hlt := hR g' hm
    rcases hloc with h | h
    · rw [hg'] at h
      obtain ⟨cur, hc⟩ := (hVR g' h.symm).2
      obtain ⟨es, c, e, _⟩ := hf
      rw [hc] at e; cases e
    · rw [hg'] at h; cases h; omega
  have hg'lt : g' < w3.heap.size := by
    rcases hown.2 with ⟨rfl, _⟩ | ⟨g, cap, cur, rfl, _, hh, _⟩
    · cases hg'
    · cases hg'; exact (Array.getElem?_eq_some_iff.1 hh).1
  refine ⟨⟨⟨s, m, _, rfl, .inl hs, .inl hm, (hlast s (hR s hs) hsm hsV).trans hb, hm4, ?_, ?_, ?_⟩, ?_, ?_, ?_⟩, ?_, ?_⟩
  · intro id' u hu
    by_cases e : id' = id
    · subst e
      rw [upd_same] at hu
      cases hu
      simp only [putN, if_pos]
      rcases hown.2 with ⟨_, h⟩ | ⟨g, cap, cur, rfl, hbg, hgg, r1, r2, r3, r4⟩
      · omega
      · cases hg'
        refine ⟨by simp, g, cap, xs ++ verL ⟨T, r⟩ kv av, by rw [hn]; simp, .inr rfl, ?_, hVers⟩
        have e1 : (S.N id' ++ [(⟨T, r⟩ : Ver)]).length = n + 1 := by rw [hn]; simp
        show World.ownsRow _ 0 93 8 (.slice (some ⟨g, 0, none⟩) (n + 1) cap) (S.N id' ++ [(⟨T, r⟩ : Ver)]).length _
        rw [e1]
        exact ownsRow_keeps hown (fun k hk => by cases hk; exact heap_setBlock_other _ hg'm)
    · rw [upd_other _ _ e] at hu
      simp only [putN, if_neg e]
      obtain ⟨hne, g, cap, ys, rfl, hg1, ho, hv⟩ := h1 id' u hu
      have hgV : V.ownBlock ≠ some g := by
        intro h
        apply e
        cases e2 : f id with
        | none => rw [hV, e2] at h; cases h
        | some v =>
          rw [hV, e2] at h
          exact h3 id' id _ _ hu e2 h.symm
      have hgm : g ≠ m := by
        rintro rfl
        rcases ho.2 with ⟨e3, _⟩ | ⟨g2, cap2, cur, e3, _, hgg, _⟩
        · cases e3
        · cases e3
          obtain ⟨es, c, e4, _⟩ := hf
          rw [hgg] at e4; cases e4
      exact ⟨hne, g, cap, ys, rfl, .inl hg1, ownsRow_keeps ho (fun k hk => by cases hk; exact hlast _ (hR _ hg1) hgm hgV), hv.keep hkeepD0 (fun k hk => .inl hk)⟩
  · intro id' hu
    by_cases e : id' = id
    · subst e; rw [upd_same] at hu; cases hu
    · rw [upd_other _ _ e] at hu
      simp only [putN, if_neg e]
      exact h2 id' hu
  · have hnew : ∀ id' u, id' ≠ id → f id' = some u → u.ownBlock ≠ v'.ownBlock := by
      intro id' u hne hu h
      rcases hloc with hl | hl
      · rw [hl] at h
        cases e2 : f id with
        | none =>
          rw [hV, e2] at h
          obtain ⟨-, g, cap, ys, rfl, _⟩ := h1 id' u hu
          cases h
        | some v =>
          rw [hV, e2] at h
          exact hne (h3 id' id _ _ hu e2 h)
      · rw [hl] at h
        obtain ⟨-, g, cap, ys, rfl, hg1, _⟩ := h1 id' u hu
        have hgw : g = W2.heap.size := Option.some.inj h
        have := hR _ hg1
        omega
    intro ia ib va vb ha1 hb1 he
    by_cases e1 : ia = id
    · by_cases e2 : ib = id
      · rw [e1, e2]
      · subst e1
        rw [upd_same] at ha1
        cases ha1
        rw [upd_other _ _ e2] at hb1
        exact absurd he.symm (hnew ib vb e2 hb1)
    · by_cases e2 : ib = id
      · subst e2
        rw [upd_same] at hb1
        cases hb1
        rw [upd_other _ _ e1] at ha1
        exact absurd he (hnew ia va e1 ha1)
      · rw [upd_other _ _ e1] at ha1
        rw [upd_other _ _ e2] at hb1
        exact h3 ia ib va vb ha1 hb1 he
  · rintro k (h | h)
    · rw [hsz4]; have := hR k h; omega
    · rw [hsz4]; rw [hg'] at h; cases h; exact hg'lt
  · rintro k (h | h)
    · rw [hsz4]; have := hD k h; omega
    · rw [hsz4]; exact Nat.lt_of_lt_of_le h.2 hsz3
  · rintro k (h | h) (h' | h')
    · exact hRD k h h'
    · exact absurd (hR k h) (Nat.not_lt.2 h'.1)
    · rcases hv' k h with h2 | h2
      · exact hRD k h2 h'
      · have := hD k h'; omega
    · rcases hv' k h with h2 | h2
      · exact absurd (hR k h2) (Nat.not_lt.2 h'.1)
      · exact absurd h'.2 (by omega)
  · have hch : Chg R W2 w3 := chg_grown hg (fun k e => (hVR k e).1)
    exact ((hc2.mono (fun k f => f.elim)).trans hch).trans (chg_setBlock hm ob)
  · intro k h
    rcases hv' k h with h | h
    · exact .inl h
    · exact .inr (by omega)
end Go.Proofs.Ytinkjhkbaadbpaa
