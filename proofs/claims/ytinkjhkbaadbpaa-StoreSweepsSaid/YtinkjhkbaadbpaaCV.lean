/- slices.Clone of versions; what a sweep leaves. -/
import Derived.Test.YtinkjhkbaadbpaaIN
import Derived.Test.YtinkjhkbaadbpaaAS
namespace Go.Proofs.Ytinkjhkbaadbpaa
open Go.RowKit
open Go.ChangeMaps (setBlock)
set_option linter.unusedVariables false

theorem VersAre.oneCell {D : Nat → Prop} {w : World} : ∀ {vs : List Ver} {xs : List Value}, VersAre D w vs xs → ∀ u ∈ xs, u.oneCell' = true
  | [], _, h, u, hu => by cases h; simp at hu
  | v :: vs, _, ⟨kv, av, rest, e, ⟨a1, c1, e1, _⟩, ⟨a2, c2, e2, _⟩, h3⟩, u, hu => by
    subst e e1 e2
    rcases List.mem_append.1 hu with hu | hu
    · simp only [verL, recL, List.mem_cons, List.not_mem_nil, or_false] at hu
      rcases hu with rfl | rfl | rfl | rfl | rfl | rfl | rfl | rfl <;> simp [Value.oneCell']
    · exact VersAre.oneCell h3 u hu

set_option maxRecDepth 100000 in
theorem cloneV_any (ad : Addr) (m cap : Nat) (xs : List Value) (w : World) (hcells : ∀ j u, xs[j]? = some u → w.cell? (ad.add j) = some u) (hl : xs.length = m * 8) (h1 : ∀ u ∈ xs, u.oneCell' = true) (hg : ad.block < w.heap.size) (hm : m ≤ 1000000) :
    Calls Try.prog 96 #[.slice (some ad) m cap] w fun e w' => (∃ v', e = .returned v' ∧ w'.ownsRow w.heap.size 93 8 v' m xs) ∧ Below w.heap.size w w' := by
  obtain ⟨i0, hi, hz0, hz1, hz2⟩ := info_parts Try.info93
  have hnews2 : ∀ j u, xs[j]? = some u → (w.alloc (.cells #[] 93)).cell? (ad.add j) = some u := by
    intro j u hu
    have hb : (ad.add j).block = ad.block := by unfold Addr.add; split <;> rfl
    exact (World.cell?_of_block (w := w) (Go.heap_alloc_old w _ (by rw [hb]; exact hg))).trans (hcells j u hu)
  have HN := Lib.hid hnews2
  have HS := Lib.hid (World.ownsRow_made (e := 93) (size := 8) (base := w.heap.size) w #[] 0 (Nat.le_refl _) (Nat.zero_le _) rfl)
  have H1 := Lib.hid h1
  have H4 : Hid (0 + m ≤ maxLen) := by show 0 + m ≤ maxLen; unfold maxLen; omega
  have H5 : Hid ((0 + m) * 112 ≤ 140737488355328) := by show (0 + m) * 112 ≤ 140737488355328; omega
  have hq := fun w => Lib.run_eql_slice_nil (P := Try.prog) w 79 93 (some ad) m cap 0 0 Try.underlying79
  clear hnews2 hcells h1
  go_enter Try.func96, Try.ntmps96
  go_wp2_with (at_builtin; refine wpList_append_own_at _ rfl _ _ 79 rfl w.heap.size 93 i0 (.agg #[.int .u64 0, .int .i64 0, .string ⟨#[]⟩, .string ⟨#[]⟩, .int .i64 0, .slice none 0 0, .slice none 0 0, .bool false]) 8 112 Try.underlying79 hi hz0 hz1 hz2 rfl (by decide) _ _ _ rfl HS.out ad m cap xs rfl hl HN.out H1.out H4.out H5.out (by simp) ?_; intro v' w1 hown hgrow hnil hloc)
  go_ret
  have hown2 : w1.ownsRow w.heap.size 93 8 v' m xs := by simpa using hown
  exact ⟨⟨v', rfl, hown2⟩, ((Below.refl _ _).alloc (Nat.le_refl _) _).grown hgrow (by simp) (fun k hk => by cases hk; exact Nat.le_refl _)⟩

def Store.setN (S : Store) (id : Int) (vs : List Ver) : Store := ⟨fun i => if i = id then vs else S.N i, S.given, S.last⟩

theorem store_del {R D : Nat → Prop} {W W2 : World} {s m : Nat} {f : Int → Option Value} {S : Store} {id : Int} {ob : Obj}
    (hR : ∀ k, R k → k < W.heap.size) (hRD : ∀ k, R k → ¬ D k) (hs : R s) (hm : R m) (hb : W.heap[s]? = some (.cells #[.map (some m), iv S.given, .int .u64 S.last] 98)) (hf : MapIs iv W m f)
    (h1 : ∀ id v, f id = some v → RowIs R D W v (S.N id)) (h2 : ∀ id, f id = none → S.N id = []) (h3 : ∀ id id' v v', f id = some v → f id' = some v' → v.ownBlock = v'.ownBlock → id = id')
    (hc2 : ∀ k, R k ∨ D k → W2.heap[k]? = W.heap[k]?) (hm4 : MapIs iv (setBlock W2 m ob) m (upd f id none)) : StoreIn R D (setBlock W2 m ob) (.pointer (some ⟨s, 0, none⟩)) (S.setN id []) := by
  obtain ⟨es, c, em, _⟩ := hf
  have hsm : s ≠ m := by
    rintro rfl
    rw [hb] at em; cases em
  refine ⟨s, m, _, rfl, hs, hm, ((heap_setBlock_other _ hsm).trans (hc2 s (.inl hs))).trans hb, hm4, ?_, ?_, ?_⟩
  · intro i v hv
    by_cases e : i = id
    · subst e; rw [upd_same] at hv; cases hv
    · rw [upd_other _ _ e] at hv
      obtain ⟨hne, g, cap, xs, rfl, hg, ho, hvs⟩ := h1 i v hv
      have hgm : g ≠ m := by
        rintro rfl
        rcases ho.2 with ⟨e3, _⟩ | ⟨g2, cap2, cur, e3, _, hgg, _⟩
        · cases e3
        · cases e3; rw [hgg] at em; cases em
      simp only [Store.setN, if_neg e]
      exact ⟨hne, g, cap, xs, rfl, hg, ownsRow_keeps ho (fun k hk => by cases hk; exact (heap_setBlock_other _ hgm).trans (hc2 _ (.inl hg))), hvs.keep (fun k hk => (heap_setBlock_other _ (by rintro rfl; exact hRD _ hm hk)).trans (hc2 k (.inr hk))) (fun _ h => h)⟩
  · intro i hi
    by_cases e : i = id
    · simp [Store.setN, e]
    · rw [upd_other _ _ e] at hi
      simp only [Store.setN, if_neg e]
      exact h2 i hi
  · intro ia ib va vb ha hb' he
    by_cases e1 : ia = id
    · subst e1; rw [upd_same] at ha; cases ha
    · by_cases e2 : ib = id
      · subst e2; rw [upd_same] at hb'; cases hb'
      · rw [upd_other _ _ e1] at ha
        rw [upd_other _ _ e2] at hb'
        exact h3 ia ib va vb ha hb' he

theorem store_set {R D : Nat → Prop} {W W2 : World} {s m : Nat} {f : Int → Option Value} {S : Store} {id : Int} {ob : Obj} {v' : Value} {xs' : List Value} {vs' : List Ver}
    (hR : ∀ k, R k → k < W.heap.size) (hD : ∀ k, D k → k < W.heap.size) (hRD : ∀ k, R k → ¬ D k) (hs : R s) (hm : R m) (hb : W.heap[s]? = some (.cells #[.map (some m), iv S.given, .int .u64 S.last] 98)) (hf : MapIs iv W m f)
    (h1 : ∀ id v, f id = some v → RowIs R D W v (S.N id)) (h2 : ∀ id, f id = none → S.N id = []) (h3 : ∀ id id' v v', f id = some v → f id' = some v' → v.ownBlock = v'.ownBlock → id = id')
    (hc2 : ∀ k, R k ∨ D k → W2.heap[k]? = W.heap[k]?) (hne' : vs' ≠ []) (hown : W2.ownsRow W.heap.size 93 8 v' vs'.length xs') (hvs' : VersAre D W vs' xs')
    (hm4 : MapIs iv (setBlock W2 m ob) m (upd f id (some v'))) : StoreIn (fun k => R k ∨ v'.ownBlock = some k) D (setBlock W2 m ob) (.pointer (some ⟨s, 0, none⟩)) (S.setN id vs') := by
  obtain ⟨es, c, em, _⟩ := hf
  have hsm : s ≠ m := by
    rintro rfl
    rw [hb] at em; cases em
  have hold : ∀ k, R k ∨ D k → k ≠ m → (setBlock W2 m ob).heap[k]? = W.heap[k]? := fun k hk hkm => (heap_setBlock_other _ hkm).trans (hc2 k hk)
  have hKD : Keeps D W (setBlock W2 m ob) := fun k hk => hold k (.inr hk) (by rintro rfl; exact hRD _ hm hk)
  refine ⟨s, m, _, rfl, .inl hs, .inl hm, (hold s (.inl hs) hsm).trans hb, hm4, ?_, ?_, ?_⟩
  · intro i v hv
    by_cases e : i = id
    · subst e; rw [upd_same] at hv; cases hv
      simp only [Store.setN, if_pos]
      have hbase := fun g hg => (ownsRow_base hown (g := g) hg).1
      rcases hown.2 with ⟨_, h0⟩ | ⟨g, cap, cur, rfl, hbg, hg, r1, r2, r3, r4⟩
      · exact absurd (List.length_eq_zero_iff.1 h0) hne'
      · have hgm : g ≠ m := by have := hR m hm; omega
        exact ⟨hne', g, cap, xs', rfl, .inr rfl, ⟨hown.1, .inr ⟨g, cap, cur, rfl, Nat.zero_le _, (heap_setBlock_other _ hgm).trans hg, r1, r2, r3, r4⟩⟩, hvs'.keep hKD (fun _ h => h)⟩
    · rw [upd_other _ _ e] at hv
      obtain ⟨hne, g, cap, xs, rfl, hg, ho, hvs⟩ := h1 i v hv
      have hgm : g ≠ m := by
        rintro rfl
        rcases ho.2 with ⟨e3, _⟩ | ⟨g2, cap2, cur, e3, _, hgg, _⟩
        · cases e3
        · cases e3; rw [hgg] at em; cases em
      simp only [Store.setN, if_neg e]
      exact ⟨hne, g, cap, xs, rfl, .inl hg, ownsRow_keeps ho (fun k hk => by cases hk; exact hold _ (.inl hg) hgm), hvs.keep hKD (fun _ h => h)⟩
  · intro i hi
    by_cases e : i = id
    · subst e; rw [upd_same] at hi; cases hi
    · rw [upd_other _ _ e] at hi
      simp only [Store.setN, if_neg e]
      exact h2 i hi
  · have hnew : ∀ i u, f i = some u → u.ownBlock ≠ v'.ownBlock := by
      intro i u hu h
      obtain ⟨hne, g, cap, xs, rfl, hg, ho, hvs⟩ := h1 i u hu
      have h4 : W.heap.size ≤ g := (ownsRow_base hown h.symm).1
      have := hR g hg
      omega
    intro ia ib va vb ha hb' he
    by_cases e1 : ia = id
    · by_cases e2 : ib = id
      · rw [e1, e2]
      · subst e1
        rw [upd_same] at ha; cases ha
        rw [upd_other _ _ e2] at hb'
        exact absurd he.symm (hnew ib vb hb')
    · by_cases e2 : ib = id
      · subst e2
        rw [upd_same] at hb'; cases hb'
        rw [upd_other _ _ e1] at ha
        exact absurd he (hnew ia va ha)
      · rw [upd_other _ _ e1] at ha
        rw [upd_other _ _ e2] at hb'
        exact h3 ia ib va vb ha hb' he

/-- how many of a node's versions a sweep lets go -/
def dropN (T : Nat) (vs : List Ver) : Nat :=
  match (vs.filter (fun v => decide (v.time ≤ T))).getLast? with
  | some v => (vs.filter (fun v => decide (v.time ≤ T))).length - (if v.r.gone then 0 else 1)
  | none => 0
def sweepV (T : Nat) (vs : List Ver) : List Ver := vs.drop (dropN T vs)
def Store.sweep (S : Store) (T : Nat) : Store := ⟨fun id => sweepV T (S.N id), S.given, S.last⟩
theorem dropN_zero {T : Nat} {vs : List Ver} (h : ∀ (k : Nat) (v : Ver), vs[k]? = some v → T < v.time) : dropN T vs = 0 := by
  unfold dropN
  rw [filter_take (m := 0) (Nat.zero_le _) (fun k v hk => by omega) (fun k v _ => h k v)]
  simp
theorem dropN_succ {T k : Nat} {vs : List Ver} {v : Ver} (hk : vs[k]? = some v) (h1 : ∀ (j : Nat) (v : Ver), j < k + 1 → vs[j]? = some v → v.time ≤ T) (h2 : ∀ (j : Nat) (v : Ver), k + 1 ≤ j → vs[j]? = some v → T < v.time) :
    dropN T vs = if v.r.gone then k + 1 else k := by
  unfold dropN
  have hl : k < vs.length := (List.getElem?_eq_some_iff.1 hk).1
  rw [filter_take (m := k + 1) hl h1 h2, List.getLast?_eq_getElem?]
  have : (List.take (k + 1) vs)[(List.take (k + 1) vs).length - 1]? = some v := by
    rw [List.length_take, Nat.min_eq_left (by omega), List.getElem?_take_of_lt (by omega)]
    exact hk
  rw [this]
  simp only [List.length_take, Nat.min_eq_left (show k + 1 ≤ vs.length by omega)]
  cases v.r.gone <;> simp
theorem dropN_le (T : Nat) (vs : List Ver) : dropN T vs ≤ vs.length := by
  unfold dropN
  have := List.length_filter_le (fun v : Ver => decide (v.time ≤ T)) vs
  split <;> omega
end Go.Proofs.Ytinkjhkbaadbpaa
