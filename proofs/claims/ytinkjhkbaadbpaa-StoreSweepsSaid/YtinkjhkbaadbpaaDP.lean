/- An entry is laid into the document's store. -/
import Derived.Test.YtinkjhkbaadbpaaDI
import Derived.Test.YtinkjhkbaadbpaaRR
namespace Go.Proofs.Ytinkjhkbaadbpaa
open Go.RowKit
set_option linter.unusedVariables false

theorem Try.info147 : (Try.prog.info? 147).map (fun i => (i.zero, i.size, i.bytes)) = some (some (.agg #[.int .i64 0, .int .u64 0, .int .i64 0, .string ⟨#[]⟩, .string ⟨#[]⟩, .int .i64 0, .slice none 0 0, .slice none 0 0, .bool false]), 9, 120) := by kernel_rfl

theorem doc_push {R D : Nat → Prop} {W W2 w3 : World} {s n : Nat} {v v' : Value} {xs : List Value} {l : List Ent} {e : Ent} {kv av : Value} {g : Int} {last : Nat}
    (hR : ∀ k, R k → k < W.heap.size) (hD : ∀ k, D k → k < W.heap.size) (hRD : ∀ k, R k → ¬ D k) (hs : R s) (hb : W.heap[s]? = some (.cells #[v, iv g, .int .u64 last] 84)) (ho : W.ownsRow 0 147 9 v n xs) (he : EntsAre D W l xs) (hn : l.length = n)
    (hv : ∀ k, v.ownBlock = some k → R k) (hc2 : Chg (fun _ => False) W W2) (hown : w3.ownsRow 0 147 9 v' (n + 1) (xs ++ entL e kv av)) (hg : W2.grownBy w3 v.ownBlock) (hloc : v.ownBlock = v'.ownBlock ∨ ∃ j, v'.ownBlock = some j ∧ W.heap.size ≤ j)
    (hk : IntsIn D W kv e.v.r.kids) (ha : IntsIn D W av e.v.r.attrs) :
    DocIn (fun k => R k ∨ v'.ownBlock = some k) D (w3.setCell ⟨s, 0, none⟩ v') (.pointer (some ⟨s, 0, none⟩)) ⟨l ++ [e], g, last⟩ ∧ Chg R W (w3.setCell ⟨s, 0, none⟩ v') ∧ (∀ k, v'.ownBlock = some k → R k ∨ W.heap.size ≤ k) ∧ (∀ k, (R k ∨ v'.ownBlock = some k) → k < (w3.setCell ⟨s, 0, none⟩ v').heap.size) := by
  have hch : Chg R W w3 := (hc2.mono (fun k h => h.elim)).trans (chg_grown hg hv)
  have hsV : v.ownBlock ≠ some s := by
    intro h
    rcases ho.2 with ⟨rfl, _⟩ | ⟨g', cap', cur, rfl, _, hgg, _⟩
    · cases h
    · cases h; rw [hb] at hgg; cases hgg
  have hs3 : w3.heap[s]? = W.heap[s]? := by
    have h1 := hR s hs
    exact (hg.block s (Nat.lt_of_lt_of_le h1 hc2.size) (fun h => hsV h.symm)).trans (hc2.block s h1 (fun h => h))
  have hsz : (w3.setCell ⟨s, 0, none⟩ v').heap.size = w3.heap.size := by simp [World.setCell]
  have hv' : ∀ k, v'.ownBlock = some k → R k ∨ W.heap.size ≤ k := by
    intro k h
    rcases hloc with h2 | ⟨j, h2, h3⟩
    · exact .inl (hv k (by rw [h2]; exact h))
    · rw [h2] at h; cases h; exact .inr h3
  have hs' : v'.ownBlock ≠ some s := by
    intro h
    rcases hloc with h2 | ⟨j, h2, h3⟩
    · exact hsV (by rw [h2]; exact h)
    · rw [h2] at h; cases h; have := hR _ hs; omega
  have hch2 : Chg R W (w3.setCell ⟨s, 0, none⟩ v') := hch.trans (chg_set hs 0 _)
  have hKD : Keeps D W (w3.setCell ⟨s, 0, none⟩ v') := hch2.keeps (fun k hk => ⟨hD k hk, fun h => hRD k h hk⟩)
  refine ⟨⟨s, v', xs ++ entL e kv av, rfl, .inl hs, ?_, ?_, ?_, fun k h => .inr h⟩, hch2, hv', ?_⟩
  · have := heap_setCell_same w3 s 0 _ _ v' (hs3.trans hb)
    simpa using this
  · show World.ownsRow _ 0 147 9 v' (l ++ [e]).length _
    rw [show (l ++ [e]).length = n + 1 by simp [hn]]
    exact ownsRow_keeps hown (fun k h => heap_setCell_other _ _ _ _ (by rintro rfl; exact hs' h))
  · exact EntsAre.snoc (v := e) (hk.keep hKD) (ha.keep hKD) (he.keep hKD (fun _ h => h))
  · rintro k (h | h)
    · rw [hsz]; exact Nat.lt_of_lt_of_le (hR k h) hch.size
    · rw [hsz]
      exact (ownsRow_base hown h).2

def entOf (T : Nat) (c : Chn) : Ent := ⟨c.id, ⟨T, c.r⟩⟩
def Doc.put (d : Doc) (T : Nat) (cs : List Chn) : Doc := ⟨d.L ++ cs.map (entOf T), d.given, T⟩
theorem doc_last {R D : Nat → Prop} {w : World} {s : Nat} {d : Doc} (h : DocIn R D w (.pointer (some ⟨s, 0, none⟩)) d) (hRD : ∀ k, R k → ¬ D k) (T : Nat) :
    DocIn R D (w.setCell ⟨s, 2, none⟩ (.int .u64 T)) (.pointer (some ⟨s, 0, none⟩)) ⟨d.L, d.given, T⟩ ∧ Chg R w (w.setCell ⟨s, 2, none⟩ (.int .u64 T)) := by
  obtain ⟨s', v, xs, e, hs, hb, ho, he, hr⟩ := h
  obtain rfl : s = s' := by cases e; rfl
  refine ⟨⟨s, v, xs, rfl, hs, ?_, ownsRow_keeps ho (fun g hg => heap_setCell_other _ _ _ _ ?_), he.keep (fun k hk => heap_setCell_other _ _ _ _ (by rintro rfl; exact hRD _ hs hk)) (fun _ h => h), hr⟩, chg_set hs 2 _⟩
  · have := heap_setCell_same w s 2 _ _ (.int .u64 T) hb
    simpa using this
  · rintro rfl
    rcases ho.2 with ⟨rfl, _⟩ | ⟨g', cap', cur, rfl, _, hgg, _⟩
    · cases hg
    · cases hg; rw [hb] at hgg; cases hgg
theorem okL_length {g : Int} {cs : List Chn} (hg : 0 ≤ g) (h : okL g [] cs = true) : (cs.length : Int) ≤ g := by
  have key : ∀ (cs : List Chn) (seen : List Int), okL g seen cs = true → (cs.map (·.id)).Nodup := by
    intro cs
    induction cs with
    | nil => intro seen _; simp
    | cons c cs ih =>
      intro seen h
      simp only [okL, Bool.and_eq_true] at h
      simp only [List.map_cons, List.nodup_cons]
      refine ⟨?_, ih _ h.2⟩
      intro hm
      obtain ⟨d, hd, e⟩ := List.mem_map.1 hm
      obtain ⟨k, hk⟩ := List.getElem?_of_mem hd
      exact (okL_id h.2 hk).2 (by rw [e]; simp)
  have h2 := nodup_bound (key cs [] h) hg (fun x hx => by
    obtain ⟨c, hc, rfl⟩ := List.mem_map.1 hx
    obtain ⟨k, hk⟩ := List.getElem?_of_mem hc
    have h3 := okL_mono g cs [] (k + 1) h
    rw [okL_take hk] at h3
    simp [bad1] at h3
    omega)
  simpa using h2
end Go.Proofs.Ytinkjhkbaadbpaa
