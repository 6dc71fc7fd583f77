/- The document's store in memory; its New, Fresh. -/
import Derived.Test.YtinkjhkbaadbpaaS2
namespace Go.Proofs.Ytinkjhkbaadbpaa
open Go.RowKit
set_option linter.unusedVariables false

structure Ent where
  id : Int
  v : Ver
abbrev entL (e : Ent) (kv av : Value) : List Value := .int .i64 e.id :: verL e.v kv av
/-- The cells xs are the entries es, whose lists lie in blocks of D. -/
def EntsAre (D : Nat → Prop) (w : World) : List Ent → List Value → Prop
  | [], xs => xs = []
  | e :: es, xs => ∃ kv av rest, xs = entL e kv av ++ rest ∧ IntsIn D w kv e.v.r.kids ∧ IntsIn D w av e.v.r.attrs ∧ EntsAre D w es rest
theorem EntsAre.keep {D D' : Nat → Prop} {w w' : World} (hk : Keeps D w w') (hD : ∀ k, D k → D' k) : ∀ {es : List Ent} {xs : List Value}, EntsAre D w es xs → EntsAre D' w' es xs
  | [], _, h => h
  | _ :: _, _, ⟨kv, av, rest, e, h1, h2, h3⟩ => ⟨kv, av, rest, e, (h1.keep hk).mono hD, (h2.keep hk).mono hD, EntsAre.keep hk hD h3⟩
theorem EntsAre.snoc {D : Nat → Prop} {w : World} {v : Ent} {kv av : Value} (h1 : IntsIn D w kv v.v.r.kids) (h2 : IntsIn D w av v.v.r.attrs) : ∀ {vs : List Ent} {xs : List Value}, EntsAre D w vs xs → EntsAre D w (vs ++ [v]) (xs ++ entL v kv av)
  | [], _, h => by cases h; exact ⟨kv, av, [], by simp, h1, h2, rfl⟩
  | _ :: _, _, ⟨kv', av', rest, e, h1', h2', h3'⟩ => ⟨kv', av', rest ++ entL v kv av, by rw [e, List.append_assoc], h1', h2', EntsAre.snoc h1 h2 h3'⟩
theorem EntsAre.get {D : Nat → Prop} {w : World} : ∀ {vs : List Ent} {xs : List Value}, EntsAre D w vs xs → ∀ (k : Nat) (v : Ent), vs[k]? = some v →
    ∃ kv av, IntsIn D w kv v.v.r.kids ∧ IntsIn D w av v.v.r.attrs ∧ ∀ c, c < 9 → xs[k * 9 + c]? = (entL v kv av)[c]?
  | [], _, _, k, v, hv => by simp at hv
  | v0 :: vs, _, ⟨kv, av, rest, e, h1, h2, h3⟩, 0, v, hv => by
    simp at hv; subst hv; subst e
    exact ⟨kv, av, h1, h2, fun c hc => by rw [List.getElem?_append_left (by simpa using hc)]; simp⟩
  | v0 :: vs, _, ⟨kv, av, rest, e, h1, h2, h3⟩, k + 1, v, hv => by
    obtain ⟨kv', av', i1, i2, hc⟩ := EntsAre.get h3 k v (by simpa using hv)
    subst e
    refine ⟨kv', av', i1, i2, fun c hcc => ?_⟩
    rw [← hc c hcc]
    have e : (k + 1) * 9 + c = (k * 9 + c) + 9 := by omega
    rw [e]
    simp

structure Doc where
  L : List Ent
  given : Int
  last : Nat
/-- q leads to the document's store d: what may turn lies in R, the lists in D. -/
def DocIn (R D : Nat → Prop) (w : World) (q : Value) (d : Doc) : Prop :=
  ∃ s v xs, q = .pointer (some ⟨s, 0, none⟩) ∧ R s ∧ w.heap[s]? = some (.cells #[v, iv d.given, .int .u64 d.last] 84) ∧ w.ownsRow 0 147 9 v d.L.length xs ∧ EntsAre D w d.L xs ∧ (∀ g, v.ownBlock = some g → R g)
theorem DocIn.keep {R D : Nat → Prop} {w w' : World} {q : Value} {d : Doc} (h : DocIn R D w q d) (hR : Keeps R w w') (hD : Keeps D w w') : DocIn R D w' q d := by
  obtain ⟨s, v, xs, rfl, hs, hb, ho, he, hr⟩ := h
  exact ⟨s, v, xs, rfl, hs, (hR s hs).trans hb, ownsRow_keeps ho (fun g hg => hR g (hr g hg)), he.keep hD (fun _ h => h), hr⟩
theorem DocIn.mono {R D R' D' : Nat → Prop} {w : World} {q : Value} {d : Doc} (h : DocIn R D w q d) (hR : ∀ k, R k → R' k) (hD : ∀ k, D k → D' k) : DocIn R' D' w q d := by
  obtain ⟨s, v, xs, rfl, hs, hb, ho, he, hr⟩ := h
  exact ⟨s, v, xs, rfl, hR _ hs, hb, ho, he.keep (Keeps.refl _ _) hD, fun g hg => hR _ (hr g hg)⟩
/-- what reading asks -/
theorem DocIn.read {R D : Nat → Prop} {w : World} {q : Value} {d : Doc} (h : DocIn R D w q d) : ∃ s a cap, q = .pointer (some ⟨s, 0, none⟩) ∧ R s ∧ w.heap[s]? = some (.cells #[.slice a d.L.length cap, iv d.given, .int .u64 d.last] 84) ∧
    ∀ (k : Nat) (e : Ent), d.L[k]? = some e → ∃ g kv av, a = some ⟨g, 0, none⟩ ∧ R g ∧ g ≠ s ∧ g < w.heap.size ∧ IntsIn D w kv e.v.r.kids ∧ IntsIn D w av e.v.r.attrs ∧ ∀ c x, (entL e kv av)[c]? = some x → w.cell? ⟨g, k * 9 + c, none⟩ = some x := by
  obtain ⟨s, v, xs, rfl, hs, hb, ho, he, hr⟩ := h
  obtain ⟨hl, ⟨rfl, h0⟩ | ⟨g, cap, cur, rfl, _, hgg, h1, h2, h3, h4⟩⟩ := ho
  · refine ⟨s, none, 0, rfl, hs, by rw [h0]; exact hb, fun k e hk => ?_⟩
    have := (List.getElem?_eq_some_iff.1 hk).1
    omega
  · refine ⟨s, _, cap, rfl, hs, hb, fun k e hk => ?_⟩
    have hkl := (List.getElem?_eq_some_iff.1 hk).1
    obtain ⟨kv, av, i1, i2, hc⟩ := he.get k e hk
    refine ⟨g, kv, av, rfl, hr g rfl, ?_, (Array.getElem?_eq_some_iff.1 hgg).1, i1, i2, fun c x hx => ?_⟩
    · rintro rfl; rw [hb] at hgg; cases hgg
    · have hc9 : c < 9 := by have := (List.getElem?_eq_some_iff.1 hx).1; simpa using this
      have e := hc c hc9
      rw [hx, ← h4, List.getElem?_take_of_lt (by omega)] at e
      simpa [World.cell?, hgg] using e

def Doc.fresh : Doc := ⟨[⟨1, ⟨0, Rec.root⟩⟩], 1, 0⟩
set_option maxRecDepth 100000 in
theorem docNew_any (D : Nat → Prop) (w : World) : Calls Try.prog 40 #[] w fun e w' => (∃ q, e = .returned q ∧ DocIn (New w.heap.size) D w' q Doc.fresh) ∧ Below w.heap.size w w' := by
  go_enter Try.func40, Try.ntmps40
  go_wp2
  go_ret
  refine ⟨⟨_, rfl, w.heap.size + 1, .slice (some ⟨w.heap.size, 0, none⟩) 1 1, entL ⟨1, ⟨0, Rec.root⟩⟩ (.slice none 0 0) (.slice none 0 0), rfl, Nat.le_succ _, ?_, ⟨rfl, .inr ⟨w.heap.size, 1, _, rfl, Nat.zero_le _, (Go.heap_alloc_old _ _ (by simp)).trans (Go.heap_alloc_new w _), Nat.le_refl _, by decide, rfl, rfl⟩⟩, ?_, ?_⟩, ?_⟩
  · have := Go.heap_alloc_new (w.alloc (.cells #[.int .i64 1, .int .u64 0, .int .i64 1, .string ⟨#[]⟩, .string ⟨#[]⟩, .int .i64 0, .slice none 0 0, .slice none 0 0, .bool false] 147)) (.cells #[.slice (some ⟨w.heap.size, 0, none⟩) 1 1, .int .i64 1, .int .u64 0] 84)
    simpa [Doc.fresh] using this
  · exact ⟨_, _, [], (List.append_nil _).symm, intsIn_nil _ _, intsIn_nil _ _, rfl⟩
  · intro g hg; cases hg; exact Nat.le_refl _
  · exact ((Below.refl _ _).alloc (Nat.le_refl _) _).alloc (by simp) _

theorem docFresh_any {R D : Nat → Prop} {w : World} {q : Value} {d : Doc} (h : DocIn R D w q d) (hRD : ∀ k, R k → ¬ D k) (h0 : 0 ≤ d.given) (hg : d.given < 9223372036854775807) :
    Calls Try.prog 88 #[q] w fun e w' => e = .returned (.int .i64 (d.given + 1)) ∧ DocIn R D w' q { d with given := d.given + 1 } ∧ Chg R w w' := by
  obtain ⟨s, v, xs, rfl, hs, hb, ho, he, hr⟩ := h
  have c1 : w.cell? ⟨s, 1, none⟩ = some (iv d.given) := by simp [World.cell?, hb]
  have f1 := free_block hb 1
  have fin : DocIn R D (w.setCell ⟨s, 1, none⟩ (.int .i64 (d.given + 1))) (.pointer (some ⟨s, 0, none⟩)) { d with given := d.given + 1 } ∧ Chg R w (w.setCell ⟨s, 1, none⟩ (.int .i64 (d.given + 1))) := by
    refine ⟨⟨s, v, xs, rfl, hs, ?_, ownsRow_keeps ho (fun g hg => heap_setCell_other _ _ _ _ ?_), he.keep (fun k hk => heap_setCell_other _ _ _ _ (by rintro rfl; exact hRD _ hs hk)) (fun _ h => h), hr⟩, chg_set hs 1 _⟩
    · have := heap_setCell_same w s 1 _ _ (.int .i64 (d.given + 1)) hb
      simpa using this
    · rintro rfl
      rcases ho.2 with ⟨rfl, _⟩ | ⟨g', cap', cur, rfl, _, hgg, _⟩
      · cases hg
      · cases hg; rw [hb] at hgg; cases hgg
  have FIN := Lib.hid fin
  clear fin hb he ho
  go_enter Try.func88, Try.ntmps88
  go_wp2
  go_ret
  exact ⟨rfl, FIN.out.1, FIN.out.2⟩
end Go.Proofs.Ytinkjhkbaadbpaa
