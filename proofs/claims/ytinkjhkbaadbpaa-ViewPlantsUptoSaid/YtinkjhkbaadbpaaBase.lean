/- Laws on maps of the heap as functions of their keys (no program named). -/
import Derived.WalkKit
import Derived.WalkSpells
import Derived.WalkLawsBesides
import Derived.Deep.QuietTactic
import Derived.BigQuiet
import Derived.Lib.Hide
import Derived.Maps.OwnOps
import Derived.Maps.OwnSet
import Derived.Maps.RangeWalk
namespace Go.Proofs.Ytinkjhkbaadbpaa
open Go Go.RowKit
open Go.ChangeMaps (setBlock)
open Go.MapKept (Stamped IsKey)
set_option linter.unusedSectionVars false

/-! ### the kinds of keys -/
structure MKey {κ : Type} (P : Program) (k : TypeId) (enc : κ → Value) : Prop where
  inj : ∀ {a b : κ}, enc a = enc b → a = b
  check : ∀ (w : World) (em : Bool) (x : κ), (Instr.checkKey em 10000 k (enc x)).run P w = .ok () w
  find : ∀ (w : World) (x : κ) (es : List MapEntry), (∀ e ∈ es, ∃ y, e.key = enc y) →
    ((Instr.findKey k (enc x) es).run P w = .ok none w ∧ ∀ e ∈ es, e.key ≠ enc x) ∨ ∃ j e, (Instr.findKey k (enc x) es).run P w = .ok (some (j, e.val)) w ∧ es[j]? = some e ∧ e.key = enc x
  stays : ∀ (w : World) (x : κ), (Instr.keyThatStays (enc x) (enc x)).run P w = .ok (enc x) w

theorem mkey_int {P : Program} {k : TypeId} {q : IntKind} (hk : P.underlying k = some (.int q)) : MKey P k (fun n : Int => Value.int q n) where
  inj h := by injection h
  check w em x := MapKept.run_checkKey (d := .int q) (k := .int q x) hk rfl em 9999
  find w x es hes := by
    have hks : ∀ y ∈ es, IsKey (.int q) y.key := fun y hy => by
      obtain ⟨l, hl⟩ := hes y hy
      rw [hl]; rfl
    rcases MapKept.findNow_spec (d := .int q) (k := .int q x) rfl es 0 hks with ⟨h1, h2⟩ | ⟨j, e0, h1, h2, h3⟩
    · exact Or.inl ⟨MapKept.run_findKey hk h1, h2⟩
    · exact Or.inr ⟨j, e0, by simpa using MapKept.run_findKey hk h1, h2, h3⟩
  stays w x := MapKept.run_keyThatStays (d := .int q) rfl

variable {κ : Type} [DecidableEq κ] {P : Program} {k : TypeId} {enc : κ → Value}

/-- What a map reads at each key. -/
def MapView (enc : κ → Value) (es : Array MapEntry) (clock : Nat) (f : κ → Option Value) : Prop :=
  Stamped es clock ∧ (∀ e ∈ es.toList, ∃ y, e.key = enc y) ∧ ∀ x v, f x = some v ↔ ∃ e ∈ es.toList, e.key = enc x ∧ e.val = v

/-- Block b is a map that reads as f. -/
def MapIs (enc : κ → Value) (w : World) (b : Nat) (f : κ → Option Value) : Prop :=
  ∃ es clock, w.heap[b]? = some (.map es clock) ∧ MapView enc es clock f

theorem MapIs.lt {w : World} {b : Nat} {f : κ → Option Value} (h : MapIs enc w b f) : b < w.heap.size := by
  obtain ⟨es, c, hb, _⟩ := h
  exact (Array.getElem?_eq_some_iff.1 hb).1
theorem MapIs.keep {w w' : World} {b : Nat} {f : κ → Option Value} (h : MapIs enc w b f) (hk : w'.heap[b]? = w.heap[b]?) : MapIs enc w' b f := by
  obtain ⟨es, c, hb, hv⟩ := h
  exact ⟨es, c, hk.trans hb, hv⟩
theorem MapIs.congr {w : World} {b : Nat} {f g : κ → Option Value} (h : MapIs enc w b f) (hfg : ∀ x, f x = g x) : MapIs enc w b g := by
  obtain rfl : f = g := funext hfg
  exact h
theorem mapIs_new (enc : κ → Value) (w : World) : MapIs enc (w.alloc (.map #[] 0)) w.heap.size (fun _ => none) :=
  ⟨#[], 0, Go.heap_alloc_new w _, ⟨by simp, by simp, by simp⟩, by simp, by simp⟩

theorem keys_apart {l : List MapEntry} (h : (l.map (·.key)).Nodup) {i j : Nat} {a b : MapEntry} (hi : l[i]? = some a) (hj : l[j]? = some b) (hk : a.key = b.key) : i = j := by
  have hp : (l.map (·.key)).Pairwise (· ≠ ·) := h
  rw [List.pairwise_map, List.pairwise_iff_getElem] at hp
  obtain ⟨hil, rfl⟩ := List.getElem?_eq_some_iff.1 hi
  obtain ⟨hjl, rfl⟩ := List.getElem?_eq_some_iff.1 hj
  rcases Nat.lt_trichotomy i j with hij | hij | hij
  · exact absurd hk (hp i j hil hjl hij)
  · exact hij
  · exact absurd hk.symm (hp j i hjl hil hij)
theorem MapView.uniq {es : Array MapEntry} {clock : Nat} {f : κ → Option Value} (h : MapView enc es clock f) {e e' : MapEntry} (he : e ∈ es.toList) (he' : e' ∈ es.toList) (hk : e.key = e'.key) : e = e' := by
  obtain ⟨i, hi⟩ := List.mem_iff_getElem?.1 he
  obtain ⟨j, hj⟩ := List.mem_iff_getElem?.1 he'
  obtain rfl := keys_apart h.1.2.2 hi hj hk
  rw [hi] at hj
  cases hj
  rfl

/-- v, ok := m[x] -/
theorem MapIs.look {w : World} {b : Nat} {f : κ → Option Value} (h : MapIs enc w b f) (K : MKey P k enc) {t e : TypeId} (ht : P.underlying t = some (.map k e)) {z : Value}
    (hz : ∀ w, (zeroValue e).run P w = .ok z w) (x : κ) (c : Bool) :
    (Instr.lookup t (.map (some b)) (enc x) c).run P w = .ok (if c then .tuple #[(f x).getD z, .bool (f x).isSome] else (f x).getD z) w := by
  obtain ⟨es, clock, hb, hv⟩ := h
  rcases K.find w x es.toList hv.2.1 with ⟨h1, h2⟩ | ⟨j, e0, h1, h2, h3⟩
  · have hf : f x = none := by
      cases hf : f x with
      | none => rfl
      | some v => obtain ⟨e', he', hk', _⟩ := (hv.2.2 x v).1 hf; exact absurd hk' (h2 e' he')
    cases c <;> simp [Instr.lookup, run_underlying ht, MapKept.run_getObj_map hb, K.check w, h1, hf, hz, Result.andThen]
  · have hf : f x = some e0.val := (hv.2.2 x _).2 ⟨e0, List.mem_of_getElem? h2, h3, rfl⟩
    cases c <;> simp [Instr.lookup, run_underlying ht, MapKept.run_getObj_map hb, K.check w, h1, hf, Result.andThen]

def upd (f : κ → Option Value) (x : κ) (v : Option Value) : κ → Option Value := fun y => if y = x then v else f y
@[simp] theorem upd_same (f : κ → Option Value) (x : κ) (v : Option Value) : upd f x v x = v := by simp [upd]
theorem upd_other (f : κ → Option Value) {x y : κ} (v : Option Value) (h : y ≠ x) : upd f x v y = f y := by simp [upd, h]

/-- m[x] = v -/
theorem MapIs.store {w : World} {b : Nat} {f : κ → Option Value} (h : MapIs enc w b f) (K : MKey P k enc) {t e : TypeId} (ht : P.underlying t = some (.map k e)) (x : κ) (v : Value) :
    ∃ es' clock', (Instr.mapUpdate t (.map (some b)) (enc x) v).run P w = .ok () (setBlock w b (.map es' clock')) ∧ MapView enc es' clock' (upd f x (some v)) := by
  obtain ⟨es, clock, hb, hv⟩ := h
  rcases K.find w x es.toList hv.2.1 with ⟨h1, h2⟩ | ⟨j, e0, h1, h2, h3⟩
  · refine ⟨es.push ⟨enc x, v, clock⟩, clock + 1, ?_, MapKept.stamped_push hv.1 h2, ?_, ?_⟩
    · simp [Instr.mapUpdate, run_underlying ht, MapKept.run_getObj_map hb, K.check w, h1, MapKept.run_setObj_map _ hb, Result.andThen, setBlock]
    · intro e he
      simp only [Array.toList_push, List.mem_append, List.mem_singleton] at he
      rcases he with he | rfl
      · exact hv.2.1 e he
      · exact ⟨x, rfl⟩
    · intro y u
      simp only [Array.toList_push, List.mem_append, List.mem_singleton]
      by_cases hy : y = x
      · subst hy
        rw [upd_same]
        constructor
        · rintro ⟨⟩; exact ⟨_, Or.inr rfl, rfl, rfl⟩
        · rintro ⟨e', he' | rfl, hk', hu⟩
          · exact absurd hk' (h2 e' he')
          · rw [← hu]
      · rw [upd_other _ _ hy, hv.2.2]
        constructor
        · rintro ⟨e', he', hk', hu⟩; exact ⟨e', Or.inl he', hk', hu⟩
        · rintro ⟨e', he' | rfl, hk', hu⟩
          · exact ⟨e', he', hk', hu⟩
          · exact absurd (K.inj hk').symm hy
  · have hj : es[j]? = some e0 := by simpa using h2
    have hjl : j < es.toList.length := (List.getElem?_eq_some_iff.1 h2).1
    have hm0 : e0 ∈ es.toList := List.mem_of_getElem? h2
    have hlist : (es.modify j (fun e' => { e' with key := enc x, val := v })).toList = es.toList.set j { e0 with key := enc x, val := v } := by rw [Array.toList_modify, ChangeMaps.modify_eq_set _ _ _ _ h2]
    have hmem : ∀ a, a ∈ es.toList.set j { e0 with key := enc x, val := v } ↔ a = { e0 with key := enc x, val := v } ∨ (a ∈ es.toList ∧ a.key ≠ enc x) := by
      intro a
      constructor
      · intro ha
        obtain ⟨i, hi, ex⟩ := List.getElem_of_mem ha
        rw [List.getElem_set] at ex
        split at ex
        · exact Or.inl ex.symm
        · rename_i hne
          have hi' : i < es.toList.length := by simpa using hi
          refine Or.inr ⟨ex ▸ List.getElem_mem hi', fun hk => hne ?_⟩
          exact (keys_apart hv.1.2.2 (List.getElem?_eq_getElem hi') h2 (by rw [ex, hk, h3])).symm
      · rintro (rfl | ⟨ha, hk⟩)
        · exact List.mem_iff_getElem.2 ⟨j, by simpa using hjl, by simp⟩
        · obtain ⟨i, hi, rfl⟩ := List.getElem_of_mem ha
          have hne : j ≠ i := by
            rintro rfl
            rw [List.getElem?_eq_getElem hi] at h2
            cases h2
            exact hk h3
          exact List.mem_iff_getElem.2 ⟨i, by simpa using hi, by rw [List.getElem_set_ne hne]⟩
    refine ⟨es.modify j (fun e' => { e' with key := enc x, val := v }), clock, ?_, MapKept.stamped_modify hv.1 _ _ (fun _ _ => rfl) (fun e' _ he' => by rw [hj] at he'; cases he'; exact h3.symm), ?_, ?_⟩
    · simp [Instr.mapUpdate, run_underlying ht, MapKept.run_getObj_map hb, K.check w, h1, hj, h3, K.stays w, MapKept.run_setObj_map _ hb, Result.andThen, setBlock]
    · intro e he
      rw [hlist] at he
      rcases (hmem e).1 he with rfl | ⟨ha, _⟩
      · exact ⟨x, rfl⟩
      · exact hv.2.1 e ha
    · intro y u
      rw [hlist]
      by_cases hy : y = x
      · subst hy
        rw [upd_same]
        constructor
        · rintro ⟨⟩; exact ⟨_, (hmem _).2 (Or.inl rfl), rfl, rfl⟩
        · rintro ⟨e', he', hk', hu⟩
          rcases (hmem e').1 he' with rfl | ⟨_, hne⟩
          · rw [← hu]
          · exact absurd hk' hne
      · rw [upd_other _ _ hy, hv.2.2]
        constructor
        · rintro ⟨e', he', hk', hu⟩
          exact ⟨e', (hmem e').2 (Or.inr ⟨he', fun h => hy (K.inj (hk'.symm.trans h))⟩), hk', hu⟩
        · rintro ⟨e', he', hk', hu⟩
          rcases (hmem e').1 he' with rfl | ⟨ha, _⟩
          · exact absurd (K.inj hk').symm hy
          · exact ⟨e', ha, hk', hu⟩

theorem heap_setBlock_same {w : World} {b : Nat} (hb : b < w.heap.size) (o : Obj) : (setBlock w b o).heap[b]? = some o := by simp [setBlock, hb]
theorem heap_setBlock_other {w : World} {b j : Nat} (o : Obj) (h : j ≠ b) : (setBlock w b o).heap[j]? = w.heap[j]? := by simp [setBlock, Ne.symm h]
@[simp] theorem size_setBlock (w : World) (b : Nat) (o : Obj) : (setBlock w b o).heap.size = w.heap.size := by simp [setBlock]

/-- delete(m, x) -/
theorem MapIs.drop {w : World} {b : Nat} {f : κ → Option Value} (h : MapIs enc w b f) (K : MKey P k enc) {t e ty k' : TypeId} (ht : P.underlying t = some (.map k e)) (x : κ) :
    ∃ es' clock', (Builtin.delete_ #[t, k'] ty #[.map (some b), enc x]).run P w = .ok (.tuple #[]) (setBlock w b (.map es' clock')) ∧ MapView enc es' clock' (upd f x none) := by
  obtain ⟨es, clock, hb, hv⟩ := h
  rcases K.find w x es.toList hv.2.1 with ⟨h1, h2⟩ | ⟨j, e0, h1, h2, h3⟩
  · refine ⟨es, clock, ?_, hv.1, hv.2.1, ?_⟩
    · simp [Builtin.delete_, run_underlying ht, MapKept.run_getObj_map hb, K.check w, h1, MapKept.run_setObj_map _ hb, Result.andThen, setBlock]
    · intro y u
      by_cases hy : y = x
      · subst hy
        rw [upd_same]
        constructor
        · rintro ⟨⟩
        · rintro ⟨e', he', hk', _⟩; exact absurd hk' (h2 e' he')
      · rw [upd_other _ _ hy]; exact hv.2.2 y u
  · have hjl : j < es.toList.length := (List.getElem?_eq_some_iff.1 h2).1
    have hlist : (es.eraseIdxIfInBounds j).toList = es.toList.eraseIdx j := by
      have : j < es.size := by simpa using hjl
      simp [Array.eraseIdxIfInBounds, this]
    have hmem : ∀ a, a ∈ es.toList.eraseIdx j ↔ a ∈ es.toList ∧ a.key ≠ enc x := by
      intro a
      rw [List.mem_eraseIdx_iff_getElem?]
      constructor
      · rintro ⟨i, hne, hi⟩
        refine ⟨List.mem_of_getElem? hi, fun hk => hne ?_⟩
        exact keys_apart hv.1.2.2 hi h2 (by rw [hk, h3])
      · rintro ⟨ha, hk⟩
        obtain ⟨i, hi⟩ := List.mem_iff_getElem?.1 ha
        refine ⟨i, ?_, hi⟩
        rintro rfl
        rw [hi] at h2
        cases h2
        exact hk h3
    refine ⟨es.eraseIdxIfInBounds j, clock, ?_, ⟨?_, ?_, ?_⟩, ?_, ?_⟩
    · simp [Builtin.delete_, run_underlying ht, MapKept.run_getObj_map hb, K.check w, h1, MapKept.run_setObj_map _ hb, Result.andThen, setBlock]
    · intro e he; rw [hlist] at he; exact hv.1.1 e ((hmem e).1 he).1
    · rw [hlist]; exact hv.1.2.1.sublist ((List.eraseIdx_sublist _ _).map _)
    · rw [hlist]; exact hv.1.2.2.sublist ((List.eraseIdx_sublist _ _).map _)
    · intro e he; rw [hlist] at he; exact hv.2.1 e ((hmem e).1 he).1
    · intro y u
      rw [hlist]
      by_cases hy : y = x
      · subst hy
        rw [upd_same]
        constructor
        · rintro ⟨⟩
        · rintro ⟨e', he', hk', _⟩; exact absurd hk' ((hmem e').1 he').2
      · rw [upd_other _ _ hy, hv.2.2]
        constructor
        · rintro ⟨e', he', hk', hu⟩
          exact ⟨e', (hmem e').2 ⟨he', fun h => hy (K.inj (hk'.symm.trans h))⟩, hk', hu⟩
        · rintro ⟨e', he', hk', hu⟩
          exact ⟨e', ((hmem e').1 he').1, hk', hu⟩

/-! ### a walk over a map: whichever order the tape gives -/

/-- Block r is a walk over the map in block b, which reads as f; 'L x': the entry at x is still to come; n of them are. -/
def Iter (enc : κ → Value) (w : World) (r b : Nat) (f : κ → Option Value) (L : κ → Prop) (n : Nat) : Prop :=
  ∃ es clock since seen last, w.heap[b]? = some (.map es clock) ∧ w.heap[r]? = some (.mapIter (some b) since seen last) ∧ MapView enc es clock f ∧
    (∀ e ∈ es.toList, e.born < since) ∧ (since ≤ last ∧ since ≤ clock) ∧ (∀ x, L x ↔ ∃ e ∈ es.toList, e.key = enc x ∧ seen.contains e.born = false) ∧ n = (leftOf es seen).size

theorem Iter.map {w : World} {r b n : Nat} {f : κ → Option Value} {L : κ → Prop} (h : Iter enc w r b f L n) : MapIs enc w b f := by
  obtain ⟨es, clock, since, seen, last, hb, _, hv, _⟩ := h
  exact ⟨es, clock, hb, hv⟩
theorem Iter.ne {w : World} {r b n : Nat} {f : κ → Option Value} {L : κ → Prop} (h : Iter enc w r b f L n) : r ≠ b := by
  obtain ⟨es, clock, since, seen, last, hb, hr, _⟩ := h
  rintro rfl
  rw [hb] at hr
  cases hr
theorem Iter.lt {w : World} {r b n : Nat} {f : κ → Option Value} {L : κ → Prop} (h : Iter enc w r b f L n) : b < w.heap.size ∧ r < w.heap.size := by
  obtain ⟨es, clock, since, seen, last, hb, hr, _⟩ := h
  exact ⟨(Array.getElem?_eq_some_iff.1 hb).1, (Array.getElem?_eq_some_iff.1 hr).1⟩
theorem Iter.keep {w w' : World} {r b n : Nat} {f : κ → Option Value} {L : κ → Prop} (h : Iter enc w r b f L n) (hb' : w'.heap[b]? = w.heap[b]?) (hr' : w'.heap[r]? = w.heap[r]?) : Iter enc w' r b f L n := by
  obtain ⟨es, clock, since, seen, last, hb, hr, h⟩ := h
  exact ⟨es, clock, since, seen, last, hb'.trans hb, hr'.trans hr, h⟩
theorem Iter.has {w : World} {r b n : Nat} {f : κ → Option Value} {L : κ → Prop} (h : Iter enc w r b f L n) {x : κ} (hx : L x) : ∃ v, f x = some v := by
  obtain ⟨es, clock, since, seen, last, hb, hr, hv, _, _, hL, _⟩ := h
  obtain ⟨e, he, hk, _⟩ := (hL x).1 hx
  exact ⟨e.val, (hv.2.2 x _).2 ⟨e, he, hk, rfl⟩⟩

theorem born_apart {l : List MapEntry} (h : (l.map (·.born)).Nodup) {a b : MapEntry} (ha : a ∈ l) (hb : b ∈ l) (hk : a.born = b.born) : a = b := by
  have hp : (l.map (·.born)).Pairwise (· ≠ ·) := h
  rw [List.pairwise_map, List.pairwise_iff_getElem] at hp
  obtain ⟨i, hil, rfl⟩ := List.getElem_of_mem ha
  obtain ⟨j, hjl, rfl⟩ := List.getElem_of_mem hb
  rcases Nat.lt_trichotomy i j with hij | hij | hij
  · exact absurd hk (hp i j hil hjl hij)
  · subst hij; rfl
  · exact absurd hk.symm (hp j i hjl hil hij)

/-- range m -/
theorem MapIs.range {w : World} {b : Nat} {f : κ → Option Value} (h : MapIs enc w b f) {t e : TypeId} (ht : P.underlying t = some (.map k e)) :
    ∃ o n, (Instr.range t (.map (some b))).run P w = .ok (.pointer (some ⟨w.heap.size, 0, none⟩)) (w.alloc o) ∧ Iter enc (w.alloc o) w.heap.size b f (fun x => (f x).isSome) n := by
  obtain ⟨es, clock, hb, hv⟩ := h
  refine ⟨.mapIter (some b) clock #[] clock, (leftOf es #[]).size, run_range_map w t k e b es clock ht hb, es, clock, clock, #[], clock, ?_, Go.heap_alloc_new w _, hv, hv.1.1, ⟨Nat.le_refl _, Nat.le_refl _⟩, ?_, rfl⟩
  · rw [Go.heap_alloc_old w _ (Array.getElem?_eq_some_iff.1 hb).1]; exact hb
  · intro x
    constructor
    · intro hx
      obtain ⟨v, hf⟩ := Option.isSome_iff_exists.1 hx
      obtain ⟨e, he, hk, _⟩ := (hv.2.2 x v).1 hf
      exact ⟨e, he, hk, by simp⟩
    · rintro ⟨e, he, hk, _⟩
      rw [(hv.2.2 x e.val).2 ⟨e, he, hk, rfl⟩]; rfl

/-- A step: nothing is left; or an entry that is left comes, which 'entry' then reads. -/
theorem Iter.next {w : World} {r b n : Nat} {f : κ → Option Value} {L : κ → Prop} (h : Iter enc w r b f L n) (K : MKey P k enc) (ty : TypeId) :
    ((∀ x, ¬ L x) ∧ (Instr.next (.pointer (some ⟨r, 0, none⟩)) false ty).run P w = .ok (.tuple #[.bool false]) w) ∨
    ∃ x v w1 o m, L x ∧ f x = some v ∧ (w1 = w ∨ w1 = w.drew) ∧ (Instr.next (.pointer (some ⟨r, 0, none⟩)) false ty).run P w = .ok (.tuple #[.bool true, enc x, v]) (setBlock w1 r o) ∧
      Iter enc (setBlock w1 r o) r b f (fun y => L y ∧ y ≠ x) m ∧ m < n ∧
      ∀ w2 : World, w2.heap[b]? = w.heap[b]? → w2.heap[r]? = some o → (Instr.entry (.pointer (some ⟨r, 0, none⟩))).run P w2 = .ok (.tuple #[enc x, v]) w2 := by
  obtain ⟨es, clock, since, seen, last, hb, hr, hv, hold, ⟨hsc, hsk⟩, hL, hn⟩ := h
  rcases run_next_at (P := P) w ty r b since last seen es clock hr hb hold hsc with ⟨h0, hrun⟩ | ⟨e, he, w1, hw1, hrun⟩
  · refine Or.inl ⟨fun x hx => ?_, hrun⟩
    obtain ⟨e, he, _, hs⟩ := (hL x).1 hx
    have : e ∈ (leftOf es seen).toList := by unfold leftOf; simp; exact ⟨by simpa using he, by simpa using hs⟩
    have h00 : (leftOf es seen).toList = [] := by apply List.eq_nil_of_length_eq_zero; simpa using h0
    rw [h00] at this; cases this
  · obtain ⟨he1, he2⟩ := mem_left he
    obtain ⟨x, hx⟩ := hv.2.1 e he1
    have hrb : r ≠ b := by rintro rfl; rw [hb] at hr; cases hr
    have hrlt : r < w.heap.size := (Array.getElem?_eq_some_iff.1 hr).1
    have hw1h : w1.heap = w.heap := by rcases hw1 with rfl | rfl <;> rfl
    refine Or.inr ⟨x, e.val, w1, _, (leftOf es (seen.push e.born)).size, (hL x).2 ⟨e, he1, hx, he2⟩, (hv.2.2 x _).2 ⟨e, he1, hx, rfl⟩, hw1, by rw [← hx]; exact hrun, ?_, by rw [hn]; exact left_shrinks es seen e he, ?_⟩
    · refine ⟨es, clock, since, seen.push e.born, clock, ?_, ?_, hv, hold, ?_, ?_, rfl⟩
      · rw [heap_setBlock_other _ (Ne.symm hrb), hw1h]; exact hb
      · exact heap_setBlock_same (by rw [hw1h]; exact hrlt) _
      · exact ⟨hsk, hsk⟩
      · intro y
        constructor
        · rintro ⟨hy, hne⟩
          obtain ⟨e', he', hk', hs'⟩ := (hL y).1 hy
          refine ⟨e', he', hk', ?_⟩
          rw [contains_push, hs']
          simp only [Bool.false_or, beq_eq_false_iff_ne, ne_eq]
          intro hborn
          have : e' = e := by
            exact born_apart hv.1.2.1 he' he1 hborn
          exact hne (K.inj (by rw [← hk', this, hx]))
        · rintro ⟨e', he', hk', hs'⟩
          rw [contains_push] at hs'
          simp only [Bool.or_eq_false_iff, beq_eq_false_iff_ne] at hs'
          refine ⟨(hL y).2 ⟨e', he', hk', hs'.1⟩, ?_⟩
          rintro rfl
          exact hs'.2 (by rw [hv.uniq he' he1 (by rw [hk', hx])])
    · intro w2 h2b h2r
      rw [← hx]
      exact run_entry_at w2 r b since seen es clock e h2r (h2b.trans hb) he1 hv.1.2.1

/-! ### the laws at the operations of a walk -/
section
variable {ops : Array Oper} {rest : List Oper} {o : Oper} {a : Act} {Q : Exit → Act → World → Prop} {w : World}
theorem wpList_look (hg : o.guard = none) (m x : Operand) (t : TypeId) (c : Bool) (hop : o.op = Op.lookup t m x c) (K : MKey P k enc) {e : TypeId} (ht : P.underlying t = some (.map k e)) {z : Value}
    (hz : ∀ w, (zeroValue e).run P w = .ok z w) {b : Nat} {f : κ → Option Value} (hm : a.eval m = .map (some b)) (h : MapIs enc w b f) (key : κ) (hx : a.eval x = enc key)
    (hK : wpList P ops Q rest (a.put o.dst (if c then .tuple #[(f key).getD z, .bool (f key).isSome] else (f key).getD z)) w) : wpList P ops Q (o :: rest) a w := by
  refine wpList_plain hg fun K' hK' => ?_
  have hrun := h.look K ht hz key c
  unfold Oper.wp
  simp only [execOp, hop, hm, hx, hrun, Result.andThen, Sem.run_bind, Sem.run_pure]
  exact hK' _ _ hK
theorem wpList_mapStore (hg : o.guard = none) (m x v : Operand) (t : TypeId) (hop : o.op = Op.mapUpdate t m x v) (K : MKey P k enc) {e : TypeId} (ht : P.underlying t = some (.map k e))
    {b : Nat} {f : κ → Option Value} (hm : a.eval m = .map (some b)) (h : MapIs enc w b f) (key : κ) (hx : a.eval x = enc key) (val : Value) (hv : a.eval v = val)
    (hK : ∀ ob, MapIs enc (setBlock w b ob) b (upd f key (some val)) → wpList P ops Q rest (a.put o.dst undef) (setBlock w b ob)) : wpList P ops Q (o :: rest) a w := by
  refine wpList_plain hg fun K' hK' => ?_
  obtain ⟨es, clock, hrun, hview⟩ := h.store K ht key val
  unfold Oper.wp
  simp only [execOp, hop, hm, hx, hv, hrun, Result.andThen, Sem.run_bind, Sem.run_pure]
  exact hK' _ _ (hK _ ⟨es, clock, heap_setBlock_same h.lt _, hview⟩)
theorem wpList_mapInsert (hg : o.guard = none) (m x v : Operand) (t : TypeId) (hop : o.op = Op.insert t m x v) (K : MKey P k enc) {e : TypeId} (ht : P.underlying t = some (.map k e))
    {b : Nat} {f : κ → Option Value} (hm : a.eval m = .map (some b)) (h : MapIs enc w b f) (key : κ) (hx : a.eval x = enc key) (val : Value) (hv : a.eval v = val)
    (hK : ∀ ob, MapIs enc (setBlock w b ob) b (upd f key (some val)) → wpList P ops Q rest (a.put o.dst undef) (setBlock w b ob)) : wpList P ops Q (o :: rest) a w := by
  refine wpList_plain hg fun K' hK' => ?_
  obtain ⟨es, clock, hrun, hview⟩ := h.store K ht key val
  unfold Oper.wp
  simp only [execOp, hop, hm, hx, hv, hrun, Result.andThen, Sem.run_bind, Sem.run_pure]
  exact hK' _ _ (hK _ ⟨es, clock, heap_setBlock_same h.lt _, hview⟩)
theorem wpList_mapDrop (hg : o.guard = none) (m x : Operand) (t k' : TypeId) (hop : o.op = .call { callee := .builtin .delete, args := #[m, x], argTypes := #[t, k'] }) (K : MKey P k enc) {e : TypeId} (ht : P.underlying t = some (.map k e))
    {b : Nat} {f : κ → Option Value} (hm : a.eval m = .map (some b)) (h : MapIs enc w b f) (key : κ) (hx : a.eval x = enc key)
    (hK : ∀ ob, MapIs enc (setBlock w b ob) b (upd f key none) → wpList P ops Q rest (a.put o.dst (.tuple #[])) (setBlock w b ob)) : wpList P ops Q (o :: rest) a w := by
  refine wpList_plain hg fun K' hK' => ?_
  obtain ⟨es, clock, hrun, hview⟩ := h.drop (ty := o.type) (k' := k') K ht key
  unfold Oper.wp
  simp only [execOp, hop, resolve, invoke, builtin, List.map_toArray, List.map_cons, List.map_nil, hm, hx, hrun, Result.andThen, Sem.run_bind, Sem.run_pure]
  exact hK' _ _ (hK _ ⟨es, clock, heap_setBlock_same h.lt _, hview⟩)
theorem wpList_mapRange (hg : o.guard = none) (m : Operand) (t : TypeId) (hop : o.op = Op.range t m) {e : TypeId} (ht : P.underlying t = some (.map k e))
    {b : Nat} {f : κ → Option Value} (hm : a.eval m = .map (some b)) (h : MapIs enc w b f)
    (hK : ∀ ob n, Iter enc (w.alloc ob) w.heap.size b f (fun x => (f x).isSome) n → wpList P ops Q rest (a.put o.dst (.pointer (some ⟨w.heap.size, 0, none⟩))) (w.alloc ob)) : wpList P ops Q (o :: rest) a w := by
  refine wpList_plain hg fun K' hK' => ?_
  obtain ⟨ob, n, hrun, hi⟩ := h.range ht
  unfold Oper.wp
  simp only [execOp, hop, hm, hrun, Result.andThen, Sem.run_bind, Sem.run_pure]
  exact hK' _ _ (hK ob n hi)
/-- what is known of a world in which one walk's block, and a count of draws, turned -/
def Stepped (w w' : World) (r : Nat) : Prop := w'.os = w.os ∧ w'.tape = w.tape ∧ w'.output = w.output ∧ w'.heap.size = w.heap.size ∧ ∀ j, j ≠ r → w'.heap[j]? = w.heap[j]?
theorem stepped_of {w w1 : World} {r : Nat} (o : Obj) (h : w1 = w ∨ w1 = w.drew) : Stepped w (setBlock w1 r o) r := by
  rcases h with rfl | rfl
  · exact ⟨rfl, rfl, rfl, by simp, fun j hj => heap_setBlock_other _ hj⟩
  · exact ⟨rfl, rfl, rfl, by simp, fun j hj => heap_setBlock_other _ hj⟩
theorem wpList_mapNext (hg : o.guard = none) (m : Operand) (hop : o.op = Op.next m false) (K : MKey P k enc)
    {r b n : Nat} {f : κ → Option Value} {L : κ → Prop} (hm : a.eval m = .pointer (some ⟨r, 0, none⟩)) (h : Iter enc w r b f L n)
    (h0 : (∀ x, ¬ L x) → wpList P ops Q rest (a.put o.dst (.tuple #[.bool false])) w)
    (hK : ∀ x v w1 ob n', L x → f x = some v → Stepped w w1 r → w1.heap[r]? = some ob → Iter enc w1 r b f (fun y => L y ∧ y ≠ x) n' → n' < n →
      (∀ w2 : World, w2.heap[b]? = w.heap[b]? → w2.heap[r]? = some ob → (Instr.entry (.pointer (some ⟨r, 0, none⟩))).run P w2 = .ok (.tuple #[enc x, v]) w2) →
      wpList P ops Q rest (a.put o.dst (.tuple #[.bool true, enc x, v])) w1) : wpList P ops Q (o :: rest) a w := by
  refine wpList_plain hg fun K' hK' => ?_
  rcases h.next K o.type with ⟨hL, hrun⟩ | ⟨x, v, w1, ob, n', hL, hf, hw1, hrun, hi, hlt, hen⟩
  · unfold Oper.wp
    simp only [execOp, hop, hm, hrun, Result.andThen, Sem.run_bind, Sem.run_pure]
    exact hK' _ _ (h0 hL)
  · unfold Oper.wp
    simp only [execOp, hop, hm, hrun, Result.andThen, Sem.run_bind, Sem.run_pure]
    have hs := stepped_of (r := r) ob hw1
    refine hK' _ _ (hK x v _ ob n' hL hf hs (heap_setBlock_same ?_ _) hi hlt hen)
    have := h.lt.2
    rcases hw1 with rfl | rfl <;> exact this
end
end Go.Proofs.Ytinkjhkbaadbpaa
