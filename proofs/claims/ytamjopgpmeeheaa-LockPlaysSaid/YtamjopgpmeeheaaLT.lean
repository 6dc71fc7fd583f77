/- Tables of locks: what they hold, and how they lie in memory. -/
import Derived.Test.YtamjopgpmeeheaaCB
namespace Go.Proofs.Ytamjopgpmeeheaa
open Go.RowKit
set_option linter.unusedVariables false

/-- a transaction, and a mode -/
abbrev W2 := Int × Int
structure Nd where
  hs : List W2
  q : List W2
def Nd.nil : Nd := ⟨[], []⟩
abbrev Tb := Int → Nd
def setT (T : Tb) (id : Int) (n : Nd) : Tb := fun j => if j = id then n else T j
@[simp] theorem setT_same (T : Tb) (id : Int) (n : Nd) : setT T id n id = n := by simp [setT]
theorem setT_other (T : Tb) {id j : Int} (n : Nd) (h : j ≠ id) : setT T id n j = T j := by simp [setT, h]
theorem setT_self (T : Tb) (id : Int) : setT T id (T id) = T := by funext j; by_cases h : j = id <;> simp [setT, h]

def findH (hs : List W2) (x : Int) : Option Int := (hs.find? (fun h => h.1 == x)).map (·.2)
def heldOf (hs : List W2) (x : Int) : Int := (findH hs x).getD 0
def hF (hs : List W2) (x : Int) : Option Value := (findH hs x).map iv
def putH : List W2 → Int → Int → List W2
  | [], t, m => [(t, m)]
  | h :: r, t, m => if t < h.1 then (t, m) :: h :: r else if t = h.1 then (t, m) :: r else h :: putH r t m
def dropH (hs : List W2) (t : Int) : List W2 := hs.filter (fun h => h.1 != t)
theorem findH_cons (h : W2) (hs : List W2) (x : Int) : findH (h :: hs) x = if h.1 = x then some h.2 else findH hs x := by
  unfold findH
  rw [List.find?_cons]
  by_cases e : h.1 = x
  · simp [e]
  · rw [beq_false_of_ne e, if_neg e]
theorem findH_nil (x : Int) : findH [] x = none := rfl
theorem findH_put : ∀ (hs : List W2) (t m x : Int), findH (putH hs t m) x = if x = t then some m else findH hs x
  | [], t, m, x => by simp [putH, findH_cons, findH_nil, eq_comm]
  | h :: r, t, m, x => by
    unfold putH
    split
    · rw [findH_cons]
      by_cases e : t = x
      · simp [e]
      · rw [if_neg e, if_neg (fun h => e h.symm)]
    · split
      · rename_i _ e2
        rw [findH_cons, findH_cons]
        by_cases e : t = x
        · simp [e]
        · rw [if_neg e, if_neg (fun h => e h.symm), if_neg (fun h => e (by rw [e2, h]))]
      · rename_i _ e2
        rw [findH_cons, findH_cons, findH_put r t m x]
        by_cases e : h.1 = x
        · rw [if_pos e, if_pos e, if_neg (fun hx => e2 (by rw [e, hx]))]
        · rw [if_neg e, if_neg e]
theorem findH_drop (hs : List W2) (t x : Int) : findH (dropH hs t) x = if x = t then none else findH hs x := by
  induction hs with
  | nil => simp [dropH, findH_nil]
  | cons h r ih =>
    unfold dropH at ih ⊢
    rw [List.filter_cons]
    by_cases e : h.1 = t
    · rw [if_neg (by simp [e]), ih, findH_cons]
      by_cases e2 : x = t
      · rw [if_pos e2, if_pos e2]
      · rw [if_neg e2, if_neg e2, if_neg (fun h' => e2 (by rw [← h', e]))]
    · rw [if_pos (by simp [e]), findH_cons, findH_cons, ih]
      by_cases e2 : h.1 = x
      · rw [if_pos e2, if_pos e2, if_neg (fun h' => e (by rw [e2, h']))]
      · rw [if_neg e2, if_neg e2]
theorem hF_put (hs : List W2) (t m : Int) : hF (putH hs t m) = upd (hF hs) t (some (iv m)) := by
  funext x
  unfold hF upd
  rw [findH_put]
  by_cases e : x = t <;> simp [e]
theorem hF_drop (hs : List W2) (t : Int) : hF (dropH hs t) = upd (hF hs) t none := by
  funext x
  unfold hF upd
  rw [findH_drop]
  by_cases e : x = t <;> simp [e]
/-- rising by transactions -/
def Rise (hs : List W2) : Prop := hs.Pairwise (fun a b => a.1 < b.1)
theorem findH_mem {hs : List W2} {x m : Int} (h : findH hs x = some m) : (x, m) ∈ hs := by
  unfold findH at h
  obtain ⟨e, he, rfl⟩ := Option.map_eq_some_iff.1 h
  have h1 := List.mem_of_find?_eq_some he
  have h2 := List.find?_some he
  simp at h2
  rw [← h2]; exact h1
theorem mem_findH : ∀ {hs : List W2}, Rise hs → ∀ {x m : Int}, (x, m) ∈ hs → findH hs x = some m
  | [], _, x, m, h => by cases h
  | e :: r, hr, x, m, h => by
    obtain ⟨h1, h2⟩ := List.pairwise_cons.1 hr
    rw [findH_cons]
    rcases List.mem_cons.1 h with rfl | h
    · simp
    · rw [if_neg (by have := h1 _ h; simp only at this; omega)]
      exact mem_findH h2 h
theorem findH_iff {hs : List W2} (hr : Rise hs) {x m : Int} : findH hs x = some m ↔ (x, m) ∈ hs := ⟨findH_mem, mem_findH hr⟩
theorem mem_putH : ∀ {hs : List W2} {t m : Int} {h : W2}, h ∈ putH hs t m → h = (t, m) ∨ h ∈ hs
  | [], t, m, h, hh => by simp [putH] at hh; exact .inl hh
  | e :: r, t, m, h, hh => by
    unfold putH at hh
    split at hh
    · rcases List.mem_cons.1 hh with h1 | h1
      · exact .inl h1
      · exact .inr h1
    · split at hh
      · rcases List.mem_cons.1 hh with h1 | h1
        · exact .inl h1
        · exact .inr (List.mem_cons_of_mem _ h1)
      · rcases List.mem_cons.1 hh with h1 | h1
        · exact .inr (by rw [h1]; exact List.mem_cons_self)
        · exact (mem_putH h1).imp id (List.mem_cons_of_mem _)
theorem rise_put : ∀ {hs : List W2} {t m : Int}, Rise hs → Rise (putH hs t m)
  | [], t, m, _ => by simp [putH, Rise]
  | e :: r, t, m, hr => by
    obtain ⟨h1, h2⟩ := List.pairwise_cons.1 hr
    unfold putH
    split
    · rename_i hlt
      refine List.pairwise_cons.2 ⟨fun b hb => ?_, hr⟩
      rcases List.mem_cons.1 hb with rfl | hb
      · exact hlt
      · have := h1 b hb; simp only; omega
    · split
      · rename_i _ he
        exact List.pairwise_cons.2 ⟨fun b hb => by have := h1 b hb; simp only; omega, h2⟩
      · rename_i hn he
        refine List.pairwise_cons.2 ⟨fun b hb => ?_, rise_put h2⟩
        rcases mem_putH hb with rfl | hb
        · simp only; omega
        · exact h1 b hb
theorem rise_drop {hs : List W2} {t : Int} (h : Rise hs) : Rise (dropH hs t) := h.filter _

/-! ### how a slice of pairs lies -/
/-- A slice of pairs in memory, in a block of F. -/
def PairsIn (F : Nat → Prop) (w : World) (v : Value) (l : List W2) : Prop :=
  ∃ a cap, v = .slice a l.length cap ∧ l.length ≤ cap ∧ cap ≤ maxLen ∧ (l = [] ∨ ∃ g off, a = some ⟨g, off, none⟩ ∧ F g ∧ ∀ (k : Nat) (e : W2), l[k]? = some e → w.cell? ⟨g, off + k * 2, none⟩ = some (iv e.1) ∧ w.cell? ⟨g, off + k * 2 + 1, none⟩ = some (iv e.2))
theorem PairsIn.keep {F : Nat → Prop} {w w' : World} {v : Value} {l : List W2} (h : PairsIn F w v l) (hk : Keeps F w w') : PairsIn F w' v l := by
  obtain ⟨a, cap, rfl, h1, h2, rfl | ⟨g, off, rfl, hg, hc⟩⟩ := h
  · exact ⟨a, cap, rfl, h1, h2, .inl rfl⟩
  · exact ⟨_, cap, rfl, h1, h2, .inr ⟨g, off, rfl, hg, fun k e he => ⟨(hk.cell (p := ⟨g, off + k * 2, none⟩) hg).trans (hc k e he).1, (hk.cell (p := ⟨g, off + k * 2 + 1, none⟩) hg).trans (hc k e he).2⟩⟩⟩
theorem PairsIn.mono {F G : Nat → Prop} {w : World} {v : Value} {l : List W2} (h : PairsIn F w v l) (hf : ∀ k, F k → G k) : PairsIn G w v l := by
  obtain ⟨a, cap, h0, h1, h2, h3⟩ := h
  exact ⟨a, cap, h0, h1, h2, h3.imp id fun ⟨g, off, e, hg, hc⟩ => ⟨g, off, e, hf g hg, hc⟩⟩
theorem pairsIn_nil (F : Nat → Prop) (w : World) : PairsIn F w (.slice none 0 0) [] := ⟨none, 0, rfl, by simp, by simp, .inl rfl⟩
theorem PairsIn.bound {F : Nat → Prop} {w : World} {v : Value} {l : List W2} (h : PairsIn F w v l) : PairsIn (fun b => F b ∧ b < w.heap.size) w v l := by
  obtain ⟨a, cap, rfl, h1, h2, rfl | ⟨g, off, rfl, hg, hc⟩⟩ := h
  · exact ⟨a, cap, rfl, h1, h2, .inl rfl⟩
  · by_cases hl : l = []
    · exact ⟨_, cap, rfl, h1, h2, .inl hl⟩
    · refine ⟨_, cap, rfl, h1, h2, .inr ⟨g, off, rfl, ⟨hg, ?_⟩, hc⟩⟩
      obtain ⟨e, r, rfl⟩ := List.exists_cons_of_ne_nil hl
      have := (hc 0 e rfl).1
      simp only [Nat.zero_mul, Nat.add_zero] at this
      exact World.block_lt_of_cell? w _ this
def flat (l : List W2) : List Value := l.flatMap (fun e => [iv e.1, iv e.2])
theorem flat_snoc (l : List W2) (e : W2) : flat (l ++ [e]) = flat l ++ [iv e.1, iv e.2] := by simp [flat]
theorem flat_length (l : List W2) : (flat l).length = l.length * 2 := by
  induction l with
  | nil => rfl
  | cons a l ih => simp [flat] at ih ⊢; omega
theorem flat_get : ∀ (l : List W2) (k : Nat) (e : W2), l[k]? = some e → (flat l)[k * 2]? = some (iv e.1) ∧ (flat l)[k * 2 + 1]? = some (iv e.2)
  | [], k, e, h => by simp at h
  | a :: l, 0, e, h => by
    simp at h; subst h
    simp [flat]
  | a :: l, k + 1, e, h => by
    have := flat_get l k e (by simpa using h)
    have e1 : flat (a :: l) = iv a.1 :: iv a.2 :: flat l := by simp [flat]
    rw [e1, show (k + 1) * 2 = k * 2 + 1 + 1 by omega]
    simpa using this
theorem pairsIn_row {w : World} {B t : Nat} {v : Value} {l : List W2} (h : w.ownsRow B t 2 v l.length (flat l)) : PairsIn (fun k => B ≤ k ∧ k < w.heap.size) w v l := by
  obtain ⟨hl, ⟨rfl, h0⟩ | ⟨g, cap, cur, rfl, hb, hg, h1, h2, h3, h4⟩⟩ := h
  · obtain rfl : l = [] := List.eq_nil_of_length_eq_zero h0
    exact ⟨none, 0, rfl, Nat.le_refl _, by simp, .inl rfl⟩
  · refine ⟨_, cap, rfl, h1, h2, .inr ⟨g, 0, rfl, ⟨hb, (Array.getElem?_eq_some_iff.1 hg).1⟩, fun k e he => ?_⟩⟩
    have hk : k < l.length := (List.getElem?_eq_some_iff.1 he).1
    obtain ⟨f1, f2⟩ := flat_get l k e he
    rw [← h4, List.getElem?_take_of_lt (by omega)] at f1 f2
    unfold World.cell?
    simp [hg]
    exact ⟨by simpa using f1, by simpa using f2⟩
theorem cells_new2 {w : World} {xs : List Value} {t : TypeId} : ∀ (j : Nat) (u : Value), xs[j]? = some u → (w.alloc (.cells xs.toArray t)).cell? ((⟨w.heap.size, 0, none⟩ : Addr).add j) = some u := by
  intro j u h
  have hj : ((⟨w.heap.size, 0, none⟩ : Addr).add j) = ⟨w.heap.size, j, none⟩ := by cases j <;> simp [Addr.add]
  rw [hj]
  have hn := Go.heap_alloc_new w (.cells xs.toArray t)
  simp only [World.cell?, hn]
  simpa using h
theorem own_form {w : World} {B e size n : Nat} {v : Value} {xs : List Value} (h : w.ownsRow B e size v n xs) : ∃ a c, v = .slice a n c := by
  rcases h.2 with ⟨rfl, rfl⟩ | ⟨g', cap, cur, rfl, hb, hh, _⟩
  · exact ⟨_, _, rfl⟩
  · exact ⟨_, _, rfl⟩

/-! ### how a table lies -/
structure TabF (M R : Nat → Prop) (w : World) (s m : Nat) (f : Int → Option Value) (T : Tb) (c : Nat) : Prop where
  ms : M s
  mm : M m
  sm : s ≠ m
  cell : w.heap[s]? = some (.cells #[.map (some m)] 51 (0, 0))
  map : MapIs iv w m f
  node : ∀ id v, f id = some v → ∃ hb qv, v = .agg #[.map (some hb), qv] ∧ M hb ∧ hb ≠ s ∧ hb ≠ m ∧ MapIs iv w hb (hF (T id).hs) ∧ PairsIn R w qv (T id).q
  none : ∀ id, f id = none → T id = Nd.nil
  apart : ∀ id id' hb qv qv', f id = some (.agg #[.map (some hb), qv]) → f id' = some (.agg #[.map (some hb), qv']) → id = id'
  few : ∃ ks : List Int, ks.length ≤ c ∧ ∀ id, (f id).isSome → id ∈ ks
theorem TabF.keep {M R : Nat → Prop} {w w' : World} {s m : Nat} {f : Int → Option Value} {T : Tb} {c : Nat} (h : TabF M R w s m f T c) (hM : Keeps M w w') (hR : Keeps R w w') : TabF M R w' s m f T c where
  ms := h.ms
  mm := h.mm
  sm := h.sm
  cell := (hM _ h.ms).trans h.cell
  map := h.map.keep (hM _ h.mm)
  node id v hv := by
    obtain ⟨hb, qv, e, h1, h2, h3, h4, h5⟩ := h.node id v hv
    exact ⟨hb, qv, e, h1, h2, h3, h4.keep (hM _ h1), h5.keep hR⟩
  none := h.none
  apart := h.apart
  few := h.few
theorem TabF.mono {M M' R R' : Nat → Prop} {w : World} {s m : Nat} {f : Int → Option Value} {T : Tb} {c c' : Nat} (h : TabF M R w s m f T c) (hM : ∀ k, M k → M' k) (hR : ∀ k, R k → R' k) (hc : c ≤ c') : TabF M' R' w s m f T c' where
  ms := hM _ h.ms
  mm := hM _ h.mm
  sm := h.sm
  cell := h.cell
  map := h.map
  node id v hv := by
    obtain ⟨hb, qv, e, h1, h2, h3, h4, h5⟩ := h.node id v hv
    exact ⟨hb, qv, e, hM _ h1, h2, h3, h4, h5.mono hR⟩
  none := h.none
  apart := h.apart
  few := by
    obtain ⟨ks, h1, h2⟩ := h.few
    exact ⟨ks, Nat.le_trans h1 hc, h2⟩
/-- A table, all of it in blocks of A. -/
def Tab (A : Nat → Prop) (w : World) (p : Value) (T : Tb) (c : Nat) : Prop :=
  ∃ M R s m f, p = .pointer (some ⟨s, 0, none⟩) ∧ (∀ k, M k → A k) ∧ (∀ k, R k → A k) ∧ (∀ k, R k → ¬ M k) ∧ TabF M R w s m f T c
theorem Tab.keep {A : Nat → Prop} {w w' : World} {p : Value} {T : Tb} {c : Nat} (h : Tab A w p T c) (hA : Keeps A w w') : Tab A w' p T c := by
  obtain ⟨M, R, s, m, f, e, h1, h2, h3, h4⟩ := h
  exact ⟨M, R, s, m, f, e, h1, h2, h3, h4.keep (hA.mono h1) (hA.mono h2)⟩
theorem Tab.mono {A B : Nat → Prop} {w : World} {p : Value} {T : Tb} {c c' : Nat} (h : Tab A w p T c) (hA : ∀ k, A k → B k) (hc : c ≤ c') : Tab B w p T c' := by
  obtain ⟨M, R, s, m, f, e, h1, h2, h3, h4⟩ := h
  exact ⟨M, R, s, m, f, e, fun k hk => hA k (h1 k hk), fun k hk => hA k (h2 k hk), h3, h4.mono (fun _ h => h) (fun _ h => h) hc⟩

/-! ### what may be -/
def okW (w : W2) : Prop := (1 ≤ w.1 ∧ w.1 ≤ 1000) ∧ 1 ≤ w.2 ∧ w.2 ≤ 7
structure NdOk (n : Nd) : Prop where
  rise : Rise n.hs
  held : ∀ h ∈ n.hs, okW h
  wait : ∀ h ∈ n.q, okW h
  once : (n.q.map (·.1)).Nodup
def TbOk (T : Tb) : Prop := (∀ id, NdOk (T id)) ∧ ∀ id id' w w', w ∈ (T id).q → w' ∈ (T id').q → w.1 = w'.1 → id = id'
theorem few_of_nodup {l : List Int} (hn : l.Nodup) (h : ∀ x ∈ l, 1 ≤ x ∧ x ≤ 1000) : l.length ≤ 1000 := by
  have := nodup_bound hn (by omega : (0 : Int) ≤ 1000) h
  omega
theorem NdOk.few_q {n : Nd} (h : NdOk n) : n.q.length ≤ 1000 := by
  have := few_of_nodup h.once (fun x hx => by
    obtain ⟨e, he, rfl⟩ := List.mem_map.1 hx
    exact (h.wait e he).1)
  simpa using this
theorem rise_nodup {hs : List W2} (h : Rise hs) : (hs.map (·.1)).Nodup := by
  refine List.pairwise_map.2 (h.imp ?_)
  intro a b hab; omega
theorem NdOk.few_hs {n : Nd} (h : NdOk n) : n.hs.length ≤ 1000 := by
  have := few_of_nodup (rise_nodup h.rise) (fun x hx => by
    obtain ⟨e, he, rfl⟩ := List.mem_map.1 hx
    exact (h.held e he).1)
  simpa using this
end Go.Proofs.Ytamjopgpmeeheaa
