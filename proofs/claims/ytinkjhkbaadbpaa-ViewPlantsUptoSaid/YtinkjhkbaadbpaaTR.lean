/- Trees: what a tree is, how it lies in memory, what planting it does. -/
import Derived.Test.YtinkjhkbaadbpaaVM
namespace Go.Proofs.Ytinkjhkbaadbpaa
open Go.RowKit
set_option linter.unusedVariables false

inductive Tr where
  | mk (kind : Int) (name text : ByteArray) (attrs : List (ByteArray × ByteArray)) (kids : List Tr)
def Tr.kind : Tr → Int | .mk k _ _ _ _ => k
def Tr.name : Tr → ByteArray | .mk _ n _ _ _ => n
def Tr.text : Tr → ByteArray | .mk _ _ t _ _ => t
def Tr.attrs : Tr → List (ByteArray × ByteArray) | .mk _ _ _ a _ => a
def Tr.kids : Tr → List Tr | .mk _ _ _ _ k => k
mutual
def Tr.size : Tr → Nat
  | .mk _ _ _ attrs kids => 1 + attrs.length + Tr.sizes kids
def Tr.sizes : List Tr → Nat
  | [] => 0
  | t :: ts => t.size + Tr.sizes ts
end
/-- a row of cells that a slice of n elements leads to -/
def CellsIn (F : Nat → Prop) (w : World) (v : Value) (n : Nat) (xs : List Value) : Prop :=
  ∃ a cap, v = .slice a n cap ∧ n ≤ 9223372036854775807 ∧ (n = 0 ∨ ∃ g off, a = some ⟨g, off, none⟩ ∧ F g ∧ ∀ j u, xs[j]? = some u → w.cell? ⟨g, off + j, none⟩ = some u)
theorem CellsIn.keep {F : Nat → Prop} {w w' : World} {v : Value} {n : Nat} {xs : List Value} (h : CellsIn F w v n xs) (hk : Keeps F w w') : CellsIn F w' v n xs := by
  obtain ⟨a, cap, rfl, h1, h2⟩ := h
  refine ⟨a, cap, rfl, h1, ?_⟩
  rcases h2 with h2 | ⟨g, off, rfl, hg, hc⟩
  · exact .inl h2
  · exact .inr ⟨g, off, rfl, hg, fun j u hu => (hk.cell (p := ⟨g, off + j, none⟩) hg).trans (hc j u hu)⟩
theorem CellsIn.mono {F F' : Nat → Prop} {w : World} {v : Value} {n : Nat} {xs : List Value} (h : CellsIn F w v n xs) (hk : ∀ k, F k → F' k) : CellsIn F' w v n xs := by
  obtain ⟨a, cap, rfl, h1, h2⟩ := h
  refine ⟨a, cap, rfl, h1, ?_⟩
  rcases h2 with h2 | ⟨g, off, rfl, hg, hc⟩
  · exact .inl h2
  · exact .inr ⟨g, off, rfl, hk _ hg, hc⟩
def attrL (al : List (ByteArray × ByteArray)) : List Value := al.flatMap (fun p => [.string p.1, .string p.2])
abbrev trL (t : Tr) (av kv : Value) : List Value := [.int .i64 t.kind, .string t.name, .string t.text, av, kv]
abbrev trV (t : Tr) (av kv : Value) : Value := .agg #[.int .i64 t.kind, .string t.name, .string t.text, av, kv]
mutual
/-- a tree in memory: its two slices -/
def TrIn (F : Nat → Prop) (w : World) : Tr → Value → Value → Prop
  | .mk _ _ _ attrs kids, av, kv => CellsIn F w av attrs.length (attrL attrs) ∧ ∃ zs, CellsIn F w kv kids.length zs ∧ KidsAre F w kids zs
def KidsAre (F : Nat → Prop) (w : World) : List Tr → List Value → Prop
  | [], zs => zs = []
  | t :: ts, zs => ∃ av kv rest, zs = trL t av kv ++ rest ∧ TrIn F w t av kv ∧ KidsAre F w ts rest
end
mutual
theorem TrIn.keep {F F' : Nat → Prop} {w w' : World} (hk : Keeps F w w') (hF : ∀ k, F k → F' k) : ∀ (t : Tr) (av kv : Value), TrIn F w t av kv → TrIn F' w' t av kv
  | .mk _ _ _ attrs kids, av, kv, h => by
    simp only [TrIn] at h ⊢
    obtain ⟨h1, zs, h2, h3⟩ := h
    exact ⟨(h1.keep hk).mono hF, zs, (h2.keep hk).mono hF, KidsAre.keep hk hF kids zs h3⟩
theorem KidsAre.keep {F F' : Nat → Prop} {w w' : World} (hk : Keeps F w w') (hF : ∀ k, F k → F' k) : ∀ (ts : List Tr) (zs : List Value), KidsAre F w ts zs → KidsAre F' w' ts zs
  | [], zs, h => by simpa only [KidsAre] using h
  | t :: ts, zs, h => by
    simp only [KidsAre] at h ⊢
    obtain ⟨av, kv, rest, e, h1, h2⟩ := h
    exact ⟨av, kv, rest, e, TrIn.keep hk hF t av kv h1, KidsAre.keep hk hF ts rest h2⟩
end
theorem KidsAre.get {F : Nat → Prop} {w : World} : ∀ {ts : List Tr} {zs : List Value}, KidsAre F w ts zs → ∀ (k : Nat) (t : Tr), ts[k]? = some t →
    ∃ av kv, TrIn F w t av kv ∧ ∀ c, c < 5 → zs[k * 5 + c]? = (trL t av kv)[c]?
  | [], _, _, k, t, hv => by simp at hv
  | t0 :: ts, zs, h, 0, t, hv => by
    simp only [KidsAre] at h
    obtain ⟨av, kv, rest, e, h1, h2⟩ := h
    simp at hv; subst hv; subst e
    exact ⟨av, kv, h1, fun c hc => by rw [List.getElem?_append_left (by simpa using hc)]; simp⟩
  | t0 :: ts, zs, h, k + 1, t, hv => by
    simp only [KidsAre] at h
    obtain ⟨av, kv, rest, e, h1, h2⟩ := h
    obtain ⟨av', kv', i1, hc⟩ := KidsAre.get h2 k t (by simpa using hv)
    subst e
    refine ⟨av', kv', i1, fun c hcc => ?_⟩
    rw [← hc c hcc]
    have e : (k + 1) * 5 + c = (k * 5 + c) + 5 := by omega
    rw [e]
    simp
theorem size_get : ∀ {ts : List Tr} {k : Nat} {t : Tr}, ts[k]? = some t → t.size + Tr.sizes (ts.take k) + Tr.sizes (ts.drop (k + 1)) = Tr.sizes ts
  | [], k, t, h => by simp at h
  | t0 :: ts, 0, t, h => by simp at h; subst h; simp [Tr.sizes]
  | t0 :: ts, k + 1, t, h => by
    have := size_get (ts := ts) (k := k) (t := t) (by simpa using h)
    simp only [List.take_succ_cons, List.drop_succ_cons, Tr.sizes]
    omega
theorem attrL_get : ∀ {al : List (ByteArray × ByteArray)} {k : Nat} {p : ByteArray × ByteArray}, al[k]? = some p → (attrL al)[k * 2]? = some (.string p.1) ∧ (attrL al)[k * 2 + 1]? = some (.string p.2)
  | [], k, p, h => by simp at h
  | a :: al, 0, p, h => by simp at h; subst h; simp [attrL]
  | a :: al, k + 1, p, h => by
    have := attrL_get (al := al) (k := k) (p := p) (by simpa using h)
    have e : (k + 1) * 2 = k * 2 + 2 := by omega
    have e2 : k * 2 + 2 + 1 = (k * 2 + 1) + 2 := by omega
    rw [e, e2]
    simpa [attrL] using this

/-- the kinds that a tree may have -/
def plants (k : Int) : Bool := k == 2 || k == 4 || k == 5 || k == 6
section
variable {α : Type} (put : Int → Rec → α → α)
/-- the attributes' nodes: what is given, what is put, their numbers -/
def plantAs (id : Int) : List (ByteArray × ByteArray) → Int × α × List Int → Int × α × List Int
  | [], st => st
  | p :: ps, (g, s, ns) => plantAs id ps (g + 1, put (g + 1) ⟨3, p.1, p.2, id, [], [], false⟩ s, ns ++ [g + 1])
mutual
def plantT : Tr → Int → Int × α → Int × Int × α
  | .mk kind name text attrs kids, parent, (g, s) =>
    if plants kind then
      let (g1, s1, al) := plantAs put (g + 1) attrs (g + 1, s, [])
      let (g2, s2, ks) := plantKs kids (g + 1) (g1, s1, [])
      (g + 1, g2, put (g + 1) ⟨kind, name, text, max parent 0, ks, al, false⟩ s2)
    else (0, g, s)
def plantKs : List Tr → Int → Int × α × List Int → Int × α × List Int
  | [], _, st => st
  | t :: ts, id, (g, s, ns) =>
    let (n, g', s') := plantT t id (g, s)
    plantKs ts id (g', s', if 0 < n then ns ++ [n] else ns)
end
end
end Go.Proofs.Ytinkjhkbaadbpaa
