/- The store's words and the document's say the same: plain laws. -/
import Derived.Test.YtinkjhkbaadbpaaSW
import Derived.Test.YtinkjhkbaadbpaaDW
import Derived.Test.YtinkjhkbaadbpaaDN
import Derived.Test.YtinkjhkbaadbpaaPU
namespace Go.Proofs.Ytinkjhkbaadbpaa
set_option linter.unusedVariables false

/-- The store S says what the document's store d says. -/
structure Says (S : Store) (d : Doc) : Prop where
  N : ∀ id, S.N id = d.N id
  given : S.given = d.given
  last : S.last = d.last

theorem says_fresh : Says Store.fresh Doc.fresh := ⟨fun id => by
  by_cases h : id = 1
  · subst h; simp [Store.fresh, Doc.fresh, Doc.N, versOf]
  · have : ¬ (1 = id) := fun e => h e.symm
    simp [Store.fresh, Doc.fresh, Doc.N, versOf, h, this], rfl, rfl⟩
theorem Says.giveOne {S : Store} {d : Doc} (h : Says S d) : Says { S with given := S.given + 1 } { d with given := d.given + 1 } := ⟨h.N, by show S.given + 1 = d.given + 1; rw [h.given], h.last⟩

theorem fold_put {T : Nat} (id : Int) : ∀ (cs : List Chn) (N : Int → List Ver), cs.foldl (putN T) N id = N id ++ versOf id (cs.map (entOf T))
  | [], N => by simp [versOf]
  | c :: cs, N => by
    rw [List.foldl_cons, fold_put id cs]
    by_cases h : id = c.id
    · subst h; simp [putN, versOf, entOf]
    · have : ¬ (c.id = id) := fun e => h e.symm
      simp [putN, versOf, entOf, h, this]
theorem Says.put {S : Store} {d : Doc} (h : Says S d) (T : Nat) (cs : List Chn) : Says (S.put T cs) (d.put T cs) := by
  refine ⟨fun id => ?_, h.given, rfl⟩
  show cs.foldl (putN T) S.N id = versOf id (d.L ++ cs.map (entOf T))
  rw [fold_put, h.N id]
  simp [Doc.N, versOf]

/-! At -/
theorem look_vers {id : Int} {T : Nat} : ∀ (L : List Ent) (o : Option Rec), L.foldl (pickE id T) o = match ((versOf id L).filter (fun v => decide (v.time ≤ T))).getLast? with | some v => some v.r | none => o
  | [], o => by simp [versOf]
  | e :: L, o => by
    rw [List.foldl_cons, look_vers L]
    by_cases h1 : e.id = id
    · by_cases h2 : e.v.time ≤ T
      · have e1 : (versOf id (e :: L)).filter (fun v => decide (v.time ≤ T)) = e.v :: (versOf id L).filter (fun v => decide (v.time ≤ T)) := by simp [versOf, h1, h2]
        rw [e1]
        simp only [pickE, h1, h2, and_self, if_true]
        cases hf : (versOf id L).filter (fun v => decide (v.time ≤ T)) with
        | nil => simp
        | cons a l =>
          rw [List.getLast?_cons_cons]
          cases hg : (a :: l).getLast? with
          | none => simp at hg
          | some u => rfl
      · have e1 : (versOf id (e :: L)).filter (fun v => decide (v.time ≤ T)) = (versOf id L).filter (fun v => decide (v.time ≤ T)) := by simp [versOf, h1, h2]
        rw [e1]
        simp [pickE, h2]
    · have e1 : versOf id (e :: L) = versOf id L := by simp [versOf, h1]
      rw [e1]
      simp [pickE, h1]
theorem Says.at {S : Store} {d : Doc} (h : Says S d) (id : Int) (T : Nat) : d.at id T = S.at id T := by
  unfold Doc.at Store.at Doc.look
  rw [List.take_length, look_vers, h.N id]
  show (match (match ((versOf id d.L).filter _).getLast? with | some v => some v.r | none => none) with | some r => _ | none => none) = _
  unfold Doc.N
  cases ((versOf id d.L).filter (fun v => decide (v.time ≤ T))).getLast? <;> rfl

/-! Sweep -/
def keptV (T : Nat) : List Ver → List Ver
  | [] => []
  | v :: vs => if decide (v.time ≤ T) && (v.r.gone || vs.any (fun u => decide (u.time ≤ T))) then keptV T vs else v :: keptV T vs
def sweepL (T : Nat) : List Ent → List Ent
  | [] => []
  | e :: rest => if goes T e rest then sweepL T rest else e :: sweepL T rest
theorem keptTo_sweepL (T : Nat) (L : List Ent) : ∀ k, k ≤ L.length → keptTo T L k ++ sweepL T (L.drop k) = sweepL T L
  | 0, _ => by simp [keptTo]
  | k + 1, hk => by
    have ih := keptTo_sweepL T L k (by omega)
    obtain ⟨e, he⟩ : ∃ e, L[k]? = some e := ⟨_, List.getElem?_eq_getElem (by omega)⟩
    have hd : L.drop k = e :: L.drop (k + 1) := by
      rw [List.drop_eq_getElem_cons (by omega)]
      have := (List.getElem?_eq_some_iff.1 he).2
      rw [this]
    rw [hd] at ih
    rw [← ih]
    simp only [keptTo, he, sweepL]
    split <;> simp
theorem sweep_L (d : Doc) (T : Nat) : (d.sweep T).L = sweepL T d.L := by
  have := keptTo_sweepL T d.L d.L.length (Nat.le_refl _)
  simpa [sweepL, Doc.sweep] using this
theorem any_vers {T : Nat} {id : Int} : ∀ (L : List Ent), L.any (hits T id) = (versOf id L).any (fun u => decide (u.time ≤ T))
  | [] => by simp [versOf]
  | e :: L => by
    have ih := any_vers (T := T) (id := id) L
    by_cases h : e.id = id
    · simp only [List.any_cons, ih, hits, h, decide_true, Bool.true_and]
      simp [versOf, h]
    · simp only [List.any_cons, ih, hits, h, decide_false, Bool.false_and, Bool.false_or]
      simp [versOf, h]
theorem vers_sweepL {T : Nat} {id : Int} : ∀ (L : List Ent), versOf id (sweepL T L) = keptV T (versOf id L)
  | [] => by simp [versOf, sweepL, keptV]
  | e :: L => by
    have ih := vers_sweepL (T := T) (id := id) L
    by_cases h : e.id = id
    · have e1 : versOf id (e :: L) = e.v :: versOf id L := by simp [versOf, h]
      have hg : goes T e L = (decide (e.v.time ≤ T) && (e.v.r.gone || (versOf id L).any (fun u => decide (u.time ≤ T)))) := by
        unfold goes
        rw [h, any_vers]
      rw [e1]
      simp only [sweepL, keptV, ← hg]
      split
      · exact ih
      · rw [← ih]; simp [versOf, h]
    · have e1 : versOf id (e :: L) = versOf id L := by simp [versOf, h]
      rw [e1]
      simp only [sweepL]
      split
      · exact ih
      · rw [← ih]; simp [versOf, h]
theorem keptV_above {T : Nat} : ∀ {vs : List Ver}, (∀ v ∈ vs, T < v.time) → keptV T vs = vs
  | [], _ => rfl
  | v :: vs, h => by
    have h1 := h v (by simp)
    have h2 := keptV_above (vs := vs) (fun u hu => h u (by simp [hu]))
    simp only [keptV]
    rw [if_neg (by simp; omega), h2]
theorem keptV_sweep {T : Nat} : ∀ {vs : List Ver}, vs.Pairwise (fun a b => a.time < b.time) → keptV T vs = sweepV T vs
  | [], _ => rfl
  | v :: vs, hp => by
    obtain ⟨h1, h2⟩ := List.pairwise_cons.1 hp
    have ih := keptV_sweep (T := T) h2
    by_cases hv : v.time ≤ T
    · by_cases hany : vs.any (fun u => decide (u.time ≤ T)) = true
      · simp only [keptV]
        rw [if_pos (by simp only [hv, decide_true, hany, Bool.or_true, Bool.and_self])]
        rw [ih]
        -- the count is one more
        unfold sweepV dropN
        have hne : vs.filter (fun u => decide (u.time ≤ T)) ≠ [] := by
          obtain ⟨u, hu, hut⟩ := List.any_eq_true.1 hany
          intro e
          have : u ∈ vs.filter (fun u => decide (u.time ≤ T)) := List.mem_filter.2 ⟨hu, hut⟩
          rw [e] at this; cases this
        have ef : (v :: vs).filter (fun u => decide (u.time ≤ T)) = v :: vs.filter (fun u => decide (u.time ≤ T)) := by simp [hv]
        rw [ef]
        cases hf : vs.filter (fun u => decide (u.time ≤ T)) with
        | nil => exact absurd hf hne
        | cons a l =>
          rw [List.getLast?_cons_cons]
          cases hg : (a :: l).getLast? with
          | none => simp at hg
          | some u =>
            simp only [List.length_cons]
            cases u.r.gone
            · simp
            · simp
      · have hany : vs.any (fun u => decide (u.time ≤ T)) = false := by simpa using hany
        have hall : ∀ u ∈ vs, T < u.time := fun u hu => by
          have := List.any_eq_false.1 hany u hu
          simp at this; omega
        have hk := keptV_above hall
        have ef : (v :: vs).filter (fun u => decide (u.time ≤ T)) = [v] := by
          rw [List.filter_cons, if_pos (by simpa using hv), List.filter_eq_nil_iff.2 (fun u hu => by have := hall u hu; simp; omega)]
        simp only [keptV, hany, hv, decide_true, Bool.or_false, Bool.true_and, hk]
        unfold sweepV dropN
        rw [ef]
        cases hgn : v.r.gone <;> simp [hgn]
    · have hall : ∀ u ∈ v :: vs, T < u.time := fun u hu => by
        rcases List.mem_cons.1 hu with rfl | hu
        · omega
        · have := h1 u hu; omega
      rw [keptV_above hall]
      unfold sweepV
      rw [dropN_zero (fun k u hk => hall u (List.mem_of_getElem? hk))]
      simp
theorem Says.sweep {S : Store} {d : Doc} (h : Says S d) (hS : S.Wf) (T : Nat) : Says (S.sweep T) (d.sweep T) := by
  refine ⟨fun id => ?_, h.given, h.last⟩
  show sweepV T (S.N id) = versOf id (d.sweep T).L
  rw [sweep_L, vers_sweepL, ← keptV_sweep (hS.rise id), h.N id]
  rfl
theorem sweep_wf {S : Store} (hS : S.Wf) (T : Nat) : (S.sweep T).Wf := by
  refine ⟨fun id => (hS.rise id).sublist (List.drop_sublist _ _), fun id v hv => hS.last id v (List.mem_of_mem_drop hv), fun id v hv => hS.ok id v (List.mem_of_mem_drop hv), fun id => ?_⟩
  have := hS.len id
  show ((S.N id).drop _).length ≤ _
  rw [List.length_drop]; omega
theorem sweep_keys {S : Store} (hK : S.Keys) (T : Nat) : (S.sweep T).Keys := by
  intro id h
  refine hK id (fun e => h ?_)
  show sweepV T (S.N id) = []
  rw [e]; simp [sweepV]

/-! the numbers -/
theorem sum_vers {zs : List Int} (hn : zs.Nodup) : ∀ {L : List Ent}, (∀ e ∈ L, e.id ∈ zs) → (zs.map fun id => ((versOf id L).length : Int)).sum = (L.length : Int)
  | [], _ => by
    have : (zs.map fun id => ((versOf id []).length : Int)) = zs.map fun _ => (0 : Int) := by simp [versOf]
    rw [this]
    clear this hn
    induction zs with
    | nil => rfl
    | cons a l ih => simpa using ih
  | e :: L, h => by
    have ih := sum_vers hn (L := L) (fun x hx => h x (by simp [hx]))
    have he := h e (by simp)
    have key : ∀ (ys : List Int), ys.Nodup → (ys.map fun id => ((versOf id (e :: L)).length : Int)).sum = (ys.map fun id => ((versOf id L).length : Int)).sum + (if e.id ∈ ys then 1 else 0) := by
      intro ys
      induction ys with
      | nil => intro _; simp
      | cons y ys ihy =>
        intro hy
        obtain ⟨hy1, hy2⟩ := List.nodup_cons.1 hy
        have := ihy hy2
        simp only [List.map_cons, List.sum_cons, this]
        by_cases hey : e.id = y
        · subst hey
          have e1 : versOf e.id (e :: L) = e.v :: versOf e.id L := by simp [versOf]
          rw [e1, if_neg hy1, if_pos (by simp)]
          simp; omega
        · have e1 : versOf y (e :: L) = versOf y L := by simp [versOf, hey]
          rw [e1]
          have : (e.id ∈ y :: ys) ↔ e.id ∈ ys := by simp [hey]
          simp only [this]
          omega
    rw [key zs hn, if_pos he, ih]
    simp
theorem Says.count {S : Store} {d : Doc} (h : Says S d) {zs : List Int} (hz : IdsOf S zs) : countOf S zs = (d.L.length : Int) := by
  have hn : zs.Nodup := hz.1.imp (fun hab => Int.ne_of_lt hab)
  rw [← sum_vers hn (L := d.L) (fun e he => (hz.2 e.id).2 (fun hN => by
    rw [h.N e.id] at hN
    have : e.v ∈ versOf e.id d.L := List.mem_map.2 ⟨e, List.mem_filter.2 ⟨he, by simp⟩, rfl⟩
    unfold Doc.N at hN
    rw [hN] at this; cases this))]
  unfold countOf
  simp only [h.N]
  rfl
theorem sweepL_sub (T : Nat) : ∀ (L : List Ent), ∀ e ∈ sweepL T L, e ∈ L
  | [], e, h => h
  | x :: L, e, h => by
    simp only [sweepL] at h
    split at h
    · exact List.mem_cons_of_mem _ (sweepL_sub T L e h)
    · rcases List.mem_cons.1 h with rfl | h
      · simp
      · exact List.mem_cons_of_mem _ (sweepL_sub T L e h)
theorem Says.sum {S : Store} {d : Doc} (h : Says S d) (hS : S.Wf) {zs : List Int} (hz : IdsOf S zs) (T : Nat) : sweptSum S T zs = (d.L.length : Int) - ((d.sweep T).L.length : Int) := by
  have hn : zs.Nodup := hz.1.imp (fun hab => Int.ne_of_lt hab)
  have hin : ∀ e ∈ d.L, e.id ∈ zs := fun e he => (hz.2 e.id).2 (fun hN => by
    rw [h.N e.id] at hN
    have : e.v ∈ versOf e.id d.L := List.mem_map.2 ⟨e, List.mem_filter.2 ⟨he, by simp⟩, rfl⟩
    unfold Doc.N at hN
    rw [hN] at this; cases this)
  have h1 := sum_vers hn hin
  have h2 := sum_vers hn (L := sweepL T d.L) (fun e he => hin e (sweepL_sub T d.L e he))
  rw [sweep_L, ← h1, ← h2]
  clear h1 h2 hin hn hz
  unfold sweptSum
  induction zs with
  | nil => simp
  | cons z zs ih =>
    simp only [List.map_cons, List.sum_cons, ih]
    have e1 : ((versOf z (sweepL T d.L)).length : Int) = ((versOf z d.L).length : Int) - dropN T (S.N z) := by
      rw [vers_sweepL, show versOf z d.L = S.N z from (h.N z).symm, keptV_sweep (hS.rise z)]
      unfold sweepV
      have := dropN_le T (S.N z)
      rw [List.length_drop]; omega
    rw [show versOf z d.L = S.N z from (h.N z).symm] at e1 ⊢
    omega
theorem rising_same {xs ys : List Int} (hx : xs.Pairwise (· < ·)) (hy : ys.Pairwise (· < ·)) (h : ∀ z, z ∈ xs ↔ z ∈ ys) : xs = ys := by
  refine List.Perm.eq_of_pairwise (le := fun a b => a < b) (fun a b _ _ h1 h2 => by omega) hx hy ((List.perm_ext_iff_of_nodup (hx.imp (fun hab => Int.ne_of_lt hab)) (hy.imp (fun hab => Int.ne_of_lt hab))).2 h)
theorem Says.ids {S : Store} {d : Doc} (h : Says S d) (hK : S.Keys) {zs ys : List Int} (hz : IdsOf S zs) (hy : ys.Pairwise (· < ·)) (hm : ∀ id, id ∈ ys ↔ (1 ≤ id ∧ id ≤ d.given) ∧ d.N id ≠ []) : zs = ys :=
  rising_same hz.1 hy (fun id => by
    rw [hz.2 id, hm id, ← h.N id, ← h.given]
    exact ⟨fun hn => ⟨hK id hn, hn⟩, fun hn => hn.2⟩)
end Go.Proofs.Ytinkjhkbaadbpaa
