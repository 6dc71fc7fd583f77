/- What a sweep leaves: plain laws. -/
import Derived.Test.YtinkjhkbaadbpaaLW
namespace Go.Proofs.Ytinkjhkbaadbpaa
set_option linter.unusedVariables false

theorem rise_filter {T : Nat} : ∀ {vs : List Ver}, vs.Pairwise (fun a b => a.time < b.time) → vs.filter (fun v => decide (v.time ≤ T)) = vs.take (vs.filter (fun v => decide (v.time ≤ T))).length
  | [], _ => rfl
  | v :: vs, hp => by
    obtain ⟨h1, h2⟩ := List.pairwise_cons.1 hp
    by_cases hv : v.time ≤ T
    · rw [List.filter_cons, if_pos (by simpa using hv), List.length_cons, List.take_succ_cons, ← rise_filter h2]
    · have hall : vs.filter (fun v => decide (v.time ≤ T)) = [] := List.filter_eq_nil_iff.2 (fun u hu => by have := h1 u hu; simp; omega)
      rw [List.filter_cons, if_neg (by simpa using hv), hall]
      rfl
/-- what a sweep lets go are the first ones, all but the last of those not above; the last one too, if the node is gone -/
theorem drop_spec {T : Nat} {vs : List Ver} (hp : vs.Pairwise (fun a b => a.time < b.time)) :
    dropN T vs ≤ (vs.filter (fun v => decide (v.time ≤ T))).length ∧ vs.take (dropN T vs) = (vs.filter (fun v => decide (v.time ≤ T))).take (dropN T vs) ∧
    (vs.drop (dropN T vs)).filter (fun v => decide (v.time ≤ T)) = (vs.filter (fun v => decide (v.time ≤ T))).drop (dropN T vs) ∧
    ((dropN T vs = (vs.filter (fun v => decide (v.time ≤ T))).length ∧ ∀ v, (vs.filter (fun v => decide (v.time ≤ T))).getLast? = some v → v.r.gone = true) ∨
      ∃ v, (vs.filter (fun v => decide (v.time ≤ T))).drop (dropN T vs) = [v] ∧ v.r.gone = false) := by
  have hG := rise_filter (T := T) hp
  obtain ⟨G, hGd⟩ : ∃ G, vs.filter (fun v => decide (v.time ≤ T)) = G := ⟨_, rfl⟩
  have hdn : dropN T vs = match G.getLast? with | some v => G.length - (if v.r.gone then 0 else 1) | none => 0 := by unfold dropN; rw [hGd]; rfl
  rw [hGd] at hG ⊢
  have hle : dropN T vs ≤ G.length := by rw [hdn]; split <;> omega
  refine ⟨hle, ?_, ?_, ?_⟩
  · have h3 : (vs.take G.length).take (dropN T vs) = vs.take (dropN T vs) := by rw [List.take_take, Nat.min_eq_left hle]
    rw [← hG] at h3
    exact h3.symm
  · have e1 : vs.filter (fun v => decide (v.time ≤ T)) = (vs.take (dropN T vs)).filter (fun v => decide (v.time ≤ T)) ++ (vs.drop (dropN T vs)).filter (fun v => decide (v.time ≤ T)) := by
      rw [← List.filter_append, List.take_append_drop]
    have e2 : (vs.take (dropN T vs)).filter (fun v => decide (v.time ≤ T)) = vs.take (dropN T vs) := by
      refine List.filter_eq_self.2 (fun u hu => ?_)
      have : u ∈ G := by
        have h3 : (vs.take G.length).take (dropN T vs) = vs.take (dropN T vs) := by rw [List.take_take, Nat.min_eq_left hle]
        rw [← hG] at h3
        rw [← h3] at hu
        exact List.mem_of_mem_take hu
      rw [← hGd] at this
      exact (List.mem_filter.1 this).2
    rw [e2, hGd] at e1
    have hl : (vs.take (dropN T vs)).length = dropN T vs := by rw [List.length_take]; have := dropN_le T vs; omega
    rw [e1, List.drop_left' hl]
  · cases hl : G.getLast? with
    | none =>
      have : G = [] := by simpa using hl
      left
      rw [hdn, hl, this]
      exact ⟨rfl, fun v hv => by simp at hv⟩
    | some v =>
      rw [hl] at hdn
      simp only at hdn
      cases hg : v.r.gone
      · right
        rw [hg] at hdn
        simp only [Bool.false_eq_true, if_false] at hdn
        refine ⟨v, ?_, hg⟩
        have hne : G ≠ [] := by rintro rfl; simp at hl
        have hpos := List.length_pos_iff.2 hne
        have hd := List.dropLast_concat_getLast hne
        rw [hdn]
        rw [List.getLast?_eq_some_getLast hne] at hl
        have hv : G.getLast hne = v := Option.some.inj hl
        rw [hv] at hd
        have hlen : G.dropLast.length = G.length - 1 := List.length_dropLast
        rw [← hlen]
        have h9 : List.drop G.dropLast.length (G.dropLast ++ [v]) = [v] := List.drop_left
        rw [hd] at h9
        exact h9
      · left
        rw [hg] at hdn
        simp only [if_true, Nat.sub_zero] at hdn
        exact ⟨hdn, fun u hu => by cases hu; exact hg⟩
theorem sweepV_low {T : Nat} {vs : List Ver} (hp : vs.Pairwise (fun a b => a.time < b.time)) : ((sweepV T vs).filter (fun v => decide (v.time ≤ T))).length ≤ 1 := by
  obtain ⟨h1, h2, h3, h4⟩ := drop_spec (T := T) hp
  unfold sweepV
  rw [h3]
  rcases h4 with ⟨h, _⟩ | ⟨v, h, _⟩
  · rw [h]; simp
  · rw [h]; simp
theorem sweepV_again {T : Nat} {vs : List Ver} (hp : vs.Pairwise (fun a b => a.time < b.time)) : dropN T (sweepV T vs) = 0 := by
  obtain ⟨h1, h2, h3, h4⟩ := drop_spec (T := T) hp
  have e : (sweepV T vs).filter (fun v => decide (v.time ≤ T)) = (vs.filter (fun v => decide (v.time ≤ T))).drop (dropN T vs) := h3
  rw [show dropN T (sweepV T vs) = match ((sweepV T vs).filter (fun v => decide (v.time ≤ T))).getLast? with | some v => ((sweepV T vs).filter (fun v => decide (v.time ≤ T))).length - (if v.r.gone then 0 else 1) | none => 0 from rfl, e]
  rcases h4 with ⟨h, _⟩ | ⟨v, h, hg⟩
  · rw [h]; simp
  · rw [h]; simp [hg]
theorem sweep_sum_again {S : Store} (hS : S.Wf) (T : Nat) (zs : List Int) : sweptSum (S.sweep T) T zs = 0 := by
  unfold sweptSum
  induction zs with
  | nil => rfl
  | cons z zs ih =>
    simp only [List.map_cons, List.sum_cons, ih]
    rw [show (S.sweep T).N z = sweepV T (S.N z) from rfl, sweepV_again (hS.rise z)]
    rfl
theorem sweep_at {S : Store} (hS : S.Wf) {T tm : Nat} (h : T ≤ tm) (id : Int) : (S.sweep T).at id tm = S.at id tm := by
  obtain ⟨h1, h2, h3, h4⟩ := drop_spec (T := T) (hS.rise id)
  unfold Store.at
  rw [show (S.sweep T).N id = (S.N id).drop (dropN T (S.N id)) from rfl]
  generalize S.N id = vs at *
  have e1 : vs.filter (fun v => decide (v.time ≤ tm)) = (vs.take (dropN T vs)).filter (fun v => decide (v.time ≤ tm)) ++ (vs.drop (dropN T vs)).filter (fun v => decide (v.time ≤ tm)) := by
    rw [← List.filter_append, List.take_append_drop]
  have hall : ∀ u ∈ vs.take (dropN T vs), u.time ≤ T := fun u hu => by
    rw [h2] at hu
    have := (List.mem_filter.1 (List.mem_of_mem_take hu)).2
    simpa using this
  have e2 : (vs.take (dropN T vs)).filter (fun v => decide (v.time ≤ tm)) = vs.take (dropN T vs) := List.filter_eq_self.2 (fun u hu => by have := hall u hu; simp; omega)
  rw [e2] at e1
  rw [e1, List.getLast?_append]
  cases hF : ((vs.drop (dropN T vs)).filter (fun v => decide (v.time ≤ tm))).getLast? with
  | some v => simp
  | none =>
    simp only [Option.none_or]
    have hF' : (vs.drop (dropN T vs)).filter (fun v => decide (v.time ≤ tm)) = [] := by simpa using hF
    rcases h4 with ⟨h5, h6⟩ | ⟨v, h5, _⟩
    · rw [h2, h5, List.take_length]
      cases hl : (vs.filter (fun v => decide (v.time ≤ T))).getLast? with
      | none => rfl
      | some v => simp [h6 v hl]
    · exfalso
      rw [← h3] at h5
      have hv : v ∈ (vs.drop (dropN T vs)).filter (fun v => decide (v.time ≤ T)) := by rw [h5]; simp
      obtain ⟨q1, q2⟩ := List.mem_filter.1 hv
      have : v ∈ (vs.drop (dropN T vs)).filter (fun v => decide (v.time ≤ tm)) := List.mem_filter.2 ⟨q1, by simp at q2 ⊢; omega⟩
      rw [hF'] at this; cases this
end Go.Proofs.Ytinkjhkbaadbpaa
