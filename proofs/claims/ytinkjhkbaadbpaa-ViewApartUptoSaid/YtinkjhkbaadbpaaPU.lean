/- What Install leaves is in order again. -/
import Derived.Test.YtinkjhkbaadbpaaIN
namespace Go.Proofs.Ytinkjhkbaadbpaa
set_option linter.unusedVariables false

theorem okL_range {g : Int} : ∀ {cs : List Chn} {seen : List Int}, okL g seen cs = true → ∀ c ∈ cs, (1 ≤ c.id ∧ c.id ≤ g) ∧ rightR c.r = true
  | [], _, _, c, h => by simp at h
  | d :: cs, seen, h, c, hc => by
    simp only [okL, Bool.and_eq_true] at h
    rcases List.mem_cons.1 hc with rfl | hc
    · have h1 := h.1
      simp [bad1] at h1
      exact ⟨⟨by omega, by omega⟩, by simp [h1]⟩
    · exact okL_range h.2 c hc
theorem put_keys {S : Store} (hK : S.Keys) {T : Nat} {cs : List Chn} (hok : okL S.given [] cs = true) : (S.put T cs).Keys := by
  intro id h
  by_cases hm : id ∈ cs.map (·.id)
  · obtain ⟨c, hc, rfl⟩ := List.mem_map.1 hm
    exact (okL_range hok c hc).1
  · simp only [Store.put] at h
    rw [fold_other hm] at h
    exact hK id h
theorem okL_seen {g : Int} : ∀ {cs : List Chn} {seen : List Int}, okL g seen cs = true → ∀ x ∈ seen, x ∉ cs.map (·.id)
  | [], _, _, x, h => by simp
  | d :: cs, seen, h, x, hx => by
    simp only [okL, Bool.and_eq_true] at h
    have h1 := h.1
    simp [bad1] at h1
    have h2 := okL_seen h.2 x (by simp [hx])
    have h3 : x ≠ d.id := by rintro rfl; exact h1.1.2 hx
    simp only [List.map_cons, List.mem_cons, not_or]
    exact ⟨h3, h2⟩
/-- each node gets one version more at most -/
theorem put_N {g : Int} {T : Nat} : ∀ {cs : List Chn} {seen : List Int} {N : Int → List Ver} (id : Int), okL g seen cs = true → (cs.foldl (putN T) N id = N id ∧ id ∉ cs.map (·.id)) ∨ ∃ c ∈ cs, c.id = id ∧ cs.foldl (putN T) N id = N id ++ [⟨T, c.r⟩]
  | [], _, _, _, _ => .inl ⟨rfl, by simp⟩
  | d :: cs, seen, N, id, h => by
    simp only [okL, Bool.and_eq_true] at h
    by_cases e : id = d.id
    · subst e
      refine .inr ⟨d, by simp, rfl, ?_⟩
      rw [List.foldl_cons, fold_other (okL_seen h.2 d.id (by simp))]
      simp [putN]
    · rcases put_N (N := putN T N d) id h.2 with ⟨h1, h2⟩ | ⟨c, hc, hi, h1⟩
      · exact .inl ⟨by rw [List.foldl_cons, h1]; simp [putN, e], by simp only [List.map_cons, List.mem_cons, not_or]; exact ⟨e, h2⟩⟩
      · exact .inr ⟨c, by simp [hc], hi, by rw [List.foldl_cons, h1]; simp [putN, e]⟩
theorem put_wf {S : Store} (hS : S.Wf) {T : Nat} (hT : S.last < T) {cs : List Chn} (hok : okL S.given [] cs = true) (hc : ∀ c ∈ cs, RecOk c.r) (hl : ∀ id, (S.N id).length ≤ 1000000) : (S.put T cs).Wf := by
  have key := fun id => put_N (T := T) (N := S.N) id hok
  refine ⟨fun id => ?_, fun id v hv => ?_, fun id v hv => ?_, fun id => ?_⟩
  · show (cs.foldl (putN T) S.N id).Pairwise _
    rcases key id with ⟨h, _⟩ | ⟨c, _, _, h⟩
    · rw [h]; exact hS.rise id
    · rw [h, List.pairwise_append]
      refine ⟨hS.rise id, by simp, fun a ha b hb => ?_⟩
      simp at hb
      subst hb
      have := hS.last id a ha
      show a.time < T
      omega
  · show v.time ≤ T
    have hv : v ∈ cs.foldl (putN T) S.N id := hv
    rcases key id with ⟨h, _⟩ | ⟨c, _, _, h⟩
    · rw [h] at hv
      have := hS.last id v hv; omega
    · rw [h] at hv
      rcases List.mem_append.1 hv with hv | hv
      · have := hS.last id v hv; omega
      · simp at hv; subst hv; exact Nat.le_refl _
  · have hv : v ∈ cs.foldl (putN T) S.N id := hv
    rcases key id with ⟨h, _⟩ | ⟨c, hcm, _, h⟩
    · rw [h] at hv; exact hS.ok id v hv
    · rw [h] at hv
      rcases List.mem_append.1 hv with hv | hv
      · exact hS.ok id v hv
      · simp at hv; subst hv; exact hc c hcm
  · show (cs.foldl (putN T) S.N id).length ≤ _
    have := hl id
    rcases key id with ⟨h, _⟩ | ⟨c, _, _, h⟩
    · rw [h]; omega
    · rw [h]; simp; omega
end Go.Proofs.Ytinkjhkbaadbpaa
