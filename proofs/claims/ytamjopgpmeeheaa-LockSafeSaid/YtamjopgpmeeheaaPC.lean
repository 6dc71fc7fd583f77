/- What holds of tables behind each call: who holds goes together; who stands at a queue's head can't have it (plain). -/
import Derived.Test.YtamjopgpmeeheaaPB
namespace Go.Proofs.Ytamjopgpmeeheaa
set_option linter.unusedVariables false

/-- of a node: any two who hold go together; the head of the queue can't have what it wants -/
structure SafeN (n : Nd) : Prop where
  pair : ∀ a ∈ n.hs, ∀ b ∈ n.hs, a.1 ≠ b.1 → compB a.2 b.2 = true
  head : ∀ e r, n.q = e :: r → canB n.hs e.1 e.2 = false
def Safe (T : Tb) : Prop := ∀ id, SafeN (T id)
theorem safeN_nil : SafeN Nd.nil := ⟨(fun a ha => by cases ha), (fun e r h => by cases h)⟩
theorem pair_put {hs : List W2} {t m : Int} (h : ∀ a ∈ hs, ∀ b ∈ hs, a.1 ≠ b.1 → compB a.2 b.2 = true) (hok : ∀ a ∈ hs, okW a) (hm : 1 ≤ m ∧ m ≤ 7) (hr : Rise hs) (hc : canB hs t m = true) :
    ∀ a ∈ putH hs t m, ∀ b ∈ putH hs t m, a.1 ≠ b.1 → compB a.2 b.2 = true := by
  have hcan : ∀ a ∈ hs, a.1 ≠ t → compB a.2 m = true := fun a ha hne => by
    have := List.all_eq_true.1 hc a ha
    simp only [Bool.or_eq_true, beq_iff_eq] at this
    exact this.resolve_left hne
  intro a ha b hb hne
  rcases mem_putH ha with rfl | ha
  · rcases mem_putH hb with rfl | hb
    · exact absurd rfl hne
    · rw [comp_symm m hm.1 hm.2 b.2 (hok b hb).2.1 (hok b hb).2.2]
      exact hcan b hb (fun e => hne e.symm)
  · rcases mem_putH hb with rfl | hb
    · exact hcan a ha hne
    · exact h a ha b hb hne
theorem safe_serveQ : ∀ (q hs : List W2), NdOk ⟨hs, q⟩ → (∀ a ∈ hs, ∀ b ∈ hs, a.1 ≠ b.1 → compB a.2 b.2 = true) → SafeN ⟨(serveQ hs q).2.1, (serveQ hs q).2.2⟩
  | [], hs, hok, h => ⟨h, (fun e r h => by cases h)⟩
  | x :: q, hs, hok, h => by
    cases hc : canB hs x.1 x.2 with
    | false =>
      rw [serveQ_no hc]
      refine ⟨h, fun e r he => ?_⟩
      injection he with h1 h2
      rw [← h1]; exact hc
    | true =>
      rw [serveQ_yes hc]
      have hx := hok.wait x (List.mem_cons_self ..)
      exact safe_serveQ q _ ⟨rise_put hok.rise, okW_put hok.held hx, fun y hy => hok.wait y (List.mem_cons_of_mem _ hy), (List.nodup_cons.1 hok.once).2⟩ (pair_put h hok.held hx.2 hok.rise hc)
theorem safe_serve {T : Tb} (hT : TbOk T) (h : ∀ id, ∀ a ∈ (T id).hs, ∀ b ∈ (T id).hs, a.1 ≠ b.1 → compB a.2 b.2 = true) : Safe (serveT T) := fun id => safe_serveQ _ _ (hT.1 id) (h id)
theorem has_find {hs : List W2} (hr : Rise hs) {t : Int} (h : hasI hs t ≠ 0) : (t, hasI hs t) ∈ hs := by
  unfold hasI at h ⊢
  cases hf : findH hs t with
  | none => rw [hf] at h; exact absurd rfl h
  | some v => rw [Option.getD_some]; exact findH_mem hf
theorem safe_ask {n : Nd} (hok : NdOk n) (h : SafeN n) {t m : Int} (ht : 1 ≤ t ∧ t ≤ 1000) (hm : 1 ≤ m ∧ m ≤ 7) (hno : ∀ x ∈ n.q, x.1 ≠ t) : SafeN (askN n t m).2 := by
  have hr := has_range hok t
  have hj := join_range _ hr.1 hr.2 m hm.1 hm.2
  unfold askN
  by_cases hc : covB (hasI n.hs t) m = true
  · rw [if_pos hc]; exact h
  · rw [if_neg hc]
    by_cases hg : canB n.hs t (joinI (hasI n.hs t) m) = true ∧ (hasI n.hs t ≠ 0 ∨ n.q = [])
    · rw [if_pos hg]
      refine ⟨pair_put h.pair hok.held hj hok.rise hg.1, fun e r he => ?_⟩
      simp only at he
      have hq := h.head e r he
      have hne : hasI n.hs t ≠ 0 := hg.2.resolve_right (fun e' => by rw [e'] at he; cases he)
      have het : e.1 ≠ t := hno e (by rw [he]; simp)
      have hew := hok.wait e (by rw [he]; simp)
      cases hcp : canB (putH n.hs t (joinI (hasI n.hs t) m)) e.1 e.2 with
      | false => rfl
      | true =>
        exfalso
        have hcan : canB n.hs e.1 e.2 = true := by
          refine (canB_iff hok.rise).2 (fun x v hx => ?_)
          have hpr := (canB_iff (rise_put (t := t) (m := joinI (hasI n.hs t) m) hok.rise)).1 hcp
          by_cases hxt : x = t
          · subst hxt
            have h1 := hpr x (joinI (hasI n.hs x) m) (by rw [findH_put, if_pos rfl])
            refine h1.imp _root_.id (fun h2 => ?_)
            have hv : hasI n.hs x = v := by unfold hasI; rw [hx]; rfl
            rw [hv] at h2 hne hr
            exact comp_join v (by omega) hr.2 m hm.1 hm.2 e.2 hew.2.1 hew.2.2 h2
          · exact hpr x v (by rw [findH_put, if_neg hxt]; exact hx)
        rw [hcan] at hq; cases hq
    · rw [if_neg hg]
      refine ⟨h.pair, fun e r he => ?_⟩
      simp only at he ⊢
      cases hat : n.q.take (atI n t) with
      | cons y ys =>
        rw [hat] at he
        injection he with h1 h2
        cases hqq : n.q with
        | nil => rw [hqq] at hat; simp at hat
        | cons z zs =>
          have hz : z = y := by
            rw [hqq] at hat
            cases hk : atI n t with
            | zero => rw [hk] at hat; cases hat
            | succ k => rw [hk, List.take_succ_cons] at hat; injection hat
          rw [← h1, ← hz]
          exact h.head z zs hqq
      | nil =>
        rw [hat] at he
        injection he with h1 h2
        rw [← h1]
        simp only
        cases hcc : canB n.hs t (joinI (hasI n.hs t) m) with
        | false => rfl
        | true =>
          have hn : ¬ (hasI n.hs t ≠ 0 ∨ n.q = []) := fun h => hg ⟨hcc, h⟩
          have h0 : hasI n.hs t = 0 := Decidable.byContradiction (fun h => hn (.inl h))
          have hq0 : n.q ≠ [] := fun h => hn (.inr h)
          have hl : atI n t = n.q.length := by unfold atI; rw [if_pos h0]
          rw [hl, List.take_length] at hat
          exact absurd hat hq0
theorem safe_step {T T' : Tb} {kd t nd m : Int} (hT : TbOk T) (h : Safe T) (hs : stepT T kd t nd m T') : Safe T' := by
  rcases hs with ⟨_, rfl⟩ | ⟨_, _, rfl⟩ | ⟨_, _, rfl⟩ | ⟨_, _, hm, rfl⟩ | ⟨_, _, _, rfl⟩
  · refine safe_serve (tbOk_free (tbOk_leave hT t) t) (fun id a ha b hb hne => ?_)
    exact (h id).pair a (List.mem_filter.1 ha).1 b (List.mem_filter.1 hb).1 hne
  · exact safe_serve (tbOk_leave hT t) (fun id => (h id).pair)
  · exact h
  · obtain ⟨h1, h2, h3, h4, h5⟩ := hm
    intro id
    by_cases e : id = nd
    · subst e; rw [setT_same]
      exact safe_ask (hT.1 id) (h id) ⟨h1, h2⟩ (rightB_iff.1 h4) (fun x hx e => h5 ⟨id, x, hx, e⟩)
    · rw [setT_other _ _ e]; exact h id
  · exact h
/-- who waits waits for somebody -/
theorem waits_some {T : Tb} (hT : TbOk T) (h : Safe T) {t : Int} {zs : List Int} (hz : WaitsOf T t zs) : waitsP T t ↔ zs ≠ [] := by
  obtain ⟨-, ⟨id, mo, hin, hall⟩ | ⟨hno, rfl⟩⟩ := hz
  · refine ⟨fun _ hzn => ?_, fun _ => ⟨id, (t, mo), hin, rfl⟩⟩
    have hn : ∀ x, ¬ (inWay (T id) t mo x ∨ x ∈ aheadQ (T id) t) := fun x hx => by
      have := (hall x).2 hx
      rw [hzn] at this; cases this
    cases hq : (T id).q with
    | nil => rw [hq] at hin; cases hin
    | cons e r =>
      by_cases het : e.1 = t
      · have he : e = (t, mo) := by
          have h1 : (t, e.2) ∈ (T id).q := by rw [hq, ← het]; simp
          have := once_eq (hT.1 id).once h1 hin
          rw [← het, ← this]
        have hc := (h id).head e r hq
        rw [he] at hc
        have hct : canB (T id).hs t mo = true := by
          refine (canB_iff (hT.1 id).rise).2 (fun x v hx => ?_)
          by_cases hxt : x = t
          · exact .inl hxt
          · cases hcb : compB v mo with
            | true => exact .inr rfl
            | false => exact absurd (.inl ⟨v, hx, hxt, hcb⟩) (hn x)
        simp only at hc
        rw [hct] at hc; cases hc
      · refine hn e.1 (.inr ?_)
        unfold aheadQ
        rw [hq, List.takeWhile_cons_of_pos (by simpa using het)]
        simp
  · refine ⟨fun ⟨id, x, hx, e⟩ => ?_, fun h => absurd rfl h⟩
    subst e
    exact absurd hx (hno id x.2)
end Go.Proofs.Ytamjopgpmeeheaa
