/- What a call turns: of the program's table, and of the reference's (plain). -/
import Derived.Test.YtamjopgpmeeheaaPS
import Derived.Test.YtamjopgpmeeheaaRA
import Derived.Test.YtamjopgpmeeheaaWA
namespace Go.Proofs.Ytamjopgpmeeheaa
set_option linter.unusedVariables false

theorem rightB_iff {m : Int} : rightB m = true ↔ 1 ≤ m ∧ m ≤ 7 := by simp [rightB]
theorem Rel.may {T : Tb} {hd wt : List G3} (h : Rel T hd wt) (t nd m : Int) : mayAsk T t nd m ↔ mayR wt t nd m := by
  unfold mayAsk mayR
  rw [rightB_iff, h.waits, Decidable.not_not, and_assoc]
/-! ### where one who asks is put -/
def askI (hd : List G3) (g : G3) (has : Int) : List G3 → List G3
  | [] => [g]
  | x :: r => if askHit hd g has x = true then g :: x :: r else x :: askI hd g has r
theorem askI_nil (hd : List G3) (g : G3) (has : Int) : askI hd g has [] = [g] := rfl
theorem askI_hit {hd : List G3} {g : G3} {has : Int} {x : G3} {r : List G3} (h : askHit hd g has x = true) : askI hd g has (x :: r) = g :: x :: r := by rw [askI, if_pos h]
theorem askI_not {hd : List G3} {g : G3} {has : Int} {x : G3} {r : List G3} (h : ¬ askHit hd g has x = true) : askI hd g has (x :: r) = x :: askI hd g has r := by rw [askI, if_neg h]
theorem askFold_true (hd : List G3) (g : G3) (has : Int) : ∀ (l acc : List G3), l.foldl (askStep hd g has) (acc, true) = (acc ++ l, true)
  | [], acc => by simp
  | x :: r, acc => by
    rw [List.foldl_cons]
    have : askStep hd g has (acc, true) x = (acc ++ [x], true) := by unfold askStep; rw [if_neg (by simp)]
    rw [this, askFold_true hd g has r _]
    simp
theorem askFold_in (hd : List G3) (g : G3) (has : Int) : ∀ (l acc : List G3), (if (l.foldl (askStep hd g has) (acc, false)).2 = true then (l.foldl (askStep hd g has) (acc, false)).1 else (l.foldl (askStep hd g has) (acc, false)).1 ++ [g]) = acc ++ askI hd g has l
  | [], acc => by simp [askI]
  | x :: r, acc => by
    rw [List.foldl_cons]
    by_cases hh : askHit hd g has x = true
    · have : askStep hd g has (acc, false) x = (acc ++ [g] ++ [x], true) := by unfold askStep; rw [if_pos ⟨rfl, hh⟩]
      rw [this, askFold_true, if_pos rfl, askI_hit hh]
      simp
    · have : askStep hd g has (acc, false) x = (acc ++ [x], false) := by unfold askStep; rw [if_neg (fun h => hh h.2)]
      rw [this, askFold_in hd g has r _, askI_not hh]
      simp
theorem askInG_eq (hd wt : List G3) (g : G3) (has : Int) : askInG hd wt g has = askI hd g has wt := by
  have := askFold_in hd g has wt []
  unfold askInG askFold
  simpa using this
theorem atG_askI_other {hd : List G3} {g : G3} {has id : Int} (h : id ≠ g.2.1) : ∀ l : List G3, atG (askI hd g has l) id = atG l id
  | [] => by rw [askI_nil, atG_cons, if_neg (fun e => h e.symm)]
  | x :: r => by
    by_cases hh : askHit hd g has x = true
    · rw [askI_hit hh, atG_cons, if_neg (fun e => h e.symm)]
    · rw [askI_not hh, atG_cons, atG_cons, atG_askI_other h r]
def askQ (hs : List W2) (w : W2) (has : Int) : List W2 → List W2
  | [] => [w]
  | y :: r => if has ≠ 0 ∧ hasI hs y.1 = 0 then w :: y :: r else y :: askQ hs w has r
theorem atG_askI_same {T : Tb} {hd wt0 : List G3} (h : Rel T hd wt0) (t nd m has : Int) : ∀ (l : List G3) (q : List W2), atG l nd = q.map (lift3 nd) → atG (askI hd (t, nd, m) has l) nd = (askQ (T nd).hs (t, m) has q).map (lift3 nd)
  | [], q, hq => by
    have : q = [] := by
      cases q with
      | nil => rfl
      | cons a r => cases hq
    subst this
    rw [askI_nil, atG_cons, if_pos rfl]
    rfl
  | x :: r, q, hq => by
    rw [atG_cons] at hq
    by_cases e : x.2.1 = nd
    · rw [if_pos e] at hq
      cases q with
      | nil => cases hq
      | cons a q' =>
        rw [List.map_cons] at hq
        injection hq with h1 h2
        subst h1
        have ih := atG_askI_same h t nd m has r q' h2
        have hhas : hasG hd a.1 nd = hasI (T nd).hs a.1 := h.has a.1 nd
        by_cases hc : has ≠ 0 ∧ hasI (T nd).hs a.1 = 0
        · have hh : askHit hd (t, nd, m) has (lift3 nd a) = true := by
            unfold askHit lift3
            simp only [beq_self_eq_true, Bool.true_and, hhas, hc.2]
            simpa using hc.1
          rw [askI_hit hh, atG_cons, if_pos rfl, atG_cons, if_pos e, h2, askQ, if_pos hc]
          rfl
        · have hh : ¬ askHit hd (t, nd, m) has (lift3 nd a) = true := fun hh => hc (by
            unfold askHit lift3 at hh
            simp only [beq_self_eq_true, Bool.true_and, hhas, Bool.and_eq_true, beq_iff_eq, bne_iff_ne] at hh
            exact hh)
          rw [askI_not hh, atG_cons, if_pos e, ih, askQ, if_neg hc]
          rfl
    · rw [if_neg e] at hq
      have ih := atG_askI_same h t nd m has r q hq
      have hh : ¬ askHit hd (t, nd, m) has x = true := fun hh => e (by
        unfold askHit at hh
        simp only [Bool.and_eq_true, beq_iff_eq] at hh
        exact hh.2.1)
      rw [askI_not hh, atG_cons, if_neg e, ih]
theorem askQ_zero (hs : List W2) (w : W2) : ∀ q : List W2, askQ hs w 0 q = q ++ [w]
  | [] => rfl
  | y :: r => by rw [askQ, if_neg (fun h => h.1 rfl), askQ_zero hs w r]; rfl
theorem askQ_more (hs : List W2) (w : W2) {has : Int} (h : has ≠ 0) : ∀ q : List W2, askQ hs w has q = q.take (q.takeWhile (fun x => hasI hs x.1 != 0)).length ++ w :: q.drop (q.takeWhile (fun x => hasI hs x.1 != 0)).length
  | [] => rfl
  | y :: r => by
    by_cases hc : hasI hs y.1 = 0
    · rw [askQ, if_pos ⟨h, hc⟩, List.takeWhile_cons_of_neg (by simp [hc])]
      rfl
    · rw [askQ, if_neg (fun h => hc h.2), askQ_more hs w h r, List.takeWhile_cons_of_pos (by simp [hc])]
      rfl
theorem askQ_at (n : Nd) (t m : Int) : askQ n.hs (t, m) (hasI n.hs t) n.q = n.q.take (atI n t) ++ (t, m) :: n.q.drop (atI n t) := by
  unfold atI
  by_cases h : hasI n.hs t = 0
  · rw [if_pos h, h, askQ_zero, List.take_length, List.drop_length]
  · rw [if_neg h, askQ_more _ _ h]
theorem Rel.ask {T : Tb} {hd wt : List G3} (h : Rel T hd wt) (t nd m : Int) : (askR hd wt t nd m).1 = (askN (T nd) t m).1 ∧ Rel (setT T nd (askN (T nd) t m).2) (askR hd wt t nd m).2.1 (askR hd wt t nd m).2.2 := by
  have hhas := h.has t nd
  unfold askR askN
  rw [hhas]
  by_cases hc : covB (hasI (T nd).hs t) m = true
  · rw [if_pos hc, if_pos hc, setT_self]
    exact ⟨rfl, h⟩
  · rw [if_neg hc, if_neg hc]
    have hg : goodG hd wt t nd m = true ↔ (canB (T nd).hs t (joinI (hasI (T nd).hs t) m) = true ∧ (hasI (T nd).hs t ≠ 0 ∨ (T nd).q = [])) := by
      unfold goodG
      rw [hhas, h.can, h.wait, Bool.and_eq_true, Bool.or_eq_true, bne_iff_ne, decide_eq_true_eq, List.map_eq_nil_iff]
    by_cases hgd : canB (T nd).hs t (joinI (hasI (T nd).hs t) m) = true ∧ (hasI (T nd).hs t ≠ 0 ∨ (T nd).q = [])
    · rw [if_pos (hg.2 hgd), if_pos hgd]
      exact ⟨rfl, h.hold t nd _⟩
    · rw [if_neg (fun h => hgd (hg.1 h)), if_neg hgd]
      refine ⟨rfl, ?_, ?_, h.srt⟩
      · intro id
        by_cases e : id = nd
        · subst e; rw [setT_same]; exact h.held id
        · rw [setT_other _ _ e]; exact h.held id
      · intro id
        simp only
        rw [askInG_eq]
        by_cases e : id = nd
        · subst e
          rw [setT_same, atG_askI_same h t id _ _ wt _ (h.wait id), askQ_at]
        · rw [setT_other _ _ e, atG_askI_other e]
          exact h.wait id

/-! ### what stays right -/
theorem join_range : ∀ a, 0 ≤ a → a ≤ 7 → ∀ b, 1 ≤ b → b ≤ 7 → (1 ≤ joinI a b ∧ joinI a b ≤ 7) := by
  intro a a0 a7 b b1 b7
  have ha : a = 0 ∨ a = 1 ∨ a = 2 ∨ a = 3 ∨ a = 4 ∨ a = 5 ∨ a = 6 ∨ a = 7 := by omega
  have hb : b = 1 ∨ b = 2 ∨ b = 3 ∨ b = 4 ∨ b = 5 ∨ b = 6 ∨ b = 7 := by omega
  rcases ha with rfl | rfl | rfl | rfl | rfl | rfl | rfl | rfl <;> rcases hb with rfl | rfl | rfl | rfl | rfl | rfl | rfl <;> decide
theorem comp_join : ∀ a, 1 ≤ a → a ≤ 7 → ∀ b, 1 ≤ b → b ≤ 7 → ∀ c, 1 ≤ c → c ≤ 7 → compB (joinI a b) c = true → compB a c = true := by
  intro a a0 a7 b b1 b7 c c1 c7
  have ha : a = 1 ∨ a = 2 ∨ a = 3 ∨ a = 4 ∨ a = 5 ∨ a = 6 ∨ a = 7 := by omega
  have hb : b = 1 ∨ b = 2 ∨ b = 3 ∨ b = 4 ∨ b = 5 ∨ b = 6 ∨ b = 7 := by omega
  have hc : c = 1 ∨ c = 2 ∨ c = 3 ∨ c = 4 ∨ c = 5 ∨ c = 6 ∨ c = 7 := by omega
  rcases ha with rfl | rfl | rfl | rfl | rfl | rfl | rfl <;> rcases hb with rfl | rfl | rfl | rfl | rfl | rfl | rfl <;> rcases hc with rfl | rfl | rfl | rfl | rfl | rfl | rfl <;> decide
theorem comp_symm : ∀ a, 1 ≤ a → a ≤ 7 → ∀ b, 1 ≤ b → b ≤ 7 → compB a b = compB b a := by
  intro a a0 a7 b b1 b7
  have ha : a = 1 ∨ a = 2 ∨ a = 3 ∨ a = 4 ∨ a = 5 ∨ a = 6 ∨ a = 7 := by omega
  have hb : b = 1 ∨ b = 2 ∨ b = 3 ∨ b = 4 ∨ b = 5 ∨ b = 6 ∨ b = 7 := by omega
  rcases ha with rfl | rfl | rfl | rfl | rfl | rfl | rfl <;> rcases hb with rfl | rfl | rfl | rfl | rfl | rfl | rfl <;> decide
theorem has_range {n : Nd} (h : NdOk n) (t : Int) : 0 ≤ hasI n.hs t ∧ hasI n.hs t ≤ 7 := by
  unfold hasI
  cases hf : findH n.hs t with
  | none => simp
  | some v =>
    have := (h.held _ (findH_mem hf)).2
    simp only [Option.getD_some]
    simp only at this
    omega
theorem ok_ask {n : Nd} (h : NdOk n) {t m : Int} (ht : 1 ≤ t ∧ t ≤ 1000) (hm : 1 ≤ m ∧ m ≤ 7) (hno : ∀ x ∈ n.q, x.1 ≠ t) : NdOk (askN n t m).2 := by
  have hj := join_range _ (has_range h t).1 (has_range h t).2 m hm.1 hm.2
  unfold askN
  split
  · exact h
  · split
    · exact ⟨rise_put h.rise, okW_put h.held ⟨ht, hj⟩, h.wait, h.once⟩
    · refine ⟨h.rise, h.held, fun x hx => ?_, ?_⟩
      · simp only at hx
        rcases List.mem_append.1 hx with hx | hx
        · exact h.wait x (List.mem_of_mem_take hx)
        · rcases List.mem_cons.1 hx with rfl | hx
          · exact ⟨ht, hj⟩
          · exact h.wait x (List.mem_of_mem_drop hx)
      · simp only
        rw [List.map_append, List.map_cons]
        have hp : ((n.q.take (atI n t)).map (·.1) ++ (t :: (n.q.drop (atI n t)).map (·.1))).Perm (t :: (n.q.map (·.1))) := by
          refine List.perm_middle.trans (List.Perm.cons _ ?_)
          rw [← List.map_append, List.take_append_drop]
        refine hp.nodup_iff.2 (List.nodup_cons.2 ⟨fun hx => ?_, h.once⟩)
        obtain ⟨x, hx, e⟩ := List.mem_map.1 hx
        exact hno x hx e
theorem ask_q {n : Nd} {t m : Int} {x : W2} (hx : x ∈ (askN n t m).2.q) : x.1 = t ∨ x ∈ n.q := by
  unfold askN at hx
  split at hx
  · exact .inr hx
  · split at hx
    · exact .inr hx
    · simp only at hx
      rcases List.mem_append.1 hx with hx | hx
      · exact .inr (List.mem_of_mem_take hx)
      · rcases List.mem_cons.1 hx with rfl | hx
        · exact .inl rfl
        · exact .inr (List.mem_of_mem_drop hx)
theorem tbOk_ask {T : Tb} (h : TbOk T) {t nd m : Int} (hm : mayAsk T t nd m) : TbOk (setT T nd (askN (T nd) t m).2) := by
  obtain ⟨h1, h2, h3, h4, h5⟩ := hm
  have hno : ∀ id, ∀ x ∈ (T id).q, x.1 ≠ t := fun id x hx e => h5 ⟨id, x, hx, e⟩
  refine ⟨fun id => ?_, fun id id' a b ha hb e => ?_⟩
  · by_cases e : id = nd
    · subst e; rw [setT_same]; exact ok_ask (h.1 id) ⟨h1, h2⟩ (rightB_iff.1 h4) (hno id)
    · rw [setT_other _ _ e]; exact h.1 id
  · by_cases e1 : id = nd
    · by_cases e2 : id' = nd
      · rw [e1, e2]
      · subst e1
        rw [setT_same] at ha
        rw [setT_other _ _ e2] at hb
        rcases ask_q ha with ha | ha
        · exact absurd (e.symm.trans ha) (hno _ _ hb)
        · exact h.2 _ _ _ _ ha hb e
    · rw [setT_other _ _ e1] at ha
      by_cases e2 : id' = nd
      · subst e2
        rw [setT_same] at hb
        rcases ask_q hb with hb | hb
        · exact absurd (e.trans hb) (hno _ _ ha)
        · exact h.2 _ _ _ _ ha hb e
      · rw [setT_other _ _ e2] at hb
        exact h.2 _ _ _ _ ha hb e
theorem tbOk_nil : TbOk (fun _ => Nd.nil) := ⟨fun _ => ⟨List.Pairwise.nil, (fun h hh => by cases hh), (fun h hh => by cases hh), by simp [Nd.nil]⟩, fun _ _ _ _ h _ _ => by cases h⟩
theorem leave_none {T : Tb} {t : Int} (h : ¬ waitsP T t) : leaveT T t = T := by
  funext id
  unfold leaveT
  rw [outQ_none (fun x hx e => h ⟨id, x, hx, e⟩)]

/-- what a call turns of the program's table -/
def stepT (T : Tb) (kd t nd m : Int) (T' : Tb) : Prop :=
  (kd = 1 ∧ T' = serveT (freeT (leaveT T t) t)) ∨ (kd = 2 ∧ waitsP T t ∧ T' = serveT (leaveT T t)) ∨ (kd = 2 ∧ ¬ waitsP T t ∧ T' = T) ∨
  (kd ≠ 1 ∧ kd ≠ 2 ∧ mayAsk T t nd m ∧ T' = setT T nd (askN (T nd) t m).2) ∨ (kd ≠ 1 ∧ kd ≠ 2 ∧ ¬ mayAsk T t nd m ∧ T' = T)
theorem tbOk_step {T T' : Tb} {kd t nd m : Int} (h : TbOk T) (hs : stepT T kd t nd m T') : TbOk T' := by
  rcases hs with ⟨_, rfl⟩ | ⟨_, _, rfl⟩ | ⟨_, _, rfl⟩ | ⟨_, _, hm, rfl⟩ | ⟨_, _, _, rfl⟩
  · exact tbOk_serve (tbOk_free (tbOk_leave h t) t)
  · exact tbOk_serve (tbOk_leave h t)
  · exact h
  · exact tbOk_ask h hm
  · exact h
theorem serveW_few : ∀ (n : Nat) {hd wt : List G3}, wt.length ≤ n → (∀ g ∈ wt, g.1 ≠ 0) → (serveW hd wt).2.1.length + (serveW hd wt).2.2.length ≤ hd.length + wt.length := by
  intro n
  induction n with
  | zero =>
    intro hd wt hn h0
    have : wt = [] := List.eq_nil_of_length_eq_zero (by omega)
    subst this
    exact Nat.le_refl _
  | succ n ih =>
    intro hd wt hn h0
    by_cases hb : (bestG hd wt wt).1 = 0
    · rw [serveW_none hb]; exact Nat.le_refl _
    · rw [serveW_some h0 hb]
      have hlt := outG_lt (best_some h0 hb).1
      have h1 := ih (hd := holdG hd (bestG hd wt wt)) (wt := outG wt (bestG hd wt wt).1) (by omega) (outG_sub h0)
      have h2 := holdG_few hd (bestG hd wt wt)
      simp only
      omega
theorem askI_few (hd : List G3) (g : G3) (has : Int) : ∀ l : List G3, (askI hd g has l).length = l.length + 1
  | [] => rfl
  | x :: r => by
    by_cases hh : askHit hd g has x = true
    · rw [askI_hit hh]; simp
    · rw [askI_not hh]; simp [askI_few hd g has r]
theorem askR_few (hd wt : List G3) (t nd m : Int) : (askR hd wt t nd m).2.1.length + (askR hd wt t nd m).2.2.length ≤ hd.length + wt.length + 1 := by
  unfold askR
  split
  · simp
  · split
    · have := holdG_few hd (t, nd, joinI (hasG hd t nd) m); simp only; omega
    · simp only; rw [askInG_eq, askI_few]; omega
end Go.Proofs.Ytamjopgpmeeheaa
