/- How the reference serves, and that it serves as the program does (plain). -/
import Derived.Test.YtamjopgpmeeheaaPA
import Derived.Test.YtamjopgpmeeheaaRL
namespace Go.Proofs.Ytamjopgpmeeheaa
set_option linter.unusedVariables false

def g0 : G3 := (0, 0, 0)
/-- is it the first one of its queue? -/
def firstG (wt : List G3) (g : G3) : Bool := decide ((atG wt g.2.1).head? = some g)
def bestStep (hd wt : List G3) (b g : G3) : G3 := if firstG wt g = true ∧ canG hd g.1 g.2.1 g.2.2 = true ∧ (b.1 = 0 ∨ g.2.1 < b.2.1) then g else b
def bestG (hd wt l : List G3) : G3 := l.foldl (bestStep hd wt) g0
theorem bestG_take {hd wt l : List G3} {k : Nat} {x : G3} (hx : l[k]? = some x) : bestG hd wt (l.take (k + 1)) = bestStep hd wt (bestG hd wt (l.take k)) x := by
  unfold bestG; rw [List.take_add_one, hx, List.foldl_append]; rfl
/-- g may be served -/
def mayG (hd wt : List G3) (g : G3) : Prop := firstG wt g = true ∧ canG hd g.1 g.2.1 g.2.2 = true
theorem best_spec (hd wt : List G3) : ∀ (l : List G3) (b : G3), (∀ g ∈ l, g.1 ≠ 0) → (b = g0 ∨ (b.1 ≠ 0 ∧ mayG hd wt b)) →
    ((l.foldl (bestStep hd wt) b = b) ∨ (l.foldl (bestStep hd wt) b ∈ l)) ∧ (l.foldl (bestStep hd wt) b = g0 ∨ ((l.foldl (bestStep hd wt) b).1 ≠ 0 ∧ mayG hd wt (l.foldl (bestStep hd wt) b))) ∧
    (∀ g, (g ∈ l ∧ mayG hd wt g) ∨ (g = b ∧ b.1 ≠ 0) → (l.foldl (bestStep hd wt) b).1 ≠ 0 ∧ (l.foldl (bestStep hd wt) b).2.1 ≤ g.2.1)
  | [], b, h0, hb => by
    refine ⟨.inl rfl, hb, ?_⟩
    rintro g (⟨h, _⟩ | ⟨rfl, h⟩)
    · cases h
    · exact ⟨h, Int.le_refl _⟩
  | x :: r, b, h0, hb => by
    rw [List.foldl_cons]
    have hx0 : x.1 ≠ 0 := h0 x (by simp)
    have hr0 : ∀ g ∈ r, g.1 ≠ 0 := fun g hg => h0 g (by simp [hg])
    by_cases hc : firstG wt x = true ∧ canG hd x.1 x.2.1 x.2.2 = true ∧ (b.1 = 0 ∨ x.2.1 < b.2.1)
    · have hs : bestStep hd wt b x = x := by unfold bestStep; rw [if_pos hc]
      rw [hs]
      obtain ⟨i1, i2, i3⟩ := best_spec hd wt r x hr0 (.inr ⟨hx0, hc.1, hc.2.1⟩)
      refine ⟨.inr (i1.elim (fun e => by rw [e]; simp) (fun h => List.mem_cons_of_mem _ h)), i2, ?_⟩
      rintro g (⟨h, hm⟩ | ⟨rfl, h⟩)
      · rcases List.mem_cons.1 h with rfl | h
        · exact i3 g (.inr ⟨rfl, hx0⟩)
        · exact i3 g (.inl ⟨h, hm⟩)
      · have := i3 x (.inr ⟨rfl, hx0⟩)
        refine ⟨this.1, ?_⟩
        rcases hc.2.2 with h' | h'
        · exact absurd h' h
        · omega
    · have hs : bestStep hd wt b x = b := by unfold bestStep; rw [if_neg hc]
      rw [hs]
      obtain ⟨i1, i2, i3⟩ := best_spec hd wt r b hr0 hb
      refine ⟨i1.imp _root_.id (List.mem_cons_of_mem _), i2, ?_⟩
      rintro g (⟨h, hm⟩ | ⟨rfl, h⟩)
      · rcases List.mem_cons.1 h with rfl | h
        · by_cases hb0 : b.1 = 0
          · exact absurd ⟨hm.1, hm.2, .inl hb0⟩ hc
          · have h1 := i3 b (.inr ⟨rfl, hb0⟩)
            have h2 : ¬ g.2.1 < b.2.1 := fun h => hc ⟨hm.1, hm.2, .inr h⟩
            exact ⟨h1.1, by omega⟩
        · exact i3 g (.inl ⟨h, hm⟩)
      · exact i3 g (.inr ⟨rfl, h⟩)
theorem best_none {hd wt : List G3} (h0 : ∀ g ∈ wt, g.1 ≠ 0) (h : (bestG hd wt wt).1 = 0) : ∀ g ∈ wt, ¬ mayG hd wt g := fun g hg hm =>
  ((best_spec hd wt wt g0 h0 (.inl rfl)).2.2 g (.inl ⟨hg, hm⟩)).1 h
theorem best_some {hd wt : List G3} (h0 : ∀ g ∈ wt, g.1 ≠ 0) (h : (bestG hd wt wt).1 ≠ 0) : bestG hd wt wt ∈ wt ∧ mayG hd wt (bestG hd wt wt) ∧ ∀ g ∈ wt, mayG hd wt g → (bestG hd wt wt).2.1 ≤ g.2.1 := by
  obtain ⟨i1, i2, i3⟩ := best_spec hd wt wt g0 h0 (.inl rfl)
  refine ⟨i1.resolve_left (fun e => h (by unfold bestG; rw [e]; rfl)), (i2.resolve_left (fun e => h (by unfold bestG; rw [e]; rfl))).2, fun g hg hm => (i3 g (.inl ⟨hg, hm⟩)).2⟩

/-- what the reference serves -/
def serveR : Nat → List G3 → List G3 → List G3 × List G3 × List G3
  | 0, hd, wt => ([], hd, wt)
  | n + 1, hd, wt => if (bestG hd wt wt).1 = 0 then ([], hd, wt) else (bestG hd wt wt :: (serveR n (holdG hd (bestG hd wt wt)) (outG wt (bestG hd wt wt).1)).1, (serveR n (holdG hd (bestG hd wt wt)) (outG wt (bestG hd wt wt).1)).2)
theorem outG_lt {wt : List G3} {g : G3} (h : g ∈ wt) : (outG wt g.1).length < wt.length := by
  unfold outG
  exact List.length_filter_lt_length_iff_exists.2 ⟨g, h, by simp⟩
theorem outG_sub {wt : List G3} {t : Int} {P : G3 → Prop} (h : ∀ g ∈ wt, P g) : ∀ g ∈ outG wt t, P g := fun g hg => h g (List.mem_filter.1 hg).1
theorem serveR_fuel : ∀ (n : Nat) {hd wt : List G3}, (∀ g ∈ wt, g.1 ≠ 0) → wt.length ≤ n → serveR n hd wt = serveR wt.length hd wt := by
  have key : ∀ (k n m : Nat) {hd wt : List G3}, (∀ g ∈ wt, g.1 ≠ 0) → wt.length ≤ k → wt.length ≤ n → wt.length ≤ m → serveR n hd wt = serveR m hd wt := fun k => by
    induction k with
    | zero =>
      intro n m hd wt h0 hk hn hm
      have : wt = [] := List.eq_nil_of_length_eq_zero (by omega)
      subst this
      cases n <;> cases m <;> simp [serveR, bestG, g0]
    | succ k ih =>
      intro n m hd wt h0 hk hn hm
      by_cases hb : (bestG hd wt wt).1 = 0
      · cases n <;> cases m <;> simp [serveR, hb]
      · have hlt := outG_lt (best_some h0 hb).1
        cases n with
        | zero => omega
        | succ n =>
          cases m with
          | zero => omega
          | succ m =>
            rw [serveR, serveR, if_neg hb, if_neg hb, ih n m (outG_sub h0) (by omega) (by omega) (by omega)]
  intro n hd wt h0 hn
  exact key n n wt.length h0 hn hn (Nat.le_refl _)
def serveW (hd wt : List G3) : List G3 × List G3 × List G3 := serveR wt.length hd wt
theorem serveW_none {hd wt : List G3} (h : (bestG hd wt wt).1 = 0) : serveW hd wt = ([], hd, wt) := by
  unfold serveW
  cases wt.length with
  | zero => rfl
  | succ n => rw [serveR, if_pos h]
theorem serveW_some {hd wt : List G3} (h0 : ∀ g ∈ wt, g.1 ≠ 0) (h : (bestG hd wt wt).1 ≠ 0) :
    serveW hd wt = (bestG hd wt wt :: (serveW (holdG hd (bestG hd wt wt)) (outG wt (bestG hd wt wt).1)).1, (serveW (holdG hd (bestG hd wt wt)) (outG wt (bestG hd wt wt).1)).2) := by
  have hlt := outG_lt (best_some h0 h).1
  unfold serveW
  cases hn : wt.length with
  | zero => omega
  | succ n =>
    rw [serveR, if_neg h, serveR_fuel n (outG_sub h0) (by omega)]

/-! ### as the program -/
theorem grants_of_none {T : Tb} (h : ∀ id, grantsN id (T id) = []) (ks : List Int) : grantsT T ks = [] := by
  unfold grantsT
  exact List.flatMap_eq_nil_iff.2 (fun x _ => h x)
/-- the first one is served: the rest is served as if it had been so from the start -/
theorem serve_step {T : Tb} {id : Int} {e : W2} {q : List W2} (hq : (T id).q = e :: q) (hc : canB (T id).hs e.1 e.2 = true) :
    serveT T = serveT (setT T id ⟨putH (T id).hs e.1 e.2, q⟩) ∧ grantsN id (T id) = (e.1, id, e.2) :: grantsN id ⟨putH (T id).hs e.1 e.2, q⟩ := by
  constructor
  · funext j
    unfold serveT
    by_cases hj : j = id
    · subst hj
      rw [setT_same]
      unfold servedN
      rw [hq, serveQ_yes hc]
    · rw [setT_other _ _ hj]
  · unfold grantsN
    rw [hq, serveQ_yes hc]
    rfl
theorem grants_from {T : Tb} {id : Int} {n : Nd} {g : G3} (hg : grantsN id (T id) = g :: grantsN id n) : ∀ {ks : List Int}, ks.Pairwise (· < ·) → id ∈ ks → (∀ j ∈ ks, j < id → grantsN j (T j) = []) →
    grantsT T ks = g :: grantsT (setT T id n) ks
  | [], _, h, _ => by cases h
  | k :: ks, hp, hm, hl => by
    obtain ⟨p1, p2⟩ := List.pairwise_cons.1 hp
    have e1 : ∀ T' : Tb, grantsT T' (k :: ks) = grantsN k (T' k) ++ grantsT T' ks := fun T' => by simp [grantsT]
    rw [e1, e1]
    by_cases h : k = id
    · subst h
      rw [setT_same, hg]
      have : grantsT (setT T k n) ks = grantsT T ks := by
        unfold grantsT
        refine congrArg List.flatten (List.map_congr_left (fun x hx => ?_)) |> (by simpa [List.flatMap] using ·)
        rw [setT_other _ _ (by have := p1 x hx; omega)]
      rw [this]; rfl
    · have hm' : id ∈ ks := (List.mem_cons.1 hm).resolve_left (fun e => h e.symm)
      have hlt := p1 id hm'
      rw [hl k (by simp) hlt, setT_other _ _ h, hl k (by simp) hlt]
      rw [grants_from hg p2 hm' (fun j hj => hl j (by simp [hj]))]
      rfl
theorem Rel.first {T : Tb} {hd wt : List G3} (h : Rel T hd wt) {g : G3} : mayG hd wt g ↔ ∃ q, (T g.2.1).q = (g.1, g.2.2) :: q ∧ canB (T g.2.1).hs g.1 g.2.2 = true := by
  unfold mayG firstG
  rw [h.can, decide_eq_true_eq, h.wait]
  constructor
  · rintro ⟨h1, h2⟩
    cases hq : (T g.2.1).q with
    | nil => rw [hq] at h1; cases h1
    | cons a r =>
      rw [hq, List.map_cons, List.head?_cons] at h1
      injection h1 with h1
      have e1 : a.1 = g.1 := congrArg (·.1) h1
      have e2 : a.2 = g.2.2 := congrArg (·.2.2) h1
      exact ⟨r, by rw [← e1, ← e2], h2⟩
  · rintro ⟨q, h1, h2⟩
    exact ⟨by rw [h1]; rfl, h2⟩
theorem Rel.nonzero {T : Tb} {hd wt : List G3} (h : Rel T hd wt) (hT : TbOk T) : ∀ g ∈ wt, g.1 ≠ 0 := fun g hg => by
  have := (hT.1 g.2.1).wait _ (h.inWait.1 hg)
  have := this.1.1
  simp only at this
  omega
theorem Rel.hold {T : Tb} {hd wt : List G3} (h : Rel T hd wt) (t nd m : Int) : Rel (setT T nd ⟨putH (T nd).hs t m, (T nd).q⟩) (holdG hd (t, nd, m)) wt where
  held id := by
    rw [holdG_ins]
    by_cases e : id = nd
    · subst e
      rw [setT_same]
      exact atG_ins_same t id m hd _ h.srt (h.held id)
    · rw [setT_other _ _ e, atG_ins_other e]
      exact h.held id
  wait id := by
    by_cases e : id = nd
    · subst e; rw [setT_same]; exact h.wait id
    · rw [setT_other _ _ e]; exact h.wait id
  srt := by rw [holdG_ins]; exact srt_ins h.srt
theorem setT_setT (T : Tb) (id : Int) (a b : Nd) : setT (setT T id a) id b = setT T id b := by
  funext j
  by_cases e : j = id
  · subst e; rw [setT_same, setT_same]
  · rw [setT_other _ _ e, setT_other _ _ e, setT_other _ _ e]
/-- the head of a queue leaves -/
theorem Rel.tail {T : Tb} {hd wt : List G3} (h : Rel T hd wt) (hT : TbOk T) {nd : Int} {e : W2} {q : List W2} (hq : (T nd).q = e :: q) : Rel (setT T nd ⟨(T nd).hs, q⟩) hd (outG wt e.1) where
  held id := by
    by_cases e : id = nd
    · subst e; rw [setT_same]; exact h.held id
    · rw [setT_other _ _ e]; exact h.held id
  wait id := by
    have h1 := atG_outG wt e.1 id (h.wait id)
    rw [h1]
    by_cases e' : id = nd
    · subst e'
      rw [setT_same, hq]
      have hn := (hT.1 id).once
      rw [hq, List.map_cons, List.nodup_cons] at hn
      rw [List.filter_cons, if_neg (by simp), List.filter_eq_self.2 (fun x hx => by
        have : x.1 ≠ e.1 := fun he => hn.1 (by rw [← he]; exact List.mem_map_of_mem hx)
        simpa using this)]
    · rw [setT_other _ _ e', List.filter_eq_self.2 (fun x hx => by
        have : x.1 ≠ e.1 := fun he => e' (hT.2 id nd x e hx (by rw [hq]; simp) he)
        simpa using this)]
  srt := h.srt
theorem tbOk_sub {T T' : Tb} (hT : TbOk T) (h1 : ∀ id, NdOk (T' id)) (h2 : ∀ id, ∀ x ∈ (T' id).q, x ∈ (T id).q) : TbOk T' :=
  ⟨h1, fun id id' w w' hw hw' e => hT.2 id id' w w' (h2 _ _ hw) (h2 _ _ hw') e⟩
theorem serveQ_sub : ∀ (q hs : List W2), ∀ x ∈ (serveQ hs q).2.2, x ∈ q
  | [], hs, x, h => by cases h
  | e :: q, hs, x, h => by
    cases hc : canB hs e.1 e.2 with
    | false => rw [serveQ_no hc] at h; exact h
    | true => rw [serveQ_yes hc] at h; exact List.mem_cons_of_mem _ (serveQ_sub q _ x h)
theorem tbOk_serve {T : Tb} (hT : TbOk T) : TbOk (serveT T) := tbOk_sub hT (ok_serve hT.1) (fun id x hx => serveQ_sub _ _ x hx)
theorem tbOk_leave {T : Tb} (hT : TbOk T) (t : Int) : TbOk (leaveT T t) := tbOk_sub hT (ok_leave hT.1 t) (fun id x hx => (List.mem_filter.1 hx).1)
theorem tbOk_free {T : Tb} (hT : TbOk T) (t : Int) : TbOk (freeT T t) := tbOk_sub hT (ok_free hT.1 t) (fun id x hx => hx)
/-- what is served is the same, and what is left is the same -/
theorem Rel.serve : ∀ (n : Nat) {T : Tb} {hd wt : List G3}, wt.length ≤ n → Rel T hd wt → TbOk T → ∀ {ks : List Int}, Supp T ks → (serveW hd wt).1 = grantsT T ks ∧ Rel (serveT T) (serveW hd wt).2.1 (serveW hd wt).2.2 := by
  intro n
  induction n with
  | zero =>
    intro T hd wt hn h hT ks hs
    have : wt = [] := List.eq_nil_of_length_eq_zero (by omega)
    subst this
    have hq : ∀ id, (T id).q = [] := fun id => by
      have := h.wait id
      cases hq : (T id).q with
      | nil => rfl
      | cons a r => rw [hq] at this; cases this
    have hsv : serveT T = T := by
      funext id
      unfold serveT servedN
      rw [hq id, serveQ_nil]
      have := hq id
      cases hTi : T id with
      | mk a b => rw [hTi] at this; simp only at this; subst this; rfl
    rw [show serveW hd [] = ([], hd, []) from rfl, hsv]
    exact ⟨(grants_of_none (fun id => by unfold grantsN; rw [hq id]; rfl) ks).symm, h⟩
  | succ n ih =>
    intro T hd wt hn h hT ks hs
    have h0 := h.nonzero hT
    by_cases hb : (bestG hd wt wt).1 = 0
    · have hno := best_none h0 hb
      rw [serveW_none hb]
      have hnc : ∀ id e q, (T id).q = e :: q → canB (T id).hs e.1 e.2 = false := fun id e q hq => by
        cases hc : canB (T id).hs e.1 e.2 with
        | false => rfl
        | true => exact absurd (h.first.2 ⟨q, hq, hc⟩) (hno (e.1, id, e.2) (h.inWait.2 (by show (e.1, e.2) ∈ (T id).q; rw [hq]; simp)))
      have hsn : ∀ id, serveQ (T id).hs (T id).q = ([], (T id).hs, (T id).q) := fun id => by
        cases hq : (T id).q with
        | nil => rfl
        | cons e q => exact serveQ_no (hnc id e q hq)
      have hsv : serveT T = T := by
        funext id
        unfold serveT servedN
        rw [hsn id]
      rw [hsv]
      exact ⟨(grants_of_none (fun id => by unfold grantsN; rw [hsn id]; rfl) ks).symm, h⟩
    · obtain ⟨hm, hmay, hleast⟩ := best_some h0 hb
      rw [serveW_some h0 hb]
      obtain ⟨q, hq, hc⟩ := h.first.1 hmay
      obtain ⟨b, hbe⟩ : ∃ b, bestG hd wt wt = b := ⟨_, rfl⟩
      rw [hbe] at hm hmay hleast hq hc hb ⊢
      obtain ⟨t, nd, m⟩ := b
      simp only at hq hc hleast hb ⊢
      obtain ⟨s1, s2⟩ := serve_step (e := (t, m)) hq hc
      have hr1 := (h.tail hT hq).hold t nd m
      rw [setT_same, setT_setT] at hr1
      simp only at hr1
      have hok1 : NdOk ⟨putH (T nd).hs t m, q⟩ := by
        have h9 := hT.1 nd
        have hw := h9.wait
        have ho := h9.once
        rw [hq] at hw ho
        exact ⟨rise_put h9.rise, okW_put h9.held (hw (t, m) (by simp)), fun x hx => hw x (by simp [hx]), (List.nodup_cons.1 ho).2⟩
      have hT1 : TbOk (setT T nd ⟨putH (T nd).hs t m, q⟩) := tbOk_sub hT (fun id => by
        by_cases e : id = nd
        · subst e; rw [setT_same]; exact hok1
        · rw [setT_other _ _ e]; exact hT.1 id) (fun id x hx => by
        by_cases e : id = nd
        · subst e; rw [setT_same] at hx; rw [hq]; exact List.mem_cons_of_mem _ hx
        · rw [setT_other _ _ e] at hx; exact hx)
      have hin : nd ∈ ks := hs.2 nd (fun e => by rw [e] at hq; cases hq)
      have hs1 : Supp (setT T nd ⟨putH (T nd).hs t m, q⟩) ks := ⟨hs.1, fun id hid => by
        by_cases e : id = nd
        · rw [e]; exact hin
        · rw [setT_other _ _ e] at hid; exact hs.2 id hid⟩
      have hlt := outG_lt hm
      obtain ⟨r1, r2⟩ := ih (T := setT T nd ⟨putH (T nd).hs t m, q⟩) (hd := holdG hd (t, nd, m)) (wt := outG wt t) (by simp only at hlt; omega) hr1 hT1 hs1
      refine ⟨?_, by rw [s1]; exact r2⟩
      rw [r1]
      refine (grants_from s2 hs.1 hin (fun j hj hlt => ?_)).symm
      unfold grantsN
      cases hqj : (T j).q with
      | nil => rfl
      | cons e qj =>
        cases hcj : canB (T j).hs e.1 e.2 with
        | false => rw [serveQ_no hcj]; rfl
        | true =>
          have := hleast (e.1, j, e.2) (h.inWait.2 (by show (e.1, e.2) ∈ (T j).q; rw [hqj]; simp)) (h.first.2 ⟨qj, hqj, hcj⟩)
          simp only at this
          omega
end Go.Proofs.Ytamjopgpmeeheaa
