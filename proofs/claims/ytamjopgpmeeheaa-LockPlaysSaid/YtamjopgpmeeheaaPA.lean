/- What the reference's tables and the program's tables have to do with one another (plain). -/
import Derived.Test.YtamjopgpmeeheaaHE
import Derived.Test.YtamjopgpmeeheaaHO
namespace Go.Proofs.Ytamjopgpmeeheaa
set_option linter.unusedVariables false

def lift3 (id : Int) (x : W2) : G3 := (x.1, id, x.2)
def ltG (a b : G3) : Prop := a.2.1 < b.2.1 ∨ (a.2.1 = b.2.1 ∧ a.1 < b.1)
/-- those who are not of that transaction and node -/
def outS (l : List G3) (g : G3) : List G3 := l.filter (fun h => !sameG h g)
def insG : List G3 → G3 → List G3
  | [], g => [g]
  | h :: r, g => if sameG h g = true then insG r g else if aheadG h g = true then g :: h :: outS r g else h :: insG r g
theorem insG_same {h g : G3} {r : List G3} (hs : sameG h g = true) : insG (h :: r) g = insG r g := by rw [insG, if_pos hs]
theorem insG_ahead {h g : G3} {r : List G3} (hs : ¬ sameG h g = true) (ha : aheadG h g = true) : insG (h :: r) g = g :: h :: outS r g := by rw [insG, if_neg hs, if_pos ha]
theorem insG_else {h g : G3} {r : List G3} (hs : ¬ sameG h g = true) (ha : ¬ aheadG h g = true) : insG (h :: r) g = h :: insG r g := by rw [insG, if_neg hs, if_neg ha]
theorem insG_nil (g : G3) : insG [] g = [g] := rfl
theorem holdFold_true (g : G3) : ∀ (l acc : List G3), l.foldl (holdStep g) (acc, true) = (acc ++ outS l g, true)
  | [], acc => by simp [outS]
  | h :: r, acc => by
    rw [List.foldl_cons]
    cases hs : sameG h g with
    | true =>
      have : holdStep g (acc, true) h = (acc, true) := by unfold holdStep; rw [if_pos hs]
      rw [this, holdFold_true g r acc]
      simp [outS, hs]
    | false =>
      have : holdStep g (acc, true) h = (acc ++ [h], true) := by unfold holdStep; rw [if_neg (by rw [hs]; simp), if_neg (by simp)]
      rw [this, holdFold_true g r _]
      simp [outS, hs]
theorem holdFold_ins (g : G3) : ∀ (l acc : List G3), (if (l.foldl (holdStep g) (acc, false)).2 = true then (l.foldl (holdStep g) (acc, false)).1 else (l.foldl (holdStep g) (acc, false)).1 ++ [g]) = acc ++ insG l g
  | [], acc => by simp [insG]
  | h :: r, acc => by
    rw [List.foldl_cons]
    cases hs : sameG h g with
    | true =>
      have : holdStep g (acc, false) h = (acc, false) := by unfold holdStep; rw [if_pos hs]
      rw [this, holdFold_ins g r acc, insG_same hs]
    | false =>
      cases ha : aheadG h g with
      | true =>
        have : holdStep g (acc, false) h = (acc ++ [g] ++ [h], true) := by unfold holdStep; rw [if_neg (by rw [hs]; simp), if_pos ⟨rfl, ha⟩]
        rw [this, holdFold_true]
        rw [if_pos rfl, insG_ahead (by rw [hs]; simp) ha]
        simp
      | false =>
        have : holdStep g (acc, false) h = (acc ++ [h], false) := by unfold holdStep; rw [if_neg (by rw [hs]; simp), if_neg (by rw [ha]; simp)]
        rw [this, holdFold_ins g r _, insG_else (by rw [hs]; simp) (by rw [ha]; simp)]
        simp
theorem holdG_ins (l : List G3) (g : G3) : holdG l g = insG l g := by
  have := holdFold_ins g l []
  unfold holdG holdFold
  simpa using this
theorem sameG_iff {h g : G3} : sameG h g = true ↔ h.1 = g.1 ∧ h.2.1 = g.2.1 := by simp [sameG]
theorem aheadG_iff {h g : G3} : aheadG h g = true ↔ ltG g h := by
  unfold aheadG ltG
  simp only [Bool.or_eq_true, Bool.and_eq_true, decide_eq_true_eq, beq_iff_eq]
  constructor
  · rintro (h1 | ⟨h1, h2⟩)
    · exact .inl h1
    · exact .inr ⟨h1.symm, h2⟩
  · rintro (h1 | ⟨h1, h2⟩)
    · exact .inl h1
    · exact .inr ⟨h1.symm, h2⟩
theorem atG_cons (h : G3) (r : List G3) (nd : Int) : atG (h :: r) nd = if h.2.1 = nd then h :: atG r nd else atG r nd := by
  unfold atG
  rw [List.filter_cons]
  by_cases e : h.2.1 = nd <;> simp [e]
theorem atG_outS_other {l : List G3} {g : G3} {nd : Int} (h : nd ≠ g.2.1) : atG (outS l g) nd = atG l nd := by
  unfold atG outS
  rw [List.filter_filter]
  refine List.filter_congr (fun x hx => ?_)
  by_cases e : x.2.1 = nd
  · have : sameG x g = false := by
      cases hs : sameG x g with
      | false => rfl
      | true => exact absurd ((sameG_iff.1 hs).2.symm.trans e).symm h
    simp [e, this]
  · simp [e]
theorem outS_none {l : List G3} {g : G3} (h : ∀ x ∈ l, sameG x g = false) : outS l g = l := by
  unfold outS
  exact List.filter_eq_self.2 (fun x hx => by rw [h x hx]; rfl)
theorem atG_ins_other {g : G3} {nd : Int} (h : nd ≠ g.2.1) : ∀ l : List G3, atG (insG l g) nd = atG l nd
  | [] => by rw [insG_nil, atG_cons, if_neg (fun e => h e.symm)]
  | x :: r => by
    by_cases hs : sameG x g = true
    · rw [insG_same hs, atG_ins_other h r, atG_cons, if_neg (fun e => h (e.symm.trans (sameG_iff.1 hs).2))]
    · by_cases ha : aheadG x g = true
      · rw [insG_ahead hs ha, atG_cons, if_neg (fun e => h e.symm), atG_cons, atG_cons, atG_outS_other h]
      · rw [insG_else hs ha, atG_cons, atG_cons, atG_ins_other h r]
theorem putH_low {hs : List W2} {t m : Int} (h : ∀ x ∈ hs, t < x.1) : putH hs t m = (t, m) :: hs := by
  cases hs with
  | nil => rfl
  | cons a r => unfold putH; rw [if_pos (h a (by simp))]
theorem atG_ins_same (t nd m : Int) : ∀ (l : List G3) (hs : List W2), l.Pairwise ltG → atG l nd = hs.map (lift3 nd) → atG (insG l (t, nd, m)) nd = (putH hs t m).map (lift3 nd)
  | [], hs, _, h => by
    have : hs = [] := by
      cases hs with
      | nil => rfl
      | cons a r => cases h
    subst this
    rw [insG_nil, atG_cons, if_pos rfl]
    rfl
  | x :: r, hs, hp, h => by
    obtain ⟨p1, p2⟩ := List.pairwise_cons.1 hp
    rw [atG_cons] at h
    by_cases e : x.2.1 = nd
    · rw [if_pos e] at h
      cases hs with
      | nil => cases h
      | cons a hs' =>
        rw [List.map_cons] at h
        injection h with h1 h2
        have hx : x = lift3 nd a := h1
        subst hx
        have hlow : ∀ y ∈ hs', a.1 < y.1 := fun y hy => by
          have hm : lift3 nd y ∈ atG r nd := by rw [h2]; exact List.mem_map_of_mem hy
          have := p1 _ (List.mem_filter.1 hm).1
          rcases this with h | h
          · exact absurd h (Int.lt_irrefl _)
          · exact h.2
        have ih := atG_ins_same t nd m r hs' p2 h2
        by_cases hst : a.1 = t
        · have hsm : sameG (lift3 nd a) (t, nd, m) = true := sameG_iff.2 ⟨hst, rfl⟩
          rw [insG_same hsm, ih]
          rw [putH_low (fun y hy => by rw [← hst]; exact hlow y hy)]
          unfold putH
          rw [if_neg (by omega), if_pos hst.symm]
        · have hsm : ¬ sameG (lift3 nd a) (t, nd, m) = true := fun h => hst (sameG_iff.1 h).1
          by_cases hlt : t < a.1
          · have hah : aheadG (lift3 nd a) (t, nd, m) = true := aheadG_iff.2 (.inr ⟨rfl, hlt⟩)
            rw [insG_ahead hsm hah, outS_none (fun y hy => by
              cases hs : sameG y (t, nd, m) with
              | false => rfl
              | true =>
                obtain ⟨s1, s2⟩ := sameG_iff.1 hs
                have s1' : y.1 = t := s1
                have s2' : y.2.1 = nd := s2
                have h9 := p1 y hy
                unfold ltG lift3 at h9
                simp only at h9
                omega)]
            rw [atG_cons, if_pos rfl, atG_cons, if_pos e, h2]
            unfold putH
            rw [if_pos hlt]
            rfl
          · have hah : ¬ aheadG (lift3 nd a) (t, nd, m) = true := fun h => by
              have := aheadG_iff.1 h
              unfold ltG lift3 at this
              simp only at this
              omega
            rw [insG_else hsm hah, atG_cons, if_pos e, ih]
            rw [putH, if_neg hlt, if_neg (fun e => hst e.symm)]
            rfl
    · rw [if_neg e] at h
      have ih := atG_ins_same t nd m r hs p2 h
      have hsm : ¬ sameG x (t, nd, m) = true := fun h => e (sameG_iff.1 h).2
      by_cases hlt : nd < x.2.1
      · have hah : aheadG x (t, nd, m) = true := aheadG_iff.2 (.inl hlt)
        rw [insG_ahead hsm hah]
        have hr : atG r nd = [] := by
          unfold atG
          refine List.filter_eq_nil_iff.2 (fun y hy => ?_)
          have h9 := p1 y hy
          unfold ltG at h9
          simp
          omega
        have hro : atG (outS r (t, nd, m)) nd = [] := by
          unfold atG
          refine List.filter_eq_nil_iff.2 (fun y hy => ?_)
          have h9 := p1 y (List.mem_filter.1 hy).1
          unfold ltG at h9
          simp
          omega
        rw [atG_cons, if_pos rfl, atG_cons, if_neg e, hro]
        rw [hr] at h
        have : hs = [] := by
          cases hs with
          | nil => rfl
          | cons a r => cases h
        subst this
        rfl
      · have hah : ¬ aheadG x (t, nd, m) = true := fun h => by
          have := aheadG_iff.1 h
          unfold ltG at this
          simp only at this
          omega
        rw [insG_else hsm hah, atG_cons, if_neg e, ih]
theorem mem_outS {l : List G3} {g x : G3} (h : x ∈ outS l g) : x ∈ l := (List.mem_filter.1 h).1
theorem mem_insG {g x : G3} : ∀ {l : List G3}, x ∈ insG l g → x = g ∨ x ∈ l
  | [], h => by rw [insG_nil] at h; exact .inl (List.mem_singleton.1 h)
  | y :: r, h => by
    by_cases hs : sameG y g = true
    · rw [insG_same hs] at h
      exact (mem_insG h).imp _root_.id (List.mem_cons_of_mem _)
    · by_cases ha : aheadG y g = true
      · rw [insG_ahead hs ha] at h
        rcases List.mem_cons.1 h with h | h
        · exact .inl h
        · rcases List.mem_cons.1 h with h | h
          · exact .inr (by rw [h]; exact List.mem_cons_self)
          · exact .inr (List.mem_cons_of_mem _ (mem_outS h))
      · rw [insG_else hs ha] at h
        rcases List.mem_cons.1 h with h | h
        · exact .inr (by rw [h]; exact List.mem_cons_self)
        · exact (mem_insG h).imp _root_.id (List.mem_cons_of_mem _)
theorem ltG_trans {a b c : G3} (h : ltG a b) (h' : ltG b c) : ltG a c := by unfold ltG at *; omega
theorem srt_ins {g : G3} : ∀ {l : List G3}, l.Pairwise ltG → (insG l g).Pairwise ltG
  | [], _ => by simp [insG]
  | y :: r, hp => by
    obtain ⟨p1, p2⟩ := List.pairwise_cons.1 hp
    by_cases hs : sameG y g = true
    · rw [insG_same hs]; exact srt_ins p2
    · by_cases ha : aheadG y g = true
      · rw [insG_ahead hs ha]
        have hg := aheadG_iff.1 ha
        refine List.pairwise_cons.2 ⟨fun x hx => ?_, List.pairwise_cons.2 ⟨fun x hx => p1 x (mem_outS hx), p2.sublist (List.filter_sublist ..)⟩⟩
        rcases List.mem_cons.1 hx with rfl | hx
        · exact hg
        · exact ltG_trans hg (p1 x (mem_outS hx))
      · rw [insG_else hs ha]
        refine List.pairwise_cons.2 ⟨fun x hx => ?_, srt_ins p2⟩
        rcases mem_insG hx with rfl | hx
        · have h1 : ¬ ltG x y := fun h => ha (aheadG_iff.2 h)
          have h2 : ¬ (y.1 = x.1 ∧ y.2.1 = x.2.1) := fun h => hs (sameG_iff.2 h)
          unfold ltG at *
          omega
        · exact p1 x hx

/-- the reference's tables hold what the program's tables hold -/
structure Rel (T : Tb) (hd wt : List G3) : Prop where
  held : ∀ id, atG hd id = (T id).hs.map (lift3 id)
  wait : ∀ id, atG wt id = (T id).q.map (lift3 id)
  srt : hd.Pairwise ltG
theorem rel_nil : Rel (fun _ => Nd.nil) [] [] := ⟨fun _ => rfl, fun _ => rfl, List.Pairwise.nil⟩
theorem mem_at {l : List G3} {g : G3} (h : g ∈ l) : g ∈ atG l g.2.1 := List.mem_filter.2 ⟨h, by simp⟩
theorem Rel.inWait {T : Tb} {hd wt : List G3} (h : Rel T hd wt) {g : G3} : g ∈ wt ↔ (g.1, g.2.2) ∈ (T g.2.1).q := by
  constructor
  · intro hg
    have := mem_at hg
    rw [h.wait] at this
    obtain ⟨x, hx, e⟩ := List.mem_map.1 this
    have e1 : x.1 = g.1 := congrArg (·.1) e
    have e2 : x.2 = g.2.2 := congrArg (·.2.2) e
    rw [← e1, ← e2]; exact hx
  · intro hg
    have : lift3 g.2.1 (g.1, g.2.2) ∈ atG wt g.2.1 := by rw [h.wait]; exact List.mem_map_of_mem hg
    exact (List.mem_filter.1 this).1
theorem Rel.inHeld {T : Tb} {hd wt : List G3} (h : Rel T hd wt) {g : G3} : g ∈ hd ↔ (g.1, g.2.2) ∈ (T g.2.1).hs := by
  constructor
  · intro hg
    have := mem_at hg
    rw [h.held] at this
    obtain ⟨x, hx, e⟩ := List.mem_map.1 this
    have e1 : x.1 = g.1 := congrArg (·.1) e
    have e2 : x.2 = g.2.2 := congrArg (·.2.2) e
    rw [← e1, ← e2]; exact hx
  · intro hg
    have : lift3 g.2.1 (g.1, g.2.2) ∈ atG hd g.2.1 := by rw [h.held]; exact List.mem_map_of_mem hg
    exact (List.mem_filter.1 this).1
theorem atG_outG (l : List G3) (t id : Int) {q : List W2} (h : atG l id = q.map (lift3 id)) : atG (outG l t) id = (q.filter (fun x => x.1 != t)).map (lift3 id) := by
  have h1 : atG (outG l t) id = outG (atG l id) t := by unfold atG outG; rw [List.filter_filter, List.filter_filter]; refine List.filter_congr (fun x _ => Bool.and_comm ..)
  rw [h1, h]
  unfold outG
  rw [List.filter_map]
  rfl
theorem Rel.leave {T : Tb} {hd wt : List G3} (h : Rel T hd wt) (t : Int) : Rel (leaveT T t) hd (outG wt t) where
  held := h.held
  wait id := atG_outG wt t id (h.wait id)
  srt := h.srt
theorem Rel.free {T : Tb} {hd wt : List G3} (h : Rel T hd wt) (t : Int) : Rel (freeT T t) (outG hd t) wt where
  held id := atG_outG hd t id (h.held id)
  wait := h.wait
  srt := h.srt.sublist (List.filter_sublist ..)
theorem find_at (l : List G3) (t nd : Int) : l.find? (fun g => g.1 == t && g.2.1 == nd) = (atG l nd).find? (fun g => g.1 == t) := by
  unfold atG
  rw [List.find?_filter]
  congr 1
  funext g
  cases h1 : (g.1 == t) <;> cases h2 : (g.2.1 == nd) <;> simp
theorem Rel.has {T : Tb} {hd wt : List G3} (h : Rel T hd wt) (t nd : Int) : hasG hd t nd = hasI (T nd).hs t := by
  unfold hasG hasI findH
  rw [find_at, h.held, List.find?_map]
  simp only [Option.map_map]
  rfl
theorem Rel.can {T : Tb} {hd wt : List G3} (h : Rel T hd wt) (t nd m : Int) : canG hd t nd m = canB (T nd).hs t m := by
  have h1 : canG hd t nd m = (atG hd nd).all (fun g => g.1 == t || compB g.2.2 m) := by
    unfold canG atG
    rw [List.all_filter]
    congr 1
    funext g
    cases h2 : (g.2.1 == nd) <;> cases h3 : (g.1 == t) <;> cases h4 : compB g.2.2 m <;> simp_all [bne]
  rw [h1, h.held, List.all_map]
  rfl
theorem want_some {wt : List G3} {t : Int} {g : G3} (h : wantG wt t = some g) : g ∈ wt ∧ g.1 = t := by
  unfold wantG at h
  exact ⟨List.mem_of_find?_eq_some h, by simpa using List.find?_some h⟩
theorem want_none {wt : List G3} {t : Int} (h : wantG wt t = none) : ∀ g ∈ wt, g.1 ≠ t := by
  unfold wantG at h
  have := List.find?_eq_none.1 h
  intro g hg e
  exact this g hg (by simp [e])
theorem Rel.waits {T : Tb} {hd wt : List G3} (h : Rel T hd wt) (t : Int) : waitsP T t ↔ wantG wt t ≠ none := by
  constructor
  · rintro ⟨id, x, hx, e⟩ hn
    have := want_none hn (lift3 id x) (h.inWait.2 hx)
    exact this e
  · intro hn
    cases hw : wantG wt t with
    | none => exact absurd hw hn
    | some g =>
      obtain ⟨h1, h2⟩ := want_some hw
      exact ⟨g.2.1, _, h.inWait.1 h1, h2⟩
theorem once_eq {t a b : Int} : ∀ {q : List W2}, (q.map (·.1)).Nodup → (t, a) ∈ q → (t, b) ∈ q → a = b
  | [], _, ha, _ => by cases ha
  | x :: r, h, ha, hb => by
    rw [List.map_cons, List.nodup_cons] at h
    rcases List.mem_cons.1 ha with ea | ha'
    · rcases List.mem_cons.1 hb with eb | hb'
      · have := ea.trans eb.symm
        exact congrArg (·.2) this
      · exact absurd (by rw [← ea]; exact List.mem_map.2 ⟨_, hb', rfl⟩) h.1
    · rcases List.mem_cons.1 hb with eb | hb'
      · exact absurd (by rw [← eb]; exact List.mem_map.2 ⟨_, ha', rfl⟩) h.1
      · exact once_eq h.2 ha' hb'
/-- where one waits is where it waits -/
theorem Rel.want_is {T : Tb} {hd wt : List G3} (h : Rel T hd wt) (hT : TbOk T) {t id m : Int} (hx : (t, m) ∈ (T id).q) : wantG wt t = some (t, id, m) := by
  cases hw : wantG wt t with
  | none => exact absurd rfl (want_none hw (t, id, m) (h.inWait.2 hx))
  | some g =>
    obtain ⟨h1, h2⟩ := want_some hw
    have h3 := h.inWait.1 h1
    have e1 : g.2.1 = id := hT.2 _ _ _ _ h3 hx h2
    rw [e1] at h3
    obtain ⟨g1, g2, g3⟩ := g
    simp only at h2 e1 h3
    subst h2 e1
    have e3 : g3 = m := once_eq (hT.1 g2).once h3 hx
    rw [e3]
end Go.Proofs.Ytamjopgpmeeheaa
