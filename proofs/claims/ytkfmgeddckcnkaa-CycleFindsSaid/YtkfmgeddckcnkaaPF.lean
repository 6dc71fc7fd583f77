/- Plain law: the reference's Find is the program's. -/
import Derived.Test.YtkfmgeddckcnkaaPB
import Derived.Test.YtkfmgeddckcnkaaRE
namespace Go.Proofs.Ytkfmgeddckcnkaa
set_option linter.unusedVariables false

/-- who may come next -/
def mayR (G : List Edge) (near c : List Int) (t at' x : Int) : Bool := decide ((at', x) ∈ G) && decide (x ∈ near) && (x != t) && !decide (x ∈ c)
def pickR (p : Int → Bool) (xs : List Int) : Int := (xs.find? p).getD 0
def orR (x : Int) (a : List Int × Int) (f : Int → List Int × Int) : List Int × Int := if x = 0 then a else f x
def goR (G : List Edge) (all : List Int) (t : Int) : Nat → List Int → Int → List Int × Int
  | 0, c, at' => (c, at')
  | left + 1, c, at' => orR (pickR (mayR G (reachS G all t (left + 1)) c t at') all) (c, at') (fun x => goR G all t left (c ++ [x]) x)
theorem goR_succ (G : List Edge) (all : List Int) (t : Int) (left : Nat) (c : List Int) (at' : Int) : goR G all t (left + 1) c at' = orR (pickR (mayR G (reachS G all t (left + 1)) c t at') all) (c, at') (fun x => goR G all t left (c ++ [x]) x) := rfl
theorem goR_zero (G : List Edge) (all : List Int) (t : Int) (c : List Int) (at' : Int) : goR G all t 0 c at' = (c, at') := rfl
theorem goR_stop {G : List Edge} {all : List Int} {t : Int} {left : Nat} {c : List Int} {at' : Int} (h : pickR (mayR G (reachS G all t (left + 1)) c t at') all = 0) : goR G all t (left + 1) c at' = (c, at') := by
  rw [goR_succ, h]; exact if_pos rfl
theorem goR_on {G : List Edge} {all : List Int} {t : Int} {left : Nat} {c : List Int} {at' x : Int} (h : pickR (mayR G (reachS G all t (left + 1)) c t at') all = x) (hx : x ≠ 0) : goR G all t (left + 1) c at' = goR G all t left (c ++ [x]) x := by
  rw [goR_succ, h]; exact if_neg hx
def tryR (G : List Edge) (all : List Int) (t : Int) (size : Nat) : Option (List Int) :=
  if (goR G all t (size - 1) [t] t).1.length = size ∧ ((goR G all t (size - 1) [t] t).2, t) ∈ G then some (goR G all t (size - 1) [t] t).1 else none
theorem tryR_some {G : List Edge} {all : List Int} {t : Int} {size : Nat} (h : (goR G all t (size - 1) [t] t).1.length = size ∧ ((goR G all t (size - 1) [t] t).2, t) ∈ G) : tryR G all t size = some (goR G all t (size - 1) [t] t).1 := if_pos h
theorem tryR_none {G : List Edge} {all : List Int} {t : Int} {size : Nat} (h : ¬ ((goR G all t (size - 1) [t] t).1.length = size ∧ ((goR G all t (size - 1) [t] t).2, t) ∈ G)) : tryR G all t size = none := if_neg h
def allOf (G : List Edge) : List Int := numK G 1000
theorem allOf_rise (G : List Edge) : (allOf G).Pairwise (· < ·) := numK_rise G 1000

theorem mem_all {G : List Edge} (hG : Fine G) {x : Int} : x ∈ allOf G ↔ ∃ e ∈ G, touches x e = true := by
  unfold allOf numK
  rw [List.mem_filter, List.any_eq_true]
  refine ⟨fun h => h.2, fun h => ⟨?_, h⟩⟩
  obtain ⟨e, he, ht⟩ := h
  have hr := hG.range he
  have hx : 1 ≤ x ∧ x ≤ 1000 := by
    simp only [touches, Bool.or_eq_true, beq_iff_eq] at ht
    rcases ht with rfl | rfl
    · exact hr.1
    · exact hr.2.1
  exact List.mem_map.2 ⟨(x - 1).toNat, List.mem_range.2 (by omega), by omega⟩
theorem fst_all {G : List Edge} (hG : Fine G) {x y : Int} (h : (x, y) ∈ G) : x ∈ allOf G := (mem_all hG).2 ⟨_, h, by simp [touches]⟩
theorem snd_all {G : List Edge} (hG : Fine G) {x y : Int} (h : (x, y) ∈ G) : y ∈ allOf G := (mem_all hG).2 ⟨_, h, by simp [touches]⟩
theorem far_edge {G : List Edge} (hG : Fine G) {t x y : Int} {d : Nat} (h : (x, y) ∈ G) (hd : farOf G t y = some d) : ∃ d', d' ≤ d + 1 ∧ farOf G t x = some d' := by
  have hb := far_back hd
  have hle : d ≤ G.length := level_bound ⟨y, hb⟩
  have hf := hG.few
  cases hx : farS G t d x with
  | some d' =>
    have h1 := farS_up hx (201 - d)
    rw [show d + (201 - d) = 201 by omega] at h1
    exact ⟨d', by have := farS_le hx; omega, h1⟩
  | none =>
    have h1 := farS_new.2 ⟨hx, (x, y), h, rfl, hb⟩
    exact ⟨d + 1, by omega, far_of (by omega) h1⟩
theorem reach_iff {G : List Edge} (hG : Fine G) {t : Int} (ht : t ∈ allOf G) : ∀ (s : Nat) (z : Int), z ∈ reachS G (allOf G) t s ↔ ∃ d, d ≤ s ∧ farOf G t z = some d := by
  intro s
  induction s with
  | zero =>
    intro z
    simp only [reachS, List.mem_singleton]
    constructor
    · rintro rfl; exact ⟨0, Nat.le_refl _, far_self G z⟩
    · rintro ⟨d, hd, h⟩
      obtain rfl : d = 0 := by omega
      exact far_zero h
  | succ s ih =>
    intro z
    simp only [reachS, List.mem_filter, comesTo, Bool.or_eq_true, decide_eq_true_eq, List.any_eq_true]
    constructor
    · rintro ⟨_, rfl | ⟨j, hj, hzj⟩⟩
      · exact ⟨0, by omega, far_self G z⟩
      · obtain ⟨d, hd, h⟩ := (ih j).1 hj
        obtain ⟨d', h1, h2⟩ := far_edge hG hzj h
        exact ⟨d', by omega, h2⟩
    · rintro ⟨d, hd, h⟩
      cases d with
      | zero =>
        obtain rfl := far_zero h
        exact ⟨ht, .inl rfl⟩
      | succ d =>
        obtain ⟨y, hy, hf⟩ := far_step h
        exact ⟨fst_all hG hy, .inr ⟨y, (ih y).2 ⟨d, by omega, hf⟩, hy⟩⟩
theorem find_rise {xs ys : List Int} (hx : xs.Pairwise (· < ·)) (hy : ys.Pairwise (· < ·)) {p q : Int → Bool} (h : ∀ z, (z ∈ xs ∧ p z = true) ↔ (z ∈ ys ∧ q z = true)) : xs.find? p = ys.find? q := by
  rw [← List.head?_filter, ← List.head?_filter]
  congr 1
  refine rising_same (hx.filter _) (hy.filter _) (fun z => ?_)
  rw [List.mem_filter, List.mem_filter]
  exact h z
theorem mayR_iff {G : List Edge} {near c : List Int} {t at' x : Int} : mayR G near c t at' x = true ↔ (at', x) ∈ G ∧ x ∈ near ∧ x ≠ t ∧ x ∉ c := by
  simp [mayR, and_assoc]
theorem pick_find {G : List Edge} (hG : Fine G) {t at' : Int} {c : List Int} {left : Nat}
    (h1 : ∀ z d, (at', z) ∈ G → farOf G t z = some d → z ≠ t → left + 1 ≤ d) (h2 : ∀ y ∈ c, farOf G t y ≠ some (left + 1)) (ht : t ∈ allOf G) :
    (allOf G).find? (mayR G (reachS G (allOf G) t (left + 1)) c t at') = (nextOf G at').find? (fun n => decide (farOf G t n = some (left + 1))) := by
  refine find_rise (allOf_rise G) (nextOf_rise G at') (fun z => ?_)
  rw [mayR_iff, mem_nextOf hG, reach_iff hG ht, decide_eq_true_eq]
  constructor
  · rintro ⟨_, hz, ⟨d, hd, hf⟩, hzt, _⟩
    have := h1 z d hz hf hzt
    obtain rfl : d = left + 1 := by omega
    exact ⟨hz, hf⟩
  · rintro ⟨hz, hf⟩
    refine ⟨snd_all hG hz, hz, ⟨_, Nat.le_refl _, hf⟩, ?_, fun hc => h2 z hc hf⟩
    rintro rfl
    rw [far_self] at hf; cases hf
theorem goR_eq {G : List Edge} (hG : Fine G) {t : Int} (ht : t ∈ allOf G) : ∀ (left : Nat) (c : List Int) (at' : Int),
    (∀ z d, (at', z) ∈ G → farOf G t z = some d → z ≠ t → left ≤ d) → (∀ y ∈ c, ∀ d, farOf G t y = some d → d = 0 ∨ left < d) →
    (left = 0 → (at', t) ∈ G) → (left ≠ 0 → ∃ z, (at', z) ∈ G ∧ farOf G t z = some left) →
    (goR G (allOf G) t left c at').1 = c ++ walkF G t left at' ∧ ((goR G (allOf G) t left c at').2, t) ∈ G := by
  intro left
  induction left with
  | zero => intro c at' _ _ h3 _; rw [walkF_zero, List.append_nil]; exact ⟨rfl, h3 rfl⟩
  | succ left ih =>
    intro c at' h1 h2 _ h4
    have hpf := pick_find hG (c := c) h1 (fun y hy h => by have := h2 y hy _ h; omega) ht
    obtain ⟨z, hz, hzf⟩ := h4 (by omega)
    cases hf : (nextOf G at').find? (fun n => decide (farOf G t n = some (left + 1))) with
    | none =>
      have := List.find?_eq_none.1 hf z ((mem_nextOf hG).2 hz)
      simp [hzf] at this
    | some x =>
      have hx : (at', x) ∈ G := (mem_nextOf hG).1 (List.mem_of_find?_eq_some hf)
      have hxf : farOf G t x = some (left + 1) := by simpa using List.find?_some hf
      have hx0 : x ≠ 0 := by have := (hG.range hx).2.1; omega
      have hp : pickR (mayR G (reachS G (allOf G) t (left + 1)) c t at') (allOf G) = x := by unfold pickR; rw [hpf, hf]; rfl
      rw [goR_on hp hx0, walkF_some hf]
      have hstep := far_step hxf
      have := ih (c ++ [x]) x (fun y d hy hd _ => by
        obtain ⟨d', h5, h6⟩ := far_edge hG hy hd
        rw [hxf] at h6
        have := Option.some.inj h6
        omega) (fun y hy d hd => by
        rcases List.mem_append.1 hy with hy | hy
        · have := h2 y hy d hd; omega
        · rw [List.mem_singleton.1 hy, hxf] at hd
          have := Option.some.inj hd
          omega) (fun h0 => by
        subst h0
        obtain ⟨y, hy, hfy⟩ := hstep
        rw [far_zero hfy] at hy
        exact hy) (fun _ => hstep)
      rw [List.append_assoc] at this
      exact this
theorem best_small (f : Int → Option Nat) : ∀ (l : List Int) (b : Nat), (∀ x ∈ l, f x ≠ some 0) → (b ≠ 0 → l.foldl (bestStep f) b ≤ b) ∧ ∀ x ∈ l, ∀ d, f x = some d → l.foldl (bestStep f) b ≤ d
  | [], b, _ => ⟨fun _ => Nat.le_refl _, by simp⟩
  | x :: l, b, h => by
    have ih := best_small f l (bestStep f b x) (fun y hy => h y (by simp [hy]))
    rw [List.foldl_cons]
    have hx := h x (by simp)
    cases e : f x with
    | none =>
      have eb : bestStep f b x = b := by unfold bestStep; rw [e]
      rw [eb] at ih ⊢
      refine ⟨ih.1, fun y hy d hd => ?_⟩
      rcases List.mem_cons.1 hy with rfl | hy
      · rw [e] at hd; cases hd
      · exact ih.2 y hy d hd
    | some d0 =>
      have hd0 : d0 ≠ 0 := fun h0 => hx (by rw [e, h0])
      have eb : bestStep f b x = if b = 0 ∨ d0 < b then d0 else b := by unfold bestStep; rw [e]
      have hne : bestStep f b x ≠ 0 := by rw [eb]; split <;> omega
      have h1 : bestStep f b x ≤ d0 := by rw [eb]; split <;> omega
      have h2 := ih.1 hne
      refine ⟨fun hb => Nat.le_trans h2 (by rw [eb]; split <;> omega), fun y hy d hd => ?_⟩
      rcases List.mem_cons.1 hy with rfl | hy
      · rw [e] at hd; cases hd; omega
      · exact ih.2 y hy d hd
theorem try_short {G : List Edge} (hG : Fine G) {t : Int} {size : Nat} (hs : 2 ≤ size) (h : ∀ z d, (t, z) ∈ G → farOf G t z = some d → size ≤ d) : tryR G (allOf G) t size = none := by
  obtain ⟨left, rfl⟩ : ∃ left, size = left + 2 := ⟨size - 2, by omega⟩
  have hp : pickR (mayR G (reachS G (allOf G) t (left + 1)) [t] t t) (allOf G) = 0 := by
    unfold pickR
    rw [List.find?_eq_none.2]
    · rfl
    · intro z _ hz
      obtain ⟨h1, h2, _⟩ := mayR_iff.1 hz
      obtain ⟨d, hd, hf⟩ := (reach_iff hG (fst_all hG h1) _ _).1 h2
      have := h z d h1 hf
      omega
  refine tryR_none ?_
  rw [show left + 2 - 1 = left + 1 by omega, goR_stop hp]
  rintro ⟨h1, _⟩
  simp at h1
theorem findR_spec {G : List Edge} (hG : Fine G) (t : Int) : (findOf G t = [] ∧ ∀ s, 2 ≤ s → tryR G (allOf G) t s = none) ∨
    (2 ≤ (findOf G t).length ∧ (findOf G t).length ≤ (allOf G).length ∧ (∀ s, 2 ≤ s → s < (findOf G t).length → tryR G (allOf G) t s = none) ∧ tryR G (allOf G) t (findOf G t).length = some (findOf G t)) := by
  have h0 : ∀ x ∈ nextOf G t, farOf G t x ≠ some 0 := fun x hx h => by
    have h1 := (mem_nextOf hG).1 hx
    exact (hG.range h1).2.2 (far_zero h).symm
  have hmin := best_min (G := G) t (farOf G t) (nextOf G t) 0 h0
  have hsm := best_small (farOf G t) (nextOf G t) 0 h0
  by_cases hb : bestOf G t = 0
  · refine .inl ⟨by unfold findOf; rw [if_pos hb], fun s hs => try_short hG hs (fun z d hz hd => ?_)⟩
    have := (hmin.1.1 hb).2 z ((mem_nextOf hG).2 hz)
    rw [hd] at this; cases this
  · have e := findOf_some hb
    have hx : ∃ x ∈ nextOf G t, farOf G t x = some (bestOf G t) := hmin.2.resolve_left hb
    obtain ⟨x, hx, hf⟩ := hx
    have hxG := (mem_nextOf hG).1 hx
    have hbest : ∀ z d, (t, z) ∈ G → farOf G t z = some d → bestOf G t ≤ d := fun z d hz hd => hsm.2 z ((mem_nextOf hG).2 hz) d hd
    have hwl : (walkF G t (bestOf G t) t).length = bestOf G t := (walk_path hG t (bestOf G t) t (.inr ⟨x, hxG, hf⟩)).1
    have hlen : (findOf G t).length = bestOf G t + 1 := by rw [e, List.length_cons, hwl]
    have hgo := goR_eq hG (fst_all hG hxG) (bestOf G t) [t] t (fun z d hz hd _ => hbest z d hz hd) (fun y hy d hd => by
      rw [List.mem_singleton.1 hy, far_self] at hd
      have := Option.some.inj hd
      omega) (fun h => absurd h hb) (fun _ => ⟨x, hxG, hf⟩)
    refine .inr ⟨by omega, ?_, fun s hs hlt => try_short hG hs (fun z d hz hd => ?_), ?_⟩
    · refine nodup_sub_length ?_ (fun y hy => (mem_all hG).2 (findOf_touch hG hy))
      refine List.pairwise_iff_getElem.2 (fun i j hi hj hij he => ?_)
      obtain ⟨a, b, h1, _, _, h2, _⟩ := cycle_ok hG t _ rfl j hj
      refine h2 i hij ?_
      rw [List.getElem?_eq_getElem hj] at h1
      rw [List.getElem?_eq_getElem hi, he, h1]
    · have := hbest z d hz hd; omega
    · have hc : (goR G (allOf G) t (bestOf G t) [t] t).1 = findOf G t := by rw [hgo.1, e]; exact List.singleton_append
      rw [← hc]
      have := tryR_some (G := G) (all := allOf G) (t := t) (size := bestOf G t + 1) (by rw [Nat.add_sub_cancel, hc, hlen]; exact ⟨rfl, hgo.2⟩)
      rw [Nat.add_sub_cancel] at this
      rw [hc, hlen, this, hc]
end Go.Proofs.Ytkfmgeddckcnkaa
