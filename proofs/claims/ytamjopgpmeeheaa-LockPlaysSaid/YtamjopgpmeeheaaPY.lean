/- The walk of LockPlays (6). -/
import Derived.Test.YtamjopgpmeeheaaFE
import Derived.Test.YtamjopgpmeeheaaRT
import Derived.Test.YtamjopgpmeeheaaIT
namespace Go.Proofs.Ytamjopgpmeeheaa
open Go.RowKit
set_option linter.unusedVariables false

theorem rising_same : ∀ {l m : List Int}, l.Pairwise (· < ·) → m.Pairwise (· < ·) → (∀ x, x ∈ l ↔ x ∈ m) → l = m := fun {l} => by
  induction l with
  | nil =>
    intro m _ _ h
    cases m with
    | nil => rfl
    | cons a r => have := (h a).2 (by simp); cases this
  | cons a l ih =>
    intro m hl hm h
    cases m with
    | nil => have := (h a).1 (by simp); cases this
    | cons b m =>
      obtain ⟨l1, l2⟩ := List.pairwise_cons.1 hl
      obtain ⟨m1, m2⟩ := List.pairwise_cons.1 hm
      have hab : a = b := by
        have ha := (h a).1 (by simp)
        have hb := (h b).2 (by simp)
        rcases List.mem_cons.1 ha with e | ha
        · exact e
        · rcases List.mem_cons.1 hb with e | hb
          · exact e.symm
          · have := m1 a ha; have := l1 b hb; omega
      subst hab
      rw [ih l2 m2 (fun x => ?_)]
      have hx := h x
      simp only [List.mem_cons] at hx
      constructor
      · intro hxl
        have := l1 x hxl
        exact (hx.1 (.inr hxl)).resolve_left (by omega)
      · intro hxm
        have := m1 x hxm
        exact (hx.2 (.inr hxm)).resolve_left (by omega)
theorem takeWhile_lift (nd t : Int) (q : List W2) : (q.map (lift3 nd)).takeWhile (fun g => g.1 != t) = (q.takeWhile (fun y => y.1 != t)).map (lift3 nd) := by
  rw [List.takeWhile_map]; rfl
theorem takeWhile_ne {t : Int} : ∀ {q : List W2}, ∀ x ∈ q.takeWhile (fun y => y.1 != t), x.1 ≠ t ∧ x ∈ q
  | [], x, h => by cases h
  | a :: q, x, h => by
    by_cases ha : a.1 = t
    · rw [List.takeWhile_cons_of_neg (by simp [ha])] at h; cases h
    · rw [List.takeWhile_cons_of_pos (by simp [ha])] at h
      rcases List.mem_cons.1 h with rfl | h
      · exact ⟨ha, by simp⟩
      · obtain ⟨h1, h2⟩ := takeWhile_ne x h
        exact ⟨h1, by simp [h2]⟩
/-- for whom one waits: the program's answer is the reference's -/
theorem waits_same {T : Tb} {hd wt : List G3} (hr : Rel T hd wt) (hT : TbOk T) {t : Int} {zs zr : List Int} (h : WaitsOf T t zs) (h' : (∃ nd m, wantG wt t = some (t, nd, m) ∧ zr = waitsG (atG hd nd) (atG wt nd) t m 1000) ∨ (wantG wt t = none ∧ zr = [])) : zs = zr := by
  obtain ⟨hz, ⟨id, mo, hin, hall⟩ | ⟨hno, rfl⟩⟩ := h
  · have hw := hr.want_is hT hin
    rcases h' with ⟨nd, m, hw', rfl⟩ | ⟨hw', -⟩
    · rw [hw] at hw'
      simp only [Option.some.injEq, Prod.mk.injEq, true_and] at hw'
      obtain ⟨rfl, rfl⟩ := hw'
      obtain ⟨w1, w2⟩ := waitsG_mem (atG hd id) (atG wt id) t mo 1000
      refine rising_same hz w1 (fun x => ?_)
      rw [hall, w2]
      have hb : blockG (atG hd id) (atG wt id) t mo x = true ↔ inWay (T id) t mo x ∨ x ∈ aheadQ (T id) t := by
        unfold blockG
        rw [hr.held, hr.wait, takeWhile_lift, Bool.and_eq_true, Bool.or_eq_true, List.any_eq_true, List.any_eq_true, bne_iff_ne]
        constructor
        · rintro ⟨⟨g, hg, hp⟩ | ⟨g, hg, hp⟩, hne⟩
          · obtain ⟨y, hy, rfl⟩ := List.mem_map.1 hg
            simp only [lift3, Bool.and_eq_true, beq_iff_eq, Bool.not_eq_true'] at hp
            refine .inl ⟨y.2, ?_, hne, hp.2⟩
            rw [← hp.1]; exact mem_findH (hT.1 id).rise hy
          · obtain ⟨y, hy, rfl⟩ := List.mem_map.1 hg
            simp only [lift3, beq_iff_eq] at hp
            exact .inr (List.mem_map.2 ⟨y, hy, hp⟩)
        · rintro (⟨m', h1, h2, h3⟩ | h)
          · exact ⟨.inl ⟨lift3 id (x, m'), List.mem_map_of_mem (findH_mem h1), by simp [lift3, h3]⟩, h2⟩
          · obtain ⟨y, hy, rfl⟩ := List.mem_map.1 h
            exact ⟨.inr ⟨lift3 id y, List.mem_map_of_mem hy, by simp [lift3]⟩, (takeWhile_ne y hy).1⟩
      rw [hb]
      refine ⟨fun h => ⟨?_, ?_, h⟩, fun h => h.2.2⟩
      all_goals
        rcases h with ⟨m', h1, _, _⟩ | h
        · have := ((hT.1 id).held _ (findH_mem h1)).1
          simp only at this
          omega
        · obtain ⟨y, hy, rfl⟩ := List.mem_map.1 h
          have := ((hT.1 id).wait y (takeWhile_ne y hy).2).1
          omega
    · rw [hw] at hw'; cases hw'
  · rcases h' with ⟨nd, m, hw', rfl⟩ | ⟨hw', rfl⟩
    · obtain ⟨h1, h2⟩ := want_some hw'
      exact absurd (hr.inWait.1 h1) (hno nd m)
    · rfl
/-- where one waits, both say the same -/
theorem Two.wants {B : Nat} {w : World} {s m : Nat} {M R F : Nat → Prop} {f : Int → Option Value} {T : Tb} {c : Nat} {s2 : Nat} {hd wt : List G3} (h : Two B w s m M R F f T c s2 hd wt) (hT : TbOk T) (hr : Rel T hd wt) (t : Int) :
    ∃ a b d wb, (∀ w', Below w.heap.size w w' → Calls Try.prog 14 #[.pointer (some ⟨s, 0, none⟩), iv t] w' fun e w'' => e = .returned (.tuple #[.agg #[iv a, iv b, iv d], .bool wb]) ∧ Below w'.heap.size w' w'') ∧
      (∀ w', Below w.heap.size w w' → Calls Try.prog 23 #[.pointer (some ⟨s2, 0, none⟩), iv t] w' fun e w'' => e = .returned (.tuple #[.agg #[iv a, iv b, iv d], .bool wb]) ∧ Below w'.heap.size w' w'') := by
  cases hw : wantG wt t with
  | none =>
    refine ⟨0, 0, 0, false, fun w' hb => ?_, fun w' hb => ?_⟩
    · have h2 := h.keepNew hb
      refine (wants_any h2.tab (fun k hk => (h2.hM k hk).2) (fun k hk => (h2.hR k hk).2.1) t).mono ?_
      rintro e w'' ⟨⟨id, mo, hin, rfl⟩ | ⟨-, rfl⟩, hb2⟩
      · have := hr.want_is hT hin
        rw [hw] at this; cases this
      · exact ⟨rfl, hb2⟩
    · have h2 := h.keepNew hb
      refine (rwants_any h2.rt (fun k hk => (h2.hF k hk).2.1) t).mono ?_
      rintro e w'' ⟨⟨g, hg, rfl⟩ | ⟨-, rfl⟩, hb2⟩
      · rw [hw] at hg; cases hg
      · exact ⟨rfl, hb2⟩
  | some g =>
    obtain ⟨h1, h2⟩ := want_some hw
    refine ⟨g.1, g.2.1, g.2.2, true, fun w' hb => ?_, fun w' hb => ?_⟩
    · have h3 := h.keepNew hb
      refine (wants_any h3.tab (fun k hk => (h3.hM k hk).2) (fun k hk => (h3.hR k hk).2.1) t).mono ?_
      rintro e w'' ⟨⟨id, mo, hin, rfl⟩ | ⟨hno, rfl⟩, hb2⟩
      · have := hr.want_is hT hin
        rw [hw] at this
        cases this
        exact ⟨rfl, hb2⟩
      · have := hr.inWait.1 h1
        rw [h2] at this
        exact absurd this (hno _ _)
    · have h3 := h.keepNew hb
      refine (rwants_any h3.rt (fun k hk => (h3.hF k hk).2.1) t).mono ?_
      rintro e w'' ⟨⟨g', hg, rfl⟩ | ⟨hn, rfl⟩, hb2⟩
      · rw [hw] at hg; cases hg
        exact ⟨rfl, hb2⟩
      · rw [hw] at hn; cases hn
/-- what both tell of a node -/
theorem Two.reads {B : Nat} {w : World} {s m : Nat} {M R F : Nat → Prop} {f : Int → Option Value} {T : Tb} {c : Nat} {s2 : Nat} {hd wt : List G3} (h : Two B w s m M R F f T c s2 hd wt) (hT : TbOk T) (hr : Rel T hd wt) (hl : hd.length + wt.length ≤ 1000) (t nd : Int) :
    ∃ (hv : Int) (L1 L2 : List G3), (∀ w', Below w.heap.size w w' → Calls Try.prog 18 #[.pointer (some ⟨s, 0, none⟩), iv t, iv nd] w' fun e w'' => e = .returned (.int .i64 hv) ∧ Below w'.heap.size w' w'') ∧
      (∀ w', Below w.heap.size w w' → Calls Try.prog 19 #[.pointer (some ⟨s2, 0, none⟩), iv t, iv nd] w' fun e w'' => e = .returned (.int .i64 hv) ∧ Below w'.heap.size w' w'') ∧
      (∀ w', Below w.heap.size w w' → Calls Try.prog 15 #[.pointer (some ⟨s, 0, none⟩), iv nd] w' fun e w'' => (∃ v, e = .returned v ∧ TrisIn (fun k => w'.heap.size ≤ k ∧ k < w''.heap.size) w'' v L1) ∧ Below w'.heap.size w' w'') ∧
      (∀ w', Below w.heap.size w w' → Calls Try.prog 21 #[.pointer (some ⟨s2, 0, none⟩), iv nd] w' fun e w'' => (∃ v, e = .returned v ∧ TrisIn (fun k => w'.heap.size ≤ k ∧ k < w''.heap.size) w'' v L1) ∧ Below w'.heap.size w' w'') ∧
      (∀ w', Below w.heap.size w w' → Calls Try.prog 11 #[.pointer (some ⟨s, 0, none⟩), iv nd] w' fun e w'' => (∃ v, e = .returned v ∧ TrisIn (fun k => w'.heap.size ≤ k ∧ k < w''.heap.size) w'' v L2) ∧ Below w'.heap.size w' w'') ∧
      (∀ w', Below w.heap.size w w' → Calls Try.prog 22 #[.pointer (some ⟨s2, 0, none⟩), iv nd] w' fun e w'' => (∃ v, e = .returned v ∧ TrisIn (fun k => w'.heap.size ≤ k ∧ k < w''.heap.size) w'' v L2) ∧ Below w'.heap.size w' w'') := by
  refine ⟨hasI (T nd).hs t, atG hd nd, atG wt nd, fun w' hb => ?_, fun w' hb => ?_, fun w' hb => ?_, fun w' hb => ?_, fun w' hb => ?_, fun w' hb => ?_⟩
  · have h2 := h.keepNew hb
    exact held_any h2.tab (fun k hk => (h2.hM k hk).2) t nd
  · have h2 := h.keepNew hb
    have := rhas_any h2.rt (fun k hk => (h2.hF k hk).2.1) t nd
    rw [hr.has] at this
    exact this
  · have h2 := h.keepNew hb
    rw [hr.held]
    exact holders_any h2.tab (fun k hk => (h2.hM k hk).2) hT.1 nd
  · have h2 := h.keepNew hb
    exact rholders_any h2.rt (fun k hk => (h2.hF k hk).2.1) (by omega) nd
  · have h2 := h.keepNew hb
    rw [hr.wait]
    exact queue_any h2.tab (fun k hk => (h2.hM k hk).2) (fun k hk => (h2.hR k hk).2.1) nd (hT.1 nd).few_q
  · have h2 := h.keepNew hb
    exact rqueue_any h2.rt (fun k hk => (h2.hF k hk).2.1) (by omega) nd
theorem same_self {w1 w2 : World} {A : Nat} {v1 v2 : Value} {l : List G3} (h1 : TrisIn (fun k => A ≤ k ∧ k < w1.heap.size) w1 v1 l) (h2 : TrisIn (fun k => w1.heap.size ≤ k ∧ k < w2.heap.size) w2 v2 l) (hb : Below w1.heap.size w1 w2) :
    Calls Try.prog 20 #[v1, v2] w2 fun e w' => e = .returned (.bool true) ∧ Below w2.heap.size w2 w' := by
  have := same_any (F := fun k => k < w2.heap.size) ((h1.keep (fun k hk => hb.block k hk.2)).mono (fun k hk => Nat.lt_of_lt_of_le hk.2 hb.size)) (h2.mono (fun k hk => hk.2)) (fun k hk => hk)
  rw [decide_eq_true rfl] at this
  exact this

theorem ints_self {w1 w2 : World} {A : Nat} {v1 v2 : Value} {l m : List Int} (h1 : IntsIn (fun k => A ≤ k ∧ k < w1.heap.size) w1 v1 l) (h2 : IntsIn (fun k => w1.heap.size ≤ k ∧ k < w2.heap.size) w2 v2 m) (hb : Below w1.heap.size w1 w2) (e : l = m) :
    Calls Try.prog 24 #[v1, v2] w2 fun e w' => e = .returned (.bool true) ∧ ∃ n, w2.drewN n = w' := by
  have := ints_any l m _ _ v1 v2 w2 (h1.keep (fun k hk => hb.block k hk.2)) h2
  rw [decide_eq_true e] at this
  exact this

set_option maxRecDepth 100000 in
set_option maxHeartbeats 16000000 in
theorem lockPlays_any {F : Nat → Prop} {w : World} {v : Value} {l : List St4} (h : StIn F w v l) (hF : ∀ k, F k → k < w.heap.size) :
    Calls Try.prog 6 #[v] w fun e w' => e = .returned (.bool true) ∧ Below w.heap.size w w' := by
  obtain ⟨av, cv, rfl, hl1, hl2, hcells⟩ := h
  have HC := Lib.hid hcells
  have HN := Lib.hid (new_any w)
  have hne := neq_grant
  clear hcells
  unfold maxLen at hl2
  go_enter Try.func6, Try.ntmps6
  go_wp2_with (go_at_call 8; refine HN.out.mono ?_; rintro e w1 ⟨⟨p, rfl, ⟨M, R, s, m, f, rfl, hMA, hRA, hRM, htab⟩⟩, hb1⟩)
  have hb0 : Below w1.heap.size w1 (w1.alloc (.cells #[.slice none 0 0, .slice none 0 0] 39)) := (Below.refl _ _).alloc (Nat.le_refl _) _
  have htwo : Two w.heap.size (w1.alloc (.cells #[.slice none 0 0, .slice none 0 0] 39)) s m M R (fun _ => False) f (fun _ => Nd.nil) 0 w1.heap.size [] [] :=
    ⟨htab.keepNew (fun k hk => (hMA k hk).2) (fun k hk => (hRA k hk).2) hb0, fun k hk => ⟨(hMA k hk).1, Nat.lt_of_lt_of_le (hMA k hk).2 hb0.size⟩, fun k hk => ⟨(hRA k hk).1, Nat.lt_of_lt_of_le (hRA k hk).2 hb0.size, hRM k hk, fun e => by have := (hRA k hk).2; omega⟩,
      ⟨_, _, Go.heap_alloc_new _ _, trisIn_nil _ _, trisIn_nil _ _⟩, fun k hk => hk.elim, fun hm => by have := (hMA _ hm).2; omega, hb1.size⟩
  have HTWO := Lib.hid htwo
  have HB1 := Lib.hid (hb1.trans (hb0.mono hb1.size))
  have hs2w : w.heap.size ≤ w1.heap.size := hb1.size
  clear hMA hRA hRM htab hb1 hb0 htwo
  go_loopw [5] (fun i wr => ∃ k : Nat, k ≤ 60 ∧ k ≤ l.length ∧ i = .int .i64 k ∧ (∃ M R F f T hd wt, Two w.heap.size wr s m M R F f T k w1.heap.size hd wt ∧ TbOk T ∧ Rel T hd wt ∧ hd.length + wt.length ≤ k) ∧ Below w.heap.size w wr) (fun i _ => 60 - (Lib.intOf i).toNat)
  case atStart => exact ⟨0, by omega, by omega, rfl, ⟨M, R, _, f, _, [], [], HTWO.out, tbOk_nil, rel_nil, Nat.le_refl _⟩, HB1.out⟩
  case round =>
    obtain ⟨k, hk60, hkl, rfl, ⟨M0, R0, F0, f0, T0, hd0, wt0, htwo, hT, hrel, hfew⟩, hbr⟩ := hrel
    have hsr := hbr.size
    have HTWO1 := Lib.hid htwo
    have HT0 := Lib.hid hT
    have HREL := Lib.hid hrel
    have HBR := Lib.hid hbr
    clear htwo hT hrel hbr
    go_upto_region 4 with fail
    obtain ⟨tb, htb⟩ : ∃ tb, decide (k < l.length ∧ k < 60) = tb := ⟨_, rfl⟩
    go_cut [21] from 14 to 105 (fun c wx => c = .bool tb ∧ wr = wx)
    case first =>
      by_cases h1 : k < l.length
      · have kd1 : decide ((k : Int) < (l.length : Int)) = true := decide_eq_true (by omega)
        by_cases h2 : k < 60
        · have kd2 : decide ((k : Int) < 60) = true := decide_eq_true (by omega)
          have htb' : tb = true := by rw [← htb]; exact decide_eq_true ⟨h1, h2⟩
          have HTB := Lib.hid htb'
          clear htb htb'
          go_wp2
          go_meet
          exact ⟨by rw [HTB.out], rfl⟩
        · have kd2 : decide ((k : Int) < 60) = false := decide_eq_false (by omega)
          have htb' : tb = false := by rw [← htb]; exact decide_eq_false (fun h => h2 h.2)
          have HTB := Lib.hid htb'
          clear htb htb'
          go_wp2
          go_meet
          exact ⟨by rw [HTB.out], rfl⟩
      · have kd1 : decide ((k : Int) < (l.length : Int)) = false := decide_eq_false (by omega)
        have htb' : tb = false := by rw [← htb]; exact decide_eq_false (fun h => h1 h.1)
        have HTB := Lib.hid htb'
        clear htb htb'
        go_wp2
        go_meet
        exact ⟨by rw [HTB.out], rfl⟩
    case rest =>
      obtain ⟨rfl, rfl⟩ := hcut
      cases tb with
      | false =>
        clear htb
        go_wp2_with (go_at_call 10; refine (works_any _).mono ?_; rintro e w7 ⟨rfl, hb7⟩)
        go_ret
        exact ⟨rfl, HBR.out.trans (hb7.mono hsr)⟩
      | true =>
        obtain ⟨hlt1, hlt2⟩ := of_decide_eq_true htb
        obtain ⟨⟨kd, t, nd, mo⟩, he⟩ : ∃ e, l[k]? = some e := ⟨_, List.getElem?_eq_getElem hlt1⟩
        rcases HC.out with h | ⟨g, off, rfl, hg, hcl⟩
        · rw [h] at hlt1; simp at hlt1
        have hgl := hF g hg
        obtain ⟨d0, d1, d2, d3⟩ := hcl k _ he
        have y0 := (HBR.out.cell (p := ⟨g, off + k * 4, none⟩) hgl).trans d0
        have y1 := (HBR.out.cell (p := ⟨g, off + k * 4 + 1, none⟩) hgl).trans d1
        have y2 := (HBR.out.cell (p := ⟨g, off + k * 4 + 2, none⟩) hgl).trans d2
        have y3 := (HBR.out.cell (p := ⟨g, off + k * 4 + 3, none⟩) hgl).trans d3
        simp only at y0 y1 y2 y3
        have k0 : (0 : Int) ≤ (k : Int) := by omega
        have k1 : (k : Int) < (l.length : Int) := by omega
        clear d0 d1 d2 d3 hcl he htb
        go_upto_region 7 with fail
        have hbW : Below wr.heap.size wr (wr.alloc (.cells #[iv kd, iv t, iv nd, iv mo] 30)) := (Below.refl _ _).alloc (Nat.le_refl _) _
        have hbn := Go.heap_alloc_new wr (.cells #[iv kd, iv t, iv nd, iv mo] 30)
        obtain ⟨W, hW⟩ : ∃ W, wr.alloc (.cells #[iv kd, iv t, iv nd, iv mo] 30) = W := ⟨_, rfl⟩
        have hlW : wr.heap.size < W.heap.size := by rw [← hW]; simp
        rw [hW] at hbW hbn ⊢
        have htW := HTWO1.out.keepNew hbW
        have hs2l := HTWO1.out.s2l
        have hnM : ¬ M0 wr.heap.size := fun hm => by have := (HTWO1.out.hM _ hm).2; omega
        have hss : ∀ w', Below W.heap.size W w' → w'.cell? ⟨wr.heap.size, 0, none⟩ = some (iv kd) ∧ w'.cell? ⟨wr.heap.size, 1, none⟩ = some (iv t) ∧ w'.cell? ⟨wr.heap.size, 2, none⟩ = some (iv nd) ∧ w'.cell? ⟨wr.heap.size, 3, none⟩ = some (iv mo) := fun w' h => box4 ((h.block wr.heap.size hlW).trans hbn)
        have hss2 : ∀ w2, Chg (fun k => M0 k ∨ k = w1.heap.size) W.drew w2 → ∀ w', Below w2.heap.size w2 w' → w'.cell? ⟨wr.heap.size, 0, none⟩ = some (iv kd) ∧ w'.cell? ⟨wr.heap.size, 1, none⟩ = some (iv t) ∧ w'.cell? ⟨wr.heap.size, 2, none⟩ = some (iv nd) ∧ w'.cell? ⟨wr.heap.size, 3, none⟩ = some (iv mo) := fun w2 hc w' h => box4 ((h.block wr.heap.size (Nat.lt_of_lt_of_le hlW hc.size)).trans ((hc.block wr.heap.size hlW (fun h => h.elim hnM (fun e => by omega))).trans hbn))
        have hchw : ∀ w2, Chg (fun k => M0 k ∨ k = w1.heap.size) W.drew w2 → Below w.heap.size w w2 := fun w2 hc => below_of_chg (((chg_below (HBR.out.trans (hbW.mono hsr))).trans (chg_drewN W 1)).andThen hc (fun k _ h => h.elim (fun h => (HTWO1.out.hM k h).1) (fun h => by rw [h]; exact hs2w)))
        have hwW : w.heap.size ≤ W.drew.heap.size := by have := hbW.size; simp; omega
        have H12 := Lib.hid (step_any (htW.keepNew (Below.refl _ _).drew) hwW HT0.out (by omega) (by omega) (HREL.out.nonzero HT0.out) kd t nd mo)
        have HSS := Lib.hid hss
        have HSS2 := Lib.hid hss2
        have HCHW := Lib.hid hchw
        have hcur0 : Below W.heap.size W W.drew := (Below.refl _ _).drew
        clear hbW hbn hW htW hss hss2 hchw y0 y1 y2 y3
        go_region_held3 (fun w' => w'.cell? ⟨wr.heap.size, 0, none⟩ = some (iv kd) ∧ w'.cell? ⟨wr.heap.size, 1, none⟩ = some (iv t) ∧ w'.cell? ⟨wr.heap.size, 2, none⟩ = some (iv nd) ∧ w'.cell? ⟨wr.heap.size, 3, none⟩ = some (iv mo))
          (first | exact HSS3.out _ hcur | exact HSS.out _ hcur0)
          (first
            | (go_at_call 20; refine HS2.out.mono ?_; rintro e w10 ⟨rfl, hb10⟩; have hcur := hcur.trans (hb10.mono hcur.size); clear hb10)
            | (go_at_call 22; refine (R22.out _ hcur).mono ?_; rintro e w9 ⟨⟨v9, rfl, h9⟩, hb9⟩; have HS2 := Lib.hid (same_self H8.out h9 hb9); obtain ⟨a9, c9, rfl, -⟩ := h9; have hcur := hcur.trans (hb9.mono hcur.size); clear hb9)
            | (go_at_call 11; refine (R11.out _ hcur).mono ?_; rintro e w8 ⟨⟨v8, rfl, h8⟩, hb8⟩; have H8 := Lib.hid h8; obtain ⟨a8, c8, rfl, -⟩ := h8; have hcur := hcur.trans (hb8.mono hcur.size); clear hb8)
            | (go_at_call 20; refine HS1.out.mono ?_; rintro e w7 ⟨rfl, hb7⟩; have hcur := hcur.trans (hb7.mono hcur.size); clear hb7)
            | (go_at_call 21; refine (R21.out _ hcur).mono ?_; rintro e w6 ⟨⟨v6, rfl, h6⟩, hb6⟩; have HS1 := Lib.hid (same_self H5.out h6 hb6); obtain ⟨a6, c6, rfl, -⟩ := h6; have hcur := hcur.trans (hb6.mono hcur.size); clear hb6)
            | (go_at_call 15; refine (R15.out _ hcur).mono ?_; rintro e w5 ⟨⟨v5, rfl, h5⟩, hb5⟩; have H5 := Lib.hid h5; obtain ⟨a5, c5, rfl, -⟩ := h5; have hcur := hcur.trans (hb5.mono hcur.size); clear hb5)
            | (go_at_call 19; refine (R19.out _ hcur).mono ?_; rintro e w4 ⟨rfl, hb4⟩; have hcur := hcur.trans (hb4.mono hcur.size); clear hb4)
            | (go_at_call 18; refine (R18.out _ hcur).mono ?_; rintro e w3 ⟨rfl, hb3⟩; have hcur := hcur.trans (hb3.mono hcur.size); clear hb3)
            | (go_at_call 12; refine H12.out.mono ?_; rintro e w2 ⟨bb, M', R', F', f', T', hd', wt', rfl, htw, hst, hre, hfw, hch⟩; obtain ⟨rfl, hr'⟩ := hre HREL.out; have HT' := Lib.hid (tbOk_step HT0.out hst); have HR' := Lib.hid hr'; have HTW := Lib.hid htw; have HSS3 := Lib.hid (HSS2.out w2 hch); have HBW := Lib.hid (HCHW.out w2 hch); have HFW := Lib.hid hfw; obtain ⟨hv, L1, L2, r18, r19, r15, r21, r11, r22⟩ := htw.reads HT'.out hr' (by omega) t nd; have R18 := Lib.hid r18; have R19 := Lib.hid r19; have R15 := Lib.hid r15; have R21 := Lib.hid r21; have R11 := Lib.hid r11; have R22 := Lib.hid r22; have hcur : Below w2.heap.size w2 w2 := Below.refl _ _; clear hst hre hr' htw hfw hch r18 r19 r15 r21 r11 r22 hcur0))
        have HCUR := Lib.hid hcur
        have hz1 := (HSS3.out _ hcur).2.1
        obtain ⟨qa, qb, qd, wb, h14, h23⟩ := HTW.out.wants HT'.out HR'.out t
        have H14 := Lib.hid h14
        have H23 := Lib.hid h23
        clear hcur h14 h23
        go_wp2_with fail
        refine (H14.out _ HCUR.out).mono ?_
        rintro e w11 ⟨rfl, hb11⟩
        have hc11 := (HCUR.out.trans (hb11.mono HCUR.out.size)).alloc (Nat.le_trans HCUR.out.size hb11.size) (.cells #[iv qa, iv qb, iv qd] 34)
        have hz2 := (HSS3.out _ hc11).2.1
        have hbx := Go.heap_alloc_new w11 (.cells #[iv qa, iv qb, iv qd] 34)
        have HC11 := Lib.hid hc11
        have HBX := Lib.hid hbx
        clear hb11 hc11 hz1 hbx
        go_wp2_with fail
        refine (H23.out _ HC11.out).mono ?_
        rintro e w12 ⟨rfl, hb12⟩
        go_upto_region 11 with fail
        have hc12 := (HC11.out.trans (hb12.mono HC11.out.size)).alloc (Nat.le_trans HC11.out.size hb12.size) (.cells #[iv qa, iv qb, iv qd] 34)
        have hby := Go.heap_alloc_new w12 (.cells #[iv qa, iv qb, iv qd] 34)
        obtain ⟨V, hV⟩ : ∃ V, w12.alloc (.cells #[iv qa, iv qb, iv qd] 34) = V := ⟨_, rfl⟩
        have hlV : w12.heap.size < V.heap.size := by rw [← hV]; simp
        have hs12 := hb12.size
        simp only [World.size_alloc] at hs12
        have hbx2 : V.heap[w11.heap.size]? = some (.cells #[iv qa, iv qb, iv qd] 34) := by
          rw [← hV]
          exact (Go.heap_alloc_old _ _ (by omega)).trans ((hb12.block w11.heap.size (by simp)).trans HBX.out)
        rw [hV] at hc12 hby ⊢
        have hss4 : ∀ w', Below V.heap.size V w' → w'.cell? ⟨w11.heap.size, 0, none⟩ = some (iv qa) ∧ w'.cell? ⟨w11.heap.size, 1, none⟩ = some (iv qb) ∧ w'.cell? ⟨w11.heap.size, 2, none⟩ = some (iv qd) ∧ w'.cell? ⟨w12.heap.size, 0, none⟩ = some (iv qa) ∧ w'.cell? ⟨w12.heap.size, 1, none⟩ = some (iv qb) ∧ w'.cell? ⟨w12.heap.size, 2, none⟩ = some (iv qd) ∧ w'.cell? ⟨wr.heap.size, 1, none⟩ = some (iv t) := fun w' h => by
          obtain ⟨u0, u1, u2⟩ := box3 ((h.block w11.heap.size (by omega)).trans hbx2)
          obtain ⟨v0, v1, v2⟩ := box3 ((h.block w12.heap.size (by omega)).trans hby)
          exact ⟨u0, u1, u2, v0, v1, v2, (HSS3.out _ (hc12.trans (h.mono hc12.size))).2.1⟩
        have h17 : ∀ w', Below V.heap.size V w' → Calls Try.prog 17 #[.pointer (some ⟨s, 0, none⟩), iv t] w' fun e w'' => (∃ v zs, e = .returned v ∧ IntsIn (fun k => w'.heap.size ≤ k ∧ k < w''.heap.size) w'' v zs ∧ WaitsOf T' t zs) ∧ Below w'.heap.size w' w'' := fun w' h => by
          have h2 := HTW.out.keepNew (hc12.trans (h.mono hc12.size))
          exact waits_any h2.tab (fun k hk => (h2.hM k hk).2) (fun k hk => (h2.hR k hk).2.1) HT'.out.1 t
        have h25 : ∀ w', Below V.heap.size V w' → Calls Try.prog 25 #[.pointer (some ⟨w1.heap.size, 0, none⟩), iv t] w' fun e w'' => (∃ v zs, e = .returned v ∧ IntsIn (fun k => w'.heap.size ≤ k ∧ k < w''.heap.size) w'' v zs ∧ ((∃ nd m, wantG wt' t = some (t, nd, m) ∧ zs = waitsG (atG hd' nd) (atG wt' nd) t m 1000) ∨ (wantG wt' t = none ∧ zs = []))) ∧ Below w'.heap.size w' w'' := fun w' h => by
          have h2 := HTW.out.keepNew (hc12.trans (h.mono hc12.size))
          have := HFW.out
          exact rwaits_any h2.rt (fun k hk => ⟨(h2.hF k hk).2.1, (h2.hF k hk).2.2.2⟩) (by omega) t
        have HSS4 := Lib.hid hss4
        have H17 := Lib.hid h17
        have H25 := Lib.hid h25
        have HC12 := Lib.hid hc12
        have hcur : Below V.heap.size V V.drew := (Below.refl _ _).drew
        clear hb12 hc12 hby hV hbx2 hss4 h17 h25 hz2
        cases wb
        all_goals
          go_region_held3 (fun w' => w'.cell? ⟨w11.heap.size, 0, none⟩ = some (iv qa) ∧ w'.cell? ⟨w11.heap.size, 1, none⟩ = some (iv qb) ∧ w'.cell? ⟨w11.heap.size, 2, none⟩ = some (iv qd) ∧ w'.cell? ⟨w12.heap.size, 0, none⟩ = some (iv qa) ∧ w'.cell? ⟨w12.heap.size, 1, none⟩ = some (iv qb) ∧ w'.cell? ⟨w12.heap.size, 2, none⟩ = some (iv qd) ∧ w'.cell? ⟨wr.heap.size, 1, none⟩ = some (iv t))
            (exact HSS4.out _ hcur)
            (first
              | (go_at_call 24; refine HI.out.mono ?_; rintro e w15 ⟨rfl, n15, rfl⟩; have hcur := below_drewN hcur n15)
              | (go_at_call 25; refine (H25.out _ hcur).mono ?_; rintro e w14 ⟨⟨v14, zr, rfl, h14, hr14⟩, hb14⟩; have HI := Lib.hid (ints_self H13.out h14 hb14 (waits_same HR'.out HT'.out HW13.out hr14)); obtain ⟨a14, c14, rfl, -⟩ := h14; have hcur := hcur.trans (hb14.mono hcur.size); clear hb14)
              | (go_at_call 17; refine (H17.out _ hcur).mono ?_; rintro e w13 ⟨⟨v13, zs, rfl, h13, hw13⟩, hb13⟩; have H13 := Lib.hid h13; have HW13 := Lib.hid hw13; obtain ⟨a13, c13, rfl, -⟩ := h13; have hcur := hcur.trans (hb13.mono hcur.size); clear hb13))
          have HCV := Lib.hid (HC12.out.trans (hcur.mono HC12.out.size))
          clear hcur
          go_wp2
          go_roundw
          case rel => exact ⟨k + 1, by omega, by omega, by go_num, ⟨M', R', F', f', T', hd', wt', HTW.out.keepNew HCV.out, HT'.out, HR'.out, by have := HFW.out; omega⟩, HBW.out.trans (HCV.out.mono HBW.out.size)⟩
          case measure => simp [Lib.intOf]; omega
end Go.Proofs.Ytamjopgpmeeheaa
