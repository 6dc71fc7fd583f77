/- The walk of LockFrees (4). -/
import Derived.Test.YtamjopgpmeeheaaST
import Derived.Test.YtamjopgpmeeheaaHM
import Derived.Test.YtamjopgpmeeheaaAG
import Derived.Outline
import Derived.Deep.RegionHeld3
import Derived.Deep.CutBlock
import Derived.Deep.CutRange
import Derived.Deep.DeepCutAuto
namespace Go.Proofs.Ytamjopgpmeeheaa
open Go.RowKit
set_option linter.unusedVariables false

/-- x holds or waits somewhere -/
def HasT (T : Tb) (x : Int) : Prop := ∃ id, (∃ e ∈ (T id).hs, e.1 = x) ∨ (∃ e ∈ (T id).q, e.1 = x)
theorem serveQ_has : ∀ (q hs : List W2), (∀ e ∈ (serveQ hs q).2.1, (∃ a ∈ hs, a.1 = e.1) ∨ (∃ a ∈ q, a.1 = e.1)) ∧ (∀ e ∈ (serveQ hs q).2.2, e ∈ q)
  | [], hs => ⟨fun e he => .inl ⟨e, he, rfl⟩, fun e he => he⟩
  | x :: q, hs => by
    cases hc : canB hs x.1 x.2 with
    | false => rw [serveQ_no hc]; exact ⟨fun e he => .inl ⟨e, he, rfl⟩, fun e he => he⟩
    | true =>
      rw [serveQ_yes hc]
      obtain ⟨h1, h2⟩ := serveQ_has q (putH hs x.1 x.2)
      refine ⟨fun e he => ?_, fun e he => List.mem_cons_of_mem _ (h2 e he)⟩
      rcases h1 e he with ⟨a, ha, e1⟩ | ⟨a, ha, e1⟩
      · rcases mem_putH ha with rfl | ha
        · exact .inr ⟨x, by simp, e1⟩
        · exact .inl ⟨a, ha, e1⟩
      · exact .inr ⟨a, by simp [ha], e1⟩
theorem has_serve {T : Tb} {x : Int} (h : HasT (serveT T) x) : HasT T x := by
  obtain ⟨id, ⟨e, he, rfl⟩ | ⟨e, he, rfl⟩⟩ := h
  · rcases (serveQ_has (T id).q (T id).hs).1 e he with ⟨a, ha, e1⟩ | ⟨a, ha, e1⟩
    · exact ⟨id, .inl ⟨a, ha, e1⟩⟩
    · exact ⟨id, .inr ⟨a, ha, e1⟩⟩
  · exact ⟨id, .inr ⟨e, (serveQ_has (T id).q (T id).hs).2 e he, rfl⟩⟩
theorem has_leave {T : Tb} {t x : Int} (h : HasT (leaveT T t) x) : HasT T x := by
  obtain ⟨id, ⟨e, he, rfl⟩ | ⟨e, he, rfl⟩⟩ := h
  · exact ⟨id, .inl ⟨e, he, rfl⟩⟩
  · exact ⟨id, .inr ⟨e, (List.mem_filter.1 he).1, rfl⟩⟩
theorem has_free {T : Tb} {t x : Int} (h : HasT (freeT (leaveT T t) t) x) : HasT T x ∧ x ≠ t := by
  obtain ⟨id, ⟨e, he, rfl⟩ | ⟨e, he, rfl⟩⟩ := h
  · obtain ⟨h1, h2⟩ := List.mem_filter.1 he
    exact ⟨⟨id, .inl ⟨e, h1, rfl⟩⟩, by simpa using h2⟩
  · obtain ⟨h1, h2⟩ := List.mem_filter.1 he
    exact ⟨⟨id, .inr ⟨e, h1, rfl⟩⟩, by simpa using h2⟩
theorem has_ask {T : Tb} {t nd m x : Int} (h : HasT (setT T nd (askN (T nd) t m).2) x) : HasT T x ∨ x = t := by
  have hhs : ∀ e ∈ (askN (T nd) t m).2.hs, e.1 = t ∨ e ∈ (T nd).hs := fun e he => by
    unfold askN at he
    split at he
    · exact .inr he
    · split at he
      · rcases mem_putH he with rfl | he
        · exact .inl rfl
        · exact .inr he
      · exact .inr he
  obtain ⟨id, h⟩ := h
  by_cases e : id = nd
  · subst e
    rw [setT_same] at h
    rcases h with ⟨a, ha, rfl⟩ | ⟨a, ha, rfl⟩
    · exact (hhs a ha).elim .inr (fun h => .inl ⟨id, .inl ⟨a, h, rfl⟩⟩)
    · exact (ask_q ha).elim .inr (fun h => .inl ⟨id, .inr ⟨a, h, rfl⟩⟩)
  · rw [setT_other _ _ e] at h
    exact .inl ⟨id, h⟩
theorem has_step {T T' : Tb} {kd t nd m x : Int} (hs : stepT T kd t nd m T') (h : HasT T' x) : HasT T x ∨ x = t := by
  rcases hs with ⟨_, rfl⟩ | ⟨_, _, rfl⟩ | ⟨_, _, rfl⟩ | ⟨_, _, hm, rfl⟩ | ⟨_, _, _, rfl⟩
  · exact .inl (has_free (has_serve h)).1
  · exact .inl (has_leave (has_serve h))
  · exact .inl h
  · exact has_ask h
  · exact .inl h
theorem none_has {T : Tb} (h : ∀ x, ¬ HasT T x) (id : Int) : T id = Nd.nil := by
  cases hT : T id with
  | mk hs q =>
    have h1 : hs = [] := by
      cases hs with
      | nil => rfl
      | cons a r => exact absurd ⟨id, .inl ⟨a, by rw [hT]; simp, rfl⟩⟩ (h a.1)
    have h2 : q = [] := by
      cases q with
      | nil => rfl
      | cons a r => exact absurd ⟨id, .inr ⟨a, by rw [hT]; simp, rfl⟩⟩ (h a.1)
    rw [h1, h2]; rfl

/-- a table in memory from block B on -/
structure One (B : Nat) (w : World) (s m : Nat) (T : Tb) (c : Nat) : Prop where
  is : ∃ M R f, TabF M R w s m f T c ∧ (∀ k, M k → B ≤ k ∧ k < w.heap.size) ∧ (∀ k, R k → B ≤ k ∧ k < w.heap.size ∧ ¬ M k)
theorem One.keepNew {B : Nat} {w w' : World} {s m : Nat} {T : Tb} {c : Nat} (h : One B w s m T c) (hb : Below w.heap.size w w') : One B w' s m T c := by
  obtain ⟨M, R, f, h1, h2, h3⟩ := h.is
  exact ⟨M, R, f, h1.keepNew (fun k hk => (h2 k hk).2) (fun k hk => (h3 k hk).2.1) hb, fun k hk => ⟨(h2 k hk).1, Nat.lt_of_lt_of_le (h2 k hk).2 hb.size⟩, fun k hk => ⟨(h3 k hk).1, Nat.lt_of_lt_of_le (h3 k hk).2.1 hb.size, (h3 k hk).2.2⟩⟩
theorem Two.one {B : Nat} {w : World} {s m : Nat} {M R F : Nat → Prop} {f : Int → Option Value} {T : Tb} {c : Nat} {s2 : Nat} {hd wt : List G3} (h : Two B w s m M R F f T c s2 hd wt) : One B w s m T c :=
  ⟨M, R, f, h.tab, h.hM, fun k hk => ⟨(h.hR k hk).1, (h.hR k hk).2.1, (h.hR k hk).2.2.1⟩⟩
/-- a step with a new table of the reference's -/
theorem One.step {B : Nat} {w : World} {s m : Nat} {T : Tb} {c : Nat} (h : One B w s m T c) (hB : B ≤ w.heap.size) (hT : TbOk T) (hc : c ≤ 1000000) (kd t nd mo : Int) :
    Calls Try.prog 12 #[.pointer (some ⟨s, 0, none⟩), .pointer (some ⟨w.heap.size, 0, none⟩), .agg #[iv kd, iv t, iv nd, iv mo]] (w.alloc (.cells #[.slice none 0 0, .slice none 0 0] 39)) fun e w' => ∃ b T', e = .returned (.bool b) ∧ One B w' s m T' (c + 1) ∧ TbOk T' ∧ (∀ x, HasT T' x → HasT T x ∨ x = t) ∧ stepT T kd t nd mo T' ∧ Chg (fun k => B ≤ k) w w' := by
  have hb : Below w.heap.size w (w.alloc (.cells #[.slice none 0 0, .slice none 0 0] 39)) := (Below.refl _ _).alloc (Nat.le_refl _) _
  obtain ⟨M, R, f, h1, h2, h3⟩ := (h.keepNew hb).is
  obtain ⟨M0, R0, f0, g1, g2, g3⟩ := h.is
  have htwo : Two B (w.alloc (.cells #[.slice none 0 0, .slice none 0 0] 39)) s m M0 R0 (fun _ => False) f0 T c w.heap.size [] [] :=
    ⟨g1.keepNew (fun k hk => (g2 k hk).2) (fun k hk => (g3 k hk).2.1) hb, fun k hk => ⟨(g2 k hk).1, Nat.lt_of_lt_of_le (g2 k hk).2 hb.size⟩, fun k hk => ⟨(g3 k hk).1, Nat.lt_of_lt_of_le (g3 k hk).2.1 hb.size, (g3 k hk).2.2, fun e => by have := (g3 k hk).2.1; omega⟩,
      ⟨_, _, Go.heap_alloc_new _ _, trisIn_nil _ _, trisIn_nil _ _⟩, fun k hk => hk.elim, fun hm => by have := (g2 _ hm).2; omega, hB⟩
  refine (step_any htwo (by simp; omega) hT (by simp) hc (fun g hg => by cases hg) kd t nd mo).mono ?_
  rintro e w' ⟨b, M', R', F', f', T', hd', wt', rfl, ht, hs, -, -, hch⟩
  exact ⟨b, T', rfl, ht.one, tbOk_step hT hs, fun x hx => has_step hs hx, hs, (chg_new hb).andThen hch (fun k hk h => by
    rcases h with h | h
    · exact (g2 k h).1
    · omega)⟩
theorem One.release {B : Nat} {w : World} {s m : Nat} {T : Tb} {c : Nat} (h : One B w s m T c) (hB : B ≤ w.heap.size) (hT : TbOk T) (hc : c ≤ 1000000) (t : Int) :
    Calls Try.prog 13 #[.pointer (some ⟨s, 0, none⟩), iv t] w fun e w' => (∃ v, e = .returned v) ∧ ∃ T', One B w' s m T' c ∧ TbOk T' ∧ (∀ x, HasT T' x → HasT T x ∧ x ≠ t) ∧ Chg (fun k => B ≤ k) w w' := by
  obtain ⟨M, R, f, h1, h2, h3⟩ := h.is
  refine (release_any h1 (fun k hk => (h2 k hk).2) (fun k hk => (h3 k hk).2) hT.1 hc t).mono ?_
  rintro e w' ⟨R', ks, f', v, hs, rfl, -, hR, hRM, ht, hch⟩
  refine ⟨⟨v, rfl⟩, _, ⟨M, R', f', ht, fun k hk => ⟨(h2 k hk).1, Nat.lt_of_lt_of_le (h2 k hk).2 hch.size⟩, fun k hk => ⟨?_, ?_, hRM k hk⟩⟩, tbOk_serve (tbOk_free (tbOk_leave hT t) t), fun x hx => has_free (has_serve hx), hch.mono (fun k hk => (h2 k hk).1)⟩
  · exact (hR k hk).elim (fun h => (h3 k h).1) (fun h => by omega)
  · exact (hR k hk).elim (fun h => Nat.lt_of_lt_of_le (h3 k h).2.1 hch.size) (fun h => h.2)
theorem One.holders {B : Nat} {w : World} {s m : Nat} {T : Tb} {c : Nat} (h : One B w s m T c) (hT : TbOk T) (nd : Int) :
    Calls Try.prog 15 #[.pointer (some ⟨s, 0, none⟩), iv nd] w fun e w' => (∃ v, e = .returned v ∧ TrisIn (fun k => w.heap.size ≤ k ∧ k < w'.heap.size) w' v ((T nd).hs.map (fun x => (x.1, nd, x.2)))) ∧ Below w.heap.size w w' := by
  obtain ⟨M, R, f, h1, h2, h3⟩ := h.is
  exact holders_any h1 (fun k hk => (h2 k hk).2) hT.1 nd
theorem One.queue {B : Nat} {w : World} {s m : Nat} {T : Tb} {c : Nat} (h : One B w s m T c) (hT : TbOk T) (nd : Int) :
    Calls Try.prog 11 #[.pointer (some ⟨s, 0, none⟩), iv nd] w fun e w' => (∃ v, e = .returned v ∧ TrisIn (fun k => w.heap.size ≤ k ∧ k < w'.heap.size) w' v ((T nd).q.map (fun x => (x.1, nd, x.2)))) ∧ Below w.heap.size w w' := by
  obtain ⟨M, R, f, h1, h2, h3⟩ := h.is
  exact queue_any h1 (fun k hk => (h2 k hk).2) (fun k hk => (h3 k hk).2.1) nd (hT.1 nd).few_q
theorem One.wants {B : Nat} {w : World} {s m : Nat} {T : Tb} {c : Nat} (h : One B w s m T c) (t : Int) :
    Calls Try.prog 14 #[.pointer (some ⟨s, 0, none⟩), iv t] w fun e w' => ∃ a b d wb, (wb = true ↔ waitsP T t) ∧ e = .returned (.tuple #[.agg #[iv a, iv b, iv d], .bool wb]) ∧ Below w.heap.size w w' := by
  obtain ⟨M, R, f, h1, h2, h3⟩ := h.is
  exact wants_any' h1 (fun k hk => (h2 k hk).2) (fun k hk => (h3 k hk).2.1) t
theorem One.waits {B : Nat} {w : World} {s m : Nat} {T : Tb} {c : Nat} (h : One B w s m T c) (hT : TbOk T) (t : Int) :
    Calls Try.prog 17 #[.pointer (some ⟨s, 0, none⟩), iv t] w fun e w' => (∃ v zs, e = .returned v ∧ IntsIn (fun k => w.heap.size ≤ k ∧ k < w'.heap.size) w' v zs ∧ WaitsOf T t zs) ∧ Below w.heap.size w w' := by
  obtain ⟨M, R, f, h1, h2, h3⟩ := h.is
  exact waits_any h1 (fun k hk => (h2 k hk).2) (fun k hk => (h3 k hk).2.1) hT.1 t
theorem One.empty {B : Nat} {w : World} {s m : Nat} {c : Nat} (h : One B w s m (fun _ => Nd.nil) c) (nd : Int) :
    (Calls Try.prog 15 #[.pointer (some ⟨s, 0, none⟩), iv nd] w fun e w' => (∃ a c, e = .returned (.slice a 0 c)) ∧ Below w.heap.size w w') ∧ (Calls Try.prog 11 #[.pointer (some ⟨s, 0, none⟩), iv nd] w fun e w' => (∃ a c, e = .returned (.slice a 0 c)) ∧ Below w.heap.size w w') := by
  refine ⟨(h.holders tbOk_nil nd).mono ?_, (h.queue tbOk_nil nd).mono ?_⟩
  · rintro e w' ⟨⟨v, rfl, a, c, rfl, -⟩, hb⟩
    exact ⟨⟨a, c, rfl⟩, hb⟩
  · rintro e w' ⟨⟨v, rfl, a, c, rfl, -⟩, hb⟩
    exact ⟨⟨a, c, rfl⟩, hb⟩
theorem below_chgB {w w1 w2 : World} (h : Below w.heap.size w w1) (h' : Chg (fun k => w.heap.size ≤ k) w1 w2) : Below w.heap.size w w2 := below_of_chg ((chg_below h).andThen h' (fun k _ hk => hk))

set_option maxRecDepth 100000 in
set_option maxHeartbeats 8000000 in
theorem lockFrees_any {F : Nat → Prop} {w : World} {v : Value} {l : List St4} (h : StIn F w v l) (hF : ∀ k, F k → k < w.heap.size) :
    Calls Try.prog 4 #[v] w fun e w' => e = .returned (.bool true) ∧ Below w.heap.size w w' := by
  obtain ⟨av, cv, rfl, hl1, hl2, hcells⟩ := h
  have HC := Lib.hid hcells
  have HN := Lib.hid (new_any w)
  clear hcells
  unfold maxLen at hl2
  go_enter Try.func4, Try.ntmps4
  go_wp2_with (go_at_call 8; refine HN.out.mono ?_; rintro e w1 ⟨⟨p, rfl, ⟨M, R, s, m, f, rfl, hMA, hRA, hRM, htab⟩⟩, hb1⟩)
  have HONE := Lib.hid (⟨M, R, f, htab, hMA, fun k hk => ⟨(hRA k hk).1, (hRA k hk).2, hRM k hk⟩⟩ : One w.heap.size w1 s m (fun _ => Nd.nil) 0)
  have HB1 := Lib.hid hb1
  clear hMA hRA hRM htab hb1
  go_loopw [4] (fun i wr => ∃ k : Nat, k ≤ 60 ∧ k ≤ l.length ∧ i = .int .i64 k ∧ (∃ T, One w.heap.size wr s m T k ∧ TbOk T ∧ ∀ x, HasT T x → ∃ e ∈ l.take k, e.2.1 = x) ∧ Below w.heap.size w wr) (fun i _ => 60 - (Lib.intOf i).toNat)
  case atStart => exact ⟨0, by omega, by omega, rfl, ⟨_, HONE.out, tbOk_nil, fun x ⟨id, hx⟩ => (by rcases hx with ⟨e, he, _⟩ | ⟨e, he, _⟩ <;> cases he)⟩, HB1.out⟩
  case round =>
    obtain ⟨k, hk60, hkl, rfl, ⟨T, hone, hT, hin⟩, hbr⟩ := hrel
    have hsr := hbr.size
    have HONE1 := Lib.hid hone
    have HT := Lib.hid hT
    have HIN := Lib.hid hin
    have HBR := Lib.hid hbr
    clear hone hT hin hbr
    go_upto_region 3 with fail
    obtain ⟨tb, htb⟩ : ∃ tb, decide (k < l.length ∧ k < 60) = tb := ⟨_, rfl⟩
    go_cut [17] from 10 to 27 (fun c wx => c = .bool tb ∧ wr = wx)
    case first =>
      by_cases h1 : k < l.length
      · have kd1 : decide ((k : Int) < (l.length : Int)) = true := decide_eq_true (by omega)
        by_cases h2 : k < 60
        · have kd2 : decide ((k : Int) < 60) = true := decide_eq_true (by omega)
          have htb' : tb = true := by rw [← htb]; exact decide_eq_true ⟨h1, h2⟩
          have HTB := Lib.hid htb'
          clear htb htb'
          go_wp2
          go_meet
          exact ⟨by rw [HTB.out], rfl⟩
        · have kd2 : decide ((k : Int) < 60) = false := decide_eq_false (by omega)
          have htb' : tb = false := by rw [← htb]; exact decide_eq_false (fun h => h2 h.2)
          have HTB := Lib.hid htb'
          clear htb htb'
          go_wp2
          go_meet
          exact ⟨by rw [HTB.out], rfl⟩
      · have kd1 : decide ((k : Int) < (l.length : Int)) = false := decide_eq_false (by omega)
        have htb' : tb = false := by rw [← htb]; exact decide_eq_false (fun h => h1 h.1)
        have HTB := Lib.hid htb'
        clear htb htb'
        go_wp2
        go_meet
        exact ⟨by rw [HTB.out], rfl⟩
    case rest =>
      obtain ⟨rfl, rfl⟩ := hcut
      cases tb with
      | true =>
        obtain ⟨hlt1, hlt2⟩ := of_decide_eq_true htb
        obtain ⟨⟨kd, t, n4, mo⟩, he⟩ : ∃ e, l[k]? = some e := ⟨_, List.getElem?_eq_getElem hlt1⟩
        rcases HC.out with h | ⟨g, off, rfl, hg, hcl⟩
        · rw [h] at hlt1; simp at hlt1
        have hgl := hF g hg
        obtain ⟨d0, d1, d2, d3⟩ := hcl k _ he
        have y0 := (HBR.out.cell (p := ⟨g, off + k * 4, none⟩) hgl).trans d0
        have y1 := (HBR.out.cell (p := ⟨g, off + k * 4 + 1, none⟩) hgl).trans d1
        have y2 := (HBR.out.cell (p := ⟨g, off + k * 4 + 2, none⟩) hgl).trans d2
        have y3 := (HBR.out.cell (p := ⟨g, off + k * 4 + 3, none⟩) hgl).trans d3
        simp only at y0 y1 y2 y3
        have hgr : g < wr.heap.size := by omega
        have k0 : (0 : Int) ≤ (k : Int) := by omega
        have k1 : (k : Int) < (l.length : Int) := by omega
        have HE := Lib.hid he
        have HS := Lib.hid (HONE1.out.step hsr HT.out (by omega) kd t n4 mo)
        clear d0 d1 d2 d3 hcl he htb
        go_wp2_with (go_at_call 12; refine HS.out.mono ?_; rintro e w6 ⟨b, T', rfl, h1, h2, h3, -, h5⟩; have HP := Lib.hid (And.intro h1 (And.intro h2 (And.intro h3 h5))); clear h1 h2 h3 h5)
        go_roundw
        case rel =>
          obtain ⟨h1, h2, h3, h5⟩ := HP.out
          refine ⟨k + 1, by omega, by omega, by go_num, ⟨T', h1, h2, fun x hx => ?_⟩, below_chgB HBR.out h5⟩
          rw [List.take_add_one, HE.out]
          rcases h3 x hx with h | h
          · obtain ⟨e, he, e1⟩ := HIN.out x h
            exact ⟨e, List.mem_append.2 (.inl he), e1⟩
          · exact ⟨(kd, t, n4, mo), by simp, h.symm⟩
        case measure => simp [Lib.intOf]; omega
      | false =>
        have hlt : ¬ (k < l.length ∧ k < 60) := of_decide_eq_false htb
        have hin2 : ∀ x, HasT T x → ∃ e ∈ l.take 60, e.2.1 = x := fun x hx => by
          obtain ⟨e, he, e1⟩ := HIN.out x hx
          exact ⟨e, (List.take_subset_take_left l hk60) he, e1⟩
        have HIN2 := Lib.hid hin2
        clear hin2 hlt htb
        obtain ⟨W0, rfl⟩ : ∃ W0, W0 = wr := ⟨wr, rfl⟩
        go_wp2
        go_loopw [5] (fun i wr => ∃ j : Nat, j ≤ 60 ∧ j ≤ l.length ∧ i = .int .i64 j ∧ (∃ T, One w.heap.size wr s m T k ∧ TbOk T ∧ ∀ x, HasT T x → (∃ e ∈ l.take 60, e.2.1 = x) ∧ ∀ e ∈ l.take j, e.2.1 ≠ x) ∧ Below w.heap.size w wr) (fun i _ => 60 - (Lib.intOf i).toNat)
        case atStart => exact ⟨0, by omega, by omega, rfl, ⟨T, HONE1.out, HT.out, fun x hx => ⟨HIN2.out x hx, fun e he => by simp at he⟩⟩, HBR.out⟩
        case round =>
          obtain ⟨j, hj60, hjl, rfl, ⟨T2, hone, hT2, hin⟩, hbr⟩ := hrel
          have hsr2 := hbr.size
          have HONE2 := Lib.hid hone
          have HT2 := Lib.hid hT2
          have HIN3 := Lib.hid hin
          have HBR2 := Lib.hid hbr
          clear hone hT2 hin hbr
          go_upto_region 7 with fail
          obtain ⟨tb, htb⟩ : ∃ tb, decide (j < l.length ∧ j < 60) = tb := ⟨_, rfl⟩
          go_cut [35] from 28 to 44 (fun c wx => c = .bool tb ∧ wr = wx)
          case first =>
            by_cases h1 : j < l.length
            · have kd1 : decide ((j : Int) < (l.length : Int)) = true := decide_eq_true (by omega)
              by_cases h2 : j < 60
              · have kd2 : decide ((j : Int) < 60) = true := decide_eq_true (by omega)
                have htb' : tb = true := by rw [← htb]; exact decide_eq_true ⟨h1, h2⟩
                have HTB := Lib.hid htb'
                clear htb htb'
                go_wp2
                go_meet
                exact ⟨by rw [HTB.out], rfl⟩
              · have kd2 : decide ((j : Int) < 60) = false := decide_eq_false (by omega)
                have htb' : tb = false := by rw [← htb]; exact decide_eq_false (fun h => h2 h.2)
                have HTB := Lib.hid htb'
                clear htb htb'
                go_wp2
                go_meet
                exact ⟨by rw [HTB.out], rfl⟩
            · have kd1 : decide ((j : Int) < (l.length : Int)) = false := decide_eq_false (by omega)
              have htb' : tb = false := by rw [← htb]; exact decide_eq_false (fun h => h1 h.1)
              have HTB := Lib.hid htb'
              clear htb htb'
              go_wp2
              go_meet
              exact ⟨by rw [HTB.out], rfl⟩
          case rest =>
            obtain ⟨rfl, rfl⟩ := hcut
            cases tb with
            | true =>
              obtain ⟨hlt1, hlt2⟩ := of_decide_eq_true htb
              obtain ⟨⟨kd, t, n4, mo⟩, he⟩ : ∃ e, l[j]? = some e := ⟨_, List.getElem?_eq_getElem hlt1⟩
              rcases HC.out with h | ⟨g, off, rfl, hg, hcl⟩
              · rw [h] at hlt1; simp at hlt1
              have hgl := hF g hg
              obtain ⟨d0, d1, d2, d3⟩ := hcl j _ he
              have y1 := (HBR2.out.cell (p := ⟨g, off + j * 4 + 1, none⟩) hgl).trans d1
              simp only at y1
              have k0 : (0 : Int) ≤ (j : Int) := by omega
              have k1 : (j : Int) < (l.length : Int) := by omega
              have HE := Lib.hid he
              have HS := Lib.hid (HONE2.out.release hsr2 HT2.out (by omega) t)
              clear d0 d1 d2 d3 hcl he htb
              go_wp2_with (go_at_call 13; refine HS.out.mono ?_; rintro e w6 ⟨⟨v6, rfl⟩, T', h1, h2, h3, h5⟩; have HP := Lib.hid (And.intro h1 (And.intro h2 (And.intro h3 h5))); clear h1 h2 h3 h5)
              go_roundw
              case rel =>
                obtain ⟨h1, h2, h3, h5⟩ := HP.out
                refine ⟨j + 1, by omega, by omega, by go_num, ⟨T', h1, h2, fun x hx => ?_⟩, below_chgB HBR2.out h5⟩
                obtain ⟨q1, q2⟩ := h3 x hx
                refine ⟨(HIN3.out x q1).1, fun e he => ?_⟩
                rw [List.take_add_one, HE.out] at he
                rcases List.mem_append.1 he with he | he
                · exact (HIN3.out x q1).2 e he
                · have : e = (kd, t, n4, mo) := by simpa using he
                  rw [this]; exact fun e1 => q2 e1.symm
              case measure => simp [Lib.intOf]; omega
            | false =>
              have hlt : ¬ (j < l.length ∧ j < 60) := of_decide_eq_false htb
              have hT0 : T2 = fun _ => Nd.nil := by
                funext id
                refine none_has (fun x hx => ?_) id
                obtain ⟨⟨e, he, e1⟩, q2⟩ := HIN3.out x hx
                have hsub : e ∈ l.take j := by
                  by_cases hj : j = 60
                  · rw [hj]; exact he
                  · have : j = l.length := by omega
                    rw [this, List.take_length]
                    exact List.mem_of_mem_take he
                exact q2 e hsub e1
              subst hT0
              clear hlt htb
              obtain ⟨W2, rfl⟩ : ∃ W2, W2 = wr := ⟨wr, rfl⟩
              go_wp2
              go_loopw [6] (fun i wr => ∃ a : Nat, a ≤ 60 ∧ a ≤ l.length ∧ i = .int .i64 a ∧ One w.heap.size wr s m (fun _ => Nd.nil) k ∧ Below w.heap.size w wr) (fun i _ => 60 - (Lib.intOf i).toNat)
              case atStart => exact ⟨0, by omega, by omega, rfl, HONE2.out, HBR2.out⟩
              case round =>
                obtain ⟨a, ha60, hal, rfl, hone, hbr⟩ := hrel
                have hsr3 := hbr.size
                have HONE3 := Lib.hid hone
                have HBR3 := Lib.hid hbr
                clear hone hbr
                go_upto_region 11 with fail
                obtain ⟨tb, htb⟩ : ∃ tb, decide (a < l.length ∧ a < 60) = tb := ⟨_, rfl⟩
                go_cut [52] from 45 to 85 (fun c wx => c = .bool tb ∧ wr = wx)
                case first =>
                  by_cases h1 : a < l.length
                  · have kd1 : decide ((a : Int) < (l.length : Int)) = true := decide_eq_true (by omega)
                    by_cases h2 : a < 60
                    · have kd2 : decide ((a : Int) < 60) = true := decide_eq_true (by omega)
                      have htb' : tb = true := by rw [← htb]; exact decide_eq_true ⟨h1, h2⟩
                      have HTB := Lib.hid htb'
                      clear htb htb'
                      go_wp2
                      go_meet
                      exact ⟨by rw [HTB.out], rfl⟩
                    · have kd2 : decide ((a : Int) < 60) = false := decide_eq_false (by omega)
                      have htb' : tb = false := by rw [← htb]; exact decide_eq_false (fun h => h2 h.2)
                      have HTB := Lib.hid htb'
                      clear htb htb'
                      go_wp2
                      go_meet
                      exact ⟨by rw [HTB.out], rfl⟩
                  · have kd1 : decide ((a : Int) < (l.length : Int)) = false := decide_eq_false (by omega)
                    have htb' : tb = false := by rw [← htb]; exact decide_eq_false (fun h => h1 h.1)
                    have HTB := Lib.hid htb'
                    clear htb htb'
                    go_wp2
                    go_meet
                    exact ⟨by rw [HTB.out], rfl⟩
                case rest =>
                  obtain ⟨rfl, rfl⟩ := hcut
                  cases tb with
                  | true =>
                    obtain ⟨hlt1, hlt2⟩ := of_decide_eq_true htb
                    obtain ⟨⟨kd, t, n4, mo⟩, he⟩ : ∃ e, l[a]? = some e := ⟨_, List.getElem?_eq_getElem hlt1⟩
                    rcases HC.out with h | ⟨g, off, rfl, hg, hcl⟩
                    · rw [h] at hlt1; simp at hlt1
                    have hgl := hF g hg
                    obtain ⟨d0, d1, d2, d3⟩ := hcl a _ he
                    have y1 := (HBR3.out.cell (p := ⟨g, off + a * 4 + 1, none⟩) hgl).trans d1
                    have y2 := (HBR3.out.cell (p := ⟨g, off + a * 4 + 2, none⟩) hgl).trans d2
                    simp only at y1 y2
                    have k0 : (0 : Int) ≤ (a : Int) := by omega
                    have k1 : (a : Int) < (l.length : Int) := by omega
                    have HWT := Lib.hid (HONE3.out.wants t)
                    have Y2 := Lib.hid y2
                    clear d0 d1 d2 d3 hcl he htb
                    go_upto_region 14 with (go_at_call 14; refine HWT.out.mono ?_; rintro e w6 ⟨x0, x1, x2, wb, hwb, rfl, hb6⟩; obtain rfl : wb = false := (by cases wb with | false => rfl | true => (obtain ⟨id, x, hx, _⟩ := hwb.1 rfl; cases hx)); have HB6 := Lib.hid hb6; clear hwb hb6)
                    have hb7 : Below wr.heap.size wr (w6.alloc (.cells #[.int .i64 x0, .int .i64 x1, .int .i64 x2] 34)) := HB6.out.alloc HB6.out.size _
                    obtain ⟨W, hW⟩ : ∃ W, w6.alloc (.cells #[.int .i64 x0, .int .i64 x1, .int .i64 x2] 34) = W := ⟨_, rfl⟩
                    rw [hW] at hb7 ⊢
                    have hone7 := HONE3.out.keepNew hb7
                    have hgr : g < wr.heap.size := by omega
                    have hss : ∀ w', Below W.heap.size W w' → w'.cell? ⟨g, off + a * 4 + 2, none⟩ = some (iv n4) := fun w' h => (h.cell (p := ⟨g, off + a * 4 + 2, none⟩) (Nat.lt_of_lt_of_le hgr hb7.size)).trans ((hb7.cell (p := ⟨g, off + a * 4 + 2, none⟩) hgr).trans Y2.out)
                    have h15 : ∀ w', Below W.heap.size W w' → (Calls Try.prog 15 #[.pointer (some ⟨s, 0, none⟩), iv n4] w' fun e w'' => (∃ a c, e = .returned (.slice a 0 c)) ∧ Below w'.heap.size w' w'') := fun w' h => ((hone7.keepNew h).empty n4).1
                    have h11 : ∀ w', Below W.heap.size W w' → (Calls Try.prog 11 #[.pointer (some ⟨s, 0, none⟩), iv n4] w' fun e w'' => (∃ a c, e = .returned (.slice a 0 c)) ∧ Below w'.heap.size w' w'') := fun w' h => ((hone7.keepNew h).empty n4).2
                    have HSS := Lib.hid hss
                    have H15 := Lib.hid h15
                    have H11 := Lib.hid h11
                    have HB7 := Lib.hid hb7
                    have hcur : Below W.heap.size W W.drew := (Below.refl _ _).drew
                    clear hb7 hone7 hss h15 h11 y1 y2 hW
                    go_region_held3 (fun w' => w'.cell? ⟨g, off + a * 4 + 2, none⟩ = some (iv n4))
                      (exact HSS.out _ hcur)
                      (first
                        | (go_at_call 15; refine (H15.out _ hcur).mono ?_; rintro e w7 ⟨⟨a7, c7, rfl⟩, hb7⟩; have hcur := hcur.trans (hb7.mono hcur.size); clear hb7)
                        | (go_at_call 11; refine (H11.out _ hcur).mono ?_; rintro e w8 ⟨⟨a8, c8, rfl⟩, hb8⟩; have hcur := hcur.trans (hb8.mono hcur.size); clear hb8))
                    all_goals
                      have HCUR := Lib.hid hcur
                      clear hcur
                      go_wp2
                      go_roundw
                      case rel => exact ⟨a + 1, by omega, by omega, by go_num, (HONE3.out.keepNew HB7.out).keepNew HCUR.out, (HBR3.out.trans (HB7.out.mono hsr3)).trans (HCUR.out.mono (Nat.le_trans hsr3 HB7.out.size))⟩
                      case measure => simp [Lib.intOf]; omega
                  | false =>
                    clear htb
                    go_wp2_with (go_at_call 10; refine (works_any _).mono ?_; rintro e w7 ⟨rfl, hb7⟩)
                    go_ret
                    exact ⟨rfl, HBR3.out.trans (hb7.mono hsr3)⟩
end Go.Proofs.Ytamjopgpmeeheaa
