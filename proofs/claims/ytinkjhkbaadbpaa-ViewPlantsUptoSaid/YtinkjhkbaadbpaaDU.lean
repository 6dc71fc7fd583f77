/- The program's view and the reference's, side by side in memory. -/
import Derived.Test.YtinkjhkbaadbpaaGR
import Derived.Test.YtinkjhkbaadbpaaPW
import Derived.Test.YtinkjhkbaadbpaaSY
namespace Go.Proofs.Ytinkjhkbaadbpaa
open Go.RowKit
set_option linter.unusedVariables false

abbrev ptr (b : Nat) : Value := .pointer (some ⟨b, 0, none⟩)
/-- both views in memory, apart; what either turns lies from n0 on -/
structure DuoX (R Ds Rd Dd : Nat → Prop) (n0 : Nat) (D D2 : Nat → Prop) (w : World) (v m s v2 s2 : Nat) (V : Vw) (S : Store) (V2 : RVw) (d : Doc) : Prop where
  vs : VS R Ds D w v m (ptr s) V S
  rvs : RVS D2 Rd Dd w v2 (ptr s2) V2 d
  le : n0 ≤ w.heap.size
  nv : n0 ≤ v ∧ n0 ≤ m ∧ n0 ≤ v2
  rn : ∀ k, R k → n0 ≤ k
  rdn : ∀ k, Rd k → n0 ≤ k
  ap1 : ∀ k, (k = v ∨ k = m ∨ R k) → k ≠ v2 ∧ ¬ D2 k ∧ ¬ Rd k ∧ ¬ Dd k
  ap2 : ∀ k, (k = v2 ∨ Rd k) → ¬ D k ∧ ¬ Ds k
def Duo (R Ds Rd Dd : Nat → Prop) (n0 : Nat) (w : World) (v m s v2 s2 : Nat) (V : Vw) (S : Store) (V2 : RVw) (d : Doc) : Prop := ∃ D D2, DuoX R Ds Rd Dd n0 D D2 w v m s v2 s2 V S V2 d
section
variable {R Ds Rd Dd : Nat → Prop} {n0 : Nat} {w w' : World} {v m s v2 s2 : Nat} {V : Vw} {S : Store} {V2 : RVw} {d : Doc}
theorem Duo.below (h : Duo R Ds Rd Dd n0 w v m s v2 s2 V S V2 d) (hb : Below w.heap.size w w') : Duo R Ds Rd Dd n0 w' v m s v2 s2 V S V2 d := by
  obtain ⟨D, D2, h⟩ := h
  exact ⟨D, D2, h.vs.below hb, h.rvs.below hb, Nat.le_trans h.le hb.size, h.nv, h.rn, h.rdn, h.ap1, h.ap2⟩
theorem Duo.lt (h : Duo R Ds Rd Dd n0 w v m s v2 s2 V S V2 d) : n0 ≤ w.heap.size ∧ v < w.heap.size ∧ m < w.heap.size ∧ v2 < w.heap.size ∧ (∀ k, R k → k < w.heap.size) ∧ (∀ k, Rd k → k < w.heap.size) ∧ (∀ k, Ds k → k < w.heap.size) ∧ (∀ k, Dd k → k < w.heap.size) := by
  obtain ⟨D, D2, h⟩ := h
  exact ⟨h.le, h.vs.view.lt.1, h.vs.view.lt.2, h.rvs.lt, fun k hk => (h.vs.rl k hk).1, fun k hk => (h.rvs.rl k hk).1, fun k hk => (h.vs.dsl k hk).1, fun k hk => (h.rvs.ddl k hk).1⟩
/-- blocks that neither turns -/
def Aside (R Rd : Nat → Prop) (w : World) (v m v2 : Nat) (F : Nat → Prop) : Prop := ∀ k, F k → k < w.heap.size ∧ k ≠ m ∧ k ≠ v ∧ k ≠ v2 ∧ ¬ R k ∧ ¬ Rd k
theorem Duo.aside (h : Duo R Ds Rd Dd n0 w v m s v2 s2 V S V2 d) {F : Nat → Prop} (hF : ∀ k, F k → k < n0) : Aside R Rd w v m v2 F := by
  obtain ⟨D, D2, h⟩ := h
  intro k hk
  have h1 := hF k hk
  have h2 := h.nv
  have h3 := h.le
  exact ⟨by omega, by omega, by omega, by omega, fun hr => by have := h.rn k hr; omega, fun hr => by have := h.rdn k hr; omega⟩

/-- what either turns -/
def Turns (R Rd : Nat → Prop) (m v2 : Nat) (k : Nat) : Prop := k = m ∨ k = v2 ∨ R k ∨ Rd k
theorem Aside.keeps {F : Nat → Prop} (h : Aside R Rd w v m v2 F) (hc : Chg (Turns R Rd m v2) w w') : Keeps F w w' :=
  hc.keeps (fun k hk => ⟨(h k hk).1, fun h9 => h9.elim (h k hk).2.1 (fun h9 => h9.elim (h k hk).2.2.2.1 (fun h9 => h9.elim (h k hk).2.2.2.2.1 (h k hk).2.2.2.2.2))⟩)
theorem Aside.later {F : Nat → Prop} (h : Aside R Rd w v m v2 F) (hs : w.heap.size ≤ w'.heap.size) : Aside R Rd w' v m v2 F := fun k hk => ⟨Nat.lt_of_lt_of_le (h k hk).1 hs, (h k hk).2⟩
theorem Duo.turns (h : Duo R Ds Rd Dd n0 w v m s v2 s2 V S V2 d) : ∀ k, Turns R Rd m v2 k → n0 ≤ k := by
  obtain ⟨D, D2, h⟩ := h
  rintro k (rfl | rfl | hk | hk)
  · exact h.nv.2.1
  · exact h.nv.2.2
  · exact h.rn k hk
  · exact h.rdn k hk

theorem Duo.plant (h : Duo R Ds Rd Dd n0 w v m s v2 s2 V S V2 d) {F : Nat → Prop} {t : Tr} {av kv : Value} (parent : Int) (hT : TrIn F w t av kv) (hF : Aside R Rd w v m v2 F) (h0 : 0 ≤ S.given) (hg : S.given + t.size ≤ 1099511627776) :
    Calls Try.prog 62 #[ptr v, trV t av kv, .int .i64 parent] w fun e w' => e = .returned (.int .i64 (plantT putO t parent (S.given, V.own)).1) ∧
      Duo R Ds Rd Dd n0 w' v m s v2 s2 ⟨(plantT putO t parent (S.given, V.own)).2.2, V.time⟩ { S with given := (plantT putO t parent (S.given, V.own)).2.1 } V2 d ∧ Chg (Turns R Rd m v2) w w' := by
  obtain ⟨D, D2, h⟩ := h
  refine (plant_any parent h.vs hT (fun k hk => ⟨(hF k hk).1, (hF k hk).2.1, (hF k hk).2.2.1, (hF k hk).2.2.2.2.1⟩) h0 hg).mono ?_
  rintro e w' ⟨he, ⟨D', hvs, hD'⟩, hc⟩
  have hz := hc.size
  have hr : RVS D2 Rd Dd w' v2 (ptr s2) V2 d := h.rvs.quiet hc (fun k hk => h.ap1 k (hk.elim (fun h => .inr (.inl h)) (fun h => .inr (.inr h))))
  have hv2 := h.rvs.lt
  refine ⟨he, ⟨D', D2, hvs, hr, Nat.le_trans h.le hz, h.nv, h.rn, h.rdn, h.ap1, fun k hk => ⟨fun hd => ?_, (h.ap2 k hk).2⟩⟩, hc.mono (fun k hk => hk.elim .inl (fun h9 => .inr (.inr (.inl h9))))⟩
  rcases hD' k hd with h9 | h9
  · exact (h.ap2 k hk).1 h9
  · rcases hk with rfl | hk
    · omega
    · have := (h.rvs.rl k hk).1; omega
theorem Duo.rplant (h : Duo R Ds Rd Dd n0 w v m s v2 s2 V S V2 d) {F : Nat → Prop} {t : Tr} {av kv : Value} (parent : Int) (hT : TrIn F w t av kv) (hF : Aside R Rd w v m v2 F) (h0 : 0 ≤ d.given) (hg : d.given + t.size ≤ 1099511627776) (hl : V2.own.length + t.size ≤ 1000000000) :
    Calls Try.prog 73 #[ptr v2, trV t av kv, .int .i64 parent] w fun e w' => e = .returned (.int .i64 (plantT layL t parent (d.given, V2.own)).1) ∧
      Duo R Ds Rd Dd n0 w' v m s v2 s2 V S ⟨(plantT layL t parent (d.given, V2.own)).2.2, V2.time⟩ { d with given := (plantT layL t parent (d.given, V2.own)).2.1 } ∧ Chg (Turns R Rd m v2) w w' := by
  obtain ⟨D, D2, h⟩ := h
  refine (rplant_any parent h.rvs hT (fun k hk => ⟨(hF k hk).1, (hF k hk).2.2.2.1, (hF k hk).2.2.2.2.2⟩) h0 hg hl).mono ?_
  rintro e w' ⟨he, ⟨D', hvs, hD'⟩, hc⟩
  have hz := hc.size
  have hq : VS R Ds D w' v m (ptr s) V S := h.vs.quiet hc (fun k hk => ⟨fun h9 => ?_, fun h9 => ?_, fun h9 => ?_, (h.ap2 k hk).1, (h.ap2 k hk).2⟩)
  · have hvl := h.vs.view.lt
    refine ⟨he, ⟨D, D', hq, hvs, Nat.le_trans h.le hz, h.nv, h.rn, h.rdn, fun k hk => ⟨(h.ap1 k hk).1, fun hd => ?_, (h.ap1 k hk).2.2⟩, h.ap2⟩, hc.mono (fun k hk => hk.elim (fun h9 => .inr (.inl h9)) (fun h9 => .inr (.inr (.inr h9))))⟩
    rcases hD' k hd with h9 | h9
    · exact (h.ap1 k hk).2.1 h9
    · rcases hk with rfl | rfl | hk
      · omega
      · omega
      · have := (h.vs.rl k hk).1; omega
  · subst h9
    exact hk.elim (fun h8 => (h.ap1 k (.inl rfl)).1 h8) (fun h8 => (h.ap1 k (.inl rfl)).2.2.1 h8)
  · subst h9
    exact hk.elim (fun h8 => (h.ap1 k (.inr (.inl rfl))).1 h8) (fun h8 => (h.ap1 k (.inr (.inl rfl))).2.2.1 h8)
  · exact hk.elim (fun h8 => (h.ap1 k (.inr (.inr h9))).1 h8) (fun h8 => (h.ap1 k (.inr (.inr h9))).2.2.1 h8)

def putOk (id : Int) (r : Rec) : Bool := decide (1 ≤ id) && rightR r
theorem Duo.put (h : Duo R Ds Rd Dd n0 w v m s v2 s2 V S V2 d) {F : Nat → Prop} (id : Int) {r : Rec} {x : Value} (hok : RecOk r) (hx : RecV F w x r) (hF : Aside R Rd w v m v2 F) :
    Calls Try.prog 66 #[ptr v, iv id, x] w fun e w' => e = .returned (.int .i64 (if putOk id r then 0 else 2)) ∧
      Duo R Ds Rd Dd n0 w' v m s v2 s2 (if putOk id r then setV V id r else V) S V2 d ∧ Chg (Turns R Rd m v2) w w' := by
  have hdu := h
  obtain ⟨D, D2, h⟩ := h
  refine (put_any h.vs.view (fun k hk => ⟨(h.vs.dl k hk).1, (h.vs.dl k hk).2.1⟩) id hok hx (fun k hk => (hF k hk).1)).mono ?_
  rintro e w' (⟨hbad, he, hb⟩ | ⟨h1, h2, he, hv, hc⟩)
  · have hno : putOk id r = false := by
      unfold putOk
      rcases hbad with h9 | h9
      · rw [decide_eq_false (by omega)]; rfl
      · rw [h9]; simp
    rw [hno]
    exact ⟨he, hdu.below hb, chg_new hb⟩
  · have hyes : putOk id r = true := by unfold putOk; rw [h2, decide_eq_true h1]; rfl
    rw [hyes]
    have hz := hc.size
    have hvl := h.vs.view.lt
    have hvm := h.vs.view.ne
    have hv2 := h.rvs.lt
    refine ⟨he, ⟨_, D2, ⟨hv, h.vs.store.keep (hc.keeps (fun k hk => ⟨(h.vs.rl k hk).1, (h.vs.rl k hk).2.2.1⟩)) (hc.keeps (fun k hk => ⟨(h.vs.dsl k hk).1, (h.vs.dsl k hk).2.1⟩)), fun k hk => ?_, fun k hk => ?_, fun k hk => ?_⟩, h.rvs.quiet hc (fun k hk => h.ap1 k (.inr (.inl hk))), Nat.le_trans h.le hz, h.nv, h.rn, h.rdn, h.ap1, fun k hk => ⟨fun hd => ?_, (h.ap2 k hk).2⟩⟩, hc.mono (fun k hk => .inl hk)⟩
    · have h9 := h.vs.rl k hk
      exact ⟨Nat.lt_of_lt_of_le h9.1 hz, h9.2.1, h9.2.2.1, fun hd => hd.elim h9.2.2.2.1 (fun h8 => by omega), h9.2.2.2.2⟩
    · rcases hk with hk | hk
      · have h9 := h.vs.dl k hk
        exact ⟨Nat.lt_of_lt_of_le h9.1 hz, h9.2⟩
      · exact ⟨hk.2, by omega, by omega⟩
    · have h9 := h.vs.dsl k hk
      exact ⟨Nat.lt_of_lt_of_le h9.1 hz, h9.2⟩
    · rcases hd with h9 | h9
      · exact (h.ap2 k hk).1 h9
      · rcases hk with rfl | hk
        · omega
        · have := (h.rvs.rl k hk).1; omega
theorem Duo.rput (h : Duo R Ds Rd Dd n0 w v m s v2 s2 V S V2 d) {F : Nat → Prop} (id : Int) {r : Rec} {x : Value} (hok : RecOk r) (hx : RecV F w x r) (hF : Aside R Rd w v m v2 F) (hl : V2.own.length ≤ 1000000000) :
    Calls Try.prog 74 #[ptr v2, iv id, x] w fun e w' => e = .returned (.int .i64 (if putOk id r then 0 else 2)) ∧
      Duo R Ds Rd Dd n0 w' v m s v2 s2 V S (if putOk id r then ⟨layL id r V2.own, V2.time⟩ else V2) d ∧ Chg (Turns R Rd m v2) w w' := by
  have hdu := h
  obtain ⟨D, D2, h⟩ := h
  have hDE : ∀ k, (D2 k ∨ F k) → k < w.heap.size ∧ k ≠ v2 := fun k hk => hk.elim (fun h9 => ⟨(h.rvs.dl k h9).1, (h.rvs.dl k h9).2.1⟩) (fun h9 => ⟨(hF k h9).1, (hF k h9).2.2.2.1⟩)
  have hv9 : RVIn (fun k => D2 k ∨ F k) (fun k => D2 k ∨ F k) w v2 (ptr s2) V2 := h.rvs.view.mono (fun k hk => .inl hk) (fun k hk => .inl hk)
  refine (rput_any hv9 (fun k hk => (hDE k hk).1) hDE hl id hok (hx.mono (fun k hk => .inr hk))).mono ?_
  rintro e w' (⟨hbad, he, hb⟩ | ⟨h1, h2, he, hv, hc⟩)
  · have hno : putOk id r = false := by
      unfold putOk
      rcases hbad with h9 | h9
      · rw [decide_eq_false (by omega)]; rfl
      · rw [h9]; simp
    rw [hno]
    exact ⟨he, hdu.below hb, chg_new hb⟩
  · have hyes : putOk id r = true := by unfold putOk; rw [h2, decide_eq_true h1]; rfl
    rw [hyes]
    have hz := hc.size
    have hvl := h.vs.view.lt
    have hv2 := h.rvs.lt
    refine ⟨he, ⟨D, fun k => (D2 k ∨ F k) ∨ (w.heap.size ≤ k ∧ k < w'.heap.size), h.vs.quiet hc (fun k hk => ?_), ⟨hv.mono (fun k hk => hk) (fun k hk => .inl hk), h.rvs.doc.keep (hc.keeps (fun k hk => ⟨(h.rvs.rl k hk).1, (h.rvs.rl k hk).2.1⟩)) (hc.keeps (fun k hk => h.rvs.ddl k hk)), fun k hk => ?_, fun k hk => ⟨Nat.lt_of_lt_of_le (h.rvs.rl k hk).1 hz, (h.rvs.rl k hk).2⟩, fun k hk => ⟨Nat.lt_of_lt_of_le (h.rvs.ddl k hk).1 hz, (h.rvs.ddl k hk).2⟩⟩, Nat.le_trans h.le hz, h.nv, h.rn, h.rdn, fun k hk => ⟨(h.ap1 k hk).1, fun hd => ?_, (h.ap1 k hk).2.2⟩, h.ap2⟩, hc.mono (fun k hk => .inr (.inl hk))⟩
    · subst hk
      exact ⟨fun h9 => (h.ap1 v (.inl rfl)).1 h9.symm, fun h9 => (h.ap1 m (.inr (.inl rfl))).1 h9.symm, fun h9 => (h.ap1 k (.inr (.inr h9))).1 rfl, h.ap2 k (.inl rfl)⟩
    · rcases hk with (hk | hk) | hk
      · have h9 := h.rvs.dl k hk
        exact ⟨Nat.lt_of_lt_of_le h9.1 hz, h9.2⟩
      · have h9 := hF k hk
        exact ⟨Nat.lt_of_lt_of_le h9.1 hz, h9.2.2.2.1, h9.2.2.2.2.2⟩
      · exact ⟨hk.2, by omega, fun hr => by have := (h.rvs.rl k hr).1; omega⟩
    · rcases hd with (h9 | h9) | h9
      · exact (h.ap1 k hk).2.1 h9
      · have h8 := hF k h9
        rcases hk with rfl | rfl | hk
        · exact h8.2.2.1 rfl
        · exact h8.2.1 rfl
        · exact h8.2.2.2.2.1 hk
      · rcases hk with rfl | rfl | hk
        · omega
        · omega
        · have := (h.vs.rl k hk).1; omega
/-- reading either -/
theorem Duo.get (h : Duo R Ds Rd Dd n0 w v m s v2 s2 V S V2 d) (hS : S.Wf) (id : Int) :
    Calls Try.prog 29 #[ptr v, iv id] w fun e w' => RecOut w.heap.size w' (V.get S id) e ∧ Below w.heap.size w w' := by
  obtain ⟨D, D2, h⟩ := h
  exact get_any h.vs.view h.vs.store hS (fun k hk => (h.vs.dl k hk).1) (fun k hk => (h.vs.rl k hk).1) (fun k hk => (h.vs.dsl k hk).1) id
theorem Duo.rget (h : Duo R Ds Rd Dd n0 w v m s v2 s2 V S V2 d) (hl : V2.own.length ≤ 1000000000) (hld : d.L.length ≤ 1000000000) (id : Int) :
    Calls Try.prog 76 #[ptr v2, iv id] w fun e w' => RecIn (fun k => k < w.heap.size) w' (V2.get d id) e ∧ Below w.heap.size w w' := by
  obtain ⟨D, D2, h⟩ := h
  refine (rget_any h.rvs hl hld id).mono ?_
  rintro e w' ⟨⟨kv, av, he, h1, h2⟩, hb⟩
  have hlt : ∀ k, (D2 k ∨ Dd k) → k < w.heap.size := fun k hk => hk.elim (fun h9 => (h.rvs.dl k h9).1) (fun h9 => (h.rvs.ddl k h9).1)
  exact ⟨⟨kv, av, he, h1.mono hlt, h2.mono hlt⟩, hb⟩
end
end Go.Proofs.Ytinkjhkbaadbpaa
