/- works (10). -/
import Derived.Test.YtamjopgpmeeheaaAL
namespace Go.Proofs.Ytamjopgpmeeheaa
open Go.RowKit
open Go.ChangeMaps (setBlock)
set_option linter.unusedVariables false

/-- Ask, whatever is asked -/
theorem ask_any {M R : Nat → Prop} {w : World} {s m : Nat} {f : Int → Option Value} {T : Tb} {c : Nat} (h : TabF M R w s m f T c) (hM : ∀ k, M k → k < w.heap.size) (hR : ∀ k, R k → k < w.heap.size ∧ ¬ M k) (t id mo : Int) (hOK : NdOk (T id)) :
    Calls Try.prog 9 #[.pointer (some ⟨s, 0, none⟩), iv t, iv id, iv mo] w fun e w' => ∃ M' R' f' T', ((mayAsk T t id mo ∧ e = .returned (.tuple #[.bool (askN (T id) t mo).1, .int .i64 0]) ∧ T' = setT T id (askN (T id) t mo).2) ∨ (¬ mayAsk T t id mo ∧ e = .returned (.tuple #[.bool false, .int .i64 2]) ∧ T' = T)) ∧
      (∀ k, M' k → M k ∨ (w.heap.size ≤ k ∧ k < w'.heap.size)) ∧ (∀ k, R' k → R k ∨ (w.heap.size ≤ k ∧ k < w'.heap.size)) ∧ (∀ k, R' k → ¬ M' k) ∧ TabF M' R' w' s m f' T' (c + 1) ∧ Chg M w w' := by
  by_cases hm : mayAsk T t id mo
  · refine (ask_ok h hM hR t id mo hm hOK).mono ?_
    rintro e w' ⟨M', R', f', e1, h1, h2, h3, h4, h5⟩
    exact ⟨M', R', f', _, .inl ⟨hm, e1, rfl⟩, h1, h2, h3, h4, h5⟩
  · refine (ask_bad h hM hR t id mo hm).mono ?_
    rintro e w' ⟨e1, hb⟩
    exact ⟨M, R, f, T, .inr ⟨hm, e1, rfl⟩, fun k hk => .inl hk, fun k hk => .inl hk, fun k hk => (hR k hk).2, (h.keepNew hM (fun k hk => (hR k hk).1) hb).mono (fun _ h => h) (fun _ h => h) (Nat.le_succ _), chg_new hb⟩

theorem grants_one {T : Tb} {i : Int} (hT : ∀ id, id ≠ i → T id = Nd.nil) (hi : T i ≠ Nd.nil) {ks : List Int} (h : Supp T ks) : grantsT T ks = grantsN i (T i) := by
  have hno : ∀ l : List Int, i ∉ l → grantsT T l = [] := fun l => by
    induction l with
    | nil => intro _; rfl
    | cons a l ih =>
      intro hn
      have h1 : a ≠ i := fun e => hn (by simp [e])
      have h2 : grantsT T (a :: l) = grantsN a (T a) ++ grantsT T l := by simp [grantsT]
      rw [h2, hT a h1, ih (fun h => hn (by simp [h]))]
      rfl
  have hgo : ∀ l : List Int, l.Pairwise (· < ·) → i ∈ l → grantsT T l = grantsN i (T i) := fun l => by
    induction l with
    | nil => intro _ h; cases h
    | cons a l ih =>
      intro hp hm
      have h2 : grantsT T (a :: l) = grantsN a (T a) ++ grantsT T l := by simp [grantsT]
      obtain ⟨p1, p2⟩ := List.pairwise_cons.1 hp
      by_cases e : a = i
      · subst e
        rw [h2, hno l (fun h => by have := p1 _ h; omega)]; simp
      · have hl : i ∈ l := (List.mem_cons.1 hm).resolve_left (fun h => e h.symm)
        rw [h2, hT a e, ih p2 hl]; rfl
  exact hgo ks h.1 (h.2 i hi)

def T0 : Tb := fun _ => Nd.nil
def T1 : Tb := setT T0 5 ⟨[(1, 5)], []⟩
def T2 : Tb := setT T1 5 ⟨[(1, 5)], [(2, 7)]⟩
theorem ask1 : askN (T0 5) 1 5 = (true, ⟨[(1, 5)], []⟩) := by
  have h1 : covB (hasI (T0 5).hs 1) 5 = false := by decide
  have h2 : canB (T0 5).hs 1 (joinI (hasI (T0 5).hs 1) 5) = true := by decide
  unfold askN
  rw [if_neg (by rw [h1]; simp), if_pos ⟨h2, .inr rfl⟩]
  rfl
theorem ask2 : askN (T1 5) 2 7 = (false, ⟨[(1, 5)], [(2, 7)]⟩) := by
  have e : T1 5 = ⟨[(1, 5)], []⟩ := setT_same _ _ _
  rw [e]
  have h1 : covB (hasI [(1, 5)] 2) 7 = false := by decide
  have h2 : canB [(1, 5)] 2 (joinI (hasI [(1, 5)] 2) 7) = false := by decide
  unfold askN
  rw [if_neg (by simp only; rw [h1]; simp), if_neg (by simp only; rw [h2]; simp)]
  rfl
theorem T2_5 : T2 5 = ⟨[(1, 5)], [(2, 7)]⟩ := setT_same _ _ _
theorem T2_o {id : Int} (h : id ≠ 5) : T2 id = Nd.nil := by unfold T2 T1; rw [setT_other _ _ h, setT_other _ _ h]; rfl
theorem may1 : mayAsk T0 1 5 5 := ⟨by omega, by omega, by omega, by decide, fun ⟨id, x, hx, _⟩ => by cases hx⟩
theorem may2 : mayAsk T1 2 5 7 := ⟨by omega, by omega, by omega, by decide, fun ⟨id, x, hx, _⟩ => by
  unfold T1 at hx
  by_cases e : id = 5
  · subst e; rw [setT_same] at hx; cases hx
  · rw [setT_other _ _ e] at hx; cases hx⟩
theorem ok_nil : NdOk Nd.nil := ⟨List.Pairwise.nil, (fun h hh => by cases hh), (fun h hh => by cases hh), by simp [Nd.nil]⟩
theorem ok15 : okW (1, 5) := by refine ⟨⟨?_, ?_⟩, ?_, ?_⟩ <;> decide
theorem ok27 : okW (2, 7) := by refine ⟨⟨?_, ?_⟩, ?_, ?_⟩ <;> decide
theorem okT2 : ∀ id, NdOk (T2 id) := fun id => by
  by_cases e : id = 5
  · subst e; rw [T2_5]
    exact ⟨by simp [Rise], (fun h hh => by simp at hh; subst hh; exact ok15), (fun h hh => by simp at hh; subst hh; exact ok27), by simp⟩
  · rw [T2_o e]; exact ok_nil
theorem okT1 : ∀ id, NdOk (T1 id) := fun id => by
  by_cases e : id = 5
  · subst e; unfold T1; rw [setT_same]
    exact ⟨by simp [Rise], (fun h hh => by simp at hh; subst hh; exact ok15), (fun h hh => by cases hh), by simp⟩
  · unfold T1; rw [setT_other _ _ e]; exact ok_nil
theorem rel2 {ks : List Int} (h : Supp (freeT (leaveT T2 1) 1) ks) : grantsT (freeT (leaveT T2 1) 1) ks = [(2, 5, 7)] := by
  have e5 : freeT (leaveT T2 1) 1 5 = ⟨[], [(2, 7)]⟩ := by unfold freeT leaveT; rw [T2_5]; rfl
  rw [grants_one (i := 5) (fun id hid => by unfold freeT leaveT; rw [T2_o hid]; rfl) (by rw [e5]; intro h; cases h) h, e5]
  rfl
theorem eql_257 (w : World) : (binOp .eql 34 (.agg #[.int .i64 2, .int .i64 5, .int .i64 7]) (.agg #[.int .i64 2, .int .i64 5, .int .i64 7])).run Try.prog w = .ok (.bool true) w := by kernel_rfl

set_option maxRecDepth 100000 in
set_option maxHeartbeats 4000000 in
theorem works_any (w : World) : Calls Try.prog 10 #[] w fun e w' => e = .returned (.bool true) ∧ Below w.heap.size w w' := by
  have heq := eql_257
  have HN := Lib.hid (new_any w)
  go_enter Try.func10, Try.ntmps10
  go_wp2_with (go_at_call 8; refine HN.out.mono ?_; rintro e w1 ⟨⟨p, rfl, ⟨M, R, s, m, f, rfl, hMA, hRA, hRM, htab⟩⟩, hb1⟩)
  have hM1 : ∀ k, M k → k < w1.heap.size := fun k hk => (hMA k hk).2
  have hR1 : ∀ k, R k → k < w1.heap.size ∧ ¬ M k := fun k hk => ⟨(hRA k hk).2, hRM k hk⟩
  have HA1 := Lib.hid (ask_ok htab hM1 hR1 1 5 5 may1 ok_nil)
  have HMA := Lib.hid hMA
  have HRA := Lib.hid hRA
  have HB1 := Lib.hid hb1
  have HM1 := Lib.hid hM1
  have HR1 := Lib.hid hR1
  clear hMA hRA hRM htab hb1 hM1 hR1
  refine HA1.out.mono ?_
  rintro e w2 ⟨M2, R2, f2, rfl, hM2, hR2, hRM2, htab2, hc2⟩
  have hs2 := hc2.size
  have hs1 := HB1.out.size
  have e1 : setT (fun _ => Nd.nil) 5 (askN Nd.nil 1 5).2 = T1 := by rw [show askN Nd.nil 1 5 = _ from ask1]; rfl
  have e1b : (askN Nd.nil 1 5).1 = true := by rw [show askN Nd.nil 1 5 = _ from ask1]
  rw [e1] at htab2
  rw [e1b]
  have hM2' : ∀ k, M2 k → w.heap.size ≤ k ∧ k < w2.heap.size := fun k hk => (hM2 k hk).elim (fun h => by have := HMA.out k h; omega) (fun h => by omega)
  have hR2' : ∀ k, R2 k → w.heap.size ≤ k ∧ k < w2.heap.size := fun k hk => (hR2 k hk).elim (fun h => by have := HRA.out k h; omega) (fun h => by omega)
  have HA2 := Lib.hid (ask_ok htab2 (fun k hk => (hM2' k hk).2) (fun k hk => ⟨(hR2' k hk).2, hRM2 k hk⟩) 2 5 7 may2 (okT1 5))
  have HM2 := Lib.hid hM2'
  have HR2 := Lib.hid hR2'
  have HC2 := Lib.hid hc2
  clear hM2 hR2 hRM2 htab2 hc2 hM2' hR2' e1 e1b
  go_wp2_with fail
  refine HA2.out.mono ?_
  rintro e w3 ⟨M3, R3, f3, rfl, hM3, hR3, hRM3, htab3, hc3⟩
  have hs3 := hc3.size
  have e2 : setT T1 5 (askN (T1 5) 2 7).2 = T2 := by rw [ask2]; rfl
  have e2b : (askN (T1 5) 2 7).1 = false := by rw [ask2]
  rw [e2] at htab3
  rw [e2b]
  have hM3' : ∀ k, M3 k → w.heap.size ≤ k ∧ k < w3.heap.size := fun k hk => (hM3 k hk).elim (fun h => by have := HM2.out k h; omega) (fun h => by omega)
  have hR3' : ∀ k, R3 k → w.heap.size ≤ k ∧ k < w3.heap.size := fun k hk => (hR3 k hk).elim (fun h => by have := HR2.out k h; omega) (fun h => by omega)
  have HA3 := Lib.hid (release_any htab3 (fun k hk => (hM3' k hk).2) (fun k hk => ⟨(hR3' k hk).2, hRM3 k hk⟩) okT2 (by omega) 1)
  have HM3 := Lib.hid hM3'
  have HC3 := Lib.hid hc3
  clear hM3 hR3 hRM3 htab3 hc3 hM3' hR3' e2 e2b
  go_wp2_with fail
  refine HA3.out.mono ?_
  rintro e w4 ⟨R4, ks, f4, v4, hsup, rfl, htr, -, -, -, hc4⟩
  have hs4 := hc4.size
  rw [rel2 hsup] at htr
  obtain ⟨a4, cp4, rfl, hq1, hq2, hx | ⟨g4, o4, rfl, -, hcells⟩⟩ := htr
  · cases hx
  obtain ⟨d0, d1, d2⟩ := hcells 0 _ rfl
  simp only [Nat.zero_mul, Nat.add_zero, List.length_cons, List.length_nil, Nat.zero_add] at d0 d1 d2 ⊢
  have HC4 := Lib.hid hc4
  clear hc4 hcells hsup hq1 hq2
  go_wp2
  go_ret
  exact ⟨rfl, below_of_chg ((((chg_below HB1.out).andThen HC2.out (fun k _ h => (HMA.out k h).1)).andThen HC3.out (fun k _ h => (HM2.out k h).1)).andThen HC4.out (fun k _ h => (HM3.out k h).1))⟩
end Go.Proofs.Ytamjopgpmeeheaa
