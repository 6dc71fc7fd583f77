/- The walk of LockFair (3). -/
import Derived.Test.YtamjopgpmeeheaaAG
namespace Go.Proofs.Ytamjopgpmeeheaa
open Go.RowKit
open Go.ChangeMaps (setBlock)
set_option linter.unusedVariables false

set_option maxRecDepth 100000 in
set_option maxHeartbeats 8000000 in
theorem lockFair_any {F : Nat → Prop} {w : World} {v : Value} {l : List St4} (h : StIn F w v l) (hF : ∀ k, F k → k < w.heap.size) (nd : Int) :
    Calls Try.prog 3 #[v, iv nd] w fun e w' => e = .returned (.bool true) ∧ Below w.heap.size w w' := by
  obtain ⟨av, cv, rfl, hl1, hl2, hcells⟩ := h
  have HC := Lib.hid hcells
  have HN := Lib.hid (new_any w)
  clear hcells
  by_cases hnd : nd < 1
  · have hbad : ∀ T t m, ¬ mayAsk T t nd m := fun T t m h => by have := h.2.2.1; omega
    go_enter Try.func3, Try.ntmps3
    go_wp2_with (go_at_call 8; refine HN.out.mono ?_; rintro e w1 ⟨⟨p, rfl, ⟨M, R, s, m, f, rfl, hMA, hRA, hRM, htab⟩⟩, hb1⟩)
    have HA1 := Lib.hid (ask_bad htab (fun k hk => (hMA k hk).2) (fun k hk => ⟨(hRA k hk).2, hRM k hk⟩) 998 nd 5 (hbad _ _ _))
    have ha2 : ∀ w2, Below w1.heap.size w1 w2 → Calls Try.prog 9 #[.pointer (some ⟨s, 0, none⟩), iv 999, iv nd, iv 7] w2 fun e w' => e = .returned (.tuple #[.bool false, .int .i64 2]) ∧ Below w2.heap.size w2 w' := fun w2 hb => ask_bad (htab.keepNew (fun k hk => (hMA k hk).2) (fun k hk => (hRA k hk).2) hb) (fun k hk => by have := (hMA k hk).2; have := hb.size; omega) (fun k hk => ⟨by have := (hRA k hk).2; have := hb.size; omega, hRM k hk⟩) 999 nd 7 (hbad _ _ _)
    have HA2 := Lib.hid ha2
    clear htab hMA hRA hRM ha2 hbad
    refine HA1.out.mono ?_
    rintro e w2 ⟨rfl, hb2⟩
    go_wp2_with fail
    refine (HA2.out w2 hb2).mono ?_
    rintro e w3 ⟨rfl, hb3⟩
    go_wp2_with (go_at_call 10; refine (works_any _).mono ?_; rintro e w5 ⟨rfl, hb5⟩)
    go_ret
    exact ⟨rfl, ((hb1.trans (hb2.mono hb1.size)).trans (hb3.mono (Nat.le_trans hb1.size hb2.size))).trans (hb5.mono (Nat.le_trans (Nat.le_trans hb1.size hb2.size) hb3.size))⟩
  · have hd0 : decide (nd < 1) = false := decide_eq_false hnd
    have hm1 : mayAsk T0 998 nd 5 := ⟨by omega, by omega, by omega, by decide, fun ⟨id, x, hx, _⟩ => by cases hx⟩
    have hm2 : mayAsk (setT T0 nd ⟨[(998, 5)], []⟩) 999 nd 7 := ⟨by omega, by omega, by omega, by decide, fun ⟨id, x, hx, _⟩ => by
      by_cases e : id = nd
      · subst e; rw [setT_same] at hx; cases hx
      · rw [setT_other _ _ e] at hx; cases hx⟩
    have HM1' := Lib.hid hm1
    have HM2' := Lib.hid hm2
    clear hm1 hm2
    go_enter Try.func3, Try.ntmps3
    go_wp2_with (go_at_call 8; refine HN.out.mono ?_; rintro e w1 ⟨⟨p, rfl, ⟨M, R, s, m, f, rfl, hMA, hRA, hRM, htab⟩⟩, hb1⟩)
    have HA1 := Lib.hid (ask_ok htab (fun k hk => (hMA k hk).2) (fun k hk => ⟨(hRA k hk).2, hRM k hk⟩) 998 nd 5 HM1'.out ok_nil)
    have HMA := Lib.hid hMA
    have HRA := Lib.hid hRA
    have HB1 := Lib.hid hb1
    have hs1 := hb1.size
    clear hMA hRA hRM htab hb1
    refine HA1.out.mono ?_
    rintro e w2 ⟨M2, R2, f2, rfl, hM2, hR2, hRM2, htab2, hc2⟩
    have hs2 := hc2.size
    have e1 : setT (fun _ => Nd.nil) nd (askN Nd.nil 998 5).2 = setT T0 nd ⟨[(998, 5)], []⟩ := by rw [fair1]; rfl
    have e1b : (askN Nd.nil 998 5).1 = true := by rw [fair1]
    rw [e1] at htab2
    rw [e1b]
    have hM2' : ∀ k, M2 k → w.heap.size ≤ k ∧ k < w2.heap.size := fun k hk => (hM2 k hk).elim (fun h => by have := HMA.out k h; omega) (fun h => by omega)
    have hR2' : ∀ k, R2 k → w.heap.size ≤ k ∧ k < w2.heap.size := fun k hk => (hR2 k hk).elim (fun h => by have := HRA.out k h; omega) (fun h => by omega)
    have hok1 : NdOk (setT T0 nd ⟨[(998, 5)], []⟩ nd) := by
      rw [setT_same]
      exact ⟨by simp [Rise], (fun h hh => by simp at hh; subst hh; exact ok998), (fun h hh => by cases hh), by simp⟩
    have HA2 := Lib.hid (ask_ok htab2 (fun k hk => (hM2' k hk).2) (fun k hk => ⟨(hR2' k hk).2, hRM2 k hk⟩) 999 nd 7 HM2'.out hok1)
    have HM2 := Lib.hid hM2'
    have HR2 := Lib.hid hR2'
    have HC2 := Lib.hid hc2
    clear hM2 hR2 hRM2 htab2 hc2 hM2' hR2' e1 e1b hok1
    go_wp2_with fail
    refine HA2.out.mono ?_
    rintro e w3 ⟨M3, R3, f3, rfl, hM3, hR3, hRM3, htab3, hc3⟩
    have hs3 := hc3.size
    have e2 : (askN (setT T0 nd ⟨[(998, 5)], []⟩ nd) 999 7) = (false, ⟨[(998, 5)], [(999, 7)]⟩) := by rw [setT_same]; exact fair2
    rw [e2] at htab3
    rw [e2]
    have hM3' : ∀ k, M3 k → w.heap.size ≤ k ∧ k < w3.heap.size := fun k hk => (hM3 k hk).elim (fun h => by have := HM2.out k h; omega) (fun h => by omega)
    have hR3' : ∀ k, R3 k → w.heap.size ≤ k ∧ k < w3.heap.size := fun k hk => (hR3 k hk).elim (fun h => by have := HR2.out k h; omega) (fun h => by omega)
    have hbel : Below w.heap.size w w3 := below_of_chg (((chg_below HB1.out).andThen HC2.out (fun k _ h => (HMA.out k h).1)).andThen hc3 (fun k _ h => (HM2.out k h).1))
    have HBEL := Lib.hid hbel
    have HST := Lib.hid (And.intro hM3' (And.intro hR3' (And.intro hRM3 htab3)))
    clear hM3 hR3 hRM3 htab3 hc3 hM3' hR3' e2 hbel
    go_wp2_with fail
    go_loopw [10] (fun i wr => ∃ k : Nat, k ≤ 40 ∧ k ≤ l.length ∧ i = .int .i64 k ∧ (∃ M R f T c, TabF M R wr s m f T c ∧ Fair nd T ∧ (∀ j, M j → w.heap.size ≤ j ∧ j < wr.heap.size) ∧ (∀ j, R j → w.heap.size ≤ j ∧ j < wr.heap.size) ∧ (∀ j, R j → ¬ M j)) ∧ Below w.heap.size w wr) (fun i _ => 40 - (Lib.intOf i).toNat)
    case atStart => exact ⟨0, by omega, by omega, rfl, ⟨M3, R3, f3, _, _, HST.out.2.2.2, fair_start, HST.out.1, HST.out.2.1, HST.out.2.2.1⟩, HBEL.out⟩
    case round =>
      obtain ⟨k, hk40, hkl, rfl, ⟨M4, R4, f4, T4, c4, htab, hfair, hM4, hR4, hRM4⟩, hbr⟩ := hrel
      have hsr := hbr.size
      have HTAB := Lib.hid htab
      have HFAIR := Lib.hid hfair
      have HM4 := Lib.hid hM4
      have HR4 := Lib.hid hR4
      have HRM4 := Lib.hid hRM4
      have HBR := Lib.hid hbr
      clear htab hfair hM4 hR4 hRM4 hbr
      by_cases hlt : k < l.length ∧ k < 40
      · obtain ⟨hlt1, hlt2⟩ := hlt
        obtain ⟨⟨kd, t, n4, mo⟩, he⟩ : ∃ e, l[k]? = some e := ⟨_, List.getElem?_eq_getElem hlt1⟩
        rcases HC.out with h | ⟨g, off, rfl, hg, hcl⟩
        · rw [h] at hlt1; simp at hlt1
        have hgl := hF g hg
        obtain ⟨d0, d1, d2, d3⟩ := hcl k _ he
        have y0 := (HBR.out.cell (p := ⟨g, off + k * 4, none⟩) hgl).trans d0
        have y1 := (HBR.out.cell (p := ⟨g, off + k * 4 + 1, none⟩) hgl).trans d1
        have y2 := (HBR.out.cell (p := ⟨g, off + k * 4 + 2, none⟩) hgl).trans d2
        have y3 := (HBR.out.cell (p := ⟨g, off + k * 4 + 3, none⟩) hgl).trans d3
        simp only at y0 y1 y2 y3
        have k0 : (0 : Int) ≤ (k : Int) := by omega
        have k1 : (k : Int) < (l.length : Int) := by omega
        have kd1 : decide ((k : Int) < (l.length : Int)) = true := decide_eq_true k1
        have kd2 : decide ((k : Int) < 40) = true := decide_eq_true (by omega)
        have hbA : Below wr.heap.size wr (wr.alloc (.cells #[iv kd, iv t, iv n4, iv mo] 30)) := (Below.refl _ _).alloc (Nat.le_refl _) _
        have hsame : ∀ wz, Below wr.heap.size wr wz → (∃ M R f T c, TabF M R wz s m f T c ∧ Fair nd T ∧ (∀ j, M j → w.heap.size ≤ j ∧ j < wz.heap.size) ∧ (∀ j, R j → w.heap.size ≤ j ∧ j < wz.heap.size) ∧ (∀ j, R j → ¬ M j)) ∧ Below w.heap.size w wz := fun wz hz =>
          ⟨⟨M4, R4, f4, T4, c4, HTAB.out.keepNew (fun j hj => (HM4.out j hj).2) (fun j hj => (HR4.out j hj).2) hz, HFAIR.out, fun j hj => ⟨(HM4.out j hj).1, Nat.lt_of_lt_of_le (HM4.out j hj).2 hz.size⟩, fun j hj => ⟨(HR4.out j hj).1, Nat.lt_of_lt_of_le (HR4.out j hj).2 hz.size⟩, HRM4.out⟩, HBR.out.trans (hz.mono hsr)⟩
        have HSAME := Lib.hid (hsame _ hbA)
        have HTA := Lib.hid (HTAB.out.keepNew (fun j hj => (HM4.out j hj).2) (fun j hj => (HR4.out j hj).2) hbA)
        have hsA : (wr.alloc (.cells #[iv kd, iv t, iv n4, iv mo] 30)).heap.size = wr.heap.size + 1 := by simp
        have HSA := Lib.hid hsA
        have HBA := Lib.hid hbA
        clear d0 d1 d2 d3 hcl he hsame hbA hsA
        by_cases c1 : 998 ≤ t
        · have c1' : decide (998 ≤ t) = true := decide_eq_true c1
          go_wp2
          go_roundw
          case rel => exact ⟨k + 1, by omega, by omega, by go_num, HSAME.out⟩
          case measure => simp [Lib.intOf]; omega
        · have c1' : decide (998 ≤ t) = false := decide_eq_false c1
          by_cases c2 : kd = 1
          · have c2' : (kd == 1) = true := by simp [c2]
            clear c2
            go_wp2
            go_roundw
            case rel => exact ⟨k + 1, by omega, by omega, by go_num, HSAME.out⟩
            case measure => simp [Lib.intOf]; omega
          · have c2' : (kd == 1) = false := by simp [c2]
            by_cases c3 : kd = 2
            · have c3' : (kd == 2) = true := by simp [c3]
              clear c3
              go_wp2
              go_roundw
              case rel => exact ⟨k + 1, by omega, by omega, by go_num, HSAME.out⟩
              case measure => simp [Lib.intOf]; omega
            · have c3' : (kd == 2) = false := by simp [c3]
              go_wp2_with fail
              have hask := ask_any HTA.out (fun j hj => by have := HM4.out j hj; have := HSA.out; omega) (fun j hj => ⟨by have := HR4.out j hj; have := HSA.out; omega, HRM4.out j hj⟩) t nd mo (HFAIR.out.elim fun q h => h.2.2)
              refine hask.mono ?_
              rintro e w6 ⟨M6, R6, f6, T6, hcase, hM6, hR6, hRM6, ht6, hc6⟩
              have hs6 := hc6.size
              obtain ⟨er, rfl, hf6⟩ : ∃ er, e = .returned (.tuple #[.bool false, .int .i64 er]) ∧ Fair nd T6 := by
                rcases hcase with ⟨hm, rfl, rfl⟩ | ⟨hm, rfl, rfl⟩
                · have := fair_step HFAIR.out (by omega) hm
                  exact ⟨0, by rw [this.1], this.2⟩
                · exact ⟨2, rfl, HFAIR.out⟩
              have hrel6 : (∃ M R f T c, TabF M R w6 s m f T c ∧ Fair nd T ∧ (∀ j, M j → w.heap.size ≤ j ∧ j < w6.heap.size) ∧ (∀ j, R j → w.heap.size ≤ j ∧ j < w6.heap.size) ∧ (∀ j, R j → ¬ M j)) ∧ Below w.heap.size w w6 := by
                have hsA := HSA.out
                refine ⟨⟨M6, R6, f6, T6, _, ht6, hf6, fun j hj => ?_, fun j hj => ?_, hRM6⟩, ?_⟩
                · rcases hM6 j hj with h | h
                  · have := HM4.out j h; omega
                  · omega
                · rcases hR6 j hj with h | h
                  · have := HR4.out j h; omega
                  · omega
                · exact below_of_chg ((chg_below (HBR.out.trans (HBA.out.mono hsr))).andThen hc6 (fun j _ hj => (HM4.out j hj).1))
              have HREL := Lib.hid hrel6
              clear hask hcase hM6 hR6 hRM6 ht6 hc6 hf6 hrel6
              go_wp2
              go_roundw
              case rel => exact ⟨k + 1, by omega, by omega, by go_num, HREL.out⟩
              case measure => simp [Lib.intOf]; omega
      · have kz : (¬ k < l.length ∧ decide ((k : Int) < (l.length : Int)) = false ∧ decide (k < l.length) = false) ∨ (k < l.length ∧ ¬ ((k : Int) < 40) ∧ decide ((k : Int) < (l.length : Int)) = true ∧ decide ((k : Int) < 40) = false) := by
          by_cases h1 : k < l.length
          · exact .inr ⟨h1, by omega, decide_eq_true (by omega), decide_eq_false (by omega)⟩
          · exact .inl ⟨h1, decide_eq_false (by omega), decide_eq_false h1⟩
        obtain ⟨q, hT, -, hok⟩ := HFAIR.out
        have hqu := queue_any HTAB.out (fun j hj => (HM4.out j hj).2) (fun j hj => (HR4.out j hj).2) nd hok.few_q
        rw [hT] at hqu
        have HQU := Lib.hid hqu
        clear hqu hT hok hlt
        rcases kz with ⟨kz, kz2, kz3⟩ | ⟨kz, kz2, kz3, kz4⟩
        all_goals
          go_wp2_with (first
            | (go_at_call 10; refine (works_any _).mono ?_; rintro e w7 ⟨rfl, hb7⟩)
            | (go_at_call 11; refine HQU.out.mono ?_; rintro e w6 ⟨⟨v6, rfl, htr⟩, hb6⟩; obtain ⟨a6, cp6, rfl, hq1, hq2, hx | ⟨g6, o6, rfl, -, hcl6⟩⟩ := htr; (first | cases hx | skip); rotate_left; (obtain ⟨d0, -, -⟩ := hcl6 0 _ rfl; simp only [Nat.zero_mul, Nat.add_zero, List.length_map, List.length_cons] at d0 ⊢; clear hcl6 hq1 hq2)))
          all_goals
            go_ret
            exact ⟨rfl, (HBR.out.trans (hb6.mono hsr)).trans (hb7.mono (Nat.le_trans hsr hb6.size))⟩
end Go.Proofs.Ytamjopgpmeeheaa
