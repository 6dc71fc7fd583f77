/- Ask (9), when it may be asked. -/
import Derived.Test.YtamjopgpmeeheaaAK
import Derived.Deep.RegionHeld3
import Derived.Deep.RegionWith
namespace Go.Proofs.Ytamjopgpmeeheaa
open Go.RowKit
open Go.ChangeMaps (setBlock)
set_option linter.unusedVariables false

theorem look_has {w : World} {hb : Nat} {hs : List W2} (h : MapIs iv w hb (hF hs)) (t : Int) : ∃ v, v = (hF hs t).getD (iv 0) ∧ v = iv (hasI hs t) := by
  refine ⟨_, rfl, ?_⟩
  unfold hF hasI
  cases findH hs t <;> rfl

theorem takeWhile_len {α : Type} {p : α → Bool} : ∀ {l : List α} {k : Nat}, k ≤ l.length → (∀ x ∈ l.take k, p x = true) → (k = l.length ∨ ∃ e, l[k]? = some e ∧ p e = false) → (l.takeWhile p).length = k
  | [], k, hk, _, _ => by simp at hk; simp [hk]
  | a :: l, 0, _, _, h2 => by
    rcases h2 with h | ⟨e, he, hp⟩
    · simp at h
    · simp at he; subst he; simp [List.takeWhile, hp]
  | a :: l, k + 1, hk, h1, h2 => by
    have ha := h1 a (by simp)
    have ih := takeWhile_len (l := l) (k := k) (by simpa using hk) (fun x hx => h1 x (by simp [hx])) (by simpa using h2)
    simp [List.takeWhile, ha, ih]
theorem cells2_new (w : World) (x y : Value) (t : TypeId) : (w.alloc (.cells #[x, y] t)).cell? ⟨w.heap.size, 0, none⟩ = some x ∧ (w.alloc (.cells #[x, y] t)).cell? ⟨w.heap.size, 1, none⟩ = some y := by
  have := Go.heap_alloc_new w (.cells #[x, y] t)
  simp only [World.cell?, this]
  exact ⟨rfl, rfl⟩
theorem cell_old (w : World) (o : Obj) {b j : Nat} (h : b < w.heap.size) : (w.alloc o).cell? ⟨b, j, none⟩ = w.cell? ⟨b, j, none⟩ := World.cell?_of_block (a := ⟨b, j, none⟩) (Go.heap_alloc_old w o h)
set_option maxRecDepth 100000 in
set_option maxHeartbeats 16000000 in
theorem ask_ok {M R : Nat → Prop} {w : World} {s m : Nat} {f : Int → Option Value} {T : Tb} {c : Nat} (h : TabF M R w s m f T c) (hM : ∀ k, M k → k < w.heap.size) (hR : ∀ k, R k → k < w.heap.size ∧ ¬ M k) (t id mo : Int) (hmay : mayAsk T t id mo) (hOK : NdOk (T id)) :
    Calls Try.prog 9 #[.pointer (some ⟨s, 0, none⟩), iv t, iv id, iv mo] w fun e w' => ∃ M' R' f', e = .returned (.tuple #[.bool (askN (T id) t mo).1, .int .i64 0]) ∧ (∀ k, M' k → M k ∨ (w.heap.size ≤ k ∧ k < w'.heap.size)) ∧ (∀ k, R' k → R k ∨ (w.heap.size ≤ k ∧ k < w'.heap.size)) ∧ (∀ k, R' k → ¬ M' k) ∧
      TabF M' R' w' s m f' (setT T id (askN (T id) t mo).2) (c + 1) ∧ Chg M w w' := by
  obtain ⟨h1, h2, h3, h4, h5⟩ := hmay
  have hms := hM _ h.ms
  have hmm := hM _ h.mm
  have c0 : w.cell? ⟨s, 0, none⟩ = some (.map (some m)) := by simp [World.cell?, h.cell]
  have hd1 : decide (t < 1) = false := decide_eq_false (by omega)
  have hd2 : decide (1000 < t) = false := decide_eq_false (by omega)
  have hd3 : decide (id < 1) = false := decide_eq_false (by omega)
  have hnm : (nameS mo).toList.isEmpty = false := by rw [nameS_empty, h4]; rfl
  have hw : ∀ wb, (wb = true ↔ waitsP T t) → false = wb := fun wb hwb => by
    cases wb with
    | false => rfl
    | true => exact absurd (hwb.1 rfl) h5
  have HW := Lib.hid hw
  have HNO := Lib.hid (none_any c0)
  have HWA := Lib.hid (wants_any' h hM (fun k hk => (hR k hk).1) t)
  have hof : ∀ w2, Below w.heap.size w w2 → Calls Try.prog 29 #[.pointer (some ⟨s, 0, none⟩), iv id] w2 fun e w' => ∃ M' f' hb qv, e = .returned (.agg #[.map (some hb), qv]) ∧ (∀ k, M k → M' k) ∧ (∀ k, M' k → M k ∨ (w2.heap.size ≤ k ∧ k < w'.heap.size)) ∧
      TabF M' R w' s m f' T (c + 1) ∧ f' id = some (.agg #[.map (some hb), qv]) ∧ Chg (fun k => k = m) w2 w' := fun w2 hb => of_any (h.keepNew hM (fun k hk => (hR k hk).1) hb) (fun k hk => by have := hM k hk; have := hb.size; omega) (fun k hk => ⟨by have := (hR k hk).1; have := hb.size; omega, (hR k hk).2⟩) id
  have HOF := Lib.hid hof
  have HT := Lib.hid h
  have HM := Lib.hid hM
  have HR := Lib.hid hR
  have HOK := Lib.hid hOK
  clear h hM hR h1 h2 h3 h4 h5 hw hof hOK
  go_enter Try.func9, Try.ntmps9
  go_wp2_with (first
    | (go_at_call 28; refine (name_any _ _).mono ?_; rintro e w2 ⟨rfl, hb2⟩)
    | (go_at_call 14; refine HWA.out.mono ?_; rintro e w1 ⟨a, b, d, wb, hwb, rfl, hb1⟩; obtain rfl := HW.out wb hwb; clear hwb)
    | (go_at_call 27; refine HNO.out.mono ?_; rintro e w' ⟨rfl, rfl⟩))
  have hB2 := ((hb1.alloc hb1.size (.cells #[.int .i64 a, .int .i64 b, .int .i64 d] 34)).trans (hb2.mono (by have := hb1.size; simp; omega)))
  refine (HOF.out w2 hB2).mono ?_
  rintro e w3 ⟨M3, f3, hb, qv, rfl, hM3, hM3', ht3, hf3, hc3⟩
  obtain ⟨hb', qv', e3, hbM, hbs, hbm, hmap3, hqin⟩ := ht3.node id _ hf3
  obtain ⟨rfl, rfl⟩ : hb = hb' ∧ qv = qv' := by simpa using e3
  have HQ3 := Lib.hid hqin
  have HB2 := Lib.hid hB2
  obtain ⟨aq, cq, rfl, -, -, -⟩ := hqin
  have hs3 := hc3.size
  have hs2 := hB2.size
  have hbl3 : hb < w3.heap.size := hmap3.lt
  have HT3 := Lib.hid ht3
  have HF3 := Lib.hid hf3
  have HC3 := Lib.hid hc3
  have HM3 := Lib.hid (And.intro hM3 hM3')
  have HMAP3 := Lib.hid hmap3
  obtain ⟨v, hv0, hv⟩ := look_has hmap3 t
  have hlk := (hmap3.keep (w' := w3.alloc (.cells #[.map (some hb), .slice aq (T id).q.length cq] 60)) (Go.heap_alloc_old _ _ hbl3)).look key3 Try.underlying57 Try.zero3 t false
  simp only [Bool.false_eq_true, if_false] at hlk
  rw [show ((hF (T id).hs t).getD (Value.int .i64 0)) = iv (hasI (T id).hs t) from hv0.symm.trans hv] at hlk
  have HV := Lib.hid hv0
  clear ht3 hf3 hc3 hM3 hM3' hmap3 hB2 hb1 hb2 e3 hv0 hv
  obtain ⟨has, hhas⟩ : ∃ has, hasI (T id).hs t = has := ⟨_, rfl⟩
  have HHAS := Lib.hid hhas
  rw [hhas] at hlk
  clear hhas
  obtain ⟨ql, hnq⟩ : ∃ ql, (T id).q.length = ql := ⟨_, rfl⟩
  have HNQ := Lib.hid hnq
  rw [hnq] at hlk HF3 HQ3 ⊢
  clear hnq
  have q0 : (w3.alloc (.cells #[.map (some hb), .slice aq ql cq] 60)).cell? ⟨w3.heap.size, 0, none⟩ = some (.map (some hb)) := by
    have := Go.heap_alloc_new w3 (.cells #[.map (some hb), .slice aq ql cq] 60)
    simp only [World.cell?, this]; rfl
  have q1 : (w3.alloc (.cells #[.map (some hb), .slice aq ql cq] 60)).cell? ⟨w3.heap.size, 1, none⟩ = some (.slice aq ql cq) := by
    have := Go.heap_alloc_new w3 (.cells #[.map (some hb), .slice aq ql cq] 60)
    simp only [World.cell?, this]; rfl
  have hB4 : Below w3.heap.size w3 (w3.alloc (.cells #[.map (some hb), .slice aq ql cq] 60)) := (Below.refl _ _).alloc (Nat.le_refl _) _
  have HQ := Lib.hid (And.intro q0 q1)
  have HB4 := Lib.hid hB4
  clear q0 q1 hB4
  obtain ⟨cv, hcv⟩ : ∃ cv, covB has mo = cv := ⟨_, rfl⟩
  have HCV := Lib.hid hcv
  have hcov : ∀ w', Calls Try.prog 30 #[iv has, iv mo] w' fun e w'' => e = .returned (.bool cv) ∧ Below w'.heap.size w' w'' := fun w' => by rw [← hcv]; exact cov_any has mo w'
  have HCOV := Lib.hid hcov
  clear hcv hcov
  cases cv with
  | true =>
    go_wp2_with (go_at_call 30; refine (HCOV.out _).mono ?_; rintro e w5 ⟨rfl, hb5⟩)
    have hB := HB4.out.trans (hb5.mono (by simp))
    have he : askN (T id) t mo = (true, T id) := by unfold askN; rw [HHAS.out, if_pos HCV.out]
    refine bodyPost_ret (results_tmp2 rfl _ _ _) rfl ⟨M3, R, f3, by rw [he]; rfl, fun k hk => (HM3.out.2 k hk).imp (fun h => h) (fun h => by have := hB.size; omega), fun k hk => .inl hk, fun k hk hm => ?_, ?_, ?_⟩
    · rcases HM3.out.2 k hm with h | h
      · exact (HR.out k hk).2 h
      · have := (HR.out k hk).1; omega
    · rw [he, show setT T id (T id) = T from funext (fun x => by unfold setT; split <;> simp_all)]
      exact HT3.out.keepNew (fun k hk => (HM3.out.2 k hk).elim (fun h => by have := HM.out k h; omega) (fun h => h.2)) (fun k hk => by have := (HR.out k hk).1; omega) hB
    · exact ((chg_new HB2.out).andThen HC3.out (fun k _ h => by rw [h]; exact HT.out.mm)).new hB
  | false =>
    obtain ⟨j, hj⟩ : ∃ j, joinI has mo = j := ⟨_, rfl⟩
    have hjoin : ∀ w', Calls Try.prog 31 #[iv has, iv mo] w' fun e w'' => e = .returned (.int .i64 j) ∧ Below w'.heap.size w' w'' := fun w' => by rw [← hj]; exact join_any has mo w'
    obtain ⟨cb, hcb⟩ : ∃ cb, canB (T id).hs t j = cb := ⟨_, rfl⟩
    have hcan : ∀ w', Below w3.heap.size w3 w' → Calls Try.prog 32 #[.agg #[.map (some hb), .slice aq ql cq], iv t, iv j] w' fun e w'' => e = .returned (.bool cb) ∧ Below w'.heap.size w' w'' := fun w' hb' => by rw [← hcb]; exact can_any (HMAP3.out.keep (hb'.block hb hbl3)) HOK.out.rise _ _ _
    have HJOIN := Lib.hid hjoin
    have HCAN := Lib.hid hcan
    have HJ := Lib.hid hj
    have HCB := Lib.hid hcb
    clear hjoin hcan hj hcb
    have he : askN (T id) t mo = if cb = true ∧ (has ≠ 0 ∨ (T id).q = []) then (true, ⟨putH (T id).hs t j, (T id).q⟩) else (false, ⟨(T id).hs, (T id).q.take (atI (T id) t) ++ (t, j) :: (T id).q.drop (atI (T id) t)⟩) := by
      unfold askN
      rw [HHAS.out, if_neg (by rw [HCV.out]; simp), HJ.out, HCB.out]
    have HE := Lib.hid he
    clear he
    by_cases hyes : cb = true ∧ (has ≠ 0 ∨ (T id).q = [])
    · obtain ⟨rfl, hor⟩ := hyes
      have hgo : ((has != 0) = true) ∨ ((has != 0) = false ∧ ql = 0) := by
        by_cases h0 : has = 0
        · refine .inr ⟨by simp [h0], ?_⟩
          rcases hor with h | h
          · exact absurd h0 h
          · rw [← HNQ.out, h]; rfl
        · exact .inl (by simpa using h0)
      have HOR := Lib.hid hor
      clear hor
      rcases hgo with hz | ⟨hz, hq0⟩
      case' inr =>
        have hp' : ((ql : Int) == 0) = true := by simp [hq0]
        have hp'' : decide ((ql : Int) = 0) = true := by simp [hq0]
        have HQ0 := Lib.hid hq0
        clear hq0
      all_goals
        go_wp2_with (first
          | (refine wpList_mapStore rfl _ _ _ 57 rfl key3 Try.underlying57 rfl (HMAP3.out.keep (HU.out.block hb hbl3)) t rfl (iv j) rfl ?_; intro ob hmap; have HMP := Lib.hid hmap; clear hmap)
          | (go_at_call 32; refine (HCAN.out _ hB7).mono ?_; rintro e w8 ⟨rfl, hb8⟩; have hB8 := hB7.trans (hb8.mono hB7.size); have u0 := ((hb8.cell (p := ⟨w3.heap.size, 0, none⟩) (by simp; omega)).trans (cell_old _ _ hl6)).trans s0; have u1 := ((hb8.cell (p := ⟨w3.heap.size, 1, none⟩) (by simp; omega)).trans (cell_old _ _ hl6)).trans s1; have z0 := (hb8.cell (p := ⟨w6.heap.size, 0, none⟩) (by simp)).trans (cells2_new w6 (.int .i64 t) (.int .i64 j) 63).1; have z1 := (hb8.cell (p := ⟨w6.heap.size, 1, none⟩) (by simp)).trans (cells2_new w6 (.int .i64 t) (.int .i64 j) 63).2; have hl8 : w6.heap.size < w8.heap.size := (by have := hb8.size; simp at this; omega); have HZB := Lib.hid ((hb8.block w6.heap.size (by simp)).trans (Go.heap_alloc_new w6 (.cells #[.int .i64 t, .int .i64 j] 63))); have HU := Lib.hid hB8; have HBX := Lib.hid (((hA6.alloc hA6.size (.cells #[.int .i64 t, .int .i64 j] 63)).trans (hb8.mono (by have := hA6.size; simp at this ⊢; omega))).block w3.heap.size (by simp) |>.trans (Go.heap_alloc_new w3 (.cells #[.map (some hb), .slice aq ql cq] 60))); clear hb8 hB8 hB7 s0 s1 hA6)
          | (go_at_call 31; refine (HJOIN.out _).mono ?_; rintro e w6 ⟨rfl, hb6⟩; have hB6 := hB5.trans (hb6.mono hB5.size); have s0 := (hb6.cell (p := ⟨w3.heap.size, 0, none⟩) hl5).trans r0; have s1 := (hb6.cell (p := ⟨w3.heap.size, 1, none⟩) hl5).trans r1; have hl6 : w3.heap.size < w6.heap.size := (by have := hb6.size; omega); have hB7 := hB6.alloc hB6.size (.cells #[.int .i64 t, .int .i64 j] 63); have hA6 := hA5.trans (hb6.mono hA5.size); clear hb6 r0 r1 hB5 hB6 hA5)
          | (go_at_call 30; refine (HCOV.out _).mono ?_; rintro e w5 ⟨rfl, hb5⟩; have hB5 := HB4.out.trans (hb5.mono (by simp)); have r0 := (hb5.cell (p := ⟨w3.heap.size, 0, none⟩) (by simp)).trans HQ.out.1; have r1 := (hb5.cell (p := ⟨w3.heap.size, 1, none⟩) (by simp)).trans HQ.out.2; have hl5 : w3.heap.size < w5.heap.size := (by have := hb5.size; simp at this; omega); have hA5 := hb5; clear hb5))
        have hall : Below w3.heap.size w3 w8 := HU.out
        have hM8 : ∀ k, M3 k → k < w3.heap.size := fun k hk => (HM3.out.2 k hk).elim (fun h => by have := HM.out k h; omega) (fun h => h.2)
        have hR8 : ∀ k, R k → k < w3.heap.size := fun k hk => by have := (HR.out k hk).1; omega
        have hRM : ∀ k, R k → ¬ M3 k := fun k hk hm => by
          rcases HM3.out.2 k hm with h | h
          · exact (HR.out k hk).2 h
          · have := (HR.out k hk).1; omega
        have hs8 := hall.size
        have ht8 := HT3.out.keepNew hM8 hR8 hall
        have hc9 : Chg (fun k => k = hb) w8 (setBlock w8 hb ob) := chg_setBlock (M := fun k => k = hb) rfl ob
        have ht9 := tab_h ht8 HF3.out (hs' := putH (T id).hs t j) (fun k hk => by have := hM8 k hk; omega) (fun k hk => ⟨by have := hR8 k hk; omega, hRM k hk⟩) hc9 (by rw [hF_put]; exact HMP.out)
        have he := HE.out
        rw [if_pos ⟨trivial, HOR.out⟩] at he
        refine bodyPost_ret (results_tmp2 rfl _ _ _) rfl ⟨M3, R, f3, by rw [he]; rfl, fun k hk => (HM3.out.2 k hk).imp (fun h => h) (fun h => ⟨by omega, by simp; omega⟩), fun k hk => .inl hk, hRM, by rw [he]; exact ht9, ?_⟩
        refine (((chg_new HB2.out).andThen HC3.out (fun k _ h => by rw [h]; exact HT.out.mm)).new hall).andThen hc9 (fun k hk h => ?_)
        rcases HM3.out.2 hb hbM with h' | h'
        · rw [h]; exact h'
        · omega
    · have he := HE.out
      rw [if_neg hyes] at he
      have HE2 := Lib.hid he
      have hgo : (cb = false ∧ (has != 0) = true ∧ (has == 0) = false) ∨ (has = 0 ∧ cb = false) ∨ (has = 0 ∧ cb = true ∧ 0 < ql) := by
        by_cases h0 : has = 0
        · cases cb with
          | false => exact .inr (.inl ⟨h0, rfl⟩)
          | true =>
            refine .inr (.inr ⟨h0, rfl, ?_⟩)
            rw [← HNQ.out]
            exact List.length_pos_iff.2 (fun h => hyes ⟨rfl, .inr h⟩)
        · refine .inl ⟨?_, by simpa using h0, by simpa using h0⟩
          cases cb with
          | false => rfl
          | true => exact absurd ⟨rfl, .inl h0⟩ hyes
      clear hyes he HE
      rcases hgo with ⟨rfl, hz, hz'⟩ | ⟨rfl, rfl⟩ | ⟨rfl, rfl, hpos⟩
      · go_wp2_with (first
          | (go_at_call 32; refine (HCAN.out _ hB7).mono ?_; rintro e w8 ⟨rfl, hb8⟩; have hB8 := hB7.trans (hb8.mono hB7.size); have u0 := ((hb8.cell (p := ⟨w3.heap.size, 0, none⟩) (by simp; omega)).trans (cell_old _ _ hl6)).trans s0; have u1 := ((hb8.cell (p := ⟨w3.heap.size, 1, none⟩) (by simp; omega)).trans (cell_old _ _ hl6)).trans s1; have z0 := (hb8.cell (p := ⟨w6.heap.size, 0, none⟩) (by simp)).trans (cells2_new w6 (.int .i64 t) (.int .i64 j) 63).1; have z1 := (hb8.cell (p := ⟨w6.heap.size, 1, none⟩) (by simp)).trans (cells2_new w6 (.int .i64 t) (.int .i64 j) 63).2; have hl8 : w6.heap.size < w8.heap.size := (by have := hb8.size; simp at this; omega); have HZB := Lib.hid ((hb8.block w6.heap.size (by simp)).trans (Go.heap_alloc_new w6 (.cells #[.int .i64 t, .int .i64 j] 63))); have HU := Lib.hid hB8; have HBX := Lib.hid (((hA6.alloc hA6.size (.cells #[.int .i64 t, .int .i64 j] 63)).trans (hb8.mono (by have := hA6.size; simp at this ⊢; omega))).block w3.heap.size (by simp) |>.trans (Go.heap_alloc_new w3 (.cells #[.map (some hb), .slice aq ql cq] 60))); clear hb8 hB8 hB7 s0 s1 hA6)
          | (go_at_call 31; refine (HJOIN.out _).mono ?_; rintro e w6 ⟨rfl, hb6⟩; have hB6 := hB5.trans (hb6.mono hB5.size); have s0 := (hb6.cell (p := ⟨w3.heap.size, 0, none⟩) hl5).trans r0; have s1 := (hb6.cell (p := ⟨w3.heap.size, 1, none⟩) hl5).trans r1; have hl6 : w3.heap.size < w6.heap.size := (by have := hb6.size; omega); have hB7 := hB6.alloc hB6.size (.cells #[.int .i64 t, .int .i64 j] 63); have hA6 := hA5.trans (hb6.mono hA5.size); clear hb6 r0 r1 hB5 hB6 hA5)
          | (go_at_call 30; refine (HCOV.out _).mono ?_; rintro e w5 ⟨rfl, hb5⟩; have hB5 := HB4.out.trans (hb5.mono (by simp)); have r0 := (hb5.cell (p := ⟨w3.heap.size, 0, none⟩) (by simp)).trans HQ.out.1; have r1 := (hb5.cell (p := ⟨w3.heap.size, 1, none⟩) (by simp)).trans HQ.out.2; have hl5 : w3.heap.size < w5.heap.size := (by have := hb5.size; simp at this; omega); have hA5 := hb5; clear hb5))
        go_loopw [15] (fun i wr => ∃ k : Nat, k ≤ ql ∧ i = .int .i64 k ∧ (∀ x ∈ (T id).q.take k, (hasI (T id).hs x.1 != 0) = true) ∧ Below w8.heap.size w8 wr) (fun i _ => ql - (Lib.intOf i).toNat)
        case atStart => exact ⟨0, Nat.zero_le _, rfl, by simp, Below.refl _ _⟩
        case round =>
          obtain ⟨k, hk, rfl, hpre, hbr⟩ := hrel
          have HPRE := Lib.hid hpre
          have HBR := Lib.hid hbr
          have hsr := hbr.size
          have x0 := (hbr.cell (p := ⟨w3.heap.size, 0, none⟩) (by simp; omega)).trans u0
          have x1 := (hbr.cell (p := ⟨w3.heap.size, 1, none⟩) (by simp; omega)).trans u1
          clear hpre hbr u0 u1
          by_cases hlt : k < ql
          · obtain ⟨e, he⟩ : ∃ e, (T id).q[k]? = some e := ⟨_, List.getElem?_eq_getElem (by rw [HNQ.out]; exact hlt)⟩
            obtain ⟨aq', cq', eq', hq1, hq2, hqc⟩ := HQ3.out
            rw [HNQ.out] at eq' hq1
            obtain ⟨rfl, rfl⟩ : aq = aq' ∧ cq = cq' := by simpa using eq'
            rcases hqc with h | ⟨g, off, rfl, hgR, hqc⟩
            · rw [h] at HNQ; have := HNQ.out; simp at this; omega
            obtain ⟨d0, d1⟩ := hqc k e he
            have hgl : g < w3.heap.size := by have := (HR.out g hgR).1; omega
            have hbw : Below w3.heap.size w3 wr := HU.out.trans (HBR.out.mono HU.out.size)
            have y0 := (hbw.cell (p := ⟨g, off + k * 2, none⟩) hgl).trans d0
            obtain ⟨v2, hv20, hv2⟩ := look_has (HMAP3.out.keep (hbw.block hb hbl3)) e.1
            have hlk2 : ∀ n, (Instr.lookup 57 (.map (some hb)) (iv e.1) false).run Try.prog (wr.drewN n) = .ok (iv (hasI (T id).hs e.1)) (wr.drewN n) := fun n => by
              have := ((HMAP3.out.keep (w' := wr.drewN n) (hbw.block hb hbl3)).look key3 Try.underlying57 Try.zero3 e.1 false)
              simp only [Bool.false_eq_true, if_false] at this
              rw [show ((hF (T id).hs e.1).getD (Value.int .i64 0)) = iv (hasI (T id).hs e.1) from hv20.symm.trans hv2] at this
              exact this
            have k0 : (0 : Int) ≤ (k : Int) := by omega
            have k1 : (k : Int) < (ql : Int) := by omega
            have kd : decide ((k : Int) < (ql : Int)) = true := decide_eq_true k1
            obtain ⟨hh, hhh⟩ : ∃ hh, hasI (T id).hs e.1 = hh := ⟨_, rfl⟩
            rw [hhh] at hlk2
            have HE3 := Lib.hid he
            have HHH := Lib.hid hhh
            clear eq' hq1 hq2 hqc d0 d1 hv20 hv2 he hhh hbw
            by_cases hh0 : hh = 0
            · have hz2 : (hh != 0) = false := by simp [hh0]
              go_wp2_with fail
              go_quiet (fail)
              go_wp2_with fail
              have hX0 : Below w8.heap.size w8 (wr.drewN nq) := below_drewN HBR.out nq
              obtain ⟨wx, hwx⟩ : ∃ wx, wr.drewN nq = wx := ⟨_, rfl⟩
              rw [hwx] at hX0 ⊢
              have hX1 := hX0.size
              have HXX := Lib.hid (HU.out.trans (hX0.mono HU.out.size))
              have HBXX := Lib.hid ((hX0.block w3.heap.size (by omega)).trans HBX.out)
              have HZX := Lib.hid ((hX0.block w6.heap.size (by omega)).trans HZB.out)
              have hlx : w6.heap.size < wx.heap.size := by omega
              have HAT := Lib.hid (show atI (T id) t = k by unfold atI; rw [HHAS.out, if_neg (by simpa using hz)]; exact takeWhile_len (by rw [HNQ.out]; omega) HPRE.out (.inr ⟨e, HE3.out, by rw [HHH.out]; exact hz2⟩))
              have HLE := Lib.hid hk
              clear hX0 hwx x0 x1
              clear hlk2 y0
              have hbx60 := HBXX.out
              have hbx63 := HZX.out
              have v0 : wx.cell? ⟨w3.heap.size, 0, none⟩ = some (.map (some hb)) := by simp [World.cell?, hbx60]
              have v1 : wx.cell? ⟨w3.heap.size, 1, none⟩ = some (.slice (some ⟨g, off, none⟩) ql cq) := by simp [World.cell?, hbx60]
              have y0 : wx.cell? ⟨w6.heap.size, 0, none⟩ = some (.int .i64 t) := by simp [World.cell?, hbx63]
              have y1 : wx.cell? ⟨w6.heap.size, 1, none⟩ = some (.int .i64 j) := by simp [World.cell?, hbx63]
              have hq1000 : ql ≤ 1000 := by rw [← HNQ.out]; exact HOK.out.few_q
              have hcl : ∀ w', Below wx.heap.size wx w' → Calls Try.prog 34 #[.slice (some ⟨g, off, none⟩) ql cq] w' fun e w'' => (∃ v', e = .returned v' ∧ w''.ownsRow w'.heap.size 63 2 v' (T id).q.length (flat (T id).q)) ∧ Below w'.heap.size w' w'' := fun w' hb' =>
                cloneW_any (T id).q R _ w' (HQ3.out.keep (fun k hk => (hb'.block k (by have := (HR.out k hk).1; omega)).trans (HXX.out.block k (by have := (HR.out k hk).1; omega)))) (fun k hk => by have := (HR.out k hk).1; have := hb'.size; omega) (by rw [HNQ.out]; exact hq1000)
              have HCL := Lib.hid hcl
              obtain ⟨Q', hQ'⟩ : ∃ Q', (T id).q.take k ++ (t, j) :: (T id).q.drop k = Q' := ⟨_, rfl⟩
              have hin : ∀ (w' : World) (v' : Value) (xb B : Nat), w'.ownsRow B 63 2 v' (T id).q.length (flat (T id).q) → wx.heap.size ≤ B → B ≤ w'.heap.size → w'.heap[xb]? = some (.cells #[iv t, iv j] 63) → v'.ownBlock ≠ some xb →
                  Calls Try.prog 33 #[v', iv k, .slice (some ⟨xb, 0, none⟩) 1 1] w' fun e w'' => (∃ v'', e = .returned v'' ∧ PairsIn (fun k => wx.heap.size ≤ k ∧ k < w''.heap.size) w'' v'' Q') ∧ Chg (fun k => wx.heap.size ≤ k) w' w'' := fun w' v' xb B h1 h2 h3 h4 h5 => by
                have := insert_any (x := (t, j)) h1 h3 (by rw [HNQ.out]; exact hq1000) (i := k) (by rw [HNQ.out]; exact HLE.out) h4 h5
                rw [hQ'] at this
                exact this.mono (fun e w'' ⟨⟨v'', e1, hp⟩, hc⟩ => ⟨⟨v'', e1, hp.mono (fun k hk => ⟨by omega, hk.2⟩)⟩, hc.mono (fun k hk => by omega)⟩)
              have HIN := Lib.hid hin
              have hD : Below wx.heap.size wx wx.drew := below_drewN (Below.refl _ wx) 1
              have hD2 : Below wx.heap.size wx (wx.drew.alloc (.cells #[.int .i64 t, .int .i64 j] 63)) := hD.alloc hD.size _
              have HQQ := Lib.hid hQ'
              have hl38 : w3.heap.size < wx.heap.size := by omega
              clear hbx60 hbx63 hcl hin hQ'
              go_region_law (first
                | (go_simp; go_at_call 34; refine (HCL.out _ hD).mono ?_; rintro e w9 ⟨⟨v9, rfl, hown⟩, hb9⟩; have hD9 := hD.trans (hb9.mono hD.size); have v0 := (hb9.cell (p := ⟨w3.heap.size, 0, none⟩) (by show w3.heap.size < wx.heap.size; omega)).trans v0; have v1 := (hb9.cell (p := ⟨w3.heap.size, 1, none⟩) (by show w3.heap.size < wx.heap.size; omega)).trans v1; have y0 := (hb9.cell (p := ⟨w6.heap.size, 0, none⟩) (by show w6.heap.size < wx.heap.size; omega)).trans y0; have y1 := (hb9.cell (p := ⟨w6.heap.size, 1, none⟩) (by show w6.heap.size < wx.heap.size; omega)).trans y1; have hs9 := hb9.size)
                | (go_simp; go_at_call 34; refine (HCL.out _ hD2).mono ?_; rintro e w9 ⟨⟨v9, rfl, hown⟩, hb9⟩; have hD9 := hD2.trans (hb9.mono hD2.size); have v0 := (hD9.cell (p := ⟨w3.heap.size, 0, none⟩) (by show w3.heap.size < wx.heap.size; omega)).trans v0; have v1 := (hD9.cell (p := ⟨w3.heap.size, 1, none⟩) (by show w3.heap.size < wx.heap.size; omega)).trans v1; have hx9 := (hb9.block wx.heap.size (by simp)).trans (Go.heap_alloc_new wx.drew (.cells #[.int .i64 t, .int .i64 j] 63)); have hs9 := hb9.size)
                | (go_simp; go_at_call 33; have hin1 := HIN.out (w9.alloc (.cells #[.int .i64 t, .int .i64 j] 63)) v9 w9.heap.size wx.heap.size (ownsRow_alloc hown _) (Nat.le_refl _) (by have := hD9.size; simp; omega) (Go.heap_alloc_new _ _) (fun e => by have := (ownsRow_base hown e).2; omega); refine hin1.mono ?_; rintro e w11 ⟨⟨v11, rfl, hp11⟩, hc11⟩; obtain ⟨a11, c11, rfl, _⟩ := _root_.id hp11; have hF := (chg_below (hD9.alloc hD9.size (.cells #[.int .i64 t, .int .i64 j] 63))).andThen hc11 (fun k _ h => h); have hb11 := (hF.block w3.heap.size (by omega) (by omega)).trans HBXX.out; have v11 : w11.cell? ⟨w3.heap.size, 1, none⟩ = some (.slice (some ⟨g, off, none⟩) ql cq) := (by simp [World.cell?, hb11]); have z11 := free_block hb11 1)
                | (go_simp; go_at_call 33; have hin1 := HIN.out w9 v9 wx.heap.size (wx.heap.size + 1) (by have h := hown; rw [World.size_alloc] at h; exact h) (by omega) (by have := hs9; rw [World.size_alloc] at this; exact this) hx9 (fun e => by have := (ownsRow_base hown e).1; rw [World.size_alloc] at this; have h2 : wx.drew.heap.size = wx.heap.size := rfl; omega); refine hin1.mono ?_; rintro e w11 ⟨⟨v11, rfl, hp11⟩, hc11⟩; obtain ⟨a11, c11, rfl, _⟩ := _root_.id hp11; have hF := (chg_below hD9).andThen hc11 (fun k _ h => h); have hb11 := (hF.block w3.heap.size (by omega) (by omega)).trans HBXX.out; have v11 : w11.cell? ⟨w3.heap.size, 1, none⟩ = some (.slice (some ⟨g, off, none⟩) ql cq) := (by simp [World.cell?, hb11]); have z11 := free_block hb11 1))
              all_goals
                obtain ⟨W12, hW12⟩ : ∃ W12, w11.setCell ⟨w3.heap.size, 1, none⟩ (.slice a11 Q'.length c11) = W12 := ⟨_, rfl⟩
                have hc1112 : Chg (fun k => k = w3.heap.size) w11 W12 := by rw [← hW12]; exact chg_set (M := fun k => k = w3.heap.size) rfl 1 _
                have hbx12 : W12.heap[w3.heap.size]? = some (.cells #[.map (some hb), .slice a11 Q'.length c11] 60) := by rw [← hW12]; exact heap_setCell_same _ _ _ _ _ _ hb11
                have hc312 : Chg (fun k => w3.heap.size ≤ k) w3 W12 := ((chg_below HXX.out).andThen hF (fun k _ h => by omega)).andThen hc1112 (fun k _ h => by omega)
                have hsF := hF.size
                have hs12 := hc1112.size
                have hM8 : ∀ k, M3 k → k < w3.heap.size := fun k hk => (HM3.out.2 k hk).elim (fun h => by have := HM.out k h; omega) (fun h => h.2)
                have hR8 : ∀ k, R k → k < w3.heap.size := fun k hk => by have := (HR.out k hk).1; omega
                have hRM : ∀ k, R k → ¬ M3 k := fun k hk hm => by
                  rcases HM3.out.2 k hm with h | h
                  · exact (HR.out k hk).2 h
                  · have := (HR.out k hk).1; omega
                have ht12 := HT3.out.keepChg hM8 hR8 hc312 (fun k hk => ⟨fun h => by have := hM8 k h; omega, fun h => by have := hR8 k h; omega⟩)
                have hm3 : m < w3.heap.size := hM8 m HT3.out.mm
                have hp12 : PairsIn (fun k => wx.heap.size ≤ k ∧ k < w11.heap.size) W12 (.slice a11 Q'.length c11) Q' := hp11.keep (fun k hk => hc1112.block k hk.2 (by omega))
                have g0 : W12.cell? ⟨w3.heap.size, 0, none⟩ = some (.map (some hb)) := by simp [World.cell?, hbx12]
                have g1 : W12.cell? ⟨w3.heap.size, 1, none⟩ = some (.slice a11 Q'.length c11) := by simp [World.cell?, hbx12]
                have g2 : W12.cell? ⟨s, 0, none⟩ = some (.map (some m)) := by simp [World.cell?, ht12.cell]
                obtain ⟨es13, ck13, hmu, hview⟩ := (ht12.map.keep (w' := W12.drew) rfl).store key3 Try.underlying49 id (.agg #[.map (some hb), .slice a11 Q'.length c11])
                obtain ⟨W13, hW13⟩ : ∃ W13, setBlock W12.drew m (.map es13 ck13) = W13 := ⟨_, rfl⟩
                have hmap13 : MapIs iv W13 m (upd f3 id (some (.agg #[.map (some hb), .slice a11 Q'.length c11]))) := by rw [← hW13]; exact ⟨es13, ck13, heap_setBlock_same (by show m < W12.heap.size; omega) _, hview⟩
                have hc13 : Chg (fun b => b = m) W12 W13 := by rw [← hW13]; exact (chg_drewN (M := fun j => j = m) W12 1).trans (chg_setBlock (M := fun j => j = m) (w := W12.drewN 1) (b := m) rfl _)
                have hs13 := hc13.size
                have hp13 : PairsIn (fun k => R k ∨ (wx.heap.size ≤ k ∧ k < W13.heap.size)) W13 (.slice a11 Q'.length c11) Q' := (hp12.keep (fun k hk => hc13.block k (by omega) (by omega))).mono (fun k hk => .inr ⟨hk.1, by omega⟩)
                have ht13 := tab_q ht12 HF3.out (fun k hk => by have := hM8 k hk; omega) (fun k hk => ⟨by have := hR8 k hk; omega, hRM k hk⟩) hc13 hmap13 hp13 (fun _ h => .inl h)
                have HT13 := Lib.hid ht13
                have HC13 := Lib.hid hc13
                have HC312 := Lib.hid hc312
                have HRM := Lib.hid hRM
                have HM8 := Lib.hid hM8
                rw [hW12]
                rw [hW13] at hmu
                clear hc1112 hbx12 hc312 ht12 hp12 hmap13 hc13 hp13 ht13 hview hW12 hW13 hp11 hc11 hF hb11 z11 v0 v1 y0 y1 hRM hM8 hown hb9 hD9
                go_wp2_with fail
                go_region
                all_goals
                  go_wp2
                  have he := HE2.out
                  rw [HAT.out, HQQ.out] at he
                  refine bodyPost_ret (results_tmp2 rfl _ _ _) rfl ⟨M3, _, _, by rw [he]; rfl, fun k hk => (HM3.out.2 k hk).imp (fun h => h) (fun h => ⟨by omega, by omega⟩), fun k hk => ?_, fun k hk => ?_, by rw [he]; exact HT13.out, ?_⟩
                  · rcases hk with h | h
                    · exact .inl h
                    · exact .inr ⟨by omega, h.2⟩
                  · rcases hk with h | h
                    · exact HRM.out k h
                    · exact fun hm => by have := HM8.out k hm; omega
                  · exact (((chg_new HB2.out).andThen HC3.out (fun k _ h => by rw [h]; exact HT.out.mm)).andThen HC312.out (fun k hk h => by omega)).andThen HC13.out (fun k _ h => by rw [h]; exact HT.out.mm)
            · have hz2 : (hh != 0) = true := by simpa using hh0
              go_wp2_with fail
              have hq1000 : ql ≤ 1000 := by rw [← HNQ.out]; exact HOK.out.few_q
              go_quiet (fail)
              go_wp2
              go_roundw
              case rel => exact ⟨k + 1, by omega, by go_num, fun x hx => by
                rw [List.take_add_one, HE3.out] at hx
                rcases List.mem_append.1 hx with hx | hx
                · exact HPRE.out x hx
                · simp at hx; subst hx; rw [HHH.out]; exact hz2, below_drewN HBR.out nq⟩
              case measure => simp [Lib.intOf]; omega
          · have kd : decide ((k : Int) < (ql : Int)) = false := decide_eq_false (by omega)
            go_wp2_with fail
            go_quiet (fail)
            go_wp2_with fail
            have hX0 : Below w8.heap.size w8 (wr.drewN nq) := below_drewN HBR.out nq
            obtain ⟨wx, hwx⟩ : ∃ wx, wr.drewN nq = wx := ⟨_, rfl⟩
            rw [hwx] at hX0 ⊢
            have hX1 := hX0.size
            have HXX := Lib.hid (HU.out.trans (hX0.mono HU.out.size))
            have HBXX := Lib.hid ((hX0.block w3.heap.size (by omega)).trans HBX.out)
            have HZX := Lib.hid ((hX0.block w6.heap.size (by omega)).trans HZB.out)
            have hlx : w6.heap.size < wx.heap.size := by omega
            have HAT := Lib.hid (show atI (T id) t = k by unfold atI; rw [HHAS.out, if_neg (by simpa using hz)]; exact takeWhile_len (by rw [HNQ.out]; omega) HPRE.out (.inl (by rw [HNQ.out]; omega)))
            have HLE := Lib.hid hk
            clear hX0 hwx x0 x1
            have hbx60 := HBXX.out
            have hbx63 := HZX.out
            have v0 : wx.cell? ⟨w3.heap.size, 0, none⟩ = some (.map (some hb)) := by simp [World.cell?, hbx60]
            have v1 : wx.cell? ⟨w3.heap.size, 1, none⟩ = some (.slice aq ql cq) := by simp [World.cell?, hbx60]
            have y0 : wx.cell? ⟨w6.heap.size, 0, none⟩ = some (.int .i64 t) := by simp [World.cell?, hbx63]
            have y1 : wx.cell? ⟨w6.heap.size, 1, none⟩ = some (.int .i64 j) := by simp [World.cell?, hbx63]
            have hq1000 : ql ≤ 1000 := by rw [← HNQ.out]; exact HOK.out.few_q
            have hcl : ∀ w', Below wx.heap.size wx w' → Calls Try.prog 34 #[.slice aq ql cq] w' fun e w'' => (∃ v', e = .returned v' ∧ w''.ownsRow w'.heap.size 63 2 v' (T id).q.length (flat (T id).q)) ∧ Below w'.heap.size w' w'' := fun w' hb' =>
              cloneW_any (T id).q R _ w' (HQ3.out.keep (fun k hk => (hb'.block k (by have := (HR.out k hk).1; omega)).trans (HXX.out.block k (by have := (HR.out k hk).1; omega)))) (fun k hk => by have := (HR.out k hk).1; have := hb'.size; omega) (by rw [HNQ.out]; exact hq1000)
            have HCL := Lib.hid hcl
            obtain ⟨Q', hQ'⟩ : ∃ Q', (T id).q.take k ++ (t, j) :: (T id).q.drop k = Q' := ⟨_, rfl⟩
            have hin : ∀ (w' : World) (v' : Value) (xb B : Nat), w'.ownsRow B 63 2 v' (T id).q.length (flat (T id).q) → wx.heap.size ≤ B → B ≤ w'.heap.size → w'.heap[xb]? = some (.cells #[iv t, iv j] 63) → v'.ownBlock ≠ some xb →
                Calls Try.prog 33 #[v', iv k, .slice (some ⟨xb, 0, none⟩) 1 1] w' fun e w'' => (∃ v'', e = .returned v'' ∧ PairsIn (fun k => wx.heap.size ≤ k ∧ k < w''.heap.size) w'' v'' Q') ∧ Chg (fun k => wx.heap.size ≤ k) w' w'' := fun w' v' xb B h1 h2 h3 h4 h5 => by
              have := insert_any (x := (t, j)) h1 h3 (by rw [HNQ.out]; exact hq1000) (i := k) (by rw [HNQ.out]; exact HLE.out) h4 h5
              rw [hQ'] at this
              exact this.mono (fun e w'' ⟨⟨v'', e1, hp⟩, hc⟩ => ⟨⟨v'', e1, hp.mono (fun k hk => ⟨by omega, hk.2⟩)⟩, hc.mono (fun k hk => by omega)⟩)
            have HIN := Lib.hid hin
            have hD : Below wx.heap.size wx wx.drew := below_drewN (Below.refl _ wx) 1
            have hD2 : Below wx.heap.size wx (wx.drew.alloc (.cells #[.int .i64 t, .int .i64 j] 63)) := hD.alloc hD.size _
            have HQQ := Lib.hid hQ'
            have hl38 : w3.heap.size < wx.heap.size := by omega
            clear hbx60 hbx63 hcl hin hQ'
            go_region_law (first
              | (go_simp; go_at_call 34; refine (HCL.out _ hD).mono ?_; rintro e w9 ⟨⟨v9, rfl, hown⟩, hb9⟩; have hD9 := hD.trans (hb9.mono hD.size); have v0 := (hb9.cell (p := ⟨w3.heap.size, 0, none⟩) (by show w3.heap.size < wx.heap.size; omega)).trans v0; have v1 := (hb9.cell (p := ⟨w3.heap.size, 1, none⟩) (by show w3.heap.size < wx.heap.size; omega)).trans v1; have y0 := (hb9.cell (p := ⟨w6.heap.size, 0, none⟩) (by show w6.heap.size < wx.heap.size; omega)).trans y0; have y1 := (hb9.cell (p := ⟨w6.heap.size, 1, none⟩) (by show w6.heap.size < wx.heap.size; omega)).trans y1; have hs9 := hb9.size)
              | (go_simp; go_at_call 34; refine (HCL.out _ hD2).mono ?_; rintro e w9 ⟨⟨v9, rfl, hown⟩, hb9⟩; have hD9 := hD2.trans (hb9.mono hD2.size); have v0 := (hD9.cell (p := ⟨w3.heap.size, 0, none⟩) (by show w3.heap.size < wx.heap.size; omega)).trans v0; have v1 := (hD9.cell (p := ⟨w3.heap.size, 1, none⟩) (by show w3.heap.size < wx.heap.size; omega)).trans v1; have hx9 := (hb9.block wx.heap.size (by simp)).trans (Go.heap_alloc_new wx.drew (.cells #[.int .i64 t, .int .i64 j] 63)); have hs9 := hb9.size)
              | (go_simp; go_at_call 33; have hin1 := HIN.out (w9.alloc (.cells #[.int .i64 t, .int .i64 j] 63)) v9 w9.heap.size wx.heap.size (ownsRow_alloc hown _) (Nat.le_refl _) (by have := hD9.size; simp; omega) (Go.heap_alloc_new _ _) (fun e => by have := (ownsRow_base hown e).2; omega); refine hin1.mono ?_; rintro e w11 ⟨⟨v11, rfl, hp11⟩, hc11⟩; obtain ⟨a11, c11, rfl, _⟩ := _root_.id hp11; have hF := (chg_below (hD9.alloc hD9.size (.cells #[.int .i64 t, .int .i64 j] 63))).andThen hc11 (fun k _ h => h); have hb11 := (hF.block w3.heap.size (by omega) (by omega)).trans HBXX.out; have v11 : w11.cell? ⟨w3.heap.size, 1, none⟩ = some (.slice aq ql cq) := (by simp [World.cell?, hb11]); have z11 := free_block hb11 1)
              | (go_simp; go_at_call 33; have hin1 := HIN.out w9 v9 wx.heap.size (wx.heap.size + 1) (by have h := hown; rw [World.size_alloc] at h; exact h) (by omega) (by have := hs9; rw [World.size_alloc] at this; exact this) hx9 (fun e => by have := (ownsRow_base hown e).1; rw [World.size_alloc] at this; have h2 : wx.drew.heap.size = wx.heap.size := rfl; omega); refine hin1.mono ?_; rintro e w11 ⟨⟨v11, rfl, hp11⟩, hc11⟩; obtain ⟨a11, c11, rfl, _⟩ := _root_.id hp11; have hF := (chg_below hD9).andThen hc11 (fun k _ h => h); have hb11 := (hF.block w3.heap.size (by omega) (by omega)).trans HBXX.out; have v11 : w11.cell? ⟨w3.heap.size, 1, none⟩ = some (.slice aq ql cq) := (by simp [World.cell?, hb11]); have z11 := free_block hb11 1))
            all_goals
              obtain ⟨W12, hW12⟩ : ∃ W12, w11.setCell ⟨w3.heap.size, 1, none⟩ (.slice a11 Q'.length c11) = W12 := ⟨_, rfl⟩
              have hc1112 : Chg (fun k => k = w3.heap.size) w11 W12 := by rw [← hW12]; exact chg_set (M := fun k => k = w3.heap.size) rfl 1 _
              have hbx12 : W12.heap[w3.heap.size]? = some (.cells #[.map (some hb), .slice a11 Q'.length c11] 60) := by rw [← hW12]; exact heap_setCell_same _ _ _ _ _ _ hb11
              have hc312 : Chg (fun k => w3.heap.size ≤ k) w3 W12 := ((chg_below HXX.out).andThen hF (fun k _ h => by omega)).andThen hc1112 (fun k _ h => by omega)
              have hsF := hF.size
              have hs12 := hc1112.size
              have hM8 : ∀ k, M3 k → k < w3.heap.size := fun k hk => (HM3.out.2 k hk).elim (fun h => by have := HM.out k h; omega) (fun h => h.2)
              have hR8 : ∀ k, R k → k < w3.heap.size := fun k hk => by have := (HR.out k hk).1; omega
              have hRM : ∀ k, R k → ¬ M3 k := fun k hk hm => by
                rcases HM3.out.2 k hm with h | h
                · exact (HR.out k hk).2 h
                · have := (HR.out k hk).1; omega
              have ht12 := HT3.out.keepChg hM8 hR8 hc312 (fun k hk => ⟨fun h => by have := hM8 k h; omega, fun h => by have := hR8 k h; omega⟩)
              have hm3 : m < w3.heap.size := hM8 m HT3.out.mm
              have hp12 : PairsIn (fun k => wx.heap.size ≤ k ∧ k < w11.heap.size) W12 (.slice a11 Q'.length c11) Q' := hp11.keep (fun k hk => hc1112.block k hk.2 (by omega))
              have g0 : W12.cell? ⟨w3.heap.size, 0, none⟩ = some (.map (some hb)) := by simp [World.cell?, hbx12]
              have g1 : W12.cell? ⟨w3.heap.size, 1, none⟩ = some (.slice a11 Q'.length c11) := by simp [World.cell?, hbx12]
              have g2 : W12.cell? ⟨s, 0, none⟩ = some (.map (some m)) := by simp [World.cell?, ht12.cell]
              obtain ⟨es13, ck13, hmu, hview⟩ := (ht12.map.keep (w' := W12.drew) rfl).store key3 Try.underlying49 id (.agg #[.map (some hb), .slice a11 Q'.length c11])
              obtain ⟨W13, hW13⟩ : ∃ W13, setBlock W12.drew m (.map es13 ck13) = W13 := ⟨_, rfl⟩
              have hmap13 : MapIs iv W13 m (upd f3 id (some (.agg #[.map (some hb), .slice a11 Q'.length c11]))) := by rw [← hW13]; exact ⟨es13, ck13, heap_setBlock_same (by show m < W12.heap.size; omega) _, hview⟩
              have hc13 : Chg (fun b => b = m) W12 W13 := by rw [← hW13]; exact (chg_drewN (M := fun j => j = m) W12 1).trans (chg_setBlock (M := fun j => j = m) (w := W12.drewN 1) (b := m) rfl _)
              have hs13 := hc13.size
              have hp13 : PairsIn (fun k => R k ∨ (wx.heap.size ≤ k ∧ k < W13.heap.size)) W13 (.slice a11 Q'.length c11) Q' := (hp12.keep (fun k hk => hc13.block k (by omega) (by omega))).mono (fun k hk => .inr ⟨hk.1, by omega⟩)
              have ht13 := tab_q ht12 HF3.out (fun k hk => by have := hM8 k hk; omega) (fun k hk => ⟨by have := hR8 k hk; omega, hRM k hk⟩) hc13 hmap13 hp13 (fun _ h => .inl h)
              have HT13 := Lib.hid ht13
              have HC13 := Lib.hid hc13
              have HC312 := Lib.hid hc312
              have HRM := Lib.hid hRM
              have HM8 := Lib.hid hM8
              rw [hW12]
              rw [hW13] at hmu
              clear hc1112 hbx12 hc312 ht12 hp12 hmap13 hc13 hp13 ht13 hview hW12 hW13 hp11 hc11 hF hb11 z11 v0 v1 y0 y1 hRM hM8 hown hb9 hD9
              go_wp2_with fail
              go_region
              all_goals
                go_wp2
                have he := HE2.out
                rw [HAT.out, HQQ.out] at he
                refine bodyPost_ret (results_tmp2 rfl _ _ _) rfl ⟨M3, _, _, by rw [he]; rfl, fun k hk => (HM3.out.2 k hk).imp (fun h => h) (fun h => ⟨by omega, by omega⟩), fun k hk => ?_, fun k hk => ?_, by rw [he]; exact HT13.out, ?_⟩
                · rcases hk with h | h
                  · exact .inl h
                  · exact .inr ⟨by omega, h.2⟩
                · rcases hk with h | h
                  · exact HRM.out k h
                  · exact fun hm => by have := HM8.out k hm; omega
                · exact (((chg_new HB2.out).andThen HC3.out (fun k _ h => by rw [h]; exact HT.out.mm)).andThen HC312.out (fun k hk h => by omega)).andThen HC13.out (fun k _ h => by rw [h]; exact HT.out.mm)
      · go_wp2_with (first
          | (go_at_call 32; refine (HCAN.out _ hB7).mono ?_; rintro e w8 ⟨rfl, hb8⟩; have hB8 := hB7.trans (hb8.mono hB7.size); have u0 := ((hb8.cell (p := ⟨w3.heap.size, 0, none⟩) (by simp; omega)).trans (cell_old _ _ hl6)).trans s0; have u1 := ((hb8.cell (p := ⟨w3.heap.size, 1, none⟩) (by simp; omega)).trans (cell_old _ _ hl6)).trans s1; have z0 := (hb8.cell (p := ⟨w6.heap.size, 0, none⟩) (by simp)).trans (cells2_new w6 (.int .i64 t) (.int .i64 j) 63).1; have z1 := (hb8.cell (p := ⟨w6.heap.size, 1, none⟩) (by simp)).trans (cells2_new w6 (.int .i64 t) (.int .i64 j) 63).2; have hl8 : w6.heap.size < w8.heap.size := (by have := hb8.size; simp at this; omega); have HZB := Lib.hid ((hb8.block w6.heap.size (by simp)).trans (Go.heap_alloc_new w6 (.cells #[.int .i64 t, .int .i64 j] 63))); have HU := Lib.hid hB8; have HBX := Lib.hid (((hA6.alloc hA6.size (.cells #[.int .i64 t, .int .i64 j] 63)).trans (hb8.mono (by have := hA6.size; simp at this ⊢; omega))).block w3.heap.size (by simp) |>.trans (Go.heap_alloc_new w3 (.cells #[.map (some hb), .slice aq ql cq] 60))); clear hb8 hB8 hB7 s0 s1 hA6)
          | (go_at_call 31; refine (HJOIN.out _).mono ?_; rintro e w6 ⟨rfl, hb6⟩; have hB6 := hB5.trans (hb6.mono hB5.size); have s0 := (hb6.cell (p := ⟨w3.heap.size, 0, none⟩) hl5).trans r0; have s1 := (hb6.cell (p := ⟨w3.heap.size, 1, none⟩) hl5).trans r1; have hl6 : w3.heap.size < w6.heap.size := (by have := hb6.size; omega); have hB7 := hB6.alloc hB6.size (.cells #[.int .i64 t, .int .i64 j] 63); have hA6 := hA5.trans (hb6.mono hA5.size); clear hb6 r0 r1 hB5 hB6 hA5)
          | (go_at_call 30; refine (HCOV.out _).mono ?_; rintro e w5 ⟨rfl, hb5⟩; have hB5 := HB4.out.trans (hb5.mono (by simp)); have r0 := (hb5.cell (p := ⟨w3.heap.size, 0, none⟩) (by simp)).trans HQ.out.1; have r1 := (hb5.cell (p := ⟨w3.heap.size, 1, none⟩) (by simp)).trans HQ.out.2; have hl5 : w3.heap.size < w5.heap.size := (by have := hb5.size; simp at this; omega); have hA5 := hb5; clear hb5))
        have HAT := Lib.hid (show atI (T id) t = ql by unfold atI; rw [HHAS.out, if_pos rfl]; exact HNQ.out)
        have HXX := HU
        have HBXX := HBX
        have HZX := HZB
        have hlx : w6.heap.size < w8.heap.size := hl8
        have HLE := Lib.hid (Nat.le_refl ql)
        have hbx60 := HBXX.out
        have hbx63 := HZX.out
        have v0 : w8.cell? ⟨w3.heap.size, 0, none⟩ = some (.map (some hb)) := by simp [World.cell?, hbx60]
        have v1 : w8.cell? ⟨w3.heap.size, 1, none⟩ = some (.slice aq ql cq) := by simp [World.cell?, hbx60]
        have y0 : w8.cell? ⟨w6.heap.size, 0, none⟩ = some (.int .i64 t) := by simp [World.cell?, hbx63]
        have y1 : w8.cell? ⟨w6.heap.size, 1, none⟩ = some (.int .i64 j) := by simp [World.cell?, hbx63]
        have hq1000 : ql ≤ 1000 := by rw [← HNQ.out]; exact HOK.out.few_q
        have hcl : ∀ w', Below w8.heap.size w8 w' → Calls Try.prog 34 #[.slice aq ql cq] w' fun e w'' => (∃ v', e = .returned v' ∧ w''.ownsRow w'.heap.size 63 2 v' (T id).q.length (flat (T id).q)) ∧ Below w'.heap.size w' w'' := fun w' hb' =>
          cloneW_any (T id).q R _ w' (HQ3.out.keep (fun k hk => (hb'.block k (by have := (HR.out k hk).1; omega)).trans (HXX.out.block k (by have := (HR.out k hk).1; omega)))) (fun k hk => by have := (HR.out k hk).1; have := hb'.size; omega) (by rw [HNQ.out]; exact hq1000)
        have HCL := Lib.hid hcl
        obtain ⟨Q', hQ'⟩ : ∃ Q', (T id).q.take ql ++ (t, j) :: (T id).q.drop ql = Q' := ⟨_, rfl⟩
        have hin : ∀ (w' : World) (v' : Value) (xb B : Nat), w'.ownsRow B 63 2 v' (T id).q.length (flat (T id).q) → w8.heap.size ≤ B → B ≤ w'.heap.size → w'.heap[xb]? = some (.cells #[iv t, iv j] 63) → v'.ownBlock ≠ some xb →
            Calls Try.prog 33 #[v', iv ql, .slice (some ⟨xb, 0, none⟩) 1 1] w' fun e w'' => (∃ v'', e = .returned v'' ∧ PairsIn (fun k => w8.heap.size ≤ k ∧ k < w''.heap.size) w'' v'' Q') ∧ Chg (fun k => w8.heap.size ≤ k) w' w'' := fun w' v' xb B h1 h2 h3 h4 h5 => by
          have := insert_any (x := (t, j)) h1 h3 (by rw [HNQ.out]; exact hq1000) (i := ql) (by rw [HNQ.out]; exact HLE.out) h4 h5
          rw [hQ'] at this
          exact this.mono (fun e w'' ⟨⟨v'', e1, hp⟩, hc⟩ => ⟨⟨v'', e1, hp.mono (fun k hk => ⟨by omega, hk.2⟩)⟩, hc.mono (fun k hk => by omega)⟩)
        have HIN := Lib.hid hin
        have hD : Below w8.heap.size w8 w8.drew := below_drewN (Below.refl _ w8) 1
        have hD2 : Below w8.heap.size w8 (w8.drew.alloc (.cells #[.int .i64 t, .int .i64 j] 63)) := hD.alloc hD.size _
        have HQQ := Lib.hid hQ'
        have hl38 : w3.heap.size < w8.heap.size := by omega
        clear hbx60 hbx63 hcl hin hQ'
        go_region_law (first
          | (go_simp; go_at_call 34; refine (HCL.out _ hD).mono ?_; rintro e w9 ⟨⟨v9, rfl, hown⟩, hb9⟩; have hD9 := hD.trans (hb9.mono hD.size); have v0 := (hb9.cell (p := ⟨w3.heap.size, 0, none⟩) (by show w3.heap.size < w8.heap.size; omega)).trans v0; have v1 := (hb9.cell (p := ⟨w3.heap.size, 1, none⟩) (by show w3.heap.size < w8.heap.size; omega)).trans v1; have y0 := (hb9.cell (p := ⟨w6.heap.size, 0, none⟩) (by show w6.heap.size < w8.heap.size; omega)).trans y0; have y1 := (hb9.cell (p := ⟨w6.heap.size, 1, none⟩) (by show w6.heap.size < w8.heap.size; omega)).trans y1; have hs9 := hb9.size)
          | (go_simp; go_at_call 34; refine (HCL.out _ hD2).mono ?_; rintro e w9 ⟨⟨v9, rfl, hown⟩, hb9⟩; have hD9 := hD2.trans (hb9.mono hD2.size); have v0 := (hD9.cell (p := ⟨w3.heap.size, 0, none⟩) (by show w3.heap.size < w8.heap.size; omega)).trans v0; have v1 := (hD9.cell (p := ⟨w3.heap.size, 1, none⟩) (by show w3.heap.size < w8.heap.size; omega)).trans v1; have hx9 := (hb9.block w8.heap.size (by simp)).trans (Go.heap_alloc_new w8.drew (.cells #[.int .i64 t, .int .i64 j] 63)); have hs9 := hb9.size)
          | (go_simp; go_at_call 33; have hin1 := HIN.out (w9.alloc (.cells #[.int .i64 t, .int .i64 j] 63)) v9 w9.heap.size w8.heap.size (ownsRow_alloc hown _) (Nat.le_refl _) (by have := hD9.size; simp; omega) (Go.heap_alloc_new _ _) (fun e => by have := (ownsRow_base hown e).2; omega); refine hin1.mono ?_; rintro e w11 ⟨⟨v11, rfl, hp11⟩, hc11⟩; obtain ⟨a11, c11, rfl, _⟩ := _root_.id hp11; have hF := (chg_below (hD9.alloc hD9.size (.cells #[.int .i64 t, .int .i64 j] 63))).andThen hc11 (fun k _ h => h); have hb11 := (hF.block w3.heap.size (by omega) (by omega)).trans HBXX.out; have v11 : w11.cell? ⟨w3.heap.size, 1, none⟩ = some (.slice aq ql cq) := (by simp [World.cell?, hb11]); have z11 := free_block hb11 1)
          | (go_simp; go_at_call 33; have hin1 := HIN.out w9 v9 w8.heap.size (w8.heap.size + 1) (by have h := hown; rw [World.size_alloc] at h; exact h) (by omega) (by have := hs9; rw [World.size_alloc] at this; exact this) hx9 (fun e => by have := (ownsRow_base hown e).1; rw [World.size_alloc] at this; have h2 : w8.drew.heap.size = w8.heap.size := rfl; omega); refine hin1.mono ?_; rintro e w11 ⟨⟨v11, rfl, hp11⟩, hc11⟩; obtain ⟨a11, c11, rfl, _⟩ := _root_.id hp11; have hF := (chg_below hD9).andThen hc11 (fun k _ h => h); have hb11 := (hF.block w3.heap.size (by omega) (by omega)).trans HBXX.out; have v11 : w11.cell? ⟨w3.heap.size, 1, none⟩ = some (.slice aq ql cq) := (by simp [World.cell?, hb11]); have z11 := free_block hb11 1))
        all_goals
          obtain ⟨W12, hW12⟩ : ∃ W12, w11.setCell ⟨w3.heap.size, 1, none⟩ (.slice a11 Q'.length c11) = W12 := ⟨_, rfl⟩
          have hc1112 : Chg (fun k => k = w3.heap.size) w11 W12 := by rw [← hW12]; exact chg_set (M := fun k => k = w3.heap.size) rfl 1 _
          have hbx12 : W12.heap[w3.heap.size]? = some (.cells #[.map (some hb), .slice a11 Q'.length c11] 60) := by rw [← hW12]; exact heap_setCell_same _ _ _ _ _ _ hb11
          have hc312 : Chg (fun k => w3.heap.size ≤ k) w3 W12 := ((chg_below HXX.out).andThen hF (fun k _ h => by omega)).andThen hc1112 (fun k _ h => by omega)
          have hsF := hF.size
          have hs12 := hc1112.size
          have hM8 : ∀ k, M3 k → k < w3.heap.size := fun k hk => (HM3.out.2 k hk).elim (fun h => by have := HM.out k h; omega) (fun h => h.2)
          have hR8 : ∀ k, R k → k < w3.heap.size := fun k hk => by have := (HR.out k hk).1; omega
          have hRM : ∀ k, R k → ¬ M3 k := fun k hk hm => by
            rcases HM3.out.2 k hm with h | h
            · exact (HR.out k hk).2 h
            · have := (HR.out k hk).1; omega
          have ht12 := HT3.out.keepChg hM8 hR8 hc312 (fun k hk => ⟨fun h => by have := hM8 k h; omega, fun h => by have := hR8 k h; omega⟩)
          have hm3 : m < w3.heap.size := hM8 m HT3.out.mm
          have hp12 : PairsIn (fun k => w8.heap.size ≤ k ∧ k < w11.heap.size) W12 (.slice a11 Q'.length c11) Q' := hp11.keep (fun k hk => hc1112.block k hk.2 (by omega))
          have g0 : W12.cell? ⟨w3.heap.size, 0, none⟩ = some (.map (some hb)) := by simp [World.cell?, hbx12]
          have g1 : W12.cell? ⟨w3.heap.size, 1, none⟩ = some (.slice a11 Q'.length c11) := by simp [World.cell?, hbx12]
          have g2 : W12.cell? ⟨s, 0, none⟩ = some (.map (some m)) := by simp [World.cell?, ht12.cell]
          obtain ⟨es13, ck13, hmu, hview⟩ := (ht12.map.keep (w' := W12.drew) rfl).store key3 Try.underlying49 id (.agg #[.map (some hb), .slice a11 Q'.length c11])
          obtain ⟨W13, hW13⟩ : ∃ W13, setBlock W12.drew m (.map es13 ck13) = W13 := ⟨_, rfl⟩
          have hmap13 : MapIs iv W13 m (upd f3 id (some (.agg #[.map (some hb), .slice a11 Q'.length c11]))) := by rw [← hW13]; exact ⟨es13, ck13, heap_setBlock_same (by show m < W12.heap.size; omega) _, hview⟩
          have hc13 : Chg (fun b => b = m) W12 W13 := by rw [← hW13]; exact (chg_drewN (M := fun j => j = m) W12 1).trans (chg_setBlock (M := fun j => j = m) (w := W12.drewN 1) (b := m) rfl _)
          have hs13 := hc13.size
          have hp13 : PairsIn (fun k => R k ∨ (w8.heap.size ≤ k ∧ k < W13.heap.size)) W13 (.slice a11 Q'.length c11) Q' := (hp12.keep (fun k hk => hc13.block k (by omega) (by omega))).mono (fun k hk => .inr ⟨hk.1, by omega⟩)
          have ht13 := tab_q ht12 HF3.out (fun k hk => by have := hM8 k hk; omega) (fun k hk => ⟨by have := hR8 k hk; omega, hRM k hk⟩) hc13 hmap13 hp13 (fun _ h => .inl h)
          have HT13 := Lib.hid ht13
          have HC13 := Lib.hid hc13
          have HC312 := Lib.hid hc312
          have HRM := Lib.hid hRM
          have HM8 := Lib.hid hM8
          rw [hW12]
          rw [hW13] at hmu
          clear hc1112 hbx12 hc312 ht12 hp12 hmap13 hc13 hp13 ht13 hview hW12 hW13 hp11 hc11 hF hb11 z11 v0 v1 y0 y1 hRM hM8 hown hb9 hD9
          go_wp2_with fail
          go_region
          all_goals
            go_wp2
            have he := HE2.out
            rw [HAT.out, HQQ.out] at he
            refine bodyPost_ret (results_tmp2 rfl _ _ _) rfl ⟨M3, _, _, by rw [he]; rfl, fun k hk => (HM3.out.2 k hk).imp (fun h => h) (fun h => ⟨by omega, by omega⟩), fun k hk => ?_, fun k hk => ?_, by rw [he]; exact HT13.out, ?_⟩
            · rcases hk with h | h
              · exact .inl h
              · exact .inr ⟨by omega, h.2⟩
            · rcases hk with h | h
              · exact HRM.out k h
              · exact fun hm => by have := HM8.out k hm; omega
            · exact (((chg_new HB2.out).andThen HC3.out (fun k _ h => by rw [h]; exact HT.out.mm)).andThen HC312.out (fun k hk h => by omega)).andThen HC13.out (fun k _ h => by rw [h]; exact HT.out.mm)
      · have hp' : ((ql : Int) == 0) = false := by simp; omega
        have hp'' : decide ((ql : Int) = 0) = false := by simp; omega
        go_wp2_with (first
          | (go_at_call 32; refine (HCAN.out _ hB7).mono ?_; rintro e w8 ⟨rfl, hb8⟩; have hB8 := hB7.trans (hb8.mono hB7.size); have u0 := ((hb8.cell (p := ⟨w3.heap.size, 0, none⟩) (by simp; omega)).trans (cell_old _ _ hl6)).trans s0; have u1 := ((hb8.cell (p := ⟨w3.heap.size, 1, none⟩) (by simp; omega)).trans (cell_old _ _ hl6)).trans s1; have z0 := (hb8.cell (p := ⟨w6.heap.size, 0, none⟩) (by simp)).trans (cells2_new w6 (.int .i64 t) (.int .i64 j) 63).1; have z1 := (hb8.cell (p := ⟨w6.heap.size, 1, none⟩) (by simp)).trans (cells2_new w6 (.int .i64 t) (.int .i64 j) 63).2; have hl8 : w6.heap.size < w8.heap.size := (by have := hb8.size; simp at this; omega); have HZB := Lib.hid ((hb8.block w6.heap.size (by simp)).trans (Go.heap_alloc_new w6 (.cells #[.int .i64 t, .int .i64 j] 63))); have HU := Lib.hid hB8; have HBX := Lib.hid (((hA6.alloc hA6.size (.cells #[.int .i64 t, .int .i64 j] 63)).trans (hb8.mono (by have := hA6.size; simp at this ⊢; omega))).block w3.heap.size (by simp) |>.trans (Go.heap_alloc_new w3 (.cells #[.map (some hb), .slice aq ql cq] 60))); clear hb8 hB8 hB7 s0 s1 hA6)
          | (go_at_call 31; refine (HJOIN.out _).mono ?_; rintro e w6 ⟨rfl, hb6⟩; have hB6 := hB5.trans (hb6.mono hB5.size); have s0 := (hb6.cell (p := ⟨w3.heap.size, 0, none⟩) hl5).trans r0; have s1 := (hb6.cell (p := ⟨w3.heap.size, 1, none⟩) hl5).trans r1; have hl6 : w3.heap.size < w6.heap.size := (by have := hb6.size; omega); have hB7 := hB6.alloc hB6.size (.cells #[.int .i64 t, .int .i64 j] 63); have hA6 := hA5.trans (hb6.mono hA5.size); clear hb6 r0 r1 hB5 hB6 hA5)
          | (go_at_call 30; refine (HCOV.out _).mono ?_; rintro e w5 ⟨rfl, hb5⟩; have hB5 := HB4.out.trans (hb5.mono (by simp)); have r0 := (hb5.cell (p := ⟨w3.heap.size, 0, none⟩) (by simp)).trans HQ.out.1; have r1 := (hb5.cell (p := ⟨w3.heap.size, 1, none⟩) (by simp)).trans HQ.out.2; have hl5 : w3.heap.size < w5.heap.size := (by have := hb5.size; simp at this; omega); have hA5 := hb5; clear hb5))
        have HAT := Lib.hid (show atI (T id) t = ql by unfold atI; rw [HHAS.out, if_pos rfl]; exact HNQ.out)
        have HXX := HU
        have HBXX := HBX
        have HZX := HZB
        have hlx : w6.heap.size < w8.heap.size := hl8
        have HLE := Lib.hid (Nat.le_refl ql)
        have hbx60 := HBXX.out
        have hbx63 := HZX.out
        have v0 : w8.cell? ⟨w3.heap.size, 0, none⟩ = some (.map (some hb)) := by simp [World.cell?, hbx60]
        have v1 : w8.cell? ⟨w3.heap.size, 1, none⟩ = some (.slice aq ql cq) := by simp [World.cell?, hbx60]
        have y0 : w8.cell? ⟨w6.heap.size, 0, none⟩ = some (.int .i64 t) := by simp [World.cell?, hbx63]
        have y1 : w8.cell? ⟨w6.heap.size, 1, none⟩ = some (.int .i64 j) := by simp [World.cell?, hbx63]
        have hq1000 : ql ≤ 1000 := by rw [← HNQ.out]; exact HOK.out.few_q
        have hcl : ∀ w', Below w8.heap.size w8 w' → Calls Try.prog 34 #[.slice aq ql cq] w' fun e w'' => (∃ v', e = .returned v' ∧ w''.ownsRow w'.heap.size 63 2 v' (T id).q.length (flat (T id).q)) ∧ Below w'.heap.size w' w'' := fun w' hb' =>
          cloneW_any (T id).q R _ w' (HQ3.out.keep (fun k hk => (hb'.block k (by have := (HR.out k hk).1; omega)).trans (HXX.out.block k (by have := (HR.out k hk).1; omega)))) (fun k hk => by have := (HR.out k hk).1; have := hb'.size; omega) (by rw [HNQ.out]; exact hq1000)
        have HCL := Lib.hid hcl
        obtain ⟨Q', hQ'⟩ : ∃ Q', (T id).q.take ql ++ (t, j) :: (T id).q.drop ql = Q' := ⟨_, rfl⟩
        have hin : ∀ (w' : World) (v' : Value) (xb B : Nat), w'.ownsRow B 63 2 v' (T id).q.length (flat (T id).q) → w8.heap.size ≤ B → B ≤ w'.heap.size → w'.heap[xb]? = some (.cells #[iv t, iv j] 63) → v'.ownBlock ≠ some xb →
            Calls Try.prog 33 #[v', iv ql, .slice (some ⟨xb, 0, none⟩) 1 1] w' fun e w'' => (∃ v'', e = .returned v'' ∧ PairsIn (fun k => w8.heap.size ≤ k ∧ k < w''.heap.size) w'' v'' Q') ∧ Chg (fun k => w8.heap.size ≤ k) w' w'' := fun w' v' xb B h1 h2 h3 h4 h5 => by
          have := insert_any (x := (t, j)) h1 h3 (by rw [HNQ.out]; exact hq1000) (i := ql) (by rw [HNQ.out]; exact HLE.out) h4 h5
          rw [hQ'] at this
          exact this.mono (fun e w'' ⟨⟨v'', e1, hp⟩, hc⟩ => ⟨⟨v'', e1, hp.mono (fun k hk => ⟨by omega, hk.2⟩)⟩, hc.mono (fun k hk => by omega)⟩)
        have HIN := Lib.hid hin
        have hD : Below w8.heap.size w8 w8.drew := below_drewN (Below.refl _ w8) 1
        have hD2 : Below w8.heap.size w8 (w8.drew.alloc (.cells #[.int .i64 t, .int .i64 j] 63)) := hD.alloc hD.size _
        have HQQ := Lib.hid hQ'
        have hl38 : w3.heap.size < w8.heap.size := by omega
        clear hbx60 hbx63 hcl hin hQ'
        go_region_law (first
          | (go_simp; go_at_call 34; refine (HCL.out _ hD).mono ?_; rintro e w9 ⟨⟨v9, rfl, hown⟩, hb9⟩; have hD9 := hD.trans (hb9.mono hD.size); have v0 := (hb9.cell (p := ⟨w3.heap.size, 0, none⟩) (by show w3.heap.size < w8.heap.size; omega)).trans v0; have v1 := (hb9.cell (p := ⟨w3.heap.size, 1, none⟩) (by show w3.heap.size < w8.heap.size; omega)).trans v1; have y0 := (hb9.cell (p := ⟨w6.heap.size, 0, none⟩) (by show w6.heap.size < w8.heap.size; omega)).trans y0; have y1 := (hb9.cell (p := ⟨w6.heap.size, 1, none⟩) (by show w6.heap.size < w8.heap.size; omega)).trans y1; have hs9 := hb9.size)
          | (go_simp; go_at_call 34; refine (HCL.out _ hD2).mono ?_; rintro e w9 ⟨⟨v9, rfl, hown⟩, hb9⟩; have hD9 := hD2.trans (hb9.mono hD2.size); have v0 := (hD9.cell (p := ⟨w3.heap.size, 0, none⟩) (by show w3.heap.size < w8.heap.size; omega)).trans v0; have v1 := (hD9.cell (p := ⟨w3.heap.size, 1, none⟩) (by show w3.heap.size < w8.heap.size; omega)).trans v1; have hx9 := (hb9.block w8.heap.size (by simp)).trans (Go.heap_alloc_new w8.drew (.cells #[.int .i64 t, .int .i64 j] 63)); have hs9 := hb9.size)
          | (go_simp; go_at_call 33; have hin1 := HIN.out (w9.alloc (.cells #[.int .i64 t, .int .i64 j] 63)) v9 w9.heap.size w8.heap.size (ownsRow_alloc hown _) (Nat.le_refl _) (by have := hD9.size; simp; omega) (Go.heap_alloc_new _ _) (fun e => by have := (ownsRow_base hown e).2; omega); refine hin1.mono ?_; rintro e w11 ⟨⟨v11, rfl, hp11⟩, hc11⟩; obtain ⟨a11, c11, rfl, _⟩ := _root_.id hp11; have hF := (chg_below (hD9.alloc hD9.size (.cells #[.int .i64 t, .int .i64 j] 63))).andThen hc11 (fun k _ h => h); have hb11 := (hF.block w3.heap.size (by omega) (by omega)).trans HBXX.out; have v11 : w11.cell? ⟨w3.heap.size, 1, none⟩ = some (.slice aq ql cq) := (by simp [World.cell?, hb11]); have z11 := free_block hb11 1)
          | (go_simp; go_at_call 33; have hin1 := HIN.out w9 v9 w8.heap.size (w8.heap.size + 1) (by have h := hown; rw [World.size_alloc] at h; exact h) (by omega) (by have := hs9; rw [World.size_alloc] at this; exact this) hx9 (fun e => by have := (ownsRow_base hown e).1; rw [World.size_alloc] at this; have h2 : w8.drew.heap.size = w8.heap.size := rfl; omega); refine hin1.mono ?_; rintro e w11 ⟨⟨v11, rfl, hp11⟩, hc11⟩; obtain ⟨a11, c11, rfl, _⟩ := _root_.id hp11; have hF := (chg_below hD9).andThen hc11 (fun k _ h => h); have hb11 := (hF.block w3.heap.size (by omega) (by omega)).trans HBXX.out; have v11 : w11.cell? ⟨w3.heap.size, 1, none⟩ = some (.slice aq ql cq) := (by simp [World.cell?, hb11]); have z11 := free_block hb11 1))
        all_goals
          obtain ⟨W12, hW12⟩ : ∃ W12, w11.setCell ⟨w3.heap.size, 1, none⟩ (.slice a11 Q'.length c11) = W12 := ⟨_, rfl⟩
          have hc1112 : Chg (fun k => k = w3.heap.size) w11 W12 := by rw [← hW12]; exact chg_set (M := fun k => k = w3.heap.size) rfl 1 _
          have hbx12 : W12.heap[w3.heap.size]? = some (.cells #[.map (some hb), .slice a11 Q'.length c11] 60) := by rw [← hW12]; exact heap_setCell_same _ _ _ _ _ _ hb11
          have hc312 : Chg (fun k => w3.heap.size ≤ k) w3 W12 := ((chg_below HXX.out).andThen hF (fun k _ h => by omega)).andThen hc1112 (fun k _ h => by omega)
          have hsF := hF.size
          have hs12 := hc1112.size
          have hM8 : ∀ k, M3 k → k < w3.heap.size := fun k hk => (HM3.out.2 k hk).elim (fun h => by have := HM.out k h; omega) (fun h => h.2)
          have hR8 : ∀ k, R k → k < w3.heap.size := fun k hk => by have := (HR.out k hk).1; omega
          have hRM : ∀ k, R k → ¬ M3 k := fun k hk hm => by
            rcases HM3.out.2 k hm with h | h
            · exact (HR.out k hk).2 h
            · have := (HR.out k hk).1; omega
          have ht12 := HT3.out.keepChg hM8 hR8 hc312 (fun k hk => ⟨fun h => by have := hM8 k h; omega, fun h => by have := hR8 k h; omega⟩)
          have hm3 : m < w3.heap.size := hM8 m HT3.out.mm
          have hp12 : PairsIn (fun k => w8.heap.size ≤ k ∧ k < w11.heap.size) W12 (.slice a11 Q'.length c11) Q' := hp11.keep (fun k hk => hc1112.block k hk.2 (by omega))
          have g0 : W12.cell? ⟨w3.heap.size, 0, none⟩ = some (.map (some hb)) := by simp [World.cell?, hbx12]
          have g1 : W12.cell? ⟨w3.heap.size, 1, none⟩ = some (.slice a11 Q'.length c11) := by simp [World.cell?, hbx12]
          have g2 : W12.cell? ⟨s, 0, none⟩ = some (.map (some m)) := by simp [World.cell?, ht12.cell]
          obtain ⟨es13, ck13, hmu, hview⟩ := (ht12.map.keep (w' := W12.drew) rfl).store key3 Try.underlying49 id (.agg #[.map (some hb), .slice a11 Q'.length c11])
          obtain ⟨W13, hW13⟩ : ∃ W13, setBlock W12.drew m (.map es13 ck13) = W13 := ⟨_, rfl⟩
          have hmap13 : MapIs iv W13 m (upd f3 id (some (.agg #[.map (some hb), .slice a11 Q'.length c11]))) := by rw [← hW13]; exact ⟨es13, ck13, heap_setBlock_same (by show m < W12.heap.size; omega) _, hview⟩
          have hc13 : Chg (fun b => b = m) W12 W13 := by rw [← hW13]; exact (chg_drewN (M := fun j => j = m) W12 1).trans (chg_setBlock (M := fun j => j = m) (w := W12.drewN 1) (b := m) rfl _)
          have hs13 := hc13.size
          have hp13 : PairsIn (fun k => R k ∨ (w8.heap.size ≤ k ∧ k < W13.heap.size)) W13 (.slice a11 Q'.length c11) Q' := (hp12.keep (fun k hk => hc13.block k (by omega) (by omega))).mono (fun k hk => .inr ⟨hk.1, by omega⟩)
          have ht13 := tab_q ht12 HF3.out (fun k hk => by have := hM8 k hk; omega) (fun k hk => ⟨by have := hR8 k hk; omega, hRM k hk⟩) hc13 hmap13 hp13 (fun _ h => .inl h)
          have HT13 := Lib.hid ht13
          have HC13 := Lib.hid hc13
          have HC312 := Lib.hid hc312
          have HRM := Lib.hid hRM
          have HM8 := Lib.hid hM8
          rw [hW12]
          rw [hW13] at hmu
          clear hc1112 hbx12 hc312 ht12 hp12 hmap13 hc13 hp13 ht13 hview hW12 hW13 hp11 hc11 hF hb11 z11 v0 v1 y0 y1 hRM hM8 hown hb9 hD9
          go_wp2_with fail
          go_region
          all_goals
            go_wp2
            have he := HE2.out
            rw [HAT.out, HQQ.out] at he
            refine bodyPost_ret (results_tmp2 rfl _ _ _) rfl ⟨M3, _, _, by rw [he]; rfl, fun k hk => (HM3.out.2 k hk).imp (fun h => h) (fun h => ⟨by omega, by omega⟩), fun k hk => ?_, fun k hk => ?_, by rw [he]; exact HT13.out, ?_⟩
            · rcases hk with h | h
              · exact .inl h
              · exact .inr ⟨by omega, h.2⟩
            · rcases hk with h | h
              · exact HRM.out k h
              · exact fun hm => by have := HM8.out k hm; omega
            · exact (((chg_new HB2.out).andThen HC3.out (fun k _ h => by rw [h]; exact HT.out.mm)).andThen HC312.out (fun k hk h => by omega)).andThen HC13.out (fun k _ h => by rw [h]; exact HT.out.mm)
end Go.Proofs.Ytamjopgpmeeheaa
