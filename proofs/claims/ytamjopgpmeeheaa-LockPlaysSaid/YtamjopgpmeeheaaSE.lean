/- serve (39): the grants of all queues, one after another. -/
import Derived.Test.YtamjopgpmeeheaaSV
import Derived.Test.YtamjopgpmeeheaaRG
namespace Go.Proofs.Ytamjopgpmeeheaa
open Go.RowKit Go.Shelf
open Go.ChangeMaps (setBlock)
set_option linter.unusedVariables false
attribute [local go_sem] Oper.semAt_some

theorem Try.info34 : (Try.prog.info? 34).map (fun i => (i.zero, i.size, i.bytes)) = some (some (.agg #[.int .i64 0, .int .i64 0, .int .i64 0]), 3, 24) := by kernel_rfl
/-- grants in memory -/
def TrisIn (F : Nat → Prop) (w : World) (v : Value) (l : List G3) : Prop :=
  ∃ a cap, v = .slice a l.length cap ∧ l.length ≤ cap ∧ cap ≤ maxLen ∧ (l = [] ∨ ∃ g off, a = some ⟨g, off, none⟩ ∧ F g ∧ ∀ (k : Nat) (e : G3), l[k]? = some e → w.cell? ⟨g, off + k * 3, none⟩ = some (iv e.1) ∧ w.cell? ⟨g, off + k * 3 + 1, none⟩ = some (iv e.2.1) ∧ w.cell? ⟨g, off + k * 3 + 2, none⟩ = some (iv e.2.2))
theorem TrisIn.keep {F : Nat → Prop} {w w' : World} {v : Value} {l : List G3} (h : TrisIn F w v l) (hk : Keeps F w w') : TrisIn F w' v l := by
  obtain ⟨a, cap, rfl, h1, h2, rfl | ⟨g, off, rfl, hg, hc⟩⟩ := h
  · exact ⟨a, cap, rfl, h1, h2, .inl rfl⟩
  · exact ⟨_, cap, rfl, h1, h2, .inr ⟨g, off, rfl, hg, fun k e he => ⟨(hk.cell (p := ⟨g, off + k * 3, none⟩) hg).trans (hc k e he).1, (hk.cell (p := ⟨g, off + k * 3 + 1, none⟩) hg).trans (hc k e he).2.1, (hk.cell (p := ⟨g, off + k * 3 + 2, none⟩) hg).trans (hc k e he).2.2⟩⟩⟩
theorem TrisIn.mono {F G : Nat → Prop} {w : World} {v : Value} {l : List G3} (h : TrisIn F w v l) (hf : ∀ k, F k → G k) : TrisIn G w v l := by
  obtain ⟨a, cap, h0, h1, h2, h3⟩ := h
  exact ⟨a, cap, h0, h1, h2, h3.imp id fun ⟨g, off, e, hg, hc⟩ => ⟨g, off, e, hf g hg, hc⟩⟩
theorem trisIn_nil (F : Nat → Prop) (w : World) : TrisIn F w (.slice none 0 0) [] := ⟨none, 0, rfl, by simp, by simp, .inl rfl⟩
def flat3 (l : List G3) : List Value := l.flatMap (fun e => [iv e.1, iv e.2.1, iv e.2.2])
theorem flat3_snoc (l : List G3) (e : G3) : flat3 (l ++ [e]) = flat3 l ++ [iv e.1, iv e.2.1, iv e.2.2] := by simp [flat3]
theorem flat3_get : ∀ (l : List G3) (k : Nat) (e : G3), l[k]? = some e → (flat3 l)[k * 3]? = some (iv e.1) ∧ (flat3 l)[k * 3 + 1]? = some (iv e.2.1) ∧ (flat3 l)[k * 3 + 2]? = some (iv e.2.2)
  | [], k, e, h => by simp at h
  | a :: l, 0, e, h => by
    simp at h; subst h
    simp [flat3]
  | a :: l, k + 1, e, h => by
    have := flat3_get l k e (by simpa using h)
    have e1 : flat3 (a :: l) = iv a.1 :: iv a.2.1 :: iv a.2.2 :: flat3 l := by simp [flat3]
    rw [e1, show (k + 1) * 3 = k * 3 + 1 + 1 + 1 by omega]
    simpa using this
theorem trisIn_row {w : World} {B t : Nat} {v : Value} {l : List G3} (h : w.ownsRow B t 3 v l.length (flat3 l)) : TrisIn (fun k => B ≤ k ∧ k < w.heap.size) w v l := by
  obtain ⟨hl, ⟨rfl, h0⟩ | ⟨g, cap, cur, rfl, hb, hg, h1, h2, h3, h4⟩⟩ := h
  · obtain rfl : l = [] := List.eq_nil_of_length_eq_zero h0
    exact ⟨none, 0, rfl, Nat.le_refl _, by simp, .inl rfl⟩
  · refine ⟨_, cap, rfl, h1, h2, .inr ⟨g, 0, rfl, ⟨hb, (Array.getElem?_eq_some_iff.1 hg).1⟩, fun k e he => ?_⟩⟩
    have hk : k < l.length := (List.getElem?_eq_some_iff.1 he).1
    obtain ⟨f1, f2, f3⟩ := flat3_get l k e he
    rw [← h4, List.getElem?_take_of_lt (by omega)] at f1 f2 f3
    unfold World.cell?
    simp [hg]
    exact ⟨by simpa using f1, by simpa using f2, by simpa using f3⟩
/-- how many are served, all in all -/
theorem serveQ_few : ∀ (q hs : List W2), (serveQ hs q).1.length ≤ q.length
  | [], hs => by rw [serveQ_nil]; simp
  | e :: q, hs => by
    cases h : canB hs e.1 e.2 with
    | false => rw [serveQ_no h]; simp
    | true => rw [serveQ_yes h]; simpa using serveQ_few q _
theorem grantsT_few {T : Tb} (hOK : ∀ id, NdOk (T id)) : ∀ ks : List Int, (grantsT T ks).length ≤ 1000 * ks.length
  | [] => by simp [grantsT]
  | id :: ks => by
    have h1 := grantsT_few hOK ks
    have h2 := serveQ_few (T id).q (T id).hs
    have h3 := (hOK id).few_q
    have e : grantsT T (id :: ks) = grantsN id (T id) ++ grantsT T ks := by simp [grantsT]
    have h4 : (grantsN id (T id)).length ≤ 1000 := by unfold grantsN; rw [List.length_map]; omega
    rw [e, List.length_append, List.length_cons]; omega

set_option maxRecDepth 100000 in
set_option maxHeartbeats 4000000 in
theorem serve_any {M R : Nat → Prop} {w : World} {s m : Nat} {f : Int → Option Value} {T : Tb} {c : Nat} (h : TabF M R w s m f T c) (hM : ∀ k, M k → k < w.heap.size) (hR : ∀ k, R k → k < w.heap.size) (hMR : ∀ k, R k → ¬ M k) (hOK : ∀ id, NdOk (T id)) (hc : c ≤ 1000000) :
    Calls Try.prog 39 #[.pointer (some ⟨s, 0, none⟩)] w fun e w' => ∃ ks f' v, RiseKeys f ks ∧ e = .returned v ∧ TrisIn (fun k => w.heap.size ≤ k ∧ k < w'.heap.size) w' v (grantsT T ks) ∧ TabF M R w' s m f' (serveT T) c ∧ Chg M w w' := by
  obtain ⟨i0, hi, hz0, hz1, hz2⟩ := info_parts Try.info34
  have hb1 : ∀ o, Below w.heap.size w (w.alloc o) := fun o => (Below.refl _ w).alloc (Nat.le_refl _) _
  obtain ⟨w1, hw1⟩ : ∃ w1, (w.alloc (.cells #[.slice none 0 0] 31)).alloc (.cells #[.pointer (some ⟨s, 0, none⟩)] 23) = w1 := ⟨_, rfl⟩
  have hs1 : w1.heap.size = w.heap.size + 2 := by rw [← hw1]; simp
  have hb2 : Below w.heap.size w w1 := by rw [← hw1]; exact (hb1 _).alloc (by simp) _
  have hbox : w1.heap[w.heap.size]? = some (.cells #[.slice none 0 0] 31) := by rw [← hw1]; exact (Go.heap_alloc_old _ _ (by simp)).trans (Go.heap_alloc_new _ _)
  have hBt : w1.cell? ⟨w.heap.size + 1, 0, none⟩ = some (.pointer (some ⟨s, 0, none⟩)) := by
    have := Go.heap_alloc_new (w.alloc (.cells #[.slice none 0 0] 31)) (.cells #[.pointer (some ⟨s, 0, none⟩)] 23)
    rw [hw1] at this
    simp only [World.size_alloc] at this
    simp only [World.cell?, this]; rfl
  have ht1 := h.keepNew hM hR hb2
  have hgiv := served_gives 9 (by omega) ht1 hBt hMR (fun hm => by have := hM _ hm; omega) hOK hc
  have HG := Lib.hid hgiv
  have HB2 := Lib.hid hb2
  have HBOX := Lib.hid hbox
  have HM := Lib.hid hM
  have HR := Lib.hid hR
  have HMR := Lib.hid hMR
  have HOK := Lib.hid hOK
  obtain ⟨ks0, hks0, hks1⟩ := h.few
  have hlen : ∀ pre : List G3, (∃ ks, RiseKeys f ks ∧ pre <+: grantsT T ks) → pre.length ≤ 1000000000 := fun pre ⟨ks, hk, hp⟩ => by
    have h1 := hp.length_le
    have h2 := grantsT_few hOK ks
    have h3 := keysOk_few (f := f) hks1 (xs := ks) ⟨hk.1.imp (fun h => Int.ne_of_lt h), fun x hx => (hk.2 x).1 hx⟩
    omega
  have HLEN := Lib.hid hlen
  have HW1 := Lib.hid hw1
  clear h hM hR hMR hOK hgiv hb1 hb2 hbox hBt ht1 hw1 hlen hks1
  refine (callsIn_wide (n := 10)).1 ?_
  refine callsIn_of_wp_marks Try.func39 rfl trivial ?_ rfl
  simp only [Try.ntmps39, List.size_toArray, List.length_cons, List.length_nil, Nat.reduceAdd, Nat.reduceSub, Array.replicate_succ, Array.replicate_zero, List.push_toArray, List.append_toArray, List.nil_append, List.cons_append]
  gi_wp2_with (refine ⟨trivial, ?_⟩; gi_at_call 59; refine (callsIn_wide.2 (served_any _ ⟨_, rfl⟩ _)).mono ?_; rintro e w' ⟨rfl, hw'⟩)
  obtain rfl : w1 = w' := HW1.out.symm.trans hw'
  have hu31 := Try.underlying31
  have hml : ∀ k, M k → k < w1.heap.size := fun k hk => by have := HM.out k hk; omega
  refine wpIn_rangeFunc_gives2 rfl (by omega) (gf := 68) (lb := #[.pointer (some ⟨w.heap.size + 1, 0, none⟩)]) rfl trivial (enters_of Try.func68 (by kernel_rfl) rfl)
    HG.out (Keeps.refl _ _) (Keeps.refl _ _) (fun k hk => by rcases hk with rfl | hk; omega; have := HR.out k hk; omega) hml
    (fun xs A A' ⟨f', hf'⟩ hk => ⟨f', hf'.keep (fun k h => hk k (.inr h)) (fun k h => hk k (.inl (.inr h)))⟩) (fun _ => rfl)
    (fun pre Md W => ∃ v, Boxed W w.heap.size 31 v ∧ W.ownsRow w1.heap.size 34 3 v pre.length (flat3 pre) ∧ (∀ k, Md k ↔ k = w.heap.size ∨ v.ownBlock = some k) ∧ Chg M w W)
    (fun _ _ _ _ => False)
    (fun pre Md A A' ⟨v, i1, i2, i3, i4⟩ hc => ⟨v, chg_boxed hc (fun h => h.2 ((i3 _).2 (.inl rfl))) i1, ownsRow_keeps i2 (fun g hg => hc.block g (ownsRow_base i2 hg).2 (fun h => h.2 ((i3 _).2 (.inr hg)))), i3, i4.andThen hc (fun k hk h => h.1.elim (fun h => by omega) id)⟩)
    (fun _ _ _ _ _ h _ => h.elim) (fun k => k = w.heap.size) (fun k hk => ⟨by omega, fun h => by rcases h with h | h; omega; have := HR.out k h; omega, fun h => by have := HM.out k h; omega⟩)
    ⟨.slice none 0 0, HBOX.out, World.ownsRow_nil _ _ _ _, fun k => by simp [Value.ownBlock], chg_new HB2.out⟩
    (fun x b a' A => a' = { tmps := #[.pointer (some ⟨s, 0, none⟩), undef, .slice none 0 0, .pointer (some ⟨w.heap.size, 0, none⟩), .pointer (some ⟨b, 0, none⟩), .pointer (some ⟨s, 0, none⟩), .func (.func 68) #[] #[.pointer (some ⟨w.heap.size + 1, 0, none⟩)], .agg #[iv x.1, iv x.2.1, iv x.2.2], undef, undef, undef, undef, undef], defers := [] } ∧ A.heap[b]? = some (.cells #[iv x.1, iv x.2.1, iv x.2.2] 34))
    (fun x b a' A A' ⟨h1, h2⟩ hk => ⟨h1, (hk b (Nat.le_refl _) (Array.getElem?_eq_some_iff.1 h2).1).trans h2⟩) ?assign ?body ?done ?stop
  case assign =>
    intro l x W K hK
    gi_wp2
    exact hK _ _ ((Below.refl _ W).alloc (Nat.le_refl _) _) ⟨rfl, Go.heap_alloc_new _ _⟩
  case body =>
    rintro l pre x Md W0 W a' hpre hsz - ⟨v, i1, i2, i3, i4⟩ hsW ⟨rfl, hbx⟩
    have d0 := i1.cell
    have d1 := i1.frozen
    have e0 : W.cell? ⟨W0.heap.size, 0, none⟩ = some (iv x.1) := by simp [World.cell?, hbx]
    have e1 : W.cell? ⟨W0.heap.size, 1, none⟩ = some (iv x.2.1) := by simp [World.cell?, hbx]
    have e2 : W.cell? ⟨W0.heap.size, 2, none⟩ = some (iv x.2.2) := by simp [World.cell?, hbx]
    have hpl : pre.length + 1 ≤ 1000000000 := by have := HLEN.out _ hpre; simpa using this
    have hlt := i1.lt
    have I1 := Lib.hid i1
    have I2 := Lib.hid i2
    have I3 := Lib.hid i3
    have I4 := Lib.hid i4
    clear i1 i2 i3 i4 hpre hbx
    have hmx : Try.prog.follows .mixedOrders = true := by kernel_rfl
    gi_wp2_with ((gi_at_builtin; refine wpListIn_append_own_at _ rfl _ _ 31 rfl w1.heap.size 34 i0 (.agg #[.int .i64 0, .int .i64 0, .int .i64 0]) 3 24 Try.underlying31 hi hz0 hz1 hz2 rfl (by decide) _ _ _ rfl (ownsRow_alloc I2.out _) ⟨W.heap.size, 0, none⟩ 1 1 [iv x.1, iv x.2.1, iv x.2.2] rfl rfl (cells_new2 (xs := [iv x.1, iv x.2.1, iv x.2.2])) (by simp [Value.oneCell']) (by unfold maxLen; omega) (by omega) (by simp; omega) ?_; intro v' w2 hown2 hgrow hnil hloc; obtain ⟨a2, n2, cp2, rfl⟩ := slice_form hown2; have hkb := (hgrow.block w.heap.size (by simp; omega) (fun e => by have := (ownsRow_base I2.out e.symm).1; omega)).trans (Go.heap_alloc_old W _ hlt); have q0 := (World.cell?_of_block (a := ⟨w.heap.size, 0, none⟩) hkb).trans d0; have q1 : w2.frozen? ⟨w.heap.size, 0, none⟩ = false := free_block (hkb.trans I1.out) 0))
    have hch : Chg Md W w2 := (chg_alloc W _).trans (chg_grown hgrow (fun k e => (I3.out k).2 (.inr e)))
    have hboxm : Md w.heap.size := (I3.out _).2 (.inl rfl)
    generalize hv' : Value.slice a2 n2 cp2 = v' at *
    refine ⟨fun k => k = w.heap.size ∨ v'.ownBlock = some k, hch.trans (chg_set hboxm 0 _), ?_, v', ?_, ?_, fun _ => Iff.rfl, ?_⟩
    · rintro k (h | h)
      · exact .inl ((I3.out k).2 (.inl h))
      · rcases hloc with e | e
        · exact .inl ((I3.out k).2 (.inr (e.symm.trans h)))
        · rw [e] at h; cases h
          exact .inr ⟨by simp, by have := (ownsRow_base hown2 e).2; simpa [World.setCell] using this⟩
    · have := heap_setCell_same w2 w.heap.size 0 _ _ v' (hkb.trans I1.out)
      unfold Boxed
      simpa using this
    · rw [List.length_append, flat3_snoc]
      exact ownsRow_keeps hown2 (fun g hg => heap_setCell_other _ _ _ _ (by have := (ownsRow_base hown2 hg).1; simp; omega))
    · have hc2 := hch.trans (chg_set (w := w2) hboxm 0 v')
      refine I4.out.andThen hc2 (fun k hk h => ?_)
      rcases (I3.out k).1 h with h | h
      · omega
      · have := (ownsRow_base I2.out h).1; omega
  case done =>
    rintro Dd zs Md W hD2 hMD hMM ⟨ks, hrk, rfl⟩ ⟨v, i1, i2, i3, i4⟩ ⟨f', hf'⟩ hK
    have d0 := i1.cell
    gi_wp2
    refine ⟨by simp, .inl ⟨_, _, rfl, run_takeDeferred hK, ?_⟩⟩
    have hDv : v.ownBlock ≠ some Dd := fun e => hMD ((i3 _).2 (.inr e))
    have hi2 := ownsRow_keeps (w' := W.putObj Dd (.deferred none)) i2 (fun g hg => World.putObj_heap_other (fun e => hDv (by rw [← e]; exact hg)))
    have hMl := HM.out
    have hRl := HR.out
    refine ⟨_, results_tmp rfl _ _ _, ks, f', _, hrk, rfl, (trisIn_row hi2).mono (fun k hk => ⟨by have := hk.1; omega, hk.2⟩), ?_, ?_⟩
    · exact hf'.keep (fun k hk => World.putObj_heap_other (by have := hMl k hk; omega)) (fun k hk => World.putObj_heap_other (by have := hRl k hk; omega))
    · exact i4.andThen (chg_putObj (M := fun k => k = Dd) rfl _) (fun k hk h => by omega)
  case stop =>
    rintro Dd c pre Md W _ _ _ _ h _
    exact h.elim
end Go.Proofs.Ytamjopgpmeeheaa
