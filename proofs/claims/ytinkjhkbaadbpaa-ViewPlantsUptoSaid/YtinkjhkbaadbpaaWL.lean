/- The view's walk (120): it hands each node to a round. -/
import Derived.Test.YtinkjhkbaadbpaaRK
import Derived.Test.YtinkjhkbaadbpaaGO
import Derived.Test.YtinkjhkbaadbpaaPA
namespace Go.Proofs.Ytinkjhkbaadbpaa
open Go.RowKit Go.Shelf
open Go.ChangeMaps (setBlock)
set_option linter.unusedVariables false
attribute [local go_sem] Oper.semAt_some

/-- Get answers what g says as long as the blocks of Rb stand; the lists are new -/
def ReadsK (Rb : Nat → Prop) (w : World) (v : Nat) (g : Int → Option Rec) : Prop :=
  ∀ W, Keeps Rb w W → (∀ k, Rb k → k < W.heap.size) → ∀ id, Calls Try.prog 29 #[ptr v, iv id] W fun e w' => RecIn (fun k => W.heap.size ≤ k ∧ k < w'.heap.size) w' (g id) e ∧ Below W.heap.size W w'
theorem Duo.readsK {R Ds Rd Dd : Nat → Prop} {n0 : Nat} {w : World} {v m s v2 s2 : Nat} {V : Vw} {S : Store} {V2 : RVw} {d : Doc} (h : Duo R Ds Rd Dd n0 w v m s v2 s2 V S V2 d) (hS : S.Wf) :
    ∃ Rb : Nat → Prop, (∀ k, Rb k → k < w.heap.size) ∧ ReadsK Rb w v (V.get S) := by
  obtain ⟨D, D2, h⟩ := h
  refine ⟨fun k => k = v ∨ k = m ∨ R k ∨ Ds k ∨ D k, fun k hk => ?_, fun W hW hs id => ?_⟩
  · rcases hk with rfl | rfl | hk | hk | hk
    · exact h.vs.view.lt.1
    · exact h.vs.view.lt.2
    · exact (h.vs.rl k hk).1
    · exact (h.vs.dsl k hk).1
    · exact (h.vs.dl k hk).1
  · have hv := h.vs.view.keep (hW v (.inl rfl)) (hW m (.inr (.inl rfl))) (fun k hk => hW k (.inr (.inr (.inr (.inr hk)))))
    have hst := h.vs.store.keep (fun k hk => hW k (.inr (.inr (.inl hk)))) (fun k hk => hW k (.inr (.inr (.inr (.inl hk)))))
    refine (get_any hv hst hS (fun k hk => hs k (.inr (.inr (.inr (.inr hk))))) (fun k hk => hs k (.inr (.inr (.inl hk)))) (fun k hk => hs k (.inr (.inr (.inr (.inl hk))))) id).mono ?_
    rintro e w' ⟨⟨kv, av, he, h1, h2⟩, hb⟩
    exact ⟨⟨kv, av, he, h1.bound.mono (fun k hk => hk), h2.bound.mono (fun k hk => hk)⟩, hb⟩

abbrev Acc := List (Int × Bool)
/-- what holds between two rounds -/
structure WSt (J : Acc → (Nat → Prop) → World → Prop) (Rb : Nat → Prop) (w0 : World) (B ms : Nat) (acc : Acc) (M : Nat → Prop) (W : World) : Prop where
  j : J acc M W
  set : SetIs W ms (fun x => x ∈ acc.map (·.1))
  mm : ¬ M ms
  mb : ∀ k, M k → k < W.heap.size
  rb : ∀ k, Rb k → ¬ M k ∧ k < w0.heap.size
  keep : Keeps Rb w0 W
  sz : w0.heap.size ≤ W.heap.size
  bz : B ≤ W.heap.size
def WPost (J Jx : Acc → (Nat → Prop) → World → Prop) (Rb : Nat → Prop) (w0 : World) (B ms : Nat) (total acc : Acc) (M : Nat → Prop) (W : World) (e : Ending) (W' : World) : Prop :=
  ((e = .returned (.bool true) ∧ ∃ M', WSt J Rb w0 B ms acc M' W' ∧ ∀ k, M' k → M k ∨ W.heap.size ≤ k) ∨ (e = .returned (.bool false) ∧ ∃ M' pre, pre <+: total ∧ Jx pre M' W')) ∧ Chg (fun k => M k ∨ k = ms) W W'
def YieldsAll (J Jx : Acc → (Nat → Prop) → World → Prop) (B l : Nat) (total : Acc) : Prop :=
  ∀ pre x M W1, pre ++ [x] <+: total → B ≤ W1.heap.size → J pre M W1 → ∀ m, YieldAt Fence.wide m Try.prog l #[iv x.1, .bool x.2] W1 fun e W' => ∃ M', Chg M W1 W' ∧ (∀ k, M' k → M k ∨ W1.heap.size ≤ k) ∧
    ((e = .returned (.bool true) ∧ J (pre ++ [x]) M' W') ∨ (e = .returned (.bool false) ∧ Jx (pre ++ [x]) M' W'))
def WalkUpto (J Jx : Acc → (Nat → Prop) → World → Prop) (Rb : Nat → Prop) (w0 : World) (B ms l v : Nat) (g : Int → Option Rec) (keys : List Int) (total : Acc) (n : Nat) : Prop :=
  ∀ (id : Int) (attr : Bool) (acc : Acc) (M : Nat → Prop) (W : World), WSt J Rb w0 B ms acc M W → GoInv keys acc → keys.length + 1 ≤ n + acc.length → goS g n id attr acc <+: total →
    Calls Try.prog 120 #[ptr v, iv id, .bool attr, .map (some ms), .func (.yield l) #[] #[]] W (WPost J Jx Rb w0 B ms total (goS g n id attr acc) M W)

theorem fold_take_prefix {β : Type} (f : Acc → β → Acc) (h : ∀ a x, a <+: f a x) (xs : List β) (k : Nat) (a : Acc) : (xs.take k).foldl f a <+: xs.foldl f a := by
  have e : xs.foldl f a = (xs.drop k).foldl f ((xs.take k).foldl f a) := by rw [← List.foldl_append, List.take_append_drop]
  rw [e]
  exact prefix_fold f h _ _
set_option maxRecDepth 100000 in
set_option maxHeartbeats 4000000 in
theorem walk_step {J Jx : Acc → (Nat → Prop) → World → Prop} {Rb : Nat → Prop} {w0 : World} {B ms l v : Nat} {g : Int → Option Rec} {keys : List Int} {total : Acc} (hR : ReadsK Rb w0 v g) (hk : KeysOf g keys) (hkl : keys.length ≤ 1000000000)
    (hJ : Bears B J) (hL : Loc J) (hY : YieldsAll J Jx B l total) (hBms : B ≤ ms) (hRms : ¬ Rb ms) (n : Nat) (ih : WalkUpto J Jx Rb w0 B ms l v g keys total n) : WalkUpto J Jx Rb w0 B ms l v g keys total (n + 1) := by
  intro id attr acc M W hst hinv hfu hpre
  obtain ⟨o, ho⟩ : ∃ o, g id = o := ⟨_, rfl⟩
  have hc := hR W hst.keep (fun k hk => Nat.lt_of_lt_of_le (hst.rb k hk).2 hst.sz) id
  rw [ho] at hc
  obtain ⟨fin, hfin⟩ : ∃ fin, goS g (n + 1) id attr acc = fin := ⟨_, rfl⟩
  have hstep : fin = goN g n id attr acc o := by rw [← hfin, goS_succ, ho]
  rw [hfin] at hpre ⊢
  have hokey : o ≠ none → id ∈ keys := fun h => hk id (by rw [ho]; exact h)
  have hmsl := hst.set.lt
  have HC := Lib.hid hc
  have HSTEP := Lib.hid hstep
  have HOK := Lib.hid hokey
  have HIH := Lib.hid ih
  have HK := Lib.hid hk
  have HST := Lib.hid hst
  have HINV := Lib.hid hinv
  have HPRE := Lib.hid hpre
  have HJ := Lib.hid hJ
  have HL := Lib.hid hL
  have HY := Lib.hid hY
  have HRMS := Lib.hid hRms
  clear hc hstep hokey ih hst hinv hfin ho hR hk hpre hJ hL hY hRms
  refine (callsIn_wide (n := 1)).1 ?_
  refine callsIn_of_wp Try.func120 rfl trivial ?_ rfl
  simp only [Try.ntmps120, List.size_toArray, List.length_cons, List.length_nil, Nat.reduceAdd, Nat.reduceSub, Array.replicate_succ, Array.replicate_zero, List.push_toArray, List.append_toArray, List.nil_append, List.cons_append]
  gi_upto_region 2 with (refine ⟨trivial, ?_⟩; gi_at_call 29; refine (callsIn_wide.2 HC.out).mono ?_; rintro e w1 ⟨⟨kv1, av1, rfl, hk1, ha1⟩, hb1⟩; have HK1 := Lib.hid hk1; have HA1 := Lib.hid ha1; obtain ⟨ka, kc, rfl, -, -, -⟩ := hk1; obtain ⟨aa, ac, rfl, -, -, -⟩ := ha1; have hs1 := hb1.size; have HB1 := Lib.hid hb1; clear hb1)
  obtain ⟨W2, hW2⟩ : ∃ W2, w1.alloc (.cells #[.int .i64 (o.getD Rec.zero).kind, .string (o.getD Rec.zero).name, .string (o.getD Rec.zero).text, .int .i64 (o.getD Rec.zero).parent, .slice ka (o.getD Rec.zero).kids.length kc, .slice aa (o.getD Rec.zero).attrs.length ac, .bool (o.getD Rec.zero).gone] 52) = W2 := ⟨_, rfl⟩
  have hs2 : W2.heap.size = w1.heap.size + 1 := by rw [← hW2]; simp
  have hb2 : Below w1.heap.size w1 W2 := by rw [← hW2]; exact (Below.refl _ _).alloc (Nat.le_refl _) _
  have hr2 : W2.heap[w1.heap.size]? = some (.cells #[.int .i64 (o.getD Rec.zero).kind, .string (o.getD Rec.zero).name, .string (o.getD Rec.zero).text, .int .i64 (o.getD Rec.zero).parent, .slice ka (o.getD Rec.zero).kids.length kc, .slice aa (o.getD Rec.zero).attrs.length ac, .bool (o.getD Rec.zero).gone] 52 (0, 0)) := by rw [← hW2]; exact Go.heap_alloc_new _ _
  rw [hW2]
  have hbW2 : Below W.heap.size W W2 := HB1.out.trans (hb2.mono hs1)
  have hset2 := HST.out.set.keep (hbW2.block ms hmsl)
  have hlk := fun b hb => hset2.look id b hb
  obtain ⟨es, ck, hmu, hset3⟩ := hset2.store id
  obtain ⟨W3, hW3⟩ : ∃ W3, setBlock W2 ms (.map es ck) = W3 := ⟨_, rfl⟩
  rw [hW3] at hset3
  have hs3 : W3.heap.size = W2.heap.size := by
    rw [← hW3]
    have h9 := (show (setBlock W2 ms (.map es ck)).heap.size = W2.heap.size by simp [setBlock])
    exact h9
  have hk3 : ∀ j, j ≠ ms → W3.heap[j]? = W2.heap[j]? := fun j hj => by rw [← hW3]; exact heap_setBlock_other _ hj
  have hch3 : Chg (fun k => k = ms) W W3 := by
    rw [← hW3]
    exact (chg_new hbW2).trans (chg_setBlock (M := fun k => k = ms) rfl _)
  have hr3 := (hk3 w1.heap.size (by omega)).trans hr2
  have HK2 := Lib.hid (HK1.out.keep (keeps_below hb2 |>.mono (fun k hk => hk.2)))
  have HA2 := Lib.hid (HA1.out.keep (keeps_below hb2 |>.mono (fun k hk => hk.2)))
  have HK3 := Lib.hid (HK2.out.keep (fun k hk => hk3 k (by have := hk.1; omega)))
  have HA3 := Lib.hid (HA2.out.keep (fun k hk => hk3 k (by have := hk.1; omega)))
  have hj3 : J acc M W3 := HJ.out _ _ _ _ HST.out.j (hch3.mono (fun k hk => by rw [hk]; exact ⟨hBms, HST.out.mm⟩))
  have hkeep3 : Keeps Rb w0 W3 := fun k hk => (hch3.block k (Nat.lt_of_lt_of_le (HST.out.rb k hk).2 HST.out.sz) (fun e => HRMS.out (by rw [← e]; exact hk))).trans (HST.out.keep k hk)
  have hlenA := HINV.out.len
  have hsz0 := HST.out.sz
  have hbz0 := HST.out.bz
  have HB2 := Lib.hid hbW2
  have HS2 := Lib.hid hs2
  have HS3 := Lib.hid hs3
  have HW3 := Lib.hid hW3
  have HR3 := Lib.hid hr3
  have HSET3 := Lib.hid hset3
  have HCH3 := Lib.hid hch3
  have HJ3 := Lib.hid hj3
  have HKEEP3 := Lib.hid hkeep3
  have HLK := Lib.hid hlk
  have hs13 : w1.heap.size < W3.heap.size := by omega
  clear hW2 hs2 hb2 hr2 hbW2 hset2 hlk hset3 hW3 hs3 hk3 hch3 hr3 hj3 hkeep3
  -- nothing is done
  have same : ∀ W', Chg (fun _ => False) W W' → fin = acc → WPost J Jx Rb w0 B ms total fin M W (.returned (.bool true)) W' := fun W' hc he => by
    rw [he]
    have hs := hc.size
    refine ⟨.inl ⟨rfl, M, ⟨HJ.out _ _ _ _ HST.out.j (hc.mono (fun k h => h.elim)), HST.out.set.keep (hc.block ms hmsl (fun h => h)), HST.out.mm, fun k hk => Nat.lt_of_lt_of_le (HST.out.mb k hk) hs, HST.out.rb, fun k hk => (hc.block k (Nat.lt_of_lt_of_le (HST.out.rb k hk).2 hsz0) (fun h => h)).trans (HST.out.keep k hk), Nat.le_trans hsz0 hs, Nat.le_trans hbz0 hs⟩, fun k hk => .inl hk⟩, hc.mono (fun k h => h.elim)⟩
  have SAME := Lib.hid same
  clear same
  cases o with
  | none =>
    have he : fin = acc := HSTEP.out
    simp only [Option.isSome_none]
    have HE := Lib.hid he
    clear he hmu
    gi_wp2
    go_ret
    exact SAME.out _ (chg_new HB2.out) HE.out
  | some r =>
    simp only [Option.isSome_some, Option.getD_some] at *
    by_cases hin : id ∈ acc.map (·.1)
    · have hl1 := HLK.out true (by simpa using hin)
      have he : fin = acc := by have := HSTEP.out; simp only [goN] at this; rw [if_pos hin] at this; exact this
      have HE := Lib.hid he
      clear he hin hmu
      gi_wp2
      go_ret
      exact SAME.out _ (chg_new HB2.out) HE.out
    · have hl1 := HLK.out false (by simpa using hin)
      have he : fin = r.kids.foldl (fun a x => goS g n x attr a) (r.attrs.foldl (fun a x => goS g n x true a) (acc ++ [(id, attr)])) := by have := HSTEP.out; simp only [goN] at this; rw [if_neg hin] at this; exact this
      have hinv1 := HINV.out.snoc attr hin (HOK.out (by simp))
      have hlen1 := hinv1.len
      simp only [List.length_append, List.length_singleton] at hlen1
      have hpa : r.attrs.foldl (fun a x => goS g n x true a) (acc ++ [(id, attr)]) <+: total := (by rw [he] at HPRE; exact (prefix_fold _ (fun a x => goS_prefix g n x attr a) r.kids _).trans HPRE.out)
      have hp1 : acc ++ [(id, attr)] <+: total := (prefix_fold _ (fun a x => goS_prefix g n x true a) r.attrs _).trans hpa
      have HE := Lib.hid he
      have HINV1 := Lib.hid hinv1
      have HPA := Lib.hid hpa
      have HP1 := Lib.hid hp1
      clear he hin hinv1 hpa hp1
      gi_upto_region 5 with fail
      rw [HW3.out]
      obtain ⟨fn, tmps, assign, body, hy, hRR⟩ := HY.out acc (id, attr) M W3 HP1.out (by have := HCH3.out.size; omega) HJ3.out 0
      gi_wp2_with (refine hRR.mono ?_; rintro e w4 ⟨M4, hc4, hM4, hor⟩; have hr4 := (hc4.block w1.heap.size hs13 (fun h => by have := HST.out.mb _ h; omega)).trans HR3.out; obtain ⟨z0, z1, z2, z3, z4, z5, z6⟩ := cells7 hr4; have HR4 := Lib.hid hr4; have HC4 := Lib.hid hc4; have HM4 := Lib.hid hM4; have hs4 := hc4.size; clear hc4 hM4 hr4; rcases hor with ⟨rfl, hJ4⟩ | ⟨rfl, hJ4⟩)
      · have HJ4 := Lib.hid hJ4
        clear hJ4 hRR hy
        have hla := HA3.out.len
        have hlk := HK3.out.len
        -- the state behind the round
        have hst4 : WSt J Rb w0 B ms (acc ++ [(id, attr)]) (fun k => M4 k ∧ k < w4.heap.size) w4 := by
          have hms3 : ms < W3.heap.size := HSET3.out.lt
          refine ⟨HL.out _ _ _ HJ4.out, (HSET3.out.keep (HC4.out.block ms hms3 HST.out.mm)).congr (fun x => by simp), fun h => ?_, fun k h => h.2, fun k hk => ⟨fun h => ?_, (HST.out.rb k hk).2⟩, fun k hk => ?_, by have := HCH3.out.size; omega, by have := HCH3.out.size; omega⟩
          · rcases HM4.out ms h.1 with h | h
            · exact HST.out.mm h
            · omega
          · rcases HM4.out k h.1 with h | h
            · exact (HST.out.rb k hk).1 h
            · have := (HST.out.rb k hk).2; have := HCH3.out.size; omega
          · exact (HC4.out.block k (by have := (HST.out.rb k hk).2; have := HCH3.out.size; omega) (HST.out.rb k hk).1).trans (HKEEP3.out k hk)
        have HST4 := Lib.hid hst4
        have hM5 : ∀ k, (M4 k ∧ k < w4.heap.size) → M k ∨ W3.heap.size ≤ k := fun k h => HM4.out k h.1
        have HM5 := Lib.hid hM5
        obtain ⟨M5, hM5e⟩ : ∃ M5, (fun k => M4 k ∧ k < w4.heap.size) = M5 := ⟨_, rfl⟩
        rw [hM5e] at HST4
        have hM5' : ∀ k, M5 k → M k ∨ W3.heap.size ≤ k := fun k h => by rw [← hM5e] at h; exact HM5.out k h
        have HM6 := Lib.hid hM5'
        clear hst4 hM5 HM5 hM5e hM5'
        gi_loopw [40] (fun i wr => ∃ k : Nat, k ≤ r.attrs.length ∧ i = .int .i64 k ∧ ∃ Mk, WSt J Rb w0 B ms ((r.attrs.take k).foldl (fun a x => goS g n x true a) (acc ++ [(id, attr)])) Mk wr ∧ (∀ j, Mk j → M j ∨ W3.heap.size ≤ j) ∧ Chg (fun j => M j ∨ j = ms) W3 wr) (fun i _ => r.attrs.length - (intOf i).toNat)
        case atStart => exact ⟨0, Nat.zero_le _, rfl, M5, HST4.out, HM6.out, HC4.out.mono (fun k h => .inl h)⟩
        case round =>
          obtain ⟨k, hk, rfl, Mk, hstk, hMk, hcr⟩ := hrel
          have hsr := hcr.size
          have hrr := (hcr.block w1.heap.size hs13 (fun h => h.elim (fun h => by have := HST.out.mb _ h; omega) (fun h => by omega))).trans HR3.out
          obtain ⟨z0, z1, z2, z3, z4, z5, z6⟩ := cells7 hrr
          have hkr : Keeps (fun k => W.heap.size ≤ k ∧ k < w1.heap.size) W3 wr := fun j hj => hcr.block j (by omega) (fun h => h.elim (fun h => by have := HST.out.mb _ h; omega) (fun h => by omega))
          have HSTK := Lib.hid hstk
          have HMK := Lib.hid hMk
          have HCR := Lib.hid hcr
          by_cases hlt : k < r.attrs.length
          · obtain ⟨x, hxk⟩ : ∃ x, r.attrs[k]? = some x := ⟨_, List.getElem?_eq_getElem hlt⟩
            obtain ⟨a0, cp0, e0, -, -, hx0⟩ := HA3.out.keep hkr
            cases e0
            obtain ⟨ga, offa, rfl, -, hca⟩ : ∃ g off, aa = some ⟨g, off, none⟩ ∧ (W.heap.size ≤ g ∧ g < w1.heap.size) ∧ ∀ j x, r.attrs[j]? = some x → wr.cell? ⟨g, off + j, none⟩ = some (.int .i64 x) := by
              rcases hx0 with h | h
              · rw [h] at hlt; simp at hlt
              · exact h
            have u0 := hca k x hxk
            have hk0 : (0 : Int) ≤ k := by omega
            have hkl2 : (k : Int) < r.attrs.length := by omega
            obtain ⟨hi1, hi2⟩ := inv_take HK.out n true (r.attrs.take k) (acc ++ [(id, attr)]) HINV1.out
            simp only [List.length_append, List.length_singleton] at hi2
            have hnx := fold_succ (fun a x => goS g n x true a) hxk (acc ++ [(id, attr)])
            have hpx := (fold_take_prefix (fun a x => goS g n x true a) (fun a x => goS_prefix g n x true a) r.attrs (k + 1) (acc ++ [(id, attr)])).trans HPA.out
            rw [hnx] at hpx
            obtain ⟨cur, hcur⟩ : ∃ cur, (r.attrs.take k).foldl (fun a x => goS g n x true a) (acc ++ [(id, attr)]) = cur := ⟨_, rfl⟩
            rw [hcur] at hi1 hi2 hnx hpx hstk
            have HNX := Lib.hid hnx
            have HIK := Lib.hid (HIH.out x true cur Mk wr hstk hi1 (by omega) hpx)
            clear hstk hMk hcr hrr hkr hca hx0 hxk hi1 hnx hpx hcur
            gi_wp2_with (refine ⟨trivial, ?_⟩; gi_at_call 120; refine (callsIn_wide.2 HIK.out).mono ?_; rintro e w5 ⟨hor, hc5⟩; have HC5 := Lib.hid hc5; have hs5 := hc5.size; clear hc5 z0 z1 z2 z3 z4 z5 z6 u0; rcases hor with ⟨rfl, M7, hst7, hM7⟩ | ⟨rfl, M7, pre7, hpre7, hJx7⟩)
            · go_roundw
              case rel =>
                refine ⟨k + 1, by omega, by go_num, M7, by rw [HNX.out]; exact hst7, fun j hj => ?_, HCR.out.andThen HC5.out (fun j hj h => h.elim (fun h => (HMK.out j h).elim .inl (fun h => by omega)) .inr)⟩
                rcases hM7 j hj with h | h
                · exact HMK.out j h
                · exact .inr (by omega)
              case measure => simp [intOf]; omega
            · go_ret
              exact ⟨.inr ⟨rfl, M7, pre7, hpre7, hJx7⟩, ((HCH3.out.mono (fun k h => .inr h)).trans HCR.out).andThen HC5.out (fun j hj h => h.elim (fun h => (HMK.out j h).elim .inl (fun h => by have := HCH3.out.size; omega)) .inr)⟩
          · obtain rfl : k = r.attrs.length := by omega
            rw [List.take_length] at HSTK
            obtain ⟨mid, hmid⟩ : ∃ mid, r.attrs.foldl (fun a x => goS g n x true a) (acc ++ [(id, attr)]) = mid := ⟨_, rfl⟩
            have hinvm := inv_take HK.out n true r.attrs (acc ++ [(id, attr)]) HINV1.out
            have hlm := hinvm.2
            simp only [List.length_append, List.length_singleton] at hlm
            rw [hmid] at HSTK HE hinvm hlm
            have HINVM := Lib.hid hinvm.1
            have hpfull : r.kids.foldl (fun a x => goS g n x attr a) mid <+: total := by rw [← HE.out]; exact HPRE.out
            have HPF := Lib.hid hpfull
            clear hstk hMk hcr hrr hkr hmid hinvm hpfull
            gi_wp2_with fail
            obtain ⟨wa, rfl⟩ : ∃ wa, wa = wr := ⟨_, rfl⟩
            gi_loopw [54] (fun i wr => ∃ k : Nat, k ≤ r.kids.length ∧ i = .int .i64 k ∧ ∃ Mk, WSt J Rb w0 B ms ((r.kids.take k).foldl (fun a x => goS g n x attr a) mid) Mk wr ∧ (∀ j, Mk j → M j ∨ W3.heap.size ≤ j) ∧ Chg (fun j => M j ∨ j = ms) W3 wr) (fun i _ => r.kids.length - (intOf i).toNat)
            case atStart => exact ⟨0, Nat.zero_le _, rfl, Mk, HSTK.out, HMK.out, HCR.out⟩
            case round =>
              obtain ⟨k, hk, rfl, Mn, hstk, hMk, hcr⟩ := hrel
              have hsr := hcr.size
              have hrr := (hcr.block w1.heap.size hs13 (fun h => h.elim (fun h => by have := HST.out.mb _ h; omega) (fun h => by omega))).trans HR3.out
              obtain ⟨z0, z1, z2, z3, z4, z5, z6⟩ := cells7 hrr
              have hkr : Keeps (fun k => W.heap.size ≤ k ∧ k < w1.heap.size) W3 wr := fun j hj => hcr.block j (by omega) (fun h => h.elim (fun h => by have := HST.out.mb _ h; omega) (fun h => by omega))
              have HSTN := Lib.hid hstk
              have HMN := Lib.hid hMk
              have HCN := Lib.hid hcr
              by_cases hlt : k < r.kids.length
              · obtain ⟨x, hxk⟩ : ∃ x, r.kids[k]? = some x := ⟨_, List.getElem?_eq_getElem hlt⟩
                obtain ⟨a0, cp0, e0, -, -, hx0⟩ := HK3.out.keep hkr
                cases e0
                obtain ⟨ga, offa, rfl, -, hca⟩ : ∃ g off, ka = some ⟨g, off, none⟩ ∧ (W.heap.size ≤ g ∧ g < w1.heap.size) ∧ ∀ j x, r.kids[j]? = some x → wr.cell? ⟨g, off + j, none⟩ = some (.int .i64 x) := by
                  rcases hx0 with h | h
                  · rw [h] at hlt; simp at hlt
                  · exact h
                have u0 := hca k x hxk
                have hk0 : (0 : Int) ≤ k := by omega
                have hkl2 : (k : Int) < r.kids.length := by omega
                obtain ⟨hi1, hi2⟩ := inv_take HK.out n attr (r.kids.take k) mid HINVM.out
                have hnx := fold_succ (fun a x => goS g n x attr a) hxk mid
                have hpx := (fold_take_prefix (fun a x => goS g n x attr a) (fun a x => goS_prefix g n x attr a) r.kids (k + 1) mid).trans HPF.out
                rw [hnx] at hpx
                obtain ⟨cur, hcur⟩ : ∃ cur, (r.kids.take k).foldl (fun a x => goS g n x attr a) mid = cur := ⟨_, rfl⟩
                rw [hcur] at hi1 hi2 hnx hpx hstk
                have HNX := Lib.hid hnx
                have HIK := Lib.hid (HIH.out x attr cur Mn wr hstk hi1 (by omega) hpx)
                clear hstk hMk hcr hrr hkr hca hx0 hxk hi1 hnx hpx hcur
                gi_wp2_with (refine ⟨trivial, ?_⟩; gi_at_call 120; refine (callsIn_wide.2 HIK.out).mono ?_; rintro e w5 ⟨hor, hc5⟩; have HC5 := Lib.hid hc5; have hs5 := hc5.size; clear hc5 z0 z1 z2 z3 z4 z5 z6 u0; rcases hor with ⟨rfl, M7, hst7, hM7⟩ | ⟨rfl, M7, pre7, hpre7, hJx7⟩)
                · go_roundw
                  case rel =>
                    refine ⟨k + 1, by omega, by go_num, M7, by rw [HNX.out]; exact hst7, fun j hj => ?_, HCN.out.andThen HC5.out (fun j hj h => h.elim (fun h => (HMN.out j h).elim .inl (fun h => by omega)) .inr)⟩
                    rcases hM7 j hj with h | h
                    · exact HMN.out j h
                    · exact .inr (by omega)
                  case measure => simp [intOf]; omega
                · go_ret
                  exact ⟨.inr ⟨rfl, M7, pre7, hpre7, hJx7⟩, ((HCH3.out.mono (fun k h => .inr h)).trans HCN.out).andThen HC5.out (fun j hj h => h.elim (fun h => (HMN.out j h).elim .inl (fun h => by have := HCH3.out.size; omega)) .inr)⟩
              · obtain rfl : k = r.kids.length := by omega
                rw [List.take_length] at HSTN
                clear hstk hMk hcr hrr hkr
                have hsw := HCH3.out.size
                gi_wp2
                go_ret
                rw [HE.out]
                exact ⟨.inl ⟨rfl, Mn, HSTN.out, fun j hj => (HMN.out j hj).elim .inl (fun h => .inr (by omega))⟩, (HCH3.out.mono (fun k h => .inr h)).trans HCN.out⟩
      · clear hRR hy
        go_ret
        exact ⟨.inr ⟨rfl, M4, acc ++ [(id, attr)], HP1.out, hJ4⟩, (HCH3.out.mono (fun k h => .inr h)).trans (HC4.out.mono (fun k h => .inl h))⟩
theorem walk_upto {J Jx : Acc → (Nat → Prop) → World → Prop} {Rb : Nat → Prop} {w0 : World} {B ms l v : Nat} {g : Int → Option Rec} {keys : List Int} {total : Acc} (hR : ReadsK Rb w0 v g) (hk : KeysOf g keys) (hkl : keys.length ≤ 1000000000)
    (hJ : Bears B J) (hL : Loc J) (hY : YieldsAll J Jx B l total) (hBms : B ≤ ms) (hRms : ¬ Rb ms) : ∀ n, WalkUpto J Jx Rb w0 B ms l v g keys total n
  | 0 => fun id attr acc M W _ hinv hfu _ => by have := hinv.len; omega
  | n + 1 => walk_step hR hk hkl hJ hL hY hBms hRms n (walk_upto hR hk hkl hJ hL hY hBms hRms n)
end Go.Proofs.Ytinkjhkbaadbpaa
