/- The walk of a view (120), through (83, 119), All (28), Below (70), Sort (35) at a view of whatever kind. -/
import Derived.Test.YtinkjhkbaadbpaaV3
import Derived.Maps.OwnIn
namespace Go.Proofs.Ytinkjhkbaadbpaa
open Go.RowKit Go.Shelf
open Go.ChangeMaps (setBlock)
set_option linter.unusedVariables false
set_option linter.unusedSimpArgs false
section
attribute [local go_sem] Oper.semAt_some

/-- Get answers what g says as long as the blocks of Rb stand; the lists are new -/
def ReadsKP (Rb : Nat → Prop) (w : World) (v : Option Addr) (g : Int → Option Rec) : Prop :=
  ∀ W, Keeps Rb w W → (∀ k, Rb k → k < W.heap.size) → ∀ id, Calls Try.prog 29 #[Value.pointer v, iv id] W fun e w' => RecIn (fun k => W.heap.size ≤ k ∧ k < w'.heap.size) w' (g id) e ∧ Below W.heap.size W w'
/-- what holds between two rounds -/
structure WStP (J : Acc → (Nat → Prop) → World → Prop) (Rb : Nat → Prop) (w0 : World) (B ms : Nat) (acc : Acc) (M : Nat → Prop) (W : World) : Prop where
  j : J acc M W
  set : SetIs W ms (fun x => x ∈ acc.map (·.1))
  mm : ¬ M ms
  mb : ∀ k, M k → k < W.heap.size
  rb : ∀ k, Rb k → ¬ M k ∧ k < w0.heap.size
  keep : Keeps Rb w0 W
  sz : w0.heap.size ≤ W.heap.size
  bz : B ≤ W.heap.size
def WPostP (J Jx : Acc → (Nat → Prop) → World → Prop) (Rb : Nat → Prop) (w0 : World) (B ms : Nat) (total acc : Acc) (M : Nat → Prop) (W : World) (e : Ending) (W' : World) : Prop :=
  ((e = .returned (.bool true) ∧ ∃ M', WStP J Rb w0 B ms acc M' W' ∧ ∀ k, M' k → M k ∨ W.heap.size ≤ k) ∨ (e = .returned (.bool false) ∧ ∃ M' pre, pre <+: total ∧ Jx pre M' W')) ∧ Chg (fun k => M k ∨ k = ms) W W'
def YieldsAllP (J Jx : Acc → (Nat → Prop) → World → Prop) (B l : Nat) (total : Acc) : Prop :=
  ∀ pre x M W1, pre ++ [x] <+: total → B ≤ W1.heap.size → J pre M W1 → ∀ m, YieldAt Fence.wide m Try.prog l #[iv x.1, .bool x.2] W1 fun e W' => ∃ M', Chg M W1 W' ∧ (∀ k, M' k → M k ∨ W1.heap.size ≤ k) ∧
    ((e = .returned (.bool true) ∧ J (pre ++ [x]) M' W') ∨ (e = .returned (.bool false) ∧ Jx (pre ++ [x]) M' W'))
def WalkUptoP (J Jx : Acc → (Nat → Prop) → World → Prop) (Rb : Nat → Prop) (w0 : World) (B ms l : Nat) (v : Option Addr) (g : Int → Option Rec) (keys : List Int) (total : Acc) (n : Nat) : Prop :=
  ∀ (id : Int) (attr : Bool) (acc : Acc) (M : Nat → Prop) (W : World), WStP J Rb w0 B ms acc M W → GoInv keys acc → keys.length + 1 ≤ n + acc.length → goS g n id attr acc <+: total →
    Calls Try.prog 120 #[Value.pointer v, iv id, .bool attr, .map (some ms), .func (.yield l) #[] #[]] W (WPostP J Jx Rb w0 B ms total (goS g n id attr acc) M W)

set_option maxRecDepth 100000 in
set_option maxHeartbeats 4000000 in
theorem walk_stepP {J Jx : Acc → (Nat → Prop) → World → Prop} {Rb : Nat → Prop} {w0 : World} {B ms l : Nat} {v : Option Addr} {g : Int → Option Rec} {keys : List Int} {total : Acc} (hR : ReadsKP Rb w0 v g) (hk : KeysOf g keys) (hkl : keys.length ≤ 1000000000)
    (hJ : Bears B J) (hL : Loc J) (hY : YieldsAllP J Jx B l total) (hBms : B ≤ ms) (hRms : ¬ Rb ms) (n : Nat) (ih : WalkUptoP J Jx Rb w0 B ms l v g keys total n) : WalkUptoP J Jx Rb w0 B ms l v g keys total (n + 1) := by
  intro id attr acc M W hst hinv hfu hpre
  obtain ⟨o, ho⟩ : ∃ o, g id = o := ⟨_, rfl⟩
  have hc := hR W hst.keep (fun k hk => Nat.lt_of_lt_of_le (hst.rb k hk).2 hst.sz) id
  rw [ho] at hc
  obtain ⟨fin, hfin⟩ : ∃ fin, goS g (n + 1) id attr acc = fin := ⟨_, rfl⟩
  have hstep : fin = goN g n id attr acc o := by rw [← hfin, goS_succ, ho]
  rw [hfin] at hpre ⊢
  have hokey : o ≠ none → id ∈ keys := fun h => hk id (by rw [ho]; exact h)
  have hmsl := hst.set.lt
  have HC := Lib.hid hc
  have HSTEP := Lib.hid hstep
  have HOK := Lib.hid hokey
  have HIH := Lib.hid ih
  have HK := Lib.hid hk
  have HST := Lib.hid hst
  have HINV := Lib.hid hinv
  have HPRE := Lib.hid hpre
  have HJ := Lib.hid hJ
  have HL := Lib.hid hL
  have HY := Lib.hid hY
  have HRMS := Lib.hid hRms
  clear hc hstep hokey ih hst hinv hfin ho hR hk hpre hJ hL hY hRms
  refine (callsIn_wide (n := 1)).1 ?_
  refine callsIn_of_wp Try.func120 rfl trivial ?_ rfl
  simp only [Try.ntmps120, List.size_toArray, List.length_cons, List.length_nil, Nat.reduceAdd, Nat.reduceSub, Array.replicate_succ, Array.replicate_zero, List.push_toArray, List.append_toArray, List.nil_append, List.cons_append]
  gi_upto_region 2 with (refine ⟨trivial, ?_⟩; gi_at_call 29; refine (callsIn_wide.2 HC.out).mono ?_; rintro e w1 ⟨⟨kv1, av1, rfl, hk1, ha1⟩, hb1⟩; have HK1 := Lib.hid hk1; have HA1 := Lib.hid ha1; obtain ⟨ka, kc, rfl, -, -, -⟩ := hk1; obtain ⟨aa, ac, rfl, -, -, -⟩ := ha1; have hs1 := hb1.size; have HB1 := Lib.hid hb1; clear hb1)
  obtain ⟨W2, hW2⟩ : ∃ W2, w1.alloc (.cells #[.int .i64 (o.getD Rec.zero).kind, .string (o.getD Rec.zero).name, .string (o.getD Rec.zero).text, .int .i64 (o.getD Rec.zero).parent, .slice ka (o.getD Rec.zero).kids.length kc, .slice aa (o.getD Rec.zero).attrs.length ac, .bool (o.getD Rec.zero).gone] 52) = W2 := ⟨_, rfl⟩
  have hs2 : W2.heap.size = w1.heap.size + 1 := by rw [← hW2]; simp
  have hb2 : Below w1.heap.size w1 W2 := by rw [← hW2]; exact (Below.refl _ _).alloc (Nat.le_refl _) _
  have hr2 : W2.heap[w1.heap.size]? = some (.cells #[.int .i64 (o.getD Rec.zero).kind, .string (o.getD Rec.zero).name, .string (o.getD Rec.zero).text, .int .i64 (o.getD Rec.zero).parent, .slice ka (o.getD Rec.zero).kids.length kc, .slice aa (o.getD Rec.zero).attrs.length ac, .bool (o.getD Rec.zero).gone] 52 (0, 0)) := by rw [← hW2]; exact Go.heap_alloc_new _ _
  rw [hW2]
  have hbW2 : Below W.heap.size W W2 := HB1.out.trans (hb2.mono hs1)
  have hset2 := HST.out.set.keep (hbW2.block ms hmsl)
  have hlk := fun b hb => hset2.look id b hb
  obtain ⟨es, ck, hmu, hset3⟩ := hset2.store id
  obtain ⟨W3, hW3⟩ : ∃ W3, setBlock W2 ms (.map es ck) = W3 := ⟨_, rfl⟩
  rw [hW3] at hset3
  have hs3 : W3.heap.size = W2.heap.size := by
    rw [← hW3]
    have h9 := (show (setBlock W2 ms (.map es ck)).heap.size = W2.heap.size by simp [setBlock])
    exact h9
  have hk3 : ∀ j, j ≠ ms → W3.heap[j]? = W2.heap[j]? := fun j hj => by rw [← hW3]; exact heap_setBlock_other _ hj
  have hch3 : Chg (fun k => k = ms) W W3 := by
    rw [← hW3]
    exact (chg_new hbW2).trans (chg_setBlock (M := fun k => k = ms) rfl _)
  have hr3 := (hk3 w1.heap.size (by omega)).trans hr2
  have HK2 := Lib.hid (HK1.out.keep (keeps_below hb2 |>.mono (fun k hk => hk.2)))
  have HA2 := Lib.hid (HA1.out.keep (keeps_below hb2 |>.mono (fun k hk => hk.2)))
  have HK3 := Lib.hid (HK2.out.keep (fun k hk => hk3 k (by have := hk.1; omega)))
  have HA3 := Lib.hid (HA2.out.keep (fun k hk => hk3 k (by have := hk.1; omega)))
  have hj3 : J acc M W3 := HJ.out _ _ _ _ HST.out.j (hch3.mono (fun k hk => by rw [hk]; exact ⟨hBms, HST.out.mm⟩))
  have hkeep3 : Keeps Rb w0 W3 := fun k hk => (hch3.block k (Nat.lt_of_lt_of_le (HST.out.rb k hk).2 HST.out.sz) (fun e => HRMS.out (by rw [← e]; exact hk))).trans (HST.out.keep k hk)
  have hlenA := HINV.out.len
  have hsz0 := HST.out.sz
  have hbz0 := HST.out.bz
  have HB2 := Lib.hid hbW2
  have HS2 := Lib.hid hs2
  have HS3 := Lib.hid hs3
  have HW3 := Lib.hid hW3
  have HR3 := Lib.hid hr3
  have HSET3 := Lib.hid hset3
  have HCH3 := Lib.hid hch3
  have HJ3 := Lib.hid hj3
  have HKEEP3 := Lib.hid hkeep3
  have HLK := Lib.hid hlk
  have hs13 : w1.heap.size < W3.heap.size := by omega
  clear hW2 hs2 hb2 hr2 hbW2 hset2 hlk hset3 hW3 hs3 hk3 hch3 hr3 hj3 hkeep3
  -- nothing is done
  have same : ∀ W', Chg (fun _ => False) W W' → fin = acc → WPostP J Jx Rb w0 B ms total fin M W (.returned (.bool true)) W' := fun W' hc he => by
    rw [he]
    have hs := hc.size
    refine ⟨.inl ⟨rfl, M, ⟨HJ.out _ _ _ _ HST.out.j (hc.mono (fun k h => h.elim)), HST.out.set.keep (hc.block ms hmsl (fun h => h)), HST.out.mm, fun k hk => Nat.lt_of_lt_of_le (HST.out.mb k hk) hs, HST.out.rb, fun k hk => (hc.block k (Nat.lt_of_lt_of_le (HST.out.rb k hk).2 hsz0) (fun h => h)).trans (HST.out.keep k hk), Nat.le_trans hsz0 hs, Nat.le_trans hbz0 hs⟩, fun k hk => .inl hk⟩, hc.mono (fun k h => h.elim)⟩
  have SAME := Lib.hid same
  clear same
  cases o with
  | none =>
    have he : fin = acc := HSTEP.out
    simp only [Option.isSome_none]
    have HE := Lib.hid he
    clear he hmu
    gi_wp2
    go_ret
    exact SAME.out _ (chg_new HB2.out) HE.out
  | some r =>
    simp only [Option.isSome_some, Option.getD_some] at *
    by_cases hin : id ∈ acc.map (·.1)
    · have hl1 := HLK.out true (by simpa using hin)
      have he : fin = acc := by have := HSTEP.out; simp only [goN] at this; rw [if_pos hin] at this; exact this
      have HE := Lib.hid he
      clear he hin hmu
      gi_wp2
      go_ret
      exact SAME.out _ (chg_new HB2.out) HE.out
    · have hl1 := HLK.out false (by simpa using hin)
      have he : fin = r.kids.foldl (fun a x => goS g n x attr a) (r.attrs.foldl (fun a x => goS g n x true a) (acc ++ [(id, attr)])) := by have := HSTEP.out; simp only [goN] at this; rw [if_neg hin] at this; exact this
      have hinv1 := HINV.out.snoc attr hin (HOK.out (by simp))
      have hlen1 := hinv1.len
      simp only [List.length_append, List.length_singleton] at hlen1
      have hpa : r.attrs.foldl (fun a x => goS g n x true a) (acc ++ [(id, attr)]) <+: total := (by rw [he] at HPRE; exact (prefix_fold _ (fun a x => goS_prefix g n x attr a) r.kids _).trans HPRE.out)
      have hp1 : acc ++ [(id, attr)] <+: total := (prefix_fold _ (fun a x => goS_prefix g n x true a) r.attrs _).trans hpa
      have HE := Lib.hid he
      have HINV1 := Lib.hid hinv1
      have HPA := Lib.hid hpa
      have HP1 := Lib.hid hp1
      clear he hin hinv1 hpa hp1
      gi_upto_region 5 with fail
      rw [HW3.out]
      obtain ⟨fn, tmps, assign, body, hy, hRR⟩ := HY.out acc (id, attr) M W3 HP1.out (by have := HCH3.out.size; omega) HJ3.out 0
      gi_wp2_with (refine hRR.mono ?_; rintro e w4 ⟨M4, hc4, hM4, hor⟩; have hr4 := (hc4.block w1.heap.size hs13 (fun h => by have := HST.out.mb _ h; omega)).trans HR3.out; obtain ⟨z0, z1, z2, z3, z4, z5, z6⟩ := cells7 hr4; have HR4 := Lib.hid hr4; have HC4 := Lib.hid hc4; have HM4 := Lib.hid hM4; have hs4 := hc4.size; clear hc4 hM4 hr4; rcases hor with ⟨rfl, hJ4⟩ | ⟨rfl, hJ4⟩)
      · have HJ4 := Lib.hid hJ4
        clear hJ4 hRR hy
        have hla := HA3.out.len
        have hlk := HK3.out.len
        -- the state behind the round
        have hst4 : WStP J Rb w0 B ms (acc ++ [(id, attr)]) (fun k => M4 k ∧ k < w4.heap.size) w4 := by
          have hms3 : ms < W3.heap.size := HSET3.out.lt
          refine ⟨HL.out _ _ _ HJ4.out, (HSET3.out.keep (HC4.out.block ms hms3 HST.out.mm)).congr (fun x => by simp), fun h => ?_, fun k h => h.2, fun k hk => ⟨fun h => ?_, (HST.out.rb k hk).2⟩, fun k hk => ?_, by have := HCH3.out.size; omega, by have := HCH3.out.size; omega⟩
          · rcases HM4.out ms h.1 with h | h
            · exact HST.out.mm h
            · omega
          · rcases HM4.out k h.1 with h | h
            · exact (HST.out.rb k hk).1 h
            · have := (HST.out.rb k hk).2; have := HCH3.out.size; omega
          · exact (HC4.out.block k (by have := (HST.out.rb k hk).2; have := HCH3.out.size; omega) (HST.out.rb k hk).1).trans (HKEEP3.out k hk)
        have HST4 := Lib.hid hst4
        have hM5 : ∀ k, (M4 k ∧ k < w4.heap.size) → M k ∨ W3.heap.size ≤ k := fun k h => HM4.out k h.1
        have HM5 := Lib.hid hM5
        obtain ⟨M5, hM5e⟩ : ∃ M5, (fun k => M4 k ∧ k < w4.heap.size) = M5 := ⟨_, rfl⟩
        rw [hM5e] at HST4
        have hM5' : ∀ k, M5 k → M k ∨ W3.heap.size ≤ k := fun k h => by rw [← hM5e] at h; exact HM5.out k h
        have HM6 := Lib.hid hM5'
        clear hst4 hM5 HM5 hM5e hM5'
        gi_loopw [40] (fun i wr => ∃ k : Nat, k ≤ r.attrs.length ∧ i = .int .i64 k ∧ ∃ Mk, WStP J Rb w0 B ms ((r.attrs.take k).foldl (fun a x => goS g n x true a) (acc ++ [(id, attr)])) Mk wr ∧ (∀ j, Mk j → M j ∨ W3.heap.size ≤ j) ∧ Chg (fun j => M j ∨ j = ms) W3 wr) (fun i _ => r.attrs.length - (intOf i).toNat)
        case atStart => exact ⟨0, Nat.zero_le _, rfl, M5, HST4.out, HM6.out, HC4.out.mono (fun k h => .inl h)⟩
        case round =>
          obtain ⟨k, hk, rfl, Mk, hstk, hMk, hcr⟩ := hrel
          have hsr := hcr.size
          have hrr := (hcr.block w1.heap.size hs13 (fun h => h.elim (fun h => by have := HST.out.mb _ h; omega) (fun h => by omega))).trans HR3.out
          obtain ⟨z0, z1, z2, z3, z4, z5, z6⟩ := cells7 hrr
          have hkr : Keeps (fun k => W.heap.size ≤ k ∧ k < w1.heap.size) W3 wr := fun j hj => hcr.block j (by omega) (fun h => h.elim (fun h => by have := HST.out.mb _ h; omega) (fun h => by omega))
          have HSTK := Lib.hid hstk
          have HMK := Lib.hid hMk
          have HCR := Lib.hid hcr
          by_cases hlt : k < r.attrs.length
          · obtain ⟨x, hxk⟩ : ∃ x, r.attrs[k]? = some x := ⟨_, List.getElem?_eq_getElem hlt⟩
            obtain ⟨a0, cp0, e0, -, -, hx0⟩ := HA3.out.keep hkr
            cases e0
            obtain ⟨ga, offa, rfl, -, hca⟩ : ∃ g off, aa = some ⟨g, off, none⟩ ∧ (W.heap.size ≤ g ∧ g < w1.heap.size) ∧ ∀ j x, r.attrs[j]? = some x → wr.cell? ⟨g, off + j, none⟩ = some (.int .i64 x) := by
              rcases hx0 with h | h
              · rw [h] at hlt; simp at hlt
              · exact h
            have u0 := hca k x hxk
            have hk0 : (0 : Int) ≤ k := by omega
            have hkl2 : (k : Int) < r.attrs.length := by omega
            obtain ⟨hi1, hi2⟩ := inv_take HK.out n true (r.attrs.take k) (acc ++ [(id, attr)]) HINV1.out
            simp only [List.length_append, List.length_singleton] at hi2
            have hnx := fold_succ (fun a x => goS g n x true a) hxk (acc ++ [(id, attr)])
            have hpx := (fold_take_prefix (fun a x => goS g n x true a) (fun a x => goS_prefix g n x true a) r.attrs (k + 1) (acc ++ [(id, attr)])).trans HPA.out
            rw [hnx] at hpx
            obtain ⟨cur, hcur⟩ : ∃ cur, (r.attrs.take k).foldl (fun a x => goS g n x true a) (acc ++ [(id, attr)]) = cur := ⟨_, rfl⟩
            rw [hcur] at hi1 hi2 hnx hpx hstk
            have HNX := Lib.hid hnx
            have HIK := Lib.hid (HIH.out x true cur Mk wr hstk hi1 (by omega) hpx)
            clear hstk hMk hcr hrr hkr hca hx0 hxk hi1 hnx hpx hcur
            gi_wp2_with (refine ⟨trivial, ?_⟩; gi_at_call 120; refine (callsIn_wide.2 HIK.out).mono ?_; rintro e w5 ⟨hor, hc5⟩; have HC5 := Lib.hid hc5; have hs5 := hc5.size; clear hc5 z0 z1 z2 z3 z4 z5 z6 u0; rcases hor with ⟨rfl, M7, hst7, hM7⟩ | ⟨rfl, M7, pre7, hpre7, hJx7⟩)
            · go_roundw
              case rel =>
                refine ⟨k + 1, by omega, by go_num, M7, by rw [HNX.out]; exact hst7, fun j hj => ?_, HCR.out.andThen HC5.out (fun j hj h => h.elim (fun h => (HMK.out j h).elim .inl (fun h => by omega)) .inr)⟩
                rcases hM7 j hj with h | h
                · exact HMK.out j h
                · exact .inr (by omega)
              case measure => simp [intOf]; omega
            · go_ret
              exact ⟨.inr ⟨rfl, M7, pre7, hpre7, hJx7⟩, ((HCH3.out.mono (fun k h => .inr h)).trans HCR.out).andThen HC5.out (fun j hj h => h.elim (fun h => (HMK.out j h).elim .inl (fun h => by have := HCH3.out.size; omega)) .inr)⟩
          · obtain rfl : k = r.attrs.length := by omega
            rw [List.take_length] at HSTK
            obtain ⟨mid, hmid⟩ : ∃ mid, r.attrs.foldl (fun a x => goS g n x true a) (acc ++ [(id, attr)]) = mid := ⟨_, rfl⟩
            have hinvm := inv_take HK.out n true r.attrs (acc ++ [(id, attr)]) HINV1.out
            have hlm := hinvm.2
            simp only [List.length_append, List.length_singleton] at hlm
            rw [hmid] at HSTK HE hinvm hlm
            have HINVM := Lib.hid hinvm.1
            have hpfull : r.kids.foldl (fun a x => goS g n x attr a) mid <+: total := by rw [← HE.out]; exact HPRE.out
            have HPF := Lib.hid hpfull
            clear hstk hMk hcr hrr hkr hmid hinvm hpfull
            gi_wp2_with fail
            obtain ⟨wa, rfl⟩ : ∃ wa, wa = wr := ⟨_, rfl⟩
            gi_loopw [54] (fun i wr => ∃ k : Nat, k ≤ r.kids.length ∧ i = .int .i64 k ∧ ∃ Mk, WStP J Rb w0 B ms ((r.kids.take k).foldl (fun a x => goS g n x attr a) mid) Mk wr ∧ (∀ j, Mk j → M j ∨ W3.heap.size ≤ j) ∧ Chg (fun j => M j ∨ j = ms) W3 wr) (fun i _ => r.kids.length - (intOf i).toNat)
            case atStart => exact ⟨0, Nat.zero_le _, rfl, Mk, HSTK.out, HMK.out, HCR.out⟩
            case round =>
              obtain ⟨k, hk, rfl, Mn, hstk, hMk, hcr⟩ := hrel
              have hsr := hcr.size
              have hrr := (hcr.block w1.heap.size hs13 (fun h => h.elim (fun h => by have := HST.out.mb _ h; omega) (fun h => by omega))).trans HR3.out
              obtain ⟨z0, z1, z2, z3, z4, z5, z6⟩ := cells7 hrr
              have hkr : Keeps (fun k => W.heap.size ≤ k ∧ k < w1.heap.size) W3 wr := fun j hj => hcr.block j (by omega) (fun h => h.elim (fun h => by have := HST.out.mb _ h; omega) (fun h => by omega))
              have HSTN := Lib.hid hstk
              have HMN := Lib.hid hMk
              have HCN := Lib.hid hcr
              by_cases hlt : k < r.kids.length
              · obtain ⟨x, hxk⟩ : ∃ x, r.kids[k]? = some x := ⟨_, List.getElem?_eq_getElem hlt⟩
                obtain ⟨a0, cp0, e0, -, -, hx0⟩ := HK3.out.keep hkr
                cases e0
                obtain ⟨ga, offa, rfl, -, hca⟩ : ∃ g off, ka = some ⟨g, off, none⟩ ∧ (W.heap.size ≤ g ∧ g < w1.heap.size) ∧ ∀ j x, r.kids[j]? = some x → wr.cell? ⟨g, off + j, none⟩ = some (.int .i64 x) := by
                  rcases hx0 with h | h
                  · rw [h] at hlt; simp at hlt
                  · exact h
                have u0 := hca k x hxk
                have hk0 : (0 : Int) ≤ k := by omega
                have hkl2 : (k : Int) < r.kids.length := by omega
                obtain ⟨hi1, hi2⟩ := inv_take HK.out n attr (r.kids.take k) mid HINVM.out
                have hnx := fold_succ (fun a x => goS g n x attr a) hxk mid
                have hpx := (fold_take_prefix (fun a x => goS g n x attr a) (fun a x => goS_prefix g n x attr a) r.kids (k + 1) mid).trans HPF.out
                rw [hnx] at hpx
                obtain ⟨cur, hcur⟩ : ∃ cur, (r.kids.take k).foldl (fun a x => goS g n x attr a) mid = cur := ⟨_, rfl⟩
                rw [hcur] at hi1 hi2 hnx hpx hstk
                have HNX := Lib.hid hnx
                have HIK := Lib.hid (HIH.out x attr cur Mn wr hstk hi1 (by omega) hpx)
                clear hstk hMk hcr hrr hkr hca hx0 hxk hi1 hnx hpx hcur
                gi_wp2_with (refine ⟨trivial, ?_⟩; gi_at_call 120; refine (callsIn_wide.2 HIK.out).mono ?_; rintro e w5 ⟨hor, hc5⟩; have HC5 := Lib.hid hc5; have hs5 := hc5.size; clear hc5 z0 z1 z2 z3 z4 z5 z6 u0; rcases hor with ⟨rfl, M7, hst7, hM7⟩ | ⟨rfl, M7, pre7, hpre7, hJx7⟩)
                · go_roundw
                  case rel =>
                    refine ⟨k + 1, by omega, by go_num, M7, by rw [HNX.out]; exact hst7, fun j hj => ?_, HCN.out.andThen HC5.out (fun j hj h => h.elim (fun h => (HMN.out j h).elim .inl (fun h => by omega)) .inr)⟩
                    rcases hM7 j hj with h | h
                    · exact HMN.out j h
                    · exact .inr (by omega)
                  case measure => simp [intOf]; omega
                · go_ret
                  exact ⟨.inr ⟨rfl, M7, pre7, hpre7, hJx7⟩, ((HCH3.out.mono (fun k h => .inr h)).trans HCN.out).andThen HC5.out (fun j hj h => h.elim (fun h => (HMN.out j h).elim .inl (fun h => by have := HCH3.out.size; omega)) .inr)⟩
              · obtain rfl : k = r.kids.length := by omega
                rw [List.take_length] at HSTN
                clear hstk hMk hcr hrr hkr
                have hsw := HCH3.out.size
                gi_wp2
                go_ret
                rw [HE.out]
                exact ⟨.inl ⟨rfl, Mn, HSTN.out, fun j hj => (HMN.out j hj).elim .inl (fun h => .inr (by omega))⟩, (HCH3.out.mono (fun k h => .inr h)).trans HCN.out⟩
      · clear hRR hy
        go_ret
        exact ⟨.inr ⟨rfl, M4, acc ++ [(id, attr)], HP1.out, hJ4⟩, (HCH3.out.mono (fun k h => .inr h)).trans (HC4.out.mono (fun k h => .inl h))⟩
theorem walk_uptoP {J Jx : Acc → (Nat → Prop) → World → Prop} {Rb : Nat → Prop} {w0 : World} {B ms l : Nat} {v : Option Addr} {g : Int → Option Rec} {keys : List Int} {total : Acc} (hR : ReadsKP Rb w0 v g) (hk : KeysOf g keys) (hkl : keys.length ≤ 1000000000)
    (hJ : Bears B J) (hL : Loc J) (hY : YieldsAllP J Jx B l total) (hBms : B ≤ ms) (hRms : ¬ Rb ms) : ∀ n, WalkUptoP J Jx Rb w0 B ms l v g keys total n
  | 0 => fun id attr acc M W _ hinv hfu _ => by have := hinv.len; omega
  | n + 1 => walk_stepP hR hk hkl hJ hL hY hBms hRms n (walk_uptoP hR hk hkl hJ hL hY hBms hRms n)

theorem ReadsKP.later {Rb : Nat → Prop} {w w' : World} {v : Option Addr} {g : Int → Option Rec} (h : ReadsKP Rb w v g) (hk : Keeps Rb w w') : ReadsKP Rb w' v g := fun W hW hl id => h W (hk.trans hW) hl id
theorem through_anyP (v : Option Addr) (id : Int) (w : World) : Calls Try.prog 83 #[Value.pointer v, iv id] w fun e w' => e = .returned (.func (.func 119) #[] #[ptr w.heap.size, ptr (w.heap.size + 1)]) ∧ ((w.alloc (.cells #[Value.pointer v] 35)).alloc (.cells #[iv id] 3)) = w' := by
  have hmf : ∀ (fn : Fn) (first cap : Array Value) (w : World), (Instr.makeFunc fn first cap).run Try.prog w = .ok (.func fn first cap) w := fun _ _ _ _ => rfl
  go_enter Try.func83, Try.ntmps83
  go_wp2
  go_ret
  exact ⟨rfl, rfl⟩
set_option maxRecDepth 100000 in
set_option maxHeartbeats 2000000 in
theorem through_givesP (n : Nat) (hn : 1 ≤ n) {Rb : Nat → Prop} {w : World} {v : Option Addr} {b1 b2 : Nat} {g : Int → Option Rec} {keys : List Int} {id : Int} (hR : ReadsKP Rb w v g) (hk : KeysOf g keys) (hkl : keys.length ≤ 1000000000)
    (c1 : w.cell? ⟨b1, 0, none⟩ = some (Value.pointer v)) (c2 : w.cell? ⟨b2, 0, none⟩ = some (iv id)) :
    Gives2 Fence.wide n Try.prog 119 #[ptr b1, ptr b2] (fun x : Int × Bool => #[iv x.1, .bool x.2]) (goF g (keys.length + 1) id) (fun k => k = b1 ∨ k = b2 ∨ Rb k) w := by
  intro l J Jx M0 W hW hRl hJ hJx hLJ hLJx hM hY h0
  have d1 : W.cell? ⟨b1, 0, none⟩ = some (Value.pointer v) := (hW.cell (p := ⟨b1, 0, none⟩) (.inl rfl)).trans c1
  have d2 : W.cell? ⟨b2, 0, none⟩ = some (iv id) := (hW.cell (p := ⟨b2, 0, none⟩) (.inr (.inl rfl))).trans c2
  have hR2 : ReadsKP Rb W v g := hR.later (fun k hk => hW k (.inr (.inr hk)))
  obtain ⟨W2, hW2⟩ : ∃ W2, W.alloc (.map #[] 0) = W2 := ⟨_, rfl⟩
  have hb2 : Below W.heap.size W W2 := by rw [← hW2]; exact (Below.refl _ _).alloc (Nat.le_refl _) _
  have hs2 : W2.heap.size = W.heap.size + 1 := by rw [← hW2]; simp
  have hset : SetIs W2 W.heap.size (fun x => x ∈ ([] : Acc).map (·.1)) := by rw [← hW2]; exact (setIs_new W).congr (fun x => by simp)
  have hst : WStP J Rb W W.heap.size W.heap.size [] M0 W2 := ⟨hJ _ _ _ _ h0 (chg_new hb2), hset, fun h => by have := (hM _ h).1; omega, fun k h => by have := (hM k h).1; omega, fun k h => ⟨fun hm => (hM k hm).2 (.inr (.inr h)), hRl k (.inr (.inr h))⟩, fun k h => hb2.block k (hRl k (.inr (.inr h))), by omega, by omega⟩
  have hw := walk_uptoP (J := J) (Jx := Jx) (B := W.heap.size) (ms := W.heap.size) (l := l) (total := goF g (keys.length + 1) id) hR2 hk hkl hJ hLJ (fun pre x M W1 h1 h2 h3 m => yieldAt_wide (hY pre x M W1 h1 h2 h3)) (Nat.le_refl _) (fun h => by have := hRl _ (.inr (.inr h)); omega) (keys.length + 1) id false [] M0 W2 hst (GoInv.nil _) (by simp) (List.prefix_refl _)
  have HW := Lib.hid hw
  have HW2 := Lib.hid hW2
  have hmm := @run_makeMap Try.prog
  clear hw hst hset hb2 hs2 hR2 hY h0 hM hRl hW hW2 hJ hJx hLJ hLJx hR hk c1 c2
  refine callsIn_of_wp Try.func119 rfl trivial ?_ rfl
  simp only [Try.ntmps119, List.size_toArray, List.length_cons, List.length_nil, Nat.reduceAdd, Nat.reduceSub, Array.replicate_succ, Array.replicate_zero, List.push_toArray, List.append_toArray, List.nil_append, List.cons_append]
  gi_wp2_with fail
  rw [HW2.out]
  refine ⟨trivial, ?_⟩
  refine (callsIn_wide.2 HW.out).mono ?_
  rintro e w5 ⟨(⟨rfl, M', hst', -⟩ | ⟨rfl, M', pre, hpre, hjx⟩), -⟩
  · gi_wp2
    go_end0
    exact ⟨⟨_, rfl⟩, M', .inl hst'.j⟩
  · gi_wp2
    go_end0
    exact ⟨⟨_, rfl⟩, M', .inr ⟨pre, hpre, hjx⟩⟩

set_option maxRecDepth 100000 in
set_option maxHeartbeats 4000000 in
theorem all_anyP {Rb : Nat → Prop} {w : World} {v : Option Addr} {g : Int → Option Rec} {keys : List Int} (hR : ReadsKP Rb w v g) (hRl : ∀ k, Rb k → k < w.heap.size) (hk : KeysOf g keys) (hkl : keys.length ≤ 1000000000) :
    Calls Try.prog 28 #[Value.pointer v] w (AxPost w (allF g (keys.length + 1))) := by
  obtain ⟨i0, hi, hz0, hz1, hz2⟩ := info_parts Try.info3
  obtain ⟨W1, hW1⟩ : ∃ W1, w.alloc (.cells #[.slice none 0 0] 33) = W1 := ⟨_, rfl⟩
  have hs1 : W1.heap.size = w.heap.size + 1 := by rw [← hW1]; simp
  have hb1 : Below w.heap.size w W1 := by rw [← hW1]; exact (Below.refl _ w).alloc (Nat.le_refl _) _
  have hL1 : W1.heap[w.heap.size]? = some (.cells #[.slice none 0 0] 33 (0, 0)) := by rw [← hW1]; exact Go.heap_alloc_new _ _
  obtain ⟨W3, hW3⟩ : ∃ W3, (W1.alloc (.cells #[Value.pointer v] 35)).alloc (.cells #[iv 1] 3) = W3 := ⟨_, rfl⟩
  have hs3 : W3.heap.size = w.heap.size + 3 := by rw [← hW3]; simp [hs1]
  have hb3 : Below W1.heap.size W1 W3 := by rw [← hW3]; exact ((Below.refl _ _).alloc (Nat.le_refl _) _).alloc (by simp) _
  have h2 : W3.heap[w.heap.size + 1]? = some (.cells #[Value.pointer v] 35 (0, 0)) := by
    rw [← hW3]
    refine (Go.heap_alloc_old _ _ (by simp; omega)).trans ?_
    rw [← hs1]; exact Go.heap_alloc_new _ _
  have h3 : W3.heap[w.heap.size + 2]? = some (.cells #[iv 1] 3 (0, 0)) := by
    rw [← hW3]
    have := Go.heap_alloc_new (W1.alloc (.cells #[Value.pointer v] 35)) (.cells #[iv 1] 3)
    rw [World.size_alloc, hs1] at this
    exact this
  have hL3 := (hb3.block w.heap.size (by omega)).trans hL1
  have hbB : Below w.heap.size w W3 := hb1.trans (hb3.mono hb1.size)
  have hgv := through_givesP (id := 1) 9 (by omega) (hR.later (fun k hk => hbB.block k (hRl k hk))) hk hkl (b1 := w.heap.size + 1) (b2 := w.heap.size + 1 + 1) (by simp [World.cell?, h2]) (by simp [World.cell?, h3])
  have hlt := through_anyP v 1 W1
  rw [hs1, hW3] at hlt
  have hinv := goS_inv hk (keys.length + 1) 1 false [] (GoInv.nil keys)
  have hlen : (goF g (keys.length + 1) 1).length ≤ keys.length := hinv.len
  have HT := Lib.hid hlt
  have HW1 := Lib.hid hW1
  clear hW1 hW3 hlt h2 h3 hb1 hb3 hL1 hinv
  refine (callsIn_wide (n := 10)).1 ?_
  refine callsIn_of_wp_marks Try.func28 rfl trivial ?_ rfl
  simp only [Try.ntmps28, List.size_toArray, List.length_cons, List.length_nil, Nat.reduceAdd, Nat.reduceSub, Array.replicate_succ, Array.replicate_zero, List.push_toArray, List.append_toArray, List.nil_append, List.cons_append]
  gi_wp2_with fail
  rw [HW1.out]
  refine ⟨trivial, (callsIn_wide.2 HT.out).mono ?_⟩
  rintro e w9 ⟨rfl, rfl⟩
  gi_wp2
  obtain ⟨acc, hacc⟩ : ∃ acc, goF g (keys.length + 1) 1 = acc := ⟨_, rfl⟩
  have hall : allF g (keys.length + 1) = acc.map (·.1) := by unfold allF; rw [hacc]
  rw [hacc] at hgv hlen
  rw [hall]
  refine wpIn_rangeFunc_gives2 rfl (by omega) (gf := 119) (lb := #[ptr (w.heap.size + 1), ptr (w.heap.size + 1 + 1)]) rfl trivial (enters_of Try.func119 (by kernel_rfl) rfl)
    hgv (Keeps.refl _ _) (fun k hk => by rcases hk with rfl | rfl | h; omega; omega; have := hRl k h; omega) (fun _ => rfl)
    (fun pre M W => ∃ v, Boxed W w.heap.size 33 v ∧ W.ownsRow (w.heap.size + 3) 3 1 v pre.length (pre.map (fun x => iv x.1)) ∧ (∀ k, M k ↔ k = w.heap.size ∨ v.ownBlock = some k) ∧ Below w.heap.size w W)
    (fun _ _ _ _ => False)
    (fun pre M A A' ⟨v, i1, i2, i3, i4⟩ hc => ⟨v, chg_boxed hc (fun h => h.2 ((i3 _).2 (.inl rfl))) i1, ownsRow_keeps i2 (fun g hg => hc.block g (ownsRow_base i2 hg).2 (fun h => h.2 ((i3 _).2 (.inr hg)))), i3, i4.trans ⟨hc.os, hc.tape, hc.output, hc.size, fun k hk => hc.block k (by have := i4.size; omega) (fun h => by have := h.1; omega)⟩⟩)
    (fun _ _ _ _ _ hs _ => hs)
    (fun pre M A ⟨v, i1, i2, i3, i4⟩ => ⟨v, i1, i2, fun k => ⟨fun h => (i3 k).1 h.1, fun h => ⟨(i3 k).2 h, h.elim (fun e => by rw [e]; exact i1.lt) (fun e => (ownsRow_base i2 e).2)⟩⟩, i4⟩)
    (fun _ _ _ _ h => h)
    (fun k => k = w.heap.size) (fun k hk => ⟨by omega, fun h => by rcases h with h | h | h; omega; omega; have := hRl k h; omega⟩)
    ⟨.slice none 0 0, hL3, World.ownsRow_nil _ _ _ _, fun k => by simp [Value.ownBlock], hbB⟩
    (fun x => { tmps := #[Value.pointer v, undef, .slice none 0 0, .pointer (some ⟨w.heap.size, 0, none⟩), iv x.1, Value.pointer v, .func (.func 119) #[] #[ptr (w.heap.size + 1), ptr (w.heap.size + 1 + 1)], iv x.1, .bool x.2, undef, undef, undef, undef, undef], defers := [] }) ?assign ?body ?done ?stop
  case assign =>
    intro l x W K hK
    gi_wp2
    exact hK
  case body =>
    rintro l pre x M W hpre hsz ⟨u, i1, i2, i3, i4⟩
    obtain ⟨x1, x2⟩ := x
    have d0 := i1.cell
    have d1 := i1.frozen
    have hpl : pre.length + 1 ≤ acc.length := by have := hpre.length_le; simpa using this
    have hlt := i1.lt
    have I1 := Lib.hid i1
    have I2 := Lib.hid i2
    have I3 := Lib.hid i3
    have I4 := Lib.hid i4
    clear i1 i2 i3 i4 hgv
    have hmx : Try.prog.follows .mixedOrders = true := by kernel_rfl
    gi_wp2_with ((gi_at_builtin; refine wpListIn_append_own_at _ rfl _ _ 33 rfl (w.heap.size + 3) 3 i0 (.int .i64 0) 1 8 Try.underlying33 hi hz0 hz1 hz2 rfl (by decide) _ _ _ rfl (ownsRow_alloc I2.out _) ⟨W.heap.size, 0, none⟩ 1 1 [iv x1] rfl rfl (cell_one_new _ _ _) (by simp [Value.oneCell']) (by unfold maxLen; omega) (by omega) (by simp; omega) ?_; intro v' w2 hown2 hgrow hnil hloc; obtain ⟨a2, n2, cp2, rfl⟩ := slice_form2 hown2; have hkb := (hgrow.block w.heap.size (by simp; omega) (fun e => by have := (ownsRow_base I2.out e.symm).1; omega)).trans (Go.heap_alloc_old W _ hlt); have q0 := (World.cell?_of_block (a := ⟨w.heap.size, 0, none⟩) hkb).trans d0; have q1 : w2.frozen? ⟨w.heap.size, 0, none⟩ = false := free_block (hkb.trans I1.out) 0))
    have hch : Chg M W w2 := (chg_alloc W _).trans (chg_grown hgrow (fun k e => (I3.out k).2 (.inr e)))
    have hbox : M w.heap.size := (I3.out _).2 (.inl rfl)
    generalize hv' : Value.slice a2 n2 cp2 = v' at *
    refine ⟨fun k => k = w.heap.size ∨ v'.ownBlock = some k, hch.trans (chg_set hbox 0 _), ?_, v', ?_, ?_, fun _ => Iff.rfl, ?_⟩
    · rintro k (h | h)
      · exact .inl ((I3.out k).2 (.inl h))
      · rcases hloc with e | e
        · exact .inl ((I3.out k).2 (.inr (e.symm.trans h)))
        · rw [e] at h; cases h; exact .inr (by simp)
    · have := heap_setCell_same w2 w.heap.size 0 _ _ v' (hkb.trans I1.out)
      unfold Boxed
      simpa using this
    · rw [List.length_append, List.map_append]
      exact ownsRow_keeps hown2 (fun g hg => heap_setCell_other _ _ _ _ (by have := (ownsRow_base hown2 hg).1; simp; omega))
    · refine I4.out.trans ?_
      have hc2 := hch.trans (chg_set (w := w2) hbox 0 v')
      exact ⟨hc2.os, hc2.tape, hc2.output, hc2.size, fun k hk => hc2.block k (by omega) (fun h => by
        rcases (I3.out k).1 h with h | h
        · omega
        · have := (ownsRow_base I2.out h).1; omega)⟩
  case done =>
    rintro Dd M W hD2 hMD ⟨u, i1, i2, i3, i4⟩ hK
    have d0 := i1.cell
    have hfinal : ∀ o, IntsIn (Old (W.putObj Dd o).heap.size) (W.putObj Dd o) u (acc.map (·.1)) := fun o => by
      have h8 : W.ownsRow (w.heap.size + 3) 3 1 u (acc.map (·.1)).length ((acc.map (·.1)).map iv) := by rw [List.map_map, List.length_map]; exact i2
      have hDv : u.ownBlock ≠ some Dd := fun e => hMD ((i3 _).2 (.inr e))
      have h9 : (W.putObj Dd o).ownsRow (w.heap.size + 3) 3 1 u (acc.map (·.1)).length ((acc.map (·.1)).map iv) := ownsRow_keeps h8 (fun q hq => World.putObj_heap_other (by rintro rfl; exact hDv hq))
      exact (intsIn_row h9).old
    gi_wp2
    refine ⟨by simp, .inl ⟨_, _, rfl, run_takeDeferred hK, ?_⟩⟩
    exact ⟨_, results_tmp rfl _ _ _, ⟨_, rfl, by rw [hall]; exact hfinal _⟩, i4.trans (below_putObj _ (by omega) _)⟩
  case stop =>
    rintro Dd c pre M W _ _ _ h _
    exact h.elim
set_option maxRecDepth 100000 in
set_option maxHeartbeats 4000000 in
theorem below_anyP {Rb : Nat → Prop} {w : World} {v : Option Addr} {g : Int → Option Rec} {keys : List Int} (hR : ReadsKP Rb w v g) (hRl : ∀ k, Rb k → k < w.heap.size) (hk : KeysOf g keys) (hkl : keys.length ≤ 1000000000) (id : Int) :
    Calls Try.prog 70 #[Value.pointer v, iv id] w (AxPost w (belowF g (keys.length + 1) id)) := by
  obtain ⟨i0, hi, hz0, hz1, hz2⟩ := info_parts Try.info3
  obtain ⟨W1, hW1⟩ : ∃ W1, (w.alloc (.cells #[iv id] 3)).alloc (.cells #[.slice none 0 0] 33) = W1 := ⟨_, rfl⟩
  have hs1 : W1.heap.size = w.heap.size + 2 := by rw [← hW1]; simp
  have hb1 : Below w.heap.size w W1 := by rw [← hW1]; exact ((Below.refl _ w).alloc (Nat.le_refl _) _).alloc (by simp) _
  have hL1 : W1.heap[w.heap.size + 1]? = some (.cells #[.slice none 0 0] 33 (0, 0)) := by
    rw [← hW1]
    have := Go.heap_alloc_new (w.alloc (.cells #[iv id] 3)) (.cells #[.slice none 0 0] 33)
    rw [World.size_alloc] at this
    exact this
  have hI1 : W1.heap[w.heap.size]? = some (.cells #[iv id] 3 (0, 0)) := by rw [← hW1]; exact (Go.heap_alloc_old _ _ (by simp)).trans (Go.heap_alloc_new _ _)
  obtain ⟨W3, hW3⟩ : ∃ W3, (W1.alloc (.cells #[Value.pointer v] 35)).alloc (.cells #[iv id] 3) = W3 := ⟨_, rfl⟩
  have hs3 : W3.heap.size = w.heap.size + 4 := by rw [← hW3]; simp [hs1]
  have hb3 : Below W1.heap.size W1 W3 := by rw [← hW3]; exact ((Below.refl _ _).alloc (Nat.le_refl _) _).alloc (by simp) _
  have h2 : W3.heap[w.heap.size + 2]? = some (.cells #[Value.pointer v] 35 (0, 0)) := by
    rw [← hW3]
    refine (Go.heap_alloc_old _ _ (by simp; omega)).trans ?_
    rw [← hs1]; exact Go.heap_alloc_new _ _
  have h3 : W3.heap[w.heap.size + 2 + 1]? = some (.cells #[iv id] 3 (0, 0)) := by
    rw [← hW3]
    have := Go.heap_alloc_new (W1.alloc (.cells #[Value.pointer v] 35)) (.cells #[iv id] 3)
    rw [World.size_alloc, hs1] at this
    exact this
  have hL3 := (hb3.block (w.heap.size + 1) (by omega)).trans hL1
  have hI3 := (hb3.block w.heap.size (by omega)).trans hI1
  have hbB : Below w.heap.size w W3 := hb1.trans (hb3.mono hb1.size)
  have hgv := through_givesP (id := id) 9 (by omega) (hR.later (fun k hk => hbB.block k (hRl k hk))) hk hkl (b1 := w.heap.size + 2) (b2 := w.heap.size + 2 + 1) (by simp [World.cell?, h2]) (by simp [World.cell?, h3])
  have hlt := through_anyP v id W1
  rw [hs1, hW3] at hlt
  have hinv := goS_inv hk (keys.length + 1) id false [] (GoInv.nil keys)
  have hlen : (goF g (keys.length + 1) id).length ≤ keys.length := hinv.len
  have d10 : W1.cell? ⟨w.heap.size, 0, none⟩ = some (iv id) := by simp [World.cell?, hI1]
  have HT := Lib.hid hlt
  have HW1 := Lib.hid hW1
  clear hW1 hW3 hlt h2 h3 hb1 hb3 hL1 hinv hI1
  refine (callsIn_wide (n := 10)).1 ?_
  refine callsIn_of_wp_marks Try.func70 rfl trivial ?_ rfl
  simp only [Try.ntmps70, List.size_toArray, List.length_cons, List.length_nil, Nat.reduceAdd, Nat.reduceSub, Array.replicate_succ, Array.replicate_zero, List.push_toArray, List.append_toArray, List.nil_append, List.cons_append]
  gi_upto_region 2 with fail
  rw [HW1.out]
  gi_wp2_with fail
  refine ⟨trivial, (callsIn_wide.2 HT.out).mono ?_⟩
  rintro e w9 ⟨rfl, rfl⟩
  gi_wp2
  obtain ⟨acc, hacc⟩ : ∃ acc, goF g (keys.length + 1) id = acc := ⟨_, rfl⟩
  have hall : belowF g (keys.length + 1) id = (acc.filter (fun p => decide (p.1 ≠ id) && !p.2)).map (·.1) := by unfold belowF; rw [hacc]
  rw [hacc] at hgv hlen
  have HALL := Lib.hid hall
  clear hall hacc
  refine wpIn_rangeFunc_gives2 rfl (by omega) (gf := 119) (lb := #[ptr (w.heap.size + 2), ptr (w.heap.size + 2 + 1)]) rfl trivial (enters_of Try.func119 (by kernel_rfl) rfl)
    hgv (Keeps.refl _ _) (fun k hk => by rcases hk with rfl | rfl | h; omega; omega; have := hRl k h; omega) (fun _ => rfl)
    (fun pre M W => ∃ v, Boxed W (w.heap.size + 1) 33 v ∧ Boxed W w.heap.size 3 (iv id) ∧ W.ownsRow (w.heap.size + 4) 3 1 v (pre.filter (fun p => decide (p.1 ≠ id) && !p.2)).length ((pre.filter (fun p => decide (p.1 ≠ id) && !p.2)).map (fun x => iv x.1)) ∧ (∀ k, M k ↔ k = w.heap.size + 1 ∨ v.ownBlock = some k) ∧ Below w.heap.size w W)
    (fun _ _ _ _ => False)
    (fun pre M A A' ⟨v, i1, i0, i2, i3, i4⟩ hc => ⟨v, chg_boxed hc (fun h => h.2 ((i3 _).2 (.inl rfl))) i1, chg_boxed hc (fun h => by have := h.1; omega) i0, ownsRow_keeps i2 (fun g hg => hc.block g (ownsRow_base i2 hg).2 (fun h => h.2 ((i3 _).2 (.inr hg)))), i3, i4.trans ⟨hc.os, hc.tape, hc.output, hc.size, fun k hk => hc.block k (by have := i4.size; omega) (fun h => by have := h.1; omega)⟩⟩)
    (fun _ _ _ _ _ hs _ => hs)
    (fun pre M A ⟨v, i1, i0, i2, i3, i4⟩ => ⟨v, i1, i0, i2, fun k => ⟨fun h => (i3 k).1 h.1, fun h => ⟨(i3 k).2 h, h.elim (fun e => by rw [e]; exact i1.lt) (fun e => (ownsRow_base i2 e).2)⟩⟩, i4⟩)
    (fun _ _ _ _ h => h)
    (fun k => k = w.heap.size + 1) (fun k hk => ⟨by omega, fun h => by rcases h with h | h | h; omega; omega; have := hRl k h; omega⟩)
    ⟨.slice none 0 0, hL3, hI3, World.ownsRow_nil _ _ _ _, fun k => by simp [Value.ownBlock], hbB⟩
    (fun x => { tmps := #[Value.pointer v, iv id, undef, .pointer (some ⟨w.heap.size, 0, none⟩), .slice none 0 0, .pointer (some ⟨w.heap.size + 1, 0, none⟩), iv x.1, .bool x.2, Value.pointer v, iv id, .func (.func 119) #[] #[ptr (w.heap.size + 2), ptr (w.heap.size + 2 + 1)], iv x.1, .bool x.2, undef, undef, undef, undef, undef, undef, undef, undef, undef, undef, undef, undef], defers := [] }) ?assign ?body ?done ?stop
  case assign =>
    intro l x W K hK
    gi_wp2
    exact hK
  case body =>
    rintro l pre x M W hpre hsz ⟨u, i1, i0, i2, i3, i4⟩
    obtain ⟨x1, x2⟩ := x
    have d0 := i1.cell
    have d1 := i1.frozen
    have d2 := i0.cell
    have hpl : pre.length + 1 ≤ acc.length := by have := hpre.length_le; simpa using this
    have hfl := List.length_filter_le (fun p : Int × Bool => decide (p.1 ≠ id) && !p.2) pre
    have hsn : (pre ++ [(x1, x2)]).filter (fun p => decide (p.1 ≠ id) && !p.2) = pre.filter (fun p => decide (p.1 ≠ id) && !p.2) ++ (if (decide (x1 ≠ id) && !x2) = true then [(x1, x2)] else []) := by
      rw [List.filter_append, List.filter_cons, List.filter_nil]
    have hlt := i1.lt
    have HSN := Lib.hid hsn
    have I1 := Lib.hid i1
    have I0 := Lib.hid i0
    have I2 := Lib.hid i2
    have I3 := Lib.hid i3
    have I4 := Lib.hid i4
    clear i1 i0 i2 i3 i4 hgv hsn
    have hmx : Try.prog.follows .mixedOrders = true := by kernel_rfl
    by_cases hin : x1 = id
    · have hne : (x1 != id) = false := by simpa using hin
      have HIN := Lib.hid hin
      clear hin
      gi_wp2
      all_goals (try go_bits)
      exact ⟨M, Chg.refl _ _, fun k hk => .inl hk, u, I1.out, I0.out, by rw [HSN.out, if_neg (by simp [HIN.out]), List.append_nil]; exact I2.out, I3.out, I4.out⟩
    · have hne : (x1 != id) = true := by simpa using hin
      have HIN := Lib.hid hin
      clear hin
      cases x2 with
      | true =>
        gi_wp2
        all_goals (try go_bits)
        exact ⟨M, Chg.refl _ _, fun k hk => .inl hk, u, I1.out, I0.out, by rw [HSN.out, if_neg (by simp), List.append_nil]; exact I2.out, I3.out, I4.out⟩
      | false =>
        gi_wp2_with ((gi_at_builtin; refine wpListIn_append_own_at _ rfl _ _ 33 rfl (w.heap.size + 4) 3 i0 (.int .i64 0) 1 8 Try.underlying33 hi hz0 hz1 hz2 rfl (by decide) _ _ _ rfl (ownsRow_alloc I2.out _) ⟨W.heap.size, 0, none⟩ 1 1 [iv x1] rfl rfl (cell_one_new _ _ _) (by simp [Value.oneCell']) (by unfold maxLen; omega) (by omega) (by simp; omega) ?_; intro v' w2 hown2 hgrow hnil hloc; obtain ⟨a2, n2, cp2, rfl⟩ := slice_form2 hown2; have hkb := (hgrow.block (w.heap.size + 1) (by simp; omega) (fun e => by have := (ownsRow_base I2.out e.symm).1; omega)).trans (Go.heap_alloc_old W _ hlt); have hki := (hgrow.block w.heap.size (by simp; omega) (fun e => by have := (ownsRow_base I2.out e.symm).1; omega)).trans (Go.heap_alloc_old W _ (by omega)); have q0 := (World.cell?_of_block (a := ⟨w.heap.size + 1, 0, none⟩) hkb).trans d0; have q1 : w2.frozen? ⟨w.heap.size + 1, 0, none⟩ = false := free_block (hkb.trans I1.out) 0))
        have hch : Chg M W w2 := (chg_alloc W _).trans (chg_grown hgrow (fun k e => (I3.out k).2 (.inr e)))
        have hbox : M (w.heap.size + 1) := (I3.out _).2 (.inl rfl)
        generalize hv' : Value.slice a2 n2 cp2 = v' at *
        refine ⟨fun k => k = w.heap.size + 1 ∨ v'.ownBlock = some k, hch.trans (chg_set hbox 0 _), ?_, v', ?_, ?_, ?_, fun _ => Iff.rfl, ?_⟩
        · rintro k (h | h)
          · exact .inl ((I3.out k).2 (.inl h))
          · rcases hloc with e | e
            · exact .inl ((I3.out k).2 (.inr (e.symm.trans h)))
            · rw [e] at h; cases h; exact .inr (by simp)
        · have := heap_setCell_same w2 (w.heap.size + 1) 0 _ _ v' (hkb.trans I1.out)
          unfold Boxed
          simpa using this
        · exact (heap_setCell_other _ _ _ _ (by simp)).trans (hki.trans I0.out)
        · rw [HSN.out, if_pos (by simp [HIN.out]), List.length_append, List.map_append]
          exact ownsRow_keeps hown2 (fun g hg => heap_setCell_other _ _ _ _ (by have := (ownsRow_base hown2 hg).1; simp; omega))
        · refine I4.out.trans ?_
          have hc2 := hch.trans (chg_set (w := w2) hbox 0 v')
          exact ⟨hc2.os, hc2.tape, hc2.output, hc2.size, fun k hk => hc2.block k (by omega) (fun h => by
            rcases (I3.out k).1 h with h | h
            · omega
            · have := (ownsRow_base I2.out h).1; omega)⟩
  case done =>
    rintro Dd M W hD2 hMD ⟨u, i1, i0, i2, i3, i4⟩ hK
    have d0 := i1.cell
    have hfinal : ∀ o, IntsIn (Old (W.putObj Dd o).heap.size) (W.putObj Dd o) u ((acc.filter (fun p => decide (p.1 ≠ id) && !p.2)).map (·.1)) := fun o => by
      have h8 : W.ownsRow (w.heap.size + 4) 3 1 u ((acc.filter (fun p => decide (p.1 ≠ id) && !p.2)).map (·.1)).length (((acc.filter (fun p => decide (p.1 ≠ id) && !p.2)).map (·.1)).map iv) := by rw [List.map_map, List.length_map]; exact i2
      have hDv : u.ownBlock ≠ some Dd := fun e => hMD ((i3 _).2 (.inr e))
      have h9 : (W.putObj Dd o).ownsRow (w.heap.size + 4) 3 1 u ((acc.filter (fun p => decide (p.1 ≠ id) && !p.2)).map (·.1)).length (((acc.filter (fun p => decide (p.1 ≠ id) && !p.2)).map (·.1)).map iv) := ownsRow_keeps h8 (fun q hq => World.putObj_heap_other (by rintro rfl; exact hDv hq))
      exact (intsIn_row h9).old
    gi_wp2
    refine ⟨by simp, .inl ⟨_, _, rfl, run_takeDeferred hK, ?_⟩⟩
    exact ⟨_, results_tmp rfl _ _ _, ⟨_, rfl, by rw [HALL.out]; exact hfinal _⟩, i4.trans (below_putObj _ (by omega) _)⟩
  case stop =>
    rintro Dd c pre M W _ _ _ h _
    exact h.elim

set_option maxRecDepth 100000 in
set_option maxHeartbeats 4000000 in
theorem sort_viewP {Rb : Nat → Prop} {w : World} {v : Option Addr} {g : Int → Option Rec} {keys : List Int} (hR : ReadsKP Rb w v g) (hRl : ∀ k, Rb k → k < w.heap.size) (hk : KeysOf g keys) (hkl : keys.length ≤ 1000000000) {F : Nat → Prop} {lv : Value} {xs : List Int} (hxs : IntsIn F w lv xs) (hF : ∀ k, F k → k < w.heap.size) :
    Calls Try.prog 35 #[Value.pointer v, lv] w (AxPost w (sortF g (keys.length + 1) xs)) := by
  obtain ⟨i0, hi, hz0, hz1, hz2⟩ := info_parts Try.info3
  obtain ⟨W1, hW1⟩ : ∃ W1, (w.alloc (.map #[] 0)).alloc (.cells #[.map (some w.heap.size)] 144) = W1 := ⟨_, rfl⟩
  have hs1 : W1.heap.size = w.heap.size + 2 := by rw [← hW1]; simp
  have hb1 : Below w.heap.size w W1 := by rw [← hW1]; exact ((Below.refl _ w).alloc (Nat.le_refl _) _).alloc (by simp) _
  have hset1 : SetIs W1 w.heap.size (fun x => x ∈ xs.take 0) := by
    rw [← hW1]
    exact ((setIs_new w).keep (Go.heap_alloc_old _ _ (by simp))).congr (fun x => by simp)
  have hM1 : W1.heap[w.heap.size + 1]? = some (.cells #[.map (some w.heap.size)] 144 (0, 0)) := by
    rw [← hW1]
    have := Go.heap_alloc_new (w.alloc (.map #[] 0)) (.cells #[.map (some w.heap.size)] 144)
    rw [World.size_alloc] at this
    exact this
  have hxl := hxs.len
  obtain ⟨a, cap, rfl, -, -, hx⟩ := hxs
  have HW1 := Lib.hid hW1
  have HX := Lib.hid hx
  have HF := Lib.hid hF
  have HR := Lib.hid hR
  have HRL := Lib.hid hRl
  have HKK := Lib.hid hk
  clear hW1 hx hF hR hRl hk
  refine (callsIn_wide (n := 10)).1 ?_
  refine callsIn_of_wp_marks Try.func35 rfl trivial ?_ rfl
  simp only [Try.ntmps35, List.size_toArray, List.length_cons, List.length_nil, Nat.reduceAdd, Nat.reduceSub, Array.replicate_succ, Array.replicate_zero, List.push_toArray, List.append_toArray, List.nil_append, List.cons_append]
  have hmm := @run_makeMap Try.prog
  gi_wp2_with fail
  rw [HW1.out]
  clear hmm
  gi_loopw [13] (fun i wr => ∃ k : Nat, k ≤ xs.length ∧ i = .int .i64 k ∧ SetIs wr w.heap.size (fun x => x ∈ xs.take k) ∧ wr.heap.size = w.heap.size + 2 ∧ Chg (fun j => j = w.heap.size) W1 wr) (fun i _ => xs.length - (intOf i).toNat)
  case atStart => exact ⟨0, Nat.zero_le _, rfl, hset1, hs1, Chg.refl _ _⟩
  case round =>
    obtain ⟨k, hkk, rfl, hset, hsr, hch⟩ := hrel
    by_cases hlt : k < xs.length
    · obtain ⟨x, hxk⟩ : ∃ x, xs[k]? = some x := ⟨_, List.getElem?_eq_getElem hlt⟩
      obtain ⟨gb, off, rfl, hFg, hc⟩ : ∃ g off, a = some ⟨g, off, none⟩ ∧ F g ∧ ∀ j x, xs[j]? = some x → w.cell? ⟨g, off + j, none⟩ = some (.int .i64 x) := by
        rcases HX.out with h | h
        · rw [h] at hlt; simp at hlt
        · exact h
      have hgl := HF.out gb hFg
      have hck : wr.cell? ⟨gb, off + k, none⟩ = some (.int .i64 x) := by
        rw [World.cell?_of_block (a := ⟨gb, off + k, none⟩) ((hch.block gb (by omega) (fun e => by omega)).trans (hb1.block gb hgl))]
        exact hc k x hxk
      have htk : xs.take (k + 1) = xs.take k ++ [x] := by rw [List.take_add_one, hxk]; rfl
      have hmc : wr.cell? ⟨w.heap.size + 1, 0, none⟩ = some (.map (some w.heap.size)) := by
        have h9 := (hch.block (w.heap.size + 1) (by omega) (fun e => by omega)).trans hM1
        simp [World.cell?, h9]
      obtain ⟨es, ck, hmu, hset3⟩ := hset.store x
      have hs3 : (setBlock wr w.heap.size (.map es ck)).heap.size = wr.heap.size := by simp [setBlock]
      have hch3 : Chg (fun j => j = w.heap.size) W1 (setBlock wr w.heap.size (.map es ck)) := hch.trans (chg_setBlock (M := fun k => k = w.heap.size) rfl _)
      obtain ⟨W3, hW3⟩ : ∃ W3, setBlock wr w.heap.size (.map es ck) = W3 := ⟨_, rfl⟩
      rw [hW3] at hset3 hs3 hch3 hmu
      have hset4 : SetIs W3 w.heap.size (fun y => y ∈ xs.take (k + 1)) := hset3.congr (fun y => by rw [htk]; simp)
      have hs4 : W3.heap.size = w.heap.size + 2 := hs3.trans hsr
      have HS4 := Lib.hid hset4
      have HC3 := Lib.hid hch3
      have HZ4 := Lib.hid hs4
      have hk0 : (0 : Int) ≤ k := by omega
      have hkl : (k : Int) < xs.length := by omega
      clear hc hxk htk hset3 hs3 hch3 hset hch hset4 hs4 hW3 hset1 hsr hM1 hb1 hs1
      gi_wp2
      go_roundw
      case rel => exact ⟨k + 1, by omega, by go_num, HS4.out, HZ4.out, HC3.out⟩
      case measure => simp [intOf]; omega
    · obtain rfl : k = xs.length := by omega
      rw [List.take_length] at hset
      obtain ⟨W2, hW2⟩ : ∃ W2, wr.alloc (.cells #[.slice none 0 0] 33) = W2 := ⟨_, rfl⟩
      have hs2 : W2.heap.size = w.heap.size + 3 := by rw [← hW2]; simp; omega
      have hkr : ∀ k, k < w.heap.size → wr.heap[k]? = w.heap[k]? := fun k hk => (hch.block k (by omega) (fun e => by omega)).trans (hb1.block k hk)
      have hbr : Below w.heap.size w wr := by
        have hc9 : Chg (New w.heap.size) W1 wr := hch.mono (fun k hk => by rw [hk]; exact Nat.le_refl _)
        exact below_of_chg ((chg_new hb1).trans hc9)
      have hL2 : W2.heap[w.heap.size + 2]? = some (.cells #[.slice none 0 0] 33 (0, 0)) := by rw [← hW2, ← hsr]; exact Go.heap_alloc_new _ _
      have hbr2 : Below wr.heap.size wr W2 := by rw [← hW2]; exact (Below.refl _ _).alloc (Nat.le_refl _) _
      obtain ⟨W3, hW3⟩ : ∃ W3, (W2.alloc (.cells #[Value.pointer v] 35)).alloc (.cells #[iv 1] 3) = W3 := ⟨_, rfl⟩
      have hs3 : W3.heap.size = w.heap.size + 5 := by rw [← hW3]; simp [hs2]
      have hb3 : Below W2.heap.size W2 W3 := by rw [← hW3]; exact ((Below.refl _ _).alloc (Nat.le_refl _) _).alloc (by simp) _
      have h2 : W3.heap[w.heap.size + 3]? = some (.cells #[Value.pointer v] 35 (0, 0)) := by
        rw [← hW3]
        refine (Go.heap_alloc_old _ _ (by simp; omega)).trans ?_
        rw [← hs2]; exact Go.heap_alloc_new _ _
      have h3 : W3.heap[w.heap.size + 3 + 1]? = some (.cells #[iv 1] 3 (0, 0)) := by
        rw [← hW3]
        have := Go.heap_alloc_new (W2.alloc (.cells #[Value.pointer v] 35)) (.cells #[iv 1] 3)
        rw [World.size_alloc, hs2] at this
        exact this
      have hb23 : Below wr.heap.size wr W3 := hbr2.trans (hb3.mono hbr2.size)
      have hL3 := (hb3.block (w.heap.size + 2) (by omega)).trans hL2
      have hMM3 := (hb23.block (w.heap.size + 1) (by omega)).trans ((hch.block (w.heap.size + 1) (by omega) (fun e => by omega)).trans hM1)
      have hset3 := hset.keep (hb23.block w.heap.size (by omega))
      have hbB : Below w.heap.size w W3 := hbr.trans (hb23.mono hbr.size)
      have hgv := through_givesP (id := 1) 9 (by omega) (HR.out.later (fun k hk => hbB.block k (HRL.out k hk))) HKK.out hkl (b1 := w.heap.size + 3) (b2 := w.heap.size + 3 + 1) (by simp [World.cell?, h2]) (by simp [World.cell?, h3])
      have hlt := through_anyP v 1 W2
      rw [hs2, hW3] at hlt
      have hinv := goS_inv HKK.out (keys.length + 1) 1 false [] (GoInv.nil keys)
      have hlen : (goF g (keys.length + 1) 1).length ≤ keys.length := hinv.len
      have HT := Lib.hid hlt
      have HW2 := Lib.hid hW2
      clear hW2 hW3 hlt h2 h3 hb1 hb3 hL2 hinv hset hch hbr hbr2 hset1 hM1 hb23 hkr
      gi_wp2_with fail
      rw [HW2.out]
      refine ⟨trivial, (callsIn_wide.2 HT.out).mono ?_⟩
      rintro e w9 ⟨rfl, rfl⟩
      gi_wp2
      obtain ⟨acc, hacc⟩ : ∃ acc, goF g (keys.length + 1) 1 = acc := ⟨_, rfl⟩
      have hall : sortF g (keys.length + 1) xs = (acc.filter (fun p => decide (p.1 ∈ xs))).map (·.1) := by unfold sortF allF; rw [hacc, List.filter_map]; rfl
      rw [hacc] at hgv hlen
      have HALL := Lib.hid hall
      clear hall hacc
      refine wpIn_rangeFunc_gives2 rfl (by omega) (gf := 119) (lb := #[ptr (w.heap.size + 3), ptr (w.heap.size + 3 + 1)]) rfl trivial (enters_of Try.func119 (by kernel_rfl) rfl)
        hgv (Keeps.refl _ _) (fun k hk => by rcases hk with rfl | rfl | h; omega; omega; have := HRL.out k h; omega) (fun _ => rfl)
        (fun pre M W => ∃ v, Boxed W (w.heap.size + 2) 33 v ∧ (Boxed W (w.heap.size + 1) 144 (.map (some w.heap.size)) ∧ SetIs W w.heap.size (fun y => y ∈ xs)) ∧ W.ownsRow (w.heap.size + 5) 3 1 v (pre.filter (fun p => decide (p.1 ∈ xs))).length ((pre.filter (fun p => decide (p.1 ∈ xs))).map (fun x => iv x.1)) ∧ (∀ k, M k ↔ k = w.heap.size + 2 ∨ v.ownBlock = some k) ∧ Below w.heap.size w W)
        (fun _ _ _ _ => False)
        (fun pre M A A' ⟨v, i1, ⟨i0, i5⟩, i2, i3, i4⟩ hc => ⟨v, chg_boxed hc (fun h => h.2 ((i3 _).2 (.inl rfl))) i1, ⟨chg_boxed hc (fun h => by have := h.1; omega) i0, i5.keep (hc.block _ i5.lt (fun h => by have := h.1; omega))⟩, ownsRow_keeps i2 (fun g hg => hc.block g (ownsRow_base i2 hg).2 (fun h => h.2 ((i3 _).2 (.inr hg)))), i3, i4.trans ⟨hc.os, hc.tape, hc.output, hc.size, fun k hk => hc.block k (by have := i4.size; omega) (fun h => by have := h.1; omega)⟩⟩)
        (fun _ _ _ _ _ hs _ => hs)
        (fun pre M A ⟨v, i1, i0, i2, i3, i4⟩ => ⟨v, i1, i0, i2, fun k => ⟨fun h => (i3 k).1 h.1, fun h => ⟨(i3 k).2 h, h.elim (fun e => by rw [e]; exact i1.lt) (fun e => (ownsRow_base i2 e).2)⟩⟩, i4⟩)
        (fun _ _ _ _ h => h)
        (fun k => k = w.heap.size + 2) (fun k hk => ⟨by omega, fun h => by rcases h with h | h | h; omega; omega; have := HRL.out k h; omega⟩)
        ⟨.slice none 0 0, hL3, ⟨hMM3, hset3⟩, World.ownsRow_nil _ _ _ _, fun k => by simp [Value.ownBlock], hbB⟩
        (fun x => { tmps := #[Value.pointer v, .slice a xs.length cap, undef, undef, .slice none 0 0, .pointer (some ⟨w.heap.size + 1, 0, none⟩), undef, u7, .pointer (some ⟨w.heap.size + 2, 0, none⟩), iv x.1, .map (some w.heap.size), .slice a xs.length cap, .int .i64 xs.length, .int .i64 xs.length, .bool false, u15, u16, u17, u18, u19, Value.pointer v, .func (.func 119) #[] #[ptr (w.heap.size + 3), ptr (w.heap.size + 3 + 1)], iv x.1, .bool x.2, undef, undef, undef, undef, undef, undef, undef, undef], defers := [] }) ?assign ?body ?done ?stop
      case assign =>
        intro l x W K hK
        gi_wp2
        exact hK
      case body =>
        rintro l pre x M W hpre hsz ⟨u, i1, ⟨i0, i5⟩, i2, i3, i4⟩
        obtain ⟨x1, x2⟩ := x
        have d0 := i1.cell
        have d1 := i1.frozen
        have d2 := i0.cell
        have hpl : pre.length + 1 ≤ acc.length := by have := hpre.length_le; simpa using this
        have hfl := List.length_filter_le (fun p : Int × Bool => decide (p.1 ∈ xs)) pre
        have hsn : (pre ++ [(x1, x2)]).filter (fun p => decide (p.1 ∈ xs)) = pre.filter (fun p => decide (p.1 ∈ xs)) ++ (if decide (x1 ∈ xs) = true then [(x1, x2)] else []) := by
          rw [List.filter_append, List.filter_cons, List.filter_nil]
        have hlt := i1.lt
        have hlk := i5.look x1 (decide (x1 ∈ xs)) (by simp)
        have HSN := Lib.hid hsn
        have I1 := Lib.hid i1
        have I0 := Lib.hid i0
        have I2 := Lib.hid i2
        have I3 := Lib.hid i3
        have I4 := Lib.hid i4
        have I5 := Lib.hid i5
        clear i1 i0 i2 i3 i4 i5 hgv hsn hset3 hMM3 hL3
        have hmx : Try.prog.follows .mixedOrders = true := by kernel_rfl
        by_cases hin : x1 ∈ xs
        · rw [decide_eq_true hin] at hlk HSN
          have HIN := Lib.hid hin
          clear hin
          gi_wp2_with ((gi_at_builtin; refine wpListIn_append_own_at _ rfl _ _ 33 rfl (w.heap.size + 5) 3 i0 (.int .i64 0) 1 8 Try.underlying33 hi hz0 hz1 hz2 rfl (by decide) _ _ _ rfl (ownsRow_alloc I2.out _) ⟨W.heap.size, 0, none⟩ 1 1 [iv x1] rfl rfl (cell_one_new _ _ _) (by simp [Value.oneCell']) (by unfold maxLen; omega) (by omega) (by simp; omega) ?_; intro v' w2 hown2 hgrow hnil hloc; obtain ⟨a2, n2, cp2, rfl⟩ := slice_form2 hown2; have hkb := (hgrow.block (w.heap.size + 2) (by simp; omega) (fun e => by have := (ownsRow_base I2.out e.symm).1; omega)).trans (Go.heap_alloc_old W _ hlt); have hki := (hgrow.block (w.heap.size + 1) (by simp; omega) (fun e => by have := (ownsRow_base I2.out e.symm).1; omega)).trans (Go.heap_alloc_old W _ (by omega)); have hkm := (hgrow.block w.heap.size (by simp; omega) (fun e => by have := (ownsRow_base I2.out e.symm).1; omega)).trans (Go.heap_alloc_old W _ (by omega)); have q0 := (World.cell?_of_block (a := ⟨w.heap.size + 2, 0, none⟩) hkb).trans d0; have q1 : w2.frozen? ⟨w.heap.size + 2, 0, none⟩ = false := free_block (hkb.trans I1.out) 0))
          have hch : Chg M W w2 := (chg_alloc W _).trans (chg_grown hgrow (fun k e => (I3.out k).2 (.inr e)))
          have hbox : M (w.heap.size + 2) := (I3.out _).2 (.inl rfl)
          generalize hv' : Value.slice a2 n2 cp2 = v' at *
          refine ⟨fun k => k = w.heap.size + 2 ∨ v'.ownBlock = some k, hch.trans (chg_set hbox 0 _), ?_, v', ?_, ⟨?_, ?_⟩, ?_, fun _ => Iff.rfl, ?_⟩
          · rintro k (h | h)
            · exact .inl ((I3.out k).2 (.inl h))
            · rcases hloc with e | e
              · exact .inl ((I3.out k).2 (.inr (e.symm.trans h)))
              · rw [e] at h; cases h; exact .inr (by simp)
          · have := heap_setCell_same w2 (w.heap.size + 2) 0 _ _ v' (hkb.trans I1.out)
            unfold Boxed
            simpa using this
          · exact (heap_setCell_other _ _ _ _ (by simp)).trans (hki.trans I0.out)
          · exact I5.out.keep ((heap_setCell_other _ _ _ _ (by simp)).trans hkm)
          · rw [HSN.out, if_pos (by simp), List.length_append, List.map_append]
            exact ownsRow_keeps hown2 (fun g hg => heap_setCell_other _ _ _ _ (by have := (ownsRow_base hown2 hg).1; simp; omega))
          · refine I4.out.trans ?_
            have hc2 := hch.trans (chg_set (w := w2) hbox 0 v')
            exact ⟨hc2.os, hc2.tape, hc2.output, hc2.size, fun k hk => hc2.block k (by omega) (fun h => by
              rcases (I3.out k).1 h with h | h
              · omega
              · have := (ownsRow_base I2.out h).1; omega)⟩
        · rw [decide_eq_false hin] at hlk HSN
          clear hin
          gi_wp2
          all_goals (try go_bits)
          exact ⟨M, Chg.refl _ _, fun k hk => .inl hk, u, I1.out, ⟨I0.out, I5.out⟩, by rw [HSN.out, if_neg (by simp), List.append_nil]; exact I2.out, I3.out, I4.out⟩
      case done =>
        rintro Dd M W hD2 hMD ⟨u, i1, i0, i2, i3, i4⟩ hK
        have d0 := i1.cell
        have hfinal : ∀ o, IntsIn (Old (W.putObj Dd o).heap.size) (W.putObj Dd o) u ((acc.filter (fun p => decide (p.1 ∈ xs))).map (·.1)) := fun o => by
          have h8 : W.ownsRow (w.heap.size + 5) 3 1 u ((acc.filter (fun p => decide (p.1 ∈ xs))).map (·.1)).length (((acc.filter (fun p => decide (p.1 ∈ xs))).map (·.1)).map iv) := by rw [List.map_map, List.length_map]; exact i2
          have hDv : u.ownBlock ≠ some Dd := fun e => hMD ((i3 _).2 (.inr e))
          have h9 : (W.putObj Dd o).ownsRow (w.heap.size + 5) 3 1 u ((acc.filter (fun p => decide (p.1 ∈ xs))).map (·.1)).length (((acc.filter (fun p => decide (p.1 ∈ xs))).map (·.1)).map iv) := ownsRow_keeps h8 (fun q hq => World.putObj_heap_other (by rintro rfl; exact hDv hq))
          exact (intsIn_row h9).old
        gi_wp2
        refine ⟨by simp, .inl ⟨_, _, rfl, run_takeDeferred hK, ?_⟩⟩
        exact ⟨_, results_tmp rfl _ _ _, ⟨_, rfl, by rw [HALL.out]; exact hfinal _⟩, i4.trans (below_putObj _ (by omega) _)⟩
      case stop =>
        rintro Dd c pre M W _ _ _ h _
        exact h.elim

end
end Go.Proofs.Ytinkjhkbaadbpaa
