/- slices.Insert of one who waits (33). -/
import Derived.Test.YtamjopgpmeeheaaLC
import Derived.Lib.Overlaps
import Derived.Lib.AppendZerosOnto
import Derived.Laws.CopyOwn
import Derived.Deep.RegionLaw
namespace Go.Proofs.Ytamjopgpmeeheaa
open Go.RowKit
set_option linter.unusedVariables false

section
variable {P : Program}
/-- copy into a row that is known whole, of elements of size cells -/
theorem run_copy_row_s (w : World) (dT sT ty elem : TypeId) (size g o dLen dCap : Nat) (a : Addr) (sLen sCap : Nat) (cur : List Value) (t : TypeId) (cs : List Value)
    (hu : P.underlying dT = some (.slice elem)) (hs : (P.info? elem).map (·.size) = some size)
    (hg : w.heap[g]? = some (.cells cur.toArray t (0, 0))) (hn : cs.length = Nat.min sLen dLen * size)
    (hsrc : ∀ j v, cs[j]? = some v → w.cell? (a.add j) = some v) (hfit : o + cs.length ≤ cur.length) (h1 : ∀ v ∈ cs, v.oneCell' = true) :
    (Builtin.copy_ #[dT, sT] ty #[.slice (some ⟨g, o, none⟩) dLen dCap, .slice (some a) sLen sCap]).run P w =
      .ok (goInt (Nat.min sLen dLen)) (w.setRow g (splice cur o cs).toArray) := by
  have hl := run_loadCells_list (P := P) w a cs hsrc
  have hst := run_storeCells_at P g o t cs 0 cur.toArray w hg (by simpa using hfit) h1
  cases hq : P.info? elem with
  | none => simp [hq] at hs
  | some i =>
    have hi : i.size = size := by simpa [hq] using hs
    simp [Builtin.copy_, run_underlying hu, Builtin.lenOf, Builtin.firstCells, sizeOf, typeInfo, hq, hi, ← hn, hl, hst, splice]
theorem wpList_copy_eq (w : World) {ops : Array Oper} {rest : List Oper} {o : Oper} {a : Act} {Q : Exit → Act → World → Prop} (hgd : o.guard = none) (d s : Operand) (t t' : TypeId)
    (ho : o.op = .call { callee := .builtin .copy, args := #[d, s], argTypes := #[t, t'] }) (v u : Value) (hd : a.eval d = v) (hs : a.eval s = u) {v' : Value} {w' : World}
    (hr : (Builtin.copy_ #[t, t'] o.type #[v, u]).run P w = .ok v' w') (h : wpList P ops Q rest (a.put o.dst v') w') : wpList P ops Q (o :: rest) a w := by
  refine wpList_plain hgd fun _ hK => ?_
  unfold Oper.wp execOp
  simp only [ho, resolve, invoke, builtin, Sem.run_bind, Sem.run_pure, Result.andThen_ok, List.map_toArray, List.map_cons, List.map_nil, hd, hs, hr]
  exact hK _ _ h
theorem step_copy_eq {ops : Array Oper} {o : Oper} {a : Act} {w : World} {K : Act → World → Prop} {Q : Exit → Act → World → Prop} {E : Prop}
    (hg : o.guard = none) (d x : Operand) (dT sT : TypeId) (hop : o.op = Op.call { callee := Callee.builtin Builtin.copy, args := #[d, x], argTypes := #[dT, sT] })
    (v u : Value) (hd : a.eval d = v) (hx : a.eval x = u) {v' : Value} {w' : World} (hr : (Builtin.copy_ #[dT, sT] o.type #[v, u]).run P w = .ok v' w') (hK : K (a.put o.dst v') w') :
    if Region.wanted o (yielded ops a.tmps) = true then Oper.wp P o a w K Q else E := by
  have hw : Region.wanted o (yielded ops a.tmps) = true := by simp [Region.wanted, hg]
  rw [if_pos hw]
  unfold Oper.wp
  simp [execOp, hop, resolve, invoke, builtin, hd, hx, hr, Result.andThen]
  exact hK
end
theorem flat_take (l : List W2) (i : Nat) : flat (l.take i) = (flat l).take (i * 2) := by
  induction l generalizing i with
  | nil => simp [flat]
  | cons a l ih =>
    cases i with
    | zero => simp [flat]
    | succ i =>
      have e1 : ∀ l, flat (a :: l) = iv a.1 :: iv a.2 :: flat l := fun l => by simp [flat]
      rw [List.take_succ_cons, e1, e1, ih, show (i + 1) * 2 = i * 2 + 1 + 1 by omega, List.take_succ_cons, List.take_succ_cons]
theorem flat_drop (l : List W2) (i : Nat) : flat (l.drop i) = (flat l).drop (i * 2) := by
  induction l generalizing i with
  | nil => simp [flat]
  | cons a l ih =>
    cases i with
    | zero => simp
    | succ i =>
      have e1 : flat (a :: l) = iv a.1 :: iv a.2 :: flat l := by simp [flat]
      rw [List.drop_succ_cons, e1, ih, show (i + 1) * 2 = i * 2 + 1 + 1 by omega, List.drop_succ_cons, List.drop_succ_cons]
theorem flat_append (a b : List W2) : flat (a ++ b) = flat a ++ flat b := by simp [flat]
/-- a row whose first cells are those of l -/
theorem pairsIn_block {w : World} {g c : Nat} {t : TypeId} {cur : List Value} {l : List W2} (hg : w.heap[g]? = some (.cells cur.toArray t (0, 0))) (hc : l.length ≤ c) (hm : c ≤ maxLen) (h : cur.take (l.length * 2) = flat l) :
    PairsIn (fun k => k = g) w (.slice (some ⟨g, 0, none⟩) l.length c) l := by
  refine ⟨_, c, rfl, hc, hm, .inr ⟨g, 0, rfl, rfl, fun k e he => ?_⟩⟩
  have hk : k < l.length := (List.getElem?_eq_some_iff.1 he).1
  obtain ⟨f1, f2⟩ := flat_get l k e he
  rw [← h, List.getElem?_take_of_lt (by omega)] at f1 f2
  unfold World.cell?
  simp [hg]
  exact ⟨by simpa using f1, by simpa using f2⟩
/-- shift, then lay: what the row holds -/
theorem shifted {cur : List Value} {q : List W2} {i : Nat} (x : W2) (hi : i ≤ q.length) (hl : (q.length + 1) * 2 ≤ cur.length) (h : cur.take (q.length * 2) = flat q) :
    (splice (splice cur ((i + 1) * 2) (flat (q.drop i))) (i * 2) [iv x.1, iv x.2]).take ((q.length + 1) * 2) = flat (q.take i ++ x :: q.drop i) := by
  have hfd : (flat (q.drop i)).length = (q.length - i) * 2 := by rw [flat_length, List.length_drop]
  have hct : cur.take (i * 2) = flat (q.take i) := by rw [flat_take, ← h, List.take_take]; congr 1; omega
  rw [flat_append, show flat (x :: q.drop i) = [iv x.1, iv x.2] ++ flat (q.drop i) by simp [flat], ← hct]
  have e1 : (splice cur ((i + 1) * 2) (flat (q.drop i))).take (i * 2) = cur.take (i * 2) := by
    unfold splice
    rw [List.take_append_of_le_length (by rw [List.length_take]; omega), List.take_take]
    congr 1; omega
  have e2 : ((splice cur ((i + 1) * 2) (flat (q.drop i))).drop (i * 2 + 2)).take ((q.length - i) * 2) = flat (q.drop i) := by
    unfold splice
    rw [show i * 2 + 2 = (cur.take ((i + 1) * 2)).length by rw [List.length_take]; omega, List.drop_left, ← hfd, List.take_left]
  have e3 : (splice (splice cur ((i + 1) * 2) (flat (q.drop i))) (i * 2) [iv x.1, iv x.2]) = cur.take (i * 2) ++ ([iv x.1, iv x.2] ++ (splice cur ((i + 1) * 2) (flat (q.drop i))).drop (i * 2 + 2)) := by
    rw [show splice (splice cur ((i + 1) * 2) (flat (q.drop i))) (i * 2) [iv x.1, iv x.2] = (splice cur ((i + 1) * 2) (flat (q.drop i))).take (i * 2) ++ ([iv x.1, iv x.2] ++ (splice cur ((i + 1) * 2) (flat (q.drop i))).drop (i * 2 + [iv x.1, iv x.2].length)) from rfl, e1]
    rfl
  have hlt : (cur.take (i * 2)).length = i * 2 := by rw [List.length_take]; omega
  have e4 : (cur.take (i * 2)).take ((q.length + 1) * 2) = cur.take (i * 2) := List.take_of_length_le (by omega)
  have e5 : [iv x.1, iv x.2].take ([iv x.1, iv x.2].length + (q.length - i) * 2) = [iv x.1, iv x.2] := List.take_of_length_le (by omega)
  rw [e3, List.take_append, hlt, e4, show (q.length + 1) * 2 - i * 2 = [iv x.1, iv x.2].length + (q.length - i) * 2 by simp only [List.length_cons, List.length_nil]; omega, List.take_append, Nat.add_sub_cancel_left, e5, e2]

set_option maxRecDepth 100000 in
set_option maxHeartbeats 4000000 in
/-- at the end -/
theorem insert_end {w : World} {B : Nat} {v : Value} {q : List W2} (hown : w.ownsRow B 63 2 v q.length (flat q)) (hB : B ≤ w.heap.size) (hq : q.length ≤ 1000) {xb : Nat} {x : W2} (hx : w.heap[xb]? = some (.cells #[iv x.1, iv x.2] 63)) (hxb : v.ownBlock ≠ some xb) :
    Calls Try.prog 33 #[v, iv q.length, .slice (some ⟨xb, 0, none⟩) 1 1] w fun e w' => (∃ v', e = .returned v' ∧ PairsIn (fun k => B ≤ k ∧ k < w'.heap.size) w' v' (q ++ [x])) ∧ Chg (fun k => B ≤ k) w w' := by
  obtain ⟨i0, hi, hz0, hz1, hz2⟩ := info_parts Try.info63
  obtain ⟨a, c, rfl⟩ := own_form hown
  have HOWN := Lib.hid hown
  have HX : Hid (∀ (j : Nat) (u : Value), [iv x.1, iv x.2][j]? = some u → w.cell? ((⟨xb, 0, none⟩ : Addr).add j) = some u) := by
    intro j u hj
    rw [addr_add]
    simp only [World.cell?, hx]
    simpa using hj
  have hnc : q.length ≤ c := by
    rcases hown.2 with ⟨e, h0⟩ | ⟨g, cap, cur, e, hb, hg, h1, h2, -⟩
    · omega
    · cases e; exact h1
  clear hown hx
  go_enter Try.func33, Try.ntmps33
  go_wp2_with (at_builtin; refine wpList_append_own_at _ rfl _ _ 58 rfl B 63 i0 (.agg #[.int .i64 0, .int .i64 0]) 2 16 Try.underlying58 hi hz0 hz1 hz2 rfl (by decide) _ _ _ rfl HOWN.out ⟨xb, 0, none⟩ 1 1 [iv x.1, iv x.2] rfl rfl HX.out (by simp [Value.oneCell']) (by unfold maxLen; omega) (by omega) hB ?_; intro v' w1 hown1 hgrow hnil hloc)
  all_goals
    go_ret
    have hrow : w1.ownsRow B 63 2 v' (q ++ [x]).length (flat (q ++ [x])) := by
      rw [List.length_append, flat_snoc]
      exact hown1
    exact ⟨⟨_, rfl, pairsIn_row hrow⟩, chg_grown hgrow (fun k e => (ownsRow_base HOWN.out e).1)⟩

set_option maxRecDepth 100000 in
set_option maxHeartbeats 4000000 in
/-- ahead of others, where there is room -/
theorem insert_room {w : World} {g c i : Nat} {L : List Value} {q : List W2} (hg : w.heap[g]? = some (.cells L.toArray 63 (0, 0))) (hLc : L.length = c * 2) (hL : L.take (q.length * 2) = flat q) (hq : q.length ≤ 1000) (hi : i < q.length) (hc : q.length + 1 ≤ c) (hcm : c ≤ maxLen)
    {xb : Nat} {x : W2} (hx : w.heap[xb]? = some (.cells #[iv x.1, iv x.2] 63)) (hxb : xb ≠ g) :
    Calls Try.prog 33 #[.slice (some ⟨g, 0, none⟩) q.length c, iv i, .slice (some ⟨xb, 0, none⟩) 1 1] w fun e w' => (∃ v', e = .returned v' ∧ PairsIn (fun k => k = g) w' v' (q.take i ++ x :: q.drop i)) ∧ Chg (fun k => k = g) w w' := by
  have hcm' : c ≤ 9223372036854775807 := by unfold maxLen at hcm; omega
  have hi63 : (Try.prog.info? 63).map (·.size) = some 2 := by kernel_rfl
  have hov : ∀ lb cb, (callFunc 48 #[.slice (some ⟨xb, 0, none⟩) 1 1, .slice (some ⟨g, (i + 1) * 2, none⟩) lb cb]).run Try.prog w = .ok (.value (.bool false)) w := fun lb cb => by
    have hsx : w.shape? xb = some (63, 2) := by simp [World.shape?, hx]
    have hsg : w.shape? g = some (63, L.length) := by simp [World.shape?, hg]
    rw [run_callFunc_extern (P := Try.prog) (f := 48) (fn := Try.f48) (by kernel_rfl) (by kernel_rfl) (by kernel_rfl) (by kernel_rfl) (e := Extern.SlicesOverlaps.overlaps #[58, 58] #[4]) (by kernel_rfl),
      Lib.run_overlaps_apart w 58 4 63 Try.underlying58 2 (fun w => by kernel_rfl) ⟨xb, 0, none⟩ ⟨g, (i + 1) * 2, none⟩ 1 1 lb cb hxb 63 63 2 L.length hsx hsg (by omega) (free_block hx 0) (free_block hx 2)]
    rfl
  have hfd : (flat (q.drop i)).length = (q.length - i) * 2 := by rw [flat_length, List.length_drop]
  have hcp1 : ∀ ty dc sc, (Builtin.copy_ #[58, 58] ty #[.slice (some ⟨g, (i + 1) * 2, none⟩) (q.length - i) dc, .slice (some ⟨g, i * 2, none⟩) (q.length + 1 - i) sc]).run Try.prog w.drew = .ok (goInt (q.length - i)) (w.drew.setRow g (splice L ((i + 1) * 2) (flat (q.drop i))).toArray) := fun ty dc sc => by
    have := run_copy_row_s (P := Try.prog) w.drew 58 58 ty 63 2 g ((i + 1) * 2) (q.length - i) dc ⟨g, i * 2, none⟩ (q.length + 1 - i) sc L 63 (flat (q.drop i)) Try.underlying58 hi63 hg (by rw [hfd]; congr 1; simp only [Nat.min_def]; split <;> omega)
      (fun j v hj => by
        rw [addr_add]
        rw [flat_drop, List.getElem?_drop, ← hL] at hj
        have hjl : i * 2 + j < q.length * 2 := by
          have := (List.getElem?_eq_some_iff.1 hj).1
          rw [List.length_take] at this; omega
        rw [List.getElem?_take_of_lt hjl] at hj
        show w.cell? _ = _
        simp only [World.cell?, hg]
        simpa using hj) (by rw [hfd]; omega) (flat_one _)
    rw [this]
    congr 2
    simp only [Nat.min_def]; split <;> omega
  obtain ⟨L1, hL1⟩ : ∃ L1, L1 = splice L ((i + 1) * 2) (flat (q.drop i)) := ⟨_, rfl⟩
  rw [← hL1] at hcp1
  obtain ⟨W1, hW1⟩ : ∃ W1, W1 = w.drew.setRow g L1.toArray := ⟨_, rfl⟩
  rw [← hW1] at hcp1
  have hL1l : L1.length = L.length := by rw [hL1]; exact length_splice _ _ _ (by rw [hfd]; omega)
  have hch1 : Chg (fun k => k = g) w W1 := by
    rw [hW1]
    exact (chg_drewN (M := fun k => k = g) w 1).trans ⟨rfl, rfl, rfl, by simp [World.setRow], fun k _ hk => setRow_other _ g k _ hk⟩
  have hg1 : W1.heap[g]? = some (.cells L1.toArray 63 (0, 0)) := by rw [hW1]; exact setRow_heap _ g _ _ 63 _ hg
  have hx1 : W1.heap[xb]? = some (.cells #[iv x.1, iv x.2] 63) := (hch1.block xb (Array.getElem?_eq_some_iff.1 hx).1 hxb).trans hx
  have hcp2 : ∀ ty dc, (Builtin.copy_ #[58, 58] ty #[.slice (some ⟨g, i * 2, none⟩) (q.length + 1 - i) dc, .slice (some ⟨xb, 0, none⟩) 1 1]).run Try.prog W1 = .ok (goInt 1) (W1.setRow g (splice L1 (i * 2) [iv x.1, iv x.2]).toArray) := fun ty dc => by
    have := run_copy_row_s (P := Try.prog) W1 58 58 ty 63 2 g (i * 2) (q.length + 1 - i) dc ⟨xb, 0, none⟩ 1 1 L1 63 [iv x.1, iv x.2] Try.underlying58 hi63 hg1 (by simp only [Nat.min_def, List.length_cons, List.length_nil]; split <;> omega)
      (fun j v hj => by
        rw [addr_add]
        simp only [World.cell?, hx1]
        simpa using hj) (by rw [hL1l]; simp only [List.length_cons, List.length_nil]; omega) (by simp [Value.oneCell'])
    rw [this]
    congr 2
    simp only [Nat.min_def]; split <;> omega
  have HC1 := Lib.hid hcp1
  have HC2 := Lib.hid hcp2
  have HL1 := Lib.hid hL1
  have HG1 := Lib.hid hg1
  have HCH1 := Lib.hid hch1
  have b1 : (0 : Int) ≤ (i : Int) + 1 := by omega
  have b2 : ((i : Int) + 1).toNat = i + 1 := by omega
  have b3 : ¬ (c = i + 1) := by omega
  have b4 : ¬ (c = i) := by omega
  have b5 : (i : Int) ≤ (q.length : Int) + 1 := by omega
  have b6 : ¬ ((i : Int) = (q.length : Int)) := by omega
  have b7 : (i : Int) + 1 ≤ (q.length : Int) + 1 := by omega
  have b8 : ((q.length : Int) + 1).toNat = q.length + 1 := by omega
  have b9 : (q.length : Int) + 1 ≤ (c : Int) := by omega
  clear hcp1 hcp2 hL1 hg1 hch1 hW1 hx1
  go_enter Try.func33, Try.ntmps33
  go_wp2_with (simp only [hov])
  have hw1 : IntKind.i64.wrap ((i : Int) + 1) = (i : Int) + 1 := by rw [IntKind.wrap_i64]; omega
  have hcp1 := HC1.out
  go_region
  clear hw1 hcp1
  have hcp2 := HC2.out
  go_wp2
  go_ret
  refine ⟨⟨_, rfl, ?_⟩, HCH1.out.trans ⟨rfl, rfl, rfl, by simp [World.setRow], fun k _ hk => setRow_other _ g k _ hk⟩⟩
  have hlen : (q.take i ++ x :: q.drop i).length = q.length + 1 := by simp; omega
  rw [← hlen]
  refine pairsIn_block (cur := splice L1 (i * 2) [iv x.1, iv x.2]) (setRow_heap _ g _ _ 63 _ HG1.out) (by omega) hcm ?_
  rw [hlen, HL1.out]
  exact shifted x (by omega) (by omega) hL

theorem laid {R : List Value} {q : List W2} {i : Nat} (x : W2) (hi : i ≤ q.length) (hl : (q.length + 1) * 2 ≤ R.length) (h : R.take (i * 2) = flat (q.take i)) :
    (splice (splice R (i * 2) [iv x.1, iv x.2]) ((i + 1) * 2) (flat (q.drop i))).take ((q.length + 1) * 2) = flat (q.take i ++ x :: q.drop i) := by
  have hfd : (flat (q.drop i)).length = (q.length - i) * 2 := by rw [flat_length, List.length_drop]
  have hlt : (R.take (i * 2)).length = i * 2 := by rw [List.length_take]; omega
  have e1 : splice R (i * 2) [iv x.1, iv x.2] = R.take (i * 2) ++ ([iv x.1, iv x.2] ++ R.drop (i * 2 + 2)) := rfl
  have e2 : (splice R (i * 2) [iv x.1, iv x.2]).take ((i + 1) * 2) = R.take (i * 2) ++ [iv x.1, iv x.2] := by
    rw [e1, ← List.append_assoc]
    exact List.take_left' (by rw [List.length_append, hlt]; simp; omega)
  have e3 : splice (splice R (i * 2) [iv x.1, iv x.2]) ((i + 1) * 2) (flat (q.drop i)) = (R.take (i * 2) ++ [iv x.1, iv x.2]) ++ (flat (q.drop i) ++ (splice R (i * 2) [iv x.1, iv x.2]).drop ((i + 1) * 2 + (flat (q.drop i)).length)) := by
    rw [← e2]; rfl
  rw [e3, ← List.append_assoc, List.take_left' (by rw [List.length_append, List.length_append, hlt, hfd]; simp; omega), flat_append, show flat (x :: q.drop i) = [iv x.1, iv x.2] ++ flat (q.drop i) by simp [flat], h]
  simp

set_option maxRecDepth 100000 in
set_option maxHeartbeats 4000000 in
/-- ahead of others, where there is no room -/
theorem insert_grow {w : World} {g c i : Nat} {L : List Value} {q : List W2} (hg : w.heap[g]? = some (.cells L.toArray 63 (0, 0))) (hLc : L.length = c * 2) (hL : L.take (q.length * 2) = flat q) (hq : q.length ≤ 1000) (hi : i < q.length) (hqc : q.length ≤ c) (hc : c < q.length + 1)
    {xb : Nat} {x : W2} (hx : w.heap[xb]? = some (.cells #[iv x.1, iv x.2] 63)) :
    Calls Try.prog 33 #[.slice (some ⟨g, 0, none⟩) q.length c, iv i, .slice (some ⟨xb, 0, none⟩) 1 1] w fun e w' => (∃ v', e = .returned v' ∧ PairsIn (fun k => w.heap.size ≤ k ∧ k < w'.heap.size) w' v' (q.take i ++ x :: q.drop i)) ∧ Below w.heap.size w w' := by
  obtain rfl : c = q.length := by omega
  have hi63 : (Try.prog.info? 63).map (·.size) = some 2 := by kernel_rfl
  obtain ⟨i0, hi0, hz0, hz1, hz2⟩ := info_parts Try.info63
  have hgl : g < w.heap.size := (Array.getElem?_eq_some_iff.1 hg).1
  have hxl : xb < w.heap.size := (Array.getElem?_eq_some_iff.1 hx).1
  have hfd : (flat (q.drop i)).length = (q.length - i) * 2 := by rw [flat_length, List.length_drop]
  have hkk : (q.length : Int) + 1 - (i : Int) = ((q.length + 1 - i : Nat) : Int) := by omega
  have hik : i + (q.length + 1 - i) = q.length + 1 := by omega
  have hct : L.take (i * 2) = flat (q.take i) := by rw [flat_take, ← hL, List.take_take]; congr 1; omega
  have hold : (Builtin.firstCells i0.size i (.slice (some ⟨g, 0, none⟩) i q.length)).run Try.prog w.drew = .ok (L.take (i * 2)).toArray w.drew := by
    rw [hz1]
    refine run_firstCells_some w.drew 2 i ⟨g, 0, none⟩ i q.length (L.take (i * 2)) (by rw [List.length_take]; omega) (fun j v hj => ?_)
    rw [addr_add]
    have hj2 := (List.getElem?_eq_some_iff.1 hj).1
    rw [List.length_take] at hj2
    rw [List.getElem?_take_of_lt (by omega)] at hj
    show w.cell? _ = _
    simp only [World.cell?, hg]
    simpa using hj
  obtain ⟨G, hG⟩ : ∃ G, G = grownCap w (q.length + 1) q.length 63 := ⟨_, rfl⟩
  have hGn : q.length + 1 ≤ G := by rw [hG]; exact grownCap_ge _ _ _ _
  have hGm : G ≤ maxLen := by rw [hG]; exact grownCap_le_maxLen _ _ _ _ (by unfold maxLen; omega)
  obtain ⟨ROW, hROW⟩ : ∃ ROW : Array Value, ROW = (L.take (i * 2)).toArray ++ Builtin.zeroCells (Value.agg #[.int .i64 0, .int .i64 0]).cells (q.length + 1 - i) ++ Builtin.zeroCells (Value.agg #[.int .i64 0, .int .i64 0]).cells (G - (q.length + 1)) := ⟨_, rfl⟩
  have hrz : ∀ ty, (Builtin.append_ #[58, 3] ty #[.slice (some ⟨g, 0, none⟩) i q.length, .int .i64 ((q.length : Int) + 1 - (i : Int))]).run Try.prog w = .ok (.slice (some ⟨w.heap.size, 0, none⟩) (q.length + 1) G) (w.drew.alloc (.cells ROW 63)) := fun ty => by
    have h := Lib.run_append_grow_zeros w 58 3 ty 63 i0 _ .i64 .i64 Try.underlying58 Try.underlying3 hi0 hz0 (some ⟨g, 0, none⟩) i q.length (L.take (i * 2)) hold (q.length + 1 - i) (by omega) (by omega) (by omega) (by omega) (by rw [hz2]; omega) (by rw [hz2, hik]; exact growslice_fits (by omega) (by omega))
    rw [hik, ← hG, ← hROW] at h
    rw [hkk]
    exact h
  obtain ⟨R, hR⟩ : ∃ R, R = ROW.toList := ⟨_, rfl⟩
  have hRR : ROW = R.toArray := by rw [hR]
  have hRl : R.length = G * 2 := by
    rw [hR, hROW]
    simp [Builtin.zeroCells, Value.cells]
    omega
  have hRt : R.take (i * 2) = flat (q.take i) := by
    rw [hR, hROW, ← hct]
    simp only [Array.toList_append, List.append_assoc]
    exact List.take_left' (by rw [List.length_take]; omega)
  rw [hRR] at hrz
  obtain ⟨W1, hW1⟩ : ∃ W1, W1 = w.drew.alloc (.cells R.toArray 63) := ⟨_, rfl⟩
  rw [← hW1] at hrz
  have hb1 : Below w.heap.size w W1 := by rw [hW1]; exact ((Below.refl _ w).drew).alloc (Nat.le_refl _) _
  have hg1 : W1.heap[w.heap.size]? = some (.cells R.toArray 63 (0, 0)) := by rw [hW1]; exact Go.heap_alloc_new w.drew _
  have hx1 := (hb1.block xb hxl).trans hx
  obtain ⟨R1, hR1⟩ : ∃ R1, R1 = splice R (i * 2) [iv x.1, iv x.2] := ⟨_, rfl⟩
  have hR1l : R1.length = R.length := by rw [hR1]; exact length_splice _ _ _ (by simp; omega)
  have hcp1 : ∀ ty dc, (Builtin.copy_ #[58, 58] ty #[.slice (some ⟨w.heap.size, i * 2, none⟩) (q.length + 1 - i) dc, .slice (some ⟨xb, 0, none⟩) 1 1]).run Try.prog W1 = .ok (goInt 1) (W1.setRow w.heap.size R1.toArray) := fun ty dc => by
    have := run_copy_row_s (P := Try.prog) W1 58 58 ty 63 2 w.heap.size (i * 2) (q.length + 1 - i) dc ⟨xb, 0, none⟩ 1 1 R 63 [iv x.1, iv x.2] Try.underlying58 hi63 hg1 (by simp only [Nat.min_def, List.length_cons, List.length_nil]; split <;> omega)
      (fun j v hj => by
        rw [addr_add]
        simp only [World.cell?, hx1]
        simpa using hj) (by simp only [List.length_cons, List.length_nil]; omega) (by simp [Value.oneCell'])
    rw [this, ← hR1]
    congr 2
    simp only [Nat.min_def]; split <;> omega
  obtain ⟨W2, hW2⟩ : ∃ W2, W2 = W1.setRow w.heap.size R1.toArray := ⟨_, rfl⟩
  rw [← hW2] at hcp1
  have hb2 : Below w.heap.size w W2 := by rw [hW2]; exact below_setRow hb1 (Nat.le_refl _) _
  have hg2 : W2.heap[w.heap.size]? = some (.cells R1.toArray 63 (0, 0)) := by rw [hW2]; exact setRow_heap _ _ _ _ 63 _ hg1
  have hgg2 := (hb2.block g hgl).trans hg
  have hcp2 : ∀ ty dc sc, (Builtin.copy_ #[58, 58] ty #[.slice (some ⟨w.heap.size, (i + 1) * 2, none⟩) (q.length - i) dc, .slice (some ⟨g, i * 2, none⟩) (q.length - i) sc]).run Try.prog W2.drew = .ok (goInt (q.length - i)) (W2.drew.setRow w.heap.size (splice R1 ((i + 1) * 2) (flat (q.drop i))).toArray) := fun ty dc sc => by
    have := run_copy_row_s (P := Try.prog) W2.drew 58 58 ty 63 2 w.heap.size ((i + 1) * 2) (q.length - i) dc ⟨g, i * 2, none⟩ (q.length - i) sc R1 63 (flat (q.drop i)) Try.underlying58 hi63 hg2 (by rw [hfd]; congr 1; simp only [Nat.min_def]; split <;> omega)
      (fun j v hj => by
        rw [addr_add]
        rw [flat_drop, List.getElem?_drop, ← hL] at hj
        have hjl : i * 2 + j < q.length * 2 := by
          have := (List.getElem?_eq_some_iff.1 hj).1
          rw [List.length_take] at this; omega
        rw [List.getElem?_take_of_lt hjl] at hj
        show W2.cell? _ = _
        simp only [World.cell?, hgg2]
        simpa using hj) (by rw [hfd, hR1l, hRl]; omega) (flat_one _)
    rw [this]
    congr 2
    simp only [Nat.min_def]; split <;> omega
  have HRZ := Lib.hid hrz
  have HRL := Lib.hid hRl
  have HC1 := Lib.hid hcp1
  have HC2 := Lib.hid hcp2
  have HR1 := Lib.hid hR1
  have HRT := Lib.hid hRt
  have HB2 := Lib.hid hb2
  have HG2 := Lib.hid hg2
  have hR1G : R1.length = G * 2 := by omega
  have b1 : (0 : Int) ≤ (i : Int) + 1 := by omega
  have b2 : ((i : Int) + 1).toNat = i + 1 := by omega
  have b4 : ¬ (q.length = i) := by omega
  have b6 : ¬ ((i : Int) = (q.length : Int)) := by omega
  have b7 : (i : Int) + 1 ≤ (q.length : Int) + 1 := by omega
  have b10 : ¬ (G = i) := by omega
  have b11 : ¬ (G = i + 1) := by omega
  have b12 : ((q.length + 1 : Nat) : Int) = (q.length : Int) + 1 := by omega
  clear hrz hcp1 hcp2 hR1 hRt hb2 hg2 hb1 hg1 hx1 hW1 hW2 hR hRR hROW hold hkk hik hG hgg2 hR1l hRl hg hx
  go_enter Try.func33, Try.ntmps33
  have hcp1 := HC1.out
  go_wp2_with (at_builtin; refine Lib.wpList_append_run _ rfl _ _ _ _ rfl _ _ rfl rfl _ _ (HRZ.out _) ?_)
  clear hcp1
  have hw1 : IntKind.i64.wrap ((i : Int) + 1) = (i : Int) + 1 := by rw [IntKind.wrap_i64]; omega
  have hcp2 := HC2.out
  go_region
  clear hw1 hcp2
  go_wp2
  go_ret
  have hlen : (q.take i ++ x :: q.drop i).length = q.length + 1 := by simp; omega
  have hb3 : Below w.heap.size w (W2.drew.setRow w.heap.size (splice R1 ((i + 1) * 2) (flat (q.drop i))).toArray) := below_setRow (B := w.heap.size) (w := W2.drew) (HB2.out.drew) (Nat.le_refl _) _
  refine ⟨⟨_, rfl, ?_⟩, hb3⟩
  rw [← hlen]
  refine (pairsIn_block (w := W2.drew.setRow w.heap.size (splice R1 ((i + 1) * 2) (flat (q.drop i))).toArray) (g := w.heap.size) (t := 63) (cur := splice R1 ((i + 1) * 2) (flat (q.drop i))) (setRow_heap _ _ _ _ 63 _ HG2.out) (by omega) hGm ?_).mono (fun k hk => ⟨by omega, ?_⟩)
  · rw [hlen, HR1.out]
    exact laid x (by omega) (by have := HRL.out; omega) HRT.out
  · rw [hk]
    have := (Array.getElem?_eq_some_iff.1 HG2.out).1
    simpa [World.setRow] using this

/-- slices.Insert into a slice of the call's own -/
theorem insert_any {w : World} {B i : Nat} {v : Value} {q : List W2} (hown : w.ownsRow B 63 2 v q.length (flat q)) (hB : B ≤ w.heap.size) (hq : q.length ≤ 1000) (hi : i ≤ q.length) {xb : Nat} {x : W2} (hx : w.heap[xb]? = some (.cells #[iv x.1, iv x.2] 63)) (hxb : v.ownBlock ≠ some xb) :
    Calls Try.prog 33 #[v, iv i, .slice (some ⟨xb, 0, none⟩) 1 1] w fun e w' => (∃ v', e = .returned v' ∧ PairsIn (fun k => B ≤ k ∧ k < w'.heap.size) w' v' (q.take i ++ x :: q.drop i)) ∧ Chg (fun k => B ≤ k) w w' := by
  by_cases h : i = q.length
  · subst h
    have := insert_end hown hB hq hx hxb
    rw [List.take_length, List.drop_length]
    exact this
  · obtain ⟨hl, ⟨rfl, h0⟩ | ⟨g, c, cur, rfl, hb, hg, h1, h2, h3, h4⟩⟩ := hown
    · omega
    have hgl := (Array.getElem?_eq_some_iff.1 hg).1
    by_cases hc : q.length + 1 ≤ c
    · refine (insert_room (L := cur.toList) (by simpa using hg) (by simpa using h3) h4 hq (by omega) hc h2 hx (fun e => hxb (by rw [e]; rfl))).mono ?_
      rintro e w' ⟨⟨v', e1, hp⟩, hch⟩
      exact ⟨⟨v', e1, hp.mono (fun k hk => by have := hch.size; omega)⟩, hch.mono (fun k hk => by omega)⟩
    · refine (insert_grow (L := cur.toList) (by simpa using hg) (by simpa using h3) h4 hq (by omega) h1 (by omega) hx).mono ?_
      rintro e w' ⟨⟨v', e1, hp⟩, hch⟩
      exact ⟨⟨v', e1, hp.mono (fun k hk => by omega)⟩, chg_new hch⟩
end Go.Proofs.Ytamjopgpmeeheaa
