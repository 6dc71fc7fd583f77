/- slices.Delete of one who waits (58); slices.IndexFunc (56) with leave's closure (57). -/
import Derived.Test.YtamjopgpmeeheaaLI
namespace Go.Proofs.Ytamjopgpmeeheaa
open Go.RowKit
set_option linter.unusedVariables false

section
variable {P : Program}
theorem run_append_row (w : World) (t ty e : TypeId) (i : TypeInfo) (ht : P.underlying t = some (.slice e)) (hi : P.info? e = some i) (size : Nat) (hs : i.size = size)
    (g sLen sCap : Nat) (L : List Value) (tt : TypeId) (hg : w.heap[g]? = some (.cells L.toArray tt (0, 0))) (a : Addr) (m c : Nat) (news : List Value) (hl : news.length = m * size) (hnews : ∀ j u, news[j]? = some u → w.cell? (a.add j) = some u) (h1 : ∀ u ∈ news, u.oneCell' = true)
    (hroom : sLen + m ≤ sCap) (hfit : sLen * size + news.length ≤ L.length) :
    (Builtin.append_ #[t, t] ty #[.slice (some ⟨g, 0, none⟩) sLen sCap, .slice (some a) m c]).run P w = .ok (.slice (some ⟨g, 0, none⟩) (sLen + m) sCap) (w.setRow g (splice L (sLen * size) news).toArray) := by
  subst hs
  have hfc := run_firstCells_some (P := P) w i.size m a m c news hl hnews
  have hst := run_storeCells_at P g (sLen * i.size) tt news 0 L.toArray w hg (by simpa using hfit) h1
  simp only [Nat.add_zero] at hst
  simp [Builtin.append_, run_underlying ht, sizeOf, typeInfo, hi, Builtin.lenOf, hroom, hfc, addr_add, hst, splice]
theorem run_clear_row (w : World) (t e ty : TypeId) (z : Value) (ht : P.underlying t = some (.slice e)) (hv : ∀ w, (zeroValue e).run P w = .ok z w) (h1 : ∀ u ∈ z.cells.toList, u.oneCell' = true)
    (g o c : Nat) (L : List Value) (tt : TypeId) (hg : w.heap[g]? = some (.cells L.toArray tt (0, 0))) (hfit : o + z.cells.size ≤ L.length) (hz : (Builtin.zeroCells z.cells 1).toList = z.cells.toList) :
    (Builtin.clear_ #[t] ty #[.slice (some ⟨g, o, none⟩) 1 c]).run P w = .ok (.tuple #[]) (w.setRow g (splice L o z.cells.toList).toArray) := by
  have hst := run_storeCells_at P g o tt z.cells.toList 0 L.toArray w hg (by simpa using hfit) h1
  simp only [Nat.add_zero] at hst
  simp [Builtin.clear_, run_underlying ht, hv, hz, hst, splice]
theorem step_append_eq {ops : Array Oper} {o : Oper} {a : Act} {w : World} {K : Act → World → Prop} {Q : Exit → Act → World → Prop} {E : Prop}
    (hg : o.guard = none) (d x : Operand) (dT sT : TypeId) (hop : o.op = Op.call { callee := Callee.builtin Builtin.append, args := #[d, x], argTypes := #[dT, sT] })
    (v u : Value) (hd : a.eval d = v) (hx : a.eval x = u) {v' : Value} {w' : World} (hr : (Builtin.append_ #[dT, sT] o.type #[v, u]).run P w = .ok v' w') (hK : K (a.put o.dst v') w') :
    if Region.wanted o (yielded ops a.tmps) = true then Oper.wp P o a w K Q else E := by
  have hw : Region.wanted o (yielded ops a.tmps) = true := by simp [Region.wanted, hg]
  rw [if_pos hw]
  unfold Oper.wp
  simp [execOp, hop, resolve, invoke, builtin, hd, hx, hr, Result.andThen]
  exact hK
end
theorem Try.zero63 (w : World) : (zeroValue 63).run Try.prog w = .ok (.agg #[.int .i64 0, .int .i64 0]) w := by kernel_rfl
theorem zero63_cells : (Builtin.zeroCells (Value.agg #[.int .i64 0, .int .i64 0]).cells 1).toList = (Value.agg #[.int .i64 0, .int .i64 0]).cells.toList := by kernel_rfl

set_option maxRecDepth 100000 in
set_option maxHeartbeats 4000000 in
/-- slices.Delete(s, k, k + 1) of a row -/
theorem delete_row {w : World} {g c k n : Nat} {L : List Value} {q : List W2} (hg : w.heap[g]? = some (.cells L.toArray 63 (0, 0))) (h3 : L.length = c * 2) (hn : q.length = n + 1) (h1 : n + 1 ≤ c) (h2 : c ≤ maxLen) (h4 : L.take ((n + 1) * 2) = flat q) (hq : n ≤ 1000) (hk : k ≤ n) :
    Calls Try.prog 58 #[.slice (some ⟨g, 0, none⟩) (n + 1) c, iv k, iv ((k : Int) + 1)] w fun e w' => (∃ v', e = .returned v' ∧ PairsIn (fun b => b = g) w' v' (q.take k ++ q.drop (k + 1))) ∧ Chg (fun b => b = g) w w' := by
  obtain ⟨i0, hi0, hz0, hz1, hz2⟩ := info_parts Try.info63
  have hfd : (flat (q.drop (k + 1))).length = (n - k) * 2 := by rw [flat_length, List.length_drop]; omega
  -- the row behind the append
  obtain ⟨L1, hL1⟩ : ∃ L1, L1 = splice L (k * 2) (flat (q.drop (k + 1))) := ⟨_, rfl⟩
  have hL1l : L1.length = L.length := by rw [hL1]; exact length_splice _ _ _ (by rw [hfd]; omega)
  obtain ⟨W1, hW1⟩ : ∃ W1, W1 = w.drew.setRow g L1.toArray := ⟨_, rfl⟩
  have hch1 : Chg (fun b => b = g) w W1 := by
    rw [hW1]
    exact (chg_drewN (M := fun b => b = g) w 1).trans ⟨rfl, rfl, rfl, by simp [World.setRow], fun k _ hk => setRow_other _ g k _ hk⟩
  have hg1 : W1.heap[g]? = some (.cells L1.toArray 63 (0, 0)) := by rw [hW1]; exact setRow_heap _ g _ _ 63 _ hg
  have hap : ∀ (A : Addr) ty cx, (n - k ≠ 0 → A = ⟨g, (k + 1) * 2, none⟩) → (Builtin.append_ #[58, 58] ty #[.slice (some ⟨g, 0, none⟩) k c, .slice (some A) (n - k) cx]).run Try.prog w.drew = .ok (.slice (some ⟨g, 0, none⟩) n c) W1 := fun A ty cx hA => by
    have h := run_append_row (P := Try.prog) w.drew 58 ty 63 i0 Try.underlying58 hi0 2 hz1 g k c L 63 hg A (n - k) cx (flat (q.drop (k + 1))) hfd (fun j u hj => by
      have hj2 := (List.getElem?_eq_some_iff.1 hj).1
      rw [hA (by intro e; rw [hfd, e] at hj2; omega), addr_add]
      rw [flat_drop, List.getElem?_drop, ← h4, List.getElem?_take_of_lt (by rw [hfd] at hj2; omega)] at hj
      show w.cell? _ = _
      simp only [World.cell?, hg]
      simpa using hj) (flat_one _) (by omega) (by rw [hfd]; omega)
    rw [hW1, hL1, h, show k + (n - k) = n by omega]
  have hcl : ∀ ty cx, (Builtin.clear_ #[58] ty #[.slice (some ⟨g, n * 2, none⟩) 1 cx]).run Try.prog W1 = .ok (.tuple #[]) (W1.setRow g (splice L1 (n * 2) (Value.agg #[.int .i64 0, .int .i64 0]).cells.toList).toArray) := fun ty cx =>
    run_clear_row (P := Try.prog) W1 58 63 ty _ Try.underlying58 Try.zero63 (by simp [Value.cells, Value.oneCell']) g (n * 2) cx L1 63 hg1 (by rw [hL1l]; simp [Value.cells]; omega) zero63_cells
  have hfin : (splice L1 (n * 2) (Value.agg #[.int .i64 0, .int .i64 0]).cells.toList).take (n * 2) = flat (q.take k ++ q.drop (k + 1)) := by
    have e1 : (splice L1 (n * 2) (Value.agg #[.int .i64 0, .int .i64 0]).cells.toList).take (n * 2) = L1.take (n * 2) := by
      unfold splice
      exact List.take_left' (by rw [List.length_take]; omega)
    have e2 : (L.take (k * 2)).length = k * 2 := by rw [List.length_take]; omega
    have e3 : L.take (k * 2) = flat (q.take k) := by rw [flat_take, ← h4, List.take_take]; congr 1; omega
    rw [e1, hL1, flat_append, ← e3]
    unfold splice
    rw [← List.append_assoc]
    exact List.take_left' (by rw [List.length_append, e2, hfd]; omega)
  have HAP := Lib.hid hap
  have HCL := Lib.hid hcl
  have HCH1 := Lib.hid hch1
  have HG1 := Lib.hid hg1
  have HFIN := Lib.hid hfin
  have hlen : (q.take k ++ q.drop (k + 1)).length = n := by simp; omega
  have HLEN := Lib.hid hlen
  have b1 : (0 : Int) ≤ (k : Int) + 1 := by omega
  have b2 : ((k : Int) + 1).toNat = k + 1 := by omega
  have b3 : (k : Int) + 1 ≤ (n : Int) + 1 := by omega
  have b4 : ¬ ((k : Int) = (k : Int) + 1) := by omega
  have b5 : ¬ (c = k) := by omega
  have b6 : (k : Int) ≤ (k : Int) + 1 := by omega
  have b8 : k ≤ c := by omega
  have b9 : ¬ (c = n) := by omega
  have b10 : n + 1 - (k + 1) = n - k := by omega
  clear hap hcl hch1 hg1 hL1 h4 hW1 hfin hlen
  by_cases b7 : c = k + 1
  · subst b7
    obtain rfl : n = k := by omega
    have hap := HAP.out ⟨g, 0, none⟩ 58 0 (fun h => by omega)
    rw [Nat.sub_self] at hap
    have HAP2 := Lib.hid hap
    have hcl := HCL.out
    clear hap
    go_enter Try.func58, Try.ntmps58
    go_wp2
    go_region_law (refine step_append_eq rfl (.tmp 22) (.tmp 25) 58 58 rfl _ _ (by simp [Act.eval, Act.put]) (by simp [Act.eval, Act.put]) HAP2.out ?_)
    go_wp2
    go_ret
    have hb := pairsIn_block (w := W1.setRow g (splice L1 (n * 2) [.int .i64 0, .int .i64 0]).toArray) (g := g) (c := n + 1) (t := 63) (cur := splice L1 (n * 2) [.int .i64 0, .int .i64 0]) (l := q.take n ++ q.drop (n + 1)) (setRow_heap _ _ _ _ 63 _ HG1.out) (by rw [HLEN.out]; omega) h2 (by rw [HLEN.out]; exact HFIN.out)
    rw [HLEN.out] at hb
    exact ⟨⟨_, rfl, hb⟩, HCH1.out.trans ⟨rfl, rfl, rfl, by simp [World.setRow], fun k _ hk => setRow_other _ g k _ hk⟩⟩
  · have hcl := HCL.out
    go_enter Try.func58, Try.ntmps58
    go_wp2
    go_region_law (refine step_append_eq rfl (.tmp 22) (.tmp 25) 58 58 rfl _ _ (by simp [Act.eval, Act.put]) (by simp [Act.eval, Act.put]; done) (HAP.out ⟨g, (k + 1) * 2, none⟩ 58 (c - (k + 1)) (fun _ => rfl)) ?_)
    go_wp2
    go_ret
    have hb := pairsIn_block (w := W1.setRow g (splice L1 (n * 2) [.int .i64 0, .int .i64 0]).toArray) (g := g) (c := c) (t := 63) (cur := splice L1 (n * 2) [.int .i64 0, .int .i64 0]) (l := q.take k ++ q.drop (k + 1)) (setRow_heap _ _ _ _ 63 _ HG1.out) (by rw [HLEN.out]; omega) h2 (by rw [HLEN.out]; exact HFIN.out)
    rw [HLEN.out] at hb
    exact ⟨⟨_, rfl, hb⟩, HCH1.out.trans ⟨rfl, rfl, rfl, by simp [World.setRow], fun k _ hk => setRow_other _ g k _ hk⟩⟩

theorem delete_any {w : World} {B k : Nat} {v : Value} {q : List W2} (hown : w.ownsRow B 63 2 v q.length (flat q)) (hq : q.length ≤ 1000) (hk : k < q.length) :
    Calls Try.prog 58 #[v, iv k, iv ((k : Int) + 1)] w fun e w' => (∃ v', e = .returned v' ∧ PairsIn (fun b => B ≤ b ∧ b < w'.heap.size) w' v' (q.take k ++ q.drop (k + 1))) ∧ Chg (fun b => B ≤ b) w w' := by
  obtain ⟨hl, ⟨rfl, h0⟩ | ⟨g, c, cur, rfl, hb, hg, h1, h2, h3, h4⟩⟩ := hown
  · omega
  obtain ⟨L, rfl⟩ : ∃ L : List Value, cur = L.toArray := ⟨cur.toList, rfl⟩
  obtain ⟨n, hn⟩ : ∃ n, q.length = n + 1 := ⟨q.length - 1, by omega⟩
  have hgl := (Array.getElem?_eq_some_iff.1 hg).1
  rw [hn] at h1 h4 ⊢
  refine (delete_row (k := k) hg (by simpa using h3) hn h1 h2 h4 (by omega) (by omega)).mono ?_
  rintro e w' ⟨⟨v', e1, hp⟩, hch⟩
  exact ⟨⟨v', e1, hp.mono (fun b hb => by have := hch.size; omega)⟩, hch.mono (fun b hb => by omega)⟩

set_option maxRecDepth 100000 in
theorem closure_any {w : World} {cb : Nat} {t : Int} (hc : w.cell? ⟨cb, 0, none⟩ = some (iv t)) (e : W2) :
    Calls Try.prog 57 #[.agg #[iv e.1, iv e.2], .pointer (some ⟨cb, 0, none⟩)] w fun r w' => r = .returned (.bool (e.1 == t)) ∧ w.alloc (.cells #[iv e.1, iv e.2] 63) = w' := by
  have hcb : cb < w.heap.size := World.block_lt_of_cell? w _ hc
  have c1 : (w.alloc (.cells #[iv e.1, iv e.2] 63)).cell? ⟨cb, 0, none⟩ = some (iv t) := (World.cell?_of_block (w := w) (Go.heap_alloc_old w _ hcb)).trans hc
  go_enter Try.func57, Try.ntmps57
  go_wp2
  go_ret
  exact ⟨rfl, rfl⟩

set_option maxRecDepth 100000 in
set_option maxHeartbeats 1000000 in
theorem indexFunc_any {F : Nat → Prop} {w : World} {v : Value} {q : List W2} (h : PairsIn F w v q) (hF : ∀ k, F k → k < w.heap.size) {cb : Nat} {t : Int} (hc : w.cell? ⟨cb, 0, none⟩ = some (iv t)) :
    Calls Try.prog 56 #[v, .func (.func 57) #[] #[.pointer (some ⟨cb, 0, none⟩)]] w fun r w' => ((∃ k e, q[k]? = some e ∧ e.1 = t ∧ (∀ x ∈ q.take k, x.1 ≠ t) ∧ r = .returned (iv k)) ∨ ((∀ x ∈ q, x.1 ≠ t) ∧ r = .returned (iv (-1)))) ∧ Below w.heap.size w w' := by
  have hcb : cb < w.heap.size := World.block_lt_of_cell? w _ hc
  obtain ⟨a, cap, rfl, hlc, hcm, hx⟩ := h
  have hl2 : q.length ≤ 9223372036854775807 := by unfold maxLen at hcm; omega
  have HX := Lib.hid hx
  have HC := Lib.hid hc
  clear hx hlc hcm hc
  go_enter Try.func56, Try.ntmps56
  go_wp2
  go_loopw [8] (fun i wr => ∃ k : Nat, k ≤ q.length ∧ i = .int .i64 k ∧ (∀ x ∈ q.take k, x.1 ≠ t) ∧ Below w.heap.size w wr) (fun i _ => q.length - (Lib.intOf i).toNat)
  case atStart => exact ⟨0, Nat.zero_le _, rfl, by simp, Below.refl _ _⟩
  case round =>
    obtain ⟨k, hk, rfl, hno, hbel⟩ := hrel
    have HNO := Lib.hid hno
    have HBEL := Lib.hid hbel
    clear hno hbel
    by_cases hlt : k < q.length
    · obtain ⟨e, he⟩ : ∃ e, q[k]? = some e := ⟨_, List.getElem?_eq_getElem hlt⟩
      have HE := Lib.hid he
      rcases HX.out with h | ⟨g, off, rfl, hg, hcc⟩
      · rw [h] at hlt; simp at hlt
      obtain ⟨e0, e1⟩ := hcc k e he
      have d0 := (HBEL.out.cell (p := ⟨g, off + k * 2, none⟩) (hF _ hg)).trans e0
      have d1 := (HBEL.out.cell (p := ⟨g, off + k * 2 + 1, none⟩) (hF _ hg)).trans e1
      have HCL := Lib.hid (closure_any ((HBEL.out.cell (p := ⟨cb, 0, none⟩) hcb).trans HC.out) e)
      have q0 : (0 : Int) ≤ (k : Int) := by omega
      have q1 : (k : Int) < (q.length : Int) := by omega
      obtain ⟨et, em⟩ := e
      simp only at d0 d1 HCL
      clear hcc he e0 e1
      by_cases het : et = t
      · have hetb : (et == t) = true := beq_iff_eq.2 het
        rw [hetb] at HCL
        have HEQ := Lib.hid het
        clear het hetb
        go_wp2_with (go_at_call 57; refine HCL.out.mono ?_; rintro r w' ⟨rfl, rfl⟩)
        go_ret
        exact ⟨.inl ⟨k, _, HE.out, HEQ.out, HNO.out, rfl⟩, HBEL.out.alloc HBEL.out.size _⟩
      · have hetb : (et == t) = false := beq_false_of_ne het
        rw [hetb] at HCL
        have HNE := Lib.hid het
        clear het hetb
        go_wp2_with (go_at_call 57; refine HCL.out.mono ?_; rintro r w' ⟨rfl, rfl⟩)
        go_roundw
        case rel => exact ⟨k + 1, by omega, by go_num, fun x hx => by
          rw [List.take_add_one, HE.out] at hx
          rcases List.mem_append.1 hx with hx | hx
          · exact HNO.out x hx
          · simp at hx; rw [hx]; exact HNE.out, HBEL.out.alloc HBEL.out.size _⟩
        case measure => simp [Lib.intOf]; omega
    · obtain rfl : k = q.length := by omega
      rw [List.take_length] at HNO
      go_wp2
      go_ret
      exact ⟨.inr ⟨HNO.out, rfl⟩, HBEL.out⟩
end Go.Proofs.Ytamjopgpmeeheaa
