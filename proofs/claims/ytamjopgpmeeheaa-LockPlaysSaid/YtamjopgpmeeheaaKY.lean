/- The laws at a map's operations inside a fence; maps.Keys hands the keys. -/
import Derived.Test.YtamjopgpmeeheaaRF
import Derived.Test.YtamjopgpmeeheaaL1
namespace Go.Proofs.Ytamjopgpmeeheaa
open Go.RowKit Go.Shelf
open Go.ChangeMaps (setBlock)
set_option linter.unusedVariables false

section
variable {F : Fence} {n : Nat} {P : Program} {κ : Type} [DecidableEq κ] {k : TypeId} {enc : κ → Value} {ops : Array Oper} {rest : List Oper} {o : Oper} {a : Act} {Q : Exit → Act → World → Prop} {w : World}
theorem wpListIn_mapRange (hg : o.guard = none) (m : Operand) (t : TypeId) (hop : o.op = Op.range t m) {e : TypeId} (ht : P.underlying t = some (.map k e))
    {b : Nat} {f : κ → Option Value} (hm : a.eval m = .map (some b)) (h : MapIs enc w b f)
    (hK : ∀ ob c, Iter enc (w.alloc ob) w.heap.size b f (fun x => (f x).isSome) c → wpListIn F n P ops Q rest (a.put o.dst (.pointer (some ⟨w.heap.size, 0, none⟩))) (w.alloc ob)) : wpListIn F n P ops Q (o :: rest) a w := by
  refine wpListIn_plain hg fun K' hK' => ?_
  obtain ⟨ob, c, hrun, hi⟩ := h.range ht
  unfold Oper.wpIn
  refine ⟨by simp [Oper.about, hop], ?_⟩
  rw [Oper.semAt_plain F _ _ (by rw [hop]; intro c hc'; cases hc')]
  simp [execOp, hop, hm, hrun, Result.andThen]
  exact hK' _ _ (hK ob c hi)
theorem wpListIn_mapNext (hg : o.guard = none) (m : Operand) (hop : o.op = Op.next m false) (K : MKey P k enc)
    {r b c : Nat} {f : κ → Option Value} {L : κ → Prop} (hm : a.eval m = .pointer (some ⟨r, 0, none⟩)) (h : Iter enc w r b f L c)
    (h0 : (∀ x, ¬ L x) → wpListIn F n P ops Q rest (a.put o.dst (.tuple #[.bool false])) w)
    (hK : ∀ x v w1 ob n', L x → f x = some v → Stepped w w1 r → w1.heap[r]? = some ob → Iter enc w1 r b f (fun y => L y ∧ y ≠ x) n' → n' < c →
      (∀ w2 : World, w2.heap[b]? = w.heap[b]? → w2.heap[r]? = some ob → (Instr.entry (.pointer (some ⟨r, 0, none⟩))).run P w2 = .ok (.tuple #[enc x, v]) w2) →
      wpListIn F n P ops Q rest (a.put o.dst (.tuple #[.bool true, enc x, v])) w1) : wpListIn F n P ops Q (o :: rest) a w := by
  refine wpListIn_plain hg fun K' hK' => ?_
  unfold Oper.wpIn
  refine ⟨by simp [Oper.about, hop], ?_⟩
  rw [Oper.semAt_plain F _ _ (by rw [hop]; intro c hc'; cases hc')]
  rcases h.next K o.type with ⟨hL, hrun⟩ | ⟨x, v, w1, ob, n', hL, hf, hw1, hrun, hi, hlt, hen⟩
  · simp [execOp, hop, hm, hrun, Result.andThen]
    exact hK' _ _ (h0 hL)
  · simp [execOp, hop, hm, hrun, Result.andThen]
    have hs := stepped_of (r := r) ob hw1
    refine hK' _ _ (hK x v _ ob n' hL hf hs (heap_setBlock_same ?_ _) hi hlt hen)
    have := h.lt.2
    rcases hw1 with rfl | rfl <;> exact this
theorem wpListIn_mapStore (hg : o.guard = none) (m x v : Operand) (t : TypeId) (hop : o.op = Op.mapUpdate t m x v) (K : MKey P k enc) {e : TypeId} (ht : P.underlying t = some (.map k e))
    {b : Nat} {f : κ → Option Value} (hm : a.eval m = .map (some b)) (h : MapIs enc w b f) (key : κ) (hx : a.eval x = enc key) (val : Value) (hv : a.eval v = val)
    (hK : ∀ ob, MapIs enc (setBlock w b ob) b (upd f key (some val)) → wpListIn F n P ops Q rest (a.put o.dst undef) (setBlock w b ob)) : wpListIn F n P ops Q (o :: rest) a w := by
  refine wpListIn_plain hg fun K' hK' => ?_
  obtain ⟨es, clock, hrun, hview⟩ := h.store K ht key val
  unfold Oper.wpIn
  refine ⟨by simp [Oper.about, hop], ?_⟩
  rw [Oper.semAt_plain F _ _ (by rw [hop]; intro c hc'; cases hc')]
  simp [execOp, hop, hm, hx, hv, hrun, Result.andThen]
  exact hK' _ _ (hK _ ⟨es, clock, heap_setBlock_same h.lt _, hview⟩)
theorem wpListIn_mapDrop (hg : o.guard = none) (m x : Operand) (t k' : TypeId) (hop : o.op = .call { callee := .builtin .delete, args := #[m, x], argTypes := #[t, k'] }) (K : MKey P k enc) {e : TypeId} (ht : P.underlying t = some (.map k e))
    {b : Nat} {f : κ → Option Value} (hm : a.eval m = .map (some b)) (h : MapIs enc w b f) (key : κ) (hx : a.eval x = enc key)
    (hK : ∀ ob, MapIs enc (setBlock w b ob) b (upd f key none) → wpListIn F n P ops Q rest (a.put o.dst (.tuple #[])) (setBlock w b ob)) : wpListIn F n P ops Q (o :: rest) a w := by
  refine wpListIn_plain hg fun K' hK' => ?_
  obtain ⟨es, clock, hrun, hview⟩ := h.drop (ty := o.type) (k' := k') K ht key
  unfold Oper.wpIn
  refine ⟨by simp [Oper.about, hop, resolve, Target.leads, Sem.run_pure], ?_⟩
  rw [Oper.semAt_plain F _ _ (by rw [hop]; intro c hc'; cases hc')]
  simp [execOp, hop, resolve, invoke, builtin, hm, hx, hrun, Result.andThen]
  exact hK' _ _ (hK _ ⟨es, clock, heap_setBlock_same h.lt _, hview⟩)
end

attribute [local go_sem] Oper.semAt_some

def KeysOk (f : Int → Option Value) (pre : List Int) : Prop := pre.Nodup ∧ ∀ x ∈ pre, (f x).isSome
def KeysFull (f : Int → Option Value) (xs : List Int) : Prop := xs.Nodup ∧ ∀ x, x ∈ xs ↔ (f x).isSome
theorem keysOk_snoc {f : Int → Option Value} {pre : List Int} {x : Int} (h : KeysOk f pre) (hx : (f x).isSome ∧ x ∉ pre) : KeysOk f (pre ++ [x]) := by
  refine ⟨List.nodup_append.2 ⟨h.1, by simp, by rintro a ha b hb rfl; simp at hb; subst hb; exact hx.2 ha⟩, fun y hy => ?_⟩
  rcases List.mem_append.1 hy with hy | hy
  · exact h.2 y hy
  · simp at hy; subst hy; exact hx.1
theorem chg_step {M : Nat → Prop} {w w1 : World} {r B : Nat} (h : Stepped w w1 r) (hB : B ≤ r) (hn : ¬ M r) : Chg (fun k => (B ≤ k ∨ False) ∧ ¬ M k) w w1 :=
  ⟨h.1, h.2.1, h.2.2.1, by rw [h.2.2.2.1]; exact Nat.le_refl _, fun k _ hk => h.2.2.2.2 k (fun e => hk ⟨.inl (by omega), by rw [e]; exact hn⟩)⟩


theorem keys49_any (m : Nat) (w : World) : Calls Try.prog 69 #[.map (some m)] w fun e w' => e = .returned (.func (.func 83) #[] #[.pointer (some ⟨w.heap.size, 0, none⟩)]) ∧ (w.alloc (.cells #[.map (some m)] 49)) = w' := by
  have hmf : ∀ (fn : Fn) (first cap : Array Value) (w : World), (Instr.makeFunc fn first cap).run Try.prog w = .ok (.func fn first cap) w := fun _ _ _ _ => rfl
  go_enter Try.func69, Try.ntmps69
  go_wp2
  go_ret
  exact ⟨rfl, rfl⟩

set_option maxRecDepth 100000 in
set_option maxHeartbeats 2000000 in
theorem keys49_gives (n : Nat) (hn : 1 ≤ n) (Bs m : Nat) (f : Int → Option Value) (w : World) (hc : w.cell? ⟨Bs, 0, none⟩ = some (.map (some m))) (hI : MapIs iv w m f) :
    Gives Fence.wide n Try.prog 83 #[.pointer (some ⟨Bs, 0, none⟩)] (fun x : Int => #[Value.int .i64 x]) (KeysOk f) (KeysFull f) (fun k => k = Bs ∨ k = m) (fun _ => False) (fun _ _ => True) w := by
  intro l J Jx M0 W hW hWT hR hT hJ hJx hM hY h0
  have hc' : W.cell? ⟨Bs, 0, none⟩ = some (.map (some m)) := (hW.cell (p := ⟨Bs, 0, none⟩) (.inl rfl)).trans hc
  have hI' : MapIs iv W m f := hI.keep (hW m (.inr rfl))
  have HI := Lib.hid hI'
  have hml := hI'.lt
  refine callsIn_of_wp Try.func83 rfl trivial ?_ rfl
  simp only [Try.ntmps83, List.size_toArray, List.length_cons, List.length_nil, Nat.reduceAdd, Nat.reduceSub, Array.replicate_succ, Array.replicate_zero, List.push_toArray, List.append_toArray, List.nil_append, List.cons_append]
  have HY := Lib.hid hY
  have HR := Lib.hid hR
  have HM := Lib.hid hM
  have HJ := Lib.hid hJ
  have HJX := Lib.hid hJx
  clear hY hR hM hJ hJx hI hc hW hWT hT hI'
  gi_wp2_with (refine wpListIn_mapRange rfl _ 49 rfl Try.underlying49 rfl HI.out ?_; intro ob n0 hit)
  have HIT := Lib.hid hit
  have hne : m ≠ W.heap.size := by omega
  clear hit
  gi_loopw [3] (fun _ wr => ∃ (pre : List Int) (M : Nat → Prop) (c : Nat), J pre M wr ∧ Iter iv wr W.heap.size m f (fun x => (f x).isSome ∧ x ∉ pre) c ∧ KeysOk f pre ∧ (∀ k, M k → M0 k ∨ W.heap.size + 1 ≤ k) ∧ W.heap.size + 1 ≤ wr.heap.size)
    (fun _ wr => iterLeft W.heap.size m wr)
  case atStart =>
    refine ⟨[], M0, n0, HJ.out _ _ _ _ h0 (chg_alloc _ _), by simpa using HIT.out, ⟨List.nodup_nil, by simp⟩, fun k hk => .inl hk, by simp⟩
  case round =>
    obtain ⟨pre, M, c, hjs, hit, hok, hMM, hsz⟩ := hrel
    have hleft := hit.left
    have HIT2 := Lib.hid hit
    have HJS := Lib.hid hjs
    have HOK := Lib.hid hok
    have HMM := Lib.hid hMM
    clear hit hjs hok hMM
    gi_wp2_with (refine wpListIn_mapNext rfl _ rfl key3 rfl HIT2.out (fun hno => ?_) (fun x v w1 ob' n' hLx hfx hst hob hi' hlt hen => ?_); rotate_left; (have hen1 := hen w1 (hst.2.2.2.2 m hne) hob; have HST := Lib.hid hst; have HI2 := Lib.hid hi'; have hok2 := keysOk_snoc HOK.out hLx; have hj2 := HJ.out _ _ _ _ HJS.out (chg_step (M := M) hst (B := W.heap.size) (Nat.le_refl _) (fun hm => by rcases HMM.out _ hm with h | h; exact absurd (HM.out _ h).1 (Nat.lt_irrefl _); omega)); have hsz1 : wr.heap.size = w1.heap.size := hst.2.2.2.1.symm; obtain ⟨fn, tmps, assign, body, hy, hRR⟩ := HY.out pre x M w1 hok2 (by omega) hj2; have HOK2 := Lib.hid hok2; clear hst hi' hLx hen hfx hok2 hj2); rotate_left; (have HNO := Lib.hid hno; clear hno))
    · refine bodyPost_end (results_none rfl _ _ _) rfl ?_
      refine ⟨⟨_, rfl⟩, pre, M, .inl ⟨⟨HOK.out.1, fun x => ⟨HOK.out.2 x, fun hs => ?_⟩⟩, HJS.out, trivial⟩, fun k hk => (HMM.out k hk).imp id (fun h => by omega)⟩
      exact Classical.byContradiction (fun hn => HNO.out x ⟨hs, hn⟩)
    · refine hRR.mono ?_
      rintro e W3 ⟨M', hch, hM', (⟨rfl, hJ3⟩ | ⟨rfl, hJ3⟩)⟩
      · have hnr : ¬ M W.heap.size := fun hm => by
          rcases HMM.out _ hm with h | h
          · exact absurd (HM.out _ h).1 (Nat.lt_irrefl _)
          · omega
        have hnm : ¬ M m := fun hm => by
          rcases HMM.out _ hm with h | h
          · exact (HM.out _ h).2.1 (.inr rfl)
          · omega
        have hi3 := HI2.out.keep (w' := W3) (hch.block m (by omega) hnm) (hch.block W.heap.size (by omega) hnr)
        have HI3 := Lib.hid hi3
        clear hi3 hnr hnm
        gi_wp2
        go_roundw
        case rel =>
          refine ⟨pre ++ [x], M', n', hJ3, ?_, HOK2.out, fun k hk => ?_, Nat.le_trans (by omega) hch.size⟩
          · have e : (fun y => ((f y).isSome = true ∧ ¬y ∈ pre) ∧ y ≠ x) = (fun y => (f y).isSome = true ∧ ¬ y ∈ pre ++ [x]) := by
              funext y
              simp [and_assoc]
            rw [← e]; exact HI3.out
          · rcases hM' k hk with h | h
            · exact HMM.out k h
            · exact .inr (by omega)
        case measure =>
          rw [HI3.out.left]; omega
      · gi_wp2
        refine bodyPost_ret (results_none rfl _ _ _) rfl ?_
        refine ⟨⟨_, rfl⟩, _, M', .inr ⟨HOK2.out, hJ3⟩, fun k hk => ?_⟩
        rcases hM' k hk with h | h
        · exact (HMM.out k h).imp id (fun h => by omega)
        · exact .inr (by omega)


theorem keys57_any (m : Nat) (w : World) : Calls Try.prog 41 #[.map (some m)] w fun e w' => e = .returned (.func (.func 61) #[] #[.pointer (some ⟨w.heap.size, 0, none⟩)]) ∧ (w.alloc (.cells #[.map (some m)] 57)) = w' := by
  have hmf : ∀ (fn : Fn) (first cap : Array Value) (w : World), (Instr.makeFunc fn first cap).run Try.prog w = .ok (.func fn first cap) w := fun _ _ _ _ => rfl
  go_enter Try.func41, Try.ntmps41
  go_wp2
  go_ret
  exact ⟨rfl, rfl⟩

set_option maxRecDepth 100000 in
set_option maxHeartbeats 2000000 in
theorem keys57_gives (n : Nat) (hn : 1 ≤ n) (Bs m : Nat) (f : Int → Option Value) (w : World) (hc : w.cell? ⟨Bs, 0, none⟩ = some (.map (some m))) (hI : MapIs iv w m f) :
    Gives Fence.wide n Try.prog 61 #[.pointer (some ⟨Bs, 0, none⟩)] (fun x : Int => #[Value.int .i64 x]) (KeysOk f) (KeysFull f) (fun k => k = Bs ∨ k = m) (fun _ => False) (fun _ _ => True) w := by
  intro l J Jx M0 W hW hWT hR hT hJ hJx hM hY h0
  have hc' : W.cell? ⟨Bs, 0, none⟩ = some (.map (some m)) := (hW.cell (p := ⟨Bs, 0, none⟩) (.inl rfl)).trans hc
  have hI' : MapIs iv W m f := hI.keep (hW m (.inr rfl))
  have HI := Lib.hid hI'
  have hml := hI'.lt
  refine callsIn_of_wp Try.func61 rfl trivial ?_ rfl
  simp only [Try.ntmps61, List.size_toArray, List.length_cons, List.length_nil, Nat.reduceAdd, Nat.reduceSub, Array.replicate_succ, Array.replicate_zero, List.push_toArray, List.append_toArray, List.nil_append, List.cons_append]
  have HY := Lib.hid hY
  have HR := Lib.hid hR
  have HM := Lib.hid hM
  have HJ := Lib.hid hJ
  have HJX := Lib.hid hJx
  clear hY hR hM hJ hJx hI hc hW hWT hT hI'
  gi_wp2_with (refine wpListIn_mapRange rfl _ 57 rfl Try.underlying57 rfl HI.out ?_; intro ob n0 hit)
  have HIT := Lib.hid hit
  have hne : m ≠ W.heap.size := by omega
  clear hit
  gi_loopw [3] (fun _ wr => ∃ (pre : List Int) (M : Nat → Prop) (c : Nat), J pre M wr ∧ Iter iv wr W.heap.size m f (fun x => (f x).isSome ∧ x ∉ pre) c ∧ KeysOk f pre ∧ (∀ k, M k → M0 k ∨ W.heap.size + 1 ≤ k) ∧ W.heap.size + 1 ≤ wr.heap.size)
    (fun _ wr => iterLeft W.heap.size m wr)
  case atStart =>
    refine ⟨[], M0, n0, HJ.out _ _ _ _ h0 (chg_alloc _ _), by simpa using HIT.out, ⟨List.nodup_nil, by simp⟩, fun k hk => .inl hk, by simp⟩
  case round =>
    obtain ⟨pre, M, c, hjs, hit, hok, hMM, hsz⟩ := hrel
    have hleft := hit.left
    have HIT2 := Lib.hid hit
    have HJS := Lib.hid hjs
    have HOK := Lib.hid hok
    have HMM := Lib.hid hMM
    clear hit hjs hok hMM
    gi_wp2_with (refine wpListIn_mapNext rfl _ rfl key3 rfl HIT2.out (fun hno => ?_) (fun x v w1 ob' n' hLx hfx hst hob hi' hlt hen => ?_); rotate_left; (have hen1 := hen w1 (hst.2.2.2.2 m hne) hob; have HST := Lib.hid hst; have HI2 := Lib.hid hi'; have hok2 := keysOk_snoc HOK.out hLx; have hj2 := HJ.out _ _ _ _ HJS.out (chg_step (M := M) hst (B := W.heap.size) (Nat.le_refl _) (fun hm => by rcases HMM.out _ hm with h | h; exact absurd (HM.out _ h).1 (Nat.lt_irrefl _); omega)); have hsz1 : wr.heap.size = w1.heap.size := hst.2.2.2.1.symm; obtain ⟨fn, tmps, assign, body, hy, hRR⟩ := HY.out pre x M w1 hok2 (by omega) hj2; have HOK2 := Lib.hid hok2; clear hst hi' hLx hen hfx hok2 hj2); rotate_left; (have HNO := Lib.hid hno; clear hno))
    · refine bodyPost_end (results_none rfl _ _ _) rfl ?_
      refine ⟨⟨_, rfl⟩, pre, M, .inl ⟨⟨HOK.out.1, fun x => ⟨HOK.out.2 x, fun hs => ?_⟩⟩, HJS.out, trivial⟩, fun k hk => (HMM.out k hk).imp id (fun h => by omega)⟩
      exact Classical.byContradiction (fun hn => HNO.out x ⟨hs, hn⟩)
    · refine hRR.mono ?_
      rintro e W3 ⟨M', hch, hM', (⟨rfl, hJ3⟩ | ⟨rfl, hJ3⟩)⟩
      · have hnr : ¬ M W.heap.size := fun hm => by
          rcases HMM.out _ hm with h | h
          · exact absurd (HM.out _ h).1 (Nat.lt_irrefl _)
          · omega
        have hnm : ¬ M m := fun hm => by
          rcases HMM.out _ hm with h | h
          · exact (HM.out _ h).2.1 (.inr rfl)
          · omega
        have hi3 := HI2.out.keep (w' := W3) (hch.block m (by omega) hnm) (hch.block W.heap.size (by omega) hnr)
        have HI3 := Lib.hid hi3
        clear hi3 hnr hnm
        gi_wp2
        go_roundw
        case rel =>
          refine ⟨pre ++ [x], M', n', hJ3, ?_, HOK2.out, fun k hk => ?_, Nat.le_trans (by omega) hch.size⟩
          · have e : (fun y => ((f y).isSome = true ∧ ¬y ∈ pre) ∧ y ≠ x) = (fun y => (f y).isSome = true ∧ ¬ y ∈ pre ++ [x]) := by
              funext y
              simp [and_assoc]
            rw [← e]; exact HI3.out
          · rcases hM' k hk with h | h
            · exact HMM.out k h
            · exact .inr (by omega)
        case measure =>
          rw [HI3.out.left]; omega
      · gi_wp2
        refine bodyPost_ret (results_none rfl _ _ _) rfl ?_
        refine ⟨⟨_, rfl⟩, _, M', .inr ⟨HOK2.out, hJ3⟩, fun k hk => ?_⟩
        rcases hM' k hk with h | h
        · exact (HMM.out k h).imp id (fun h => by omega)
        · exact .inr (by omega)

end Go.Proofs.Ytamjopgpmeeheaa
