/- Sweep. -/
import Derived.Test.YtinkjhkbaadbpaaCV
import Derived.Test.YtinkjhkbaadbpaaRG
namespace Go.Proofs.Ytinkjhkbaadbpaa
open Go.RowKit Go.Shelf
open Go.ChangeMaps (setBlock)
set_option linter.unusedVariables false
attribute [local go_sem] Oper.semAt_some

/-- behind the sweep of some nodes -/
def Store.swept (S : Store) (T : Nat) (ids : List Int) : Store := ⟨fun id => if id ∈ ids then sweepV T (S.N id) else S.N id, S.given, S.last⟩
theorem swept_snoc (S : Store) (T : Nat) (ids : List Int) (x : Int) : S.swept T (ids ++ [x]) = (S.swept T ids).setN x (sweepV T (S.N x)) := by
  unfold Store.swept Store.setN
  congr 1
  funext i
  by_cases h : i = x
  · subst h; simp
  · simp [h]
theorem swept_all {S : Store} {T : Nat} {zs : List Int} (h : IdsOf S zs) : S.swept T zs = S.sweep T := by
  unfold Store.swept Store.sweep
  congr 1
  funext i
  by_cases hi : i ∈ zs
  · simp [hi]
  · have : S.N i = [] := Classical.byContradiction (fun hn => hi ((h.2 i).2 hn))
    simp [hi, this, sweepV]
def sweptSum (S : Store) (T : Nat) (ids : List Int) : Int := (ids.map fun id => (dropN T (S.N id) : Int)).sum
theorem sweptSum_snoc (S : Store) (T : Nat) (zs : List Int) (x : Int) : sweptSum S T (zs ++ [x]) = sweptSum S T zs + dropN T (S.N x) := by simp [sweptSum]
theorem sweptSum_bound {S : Store} {T : Nat} (h : ∀ id, (S.N id).length ≤ 1000000) : ∀ (zs : List Int), 0 ≤ sweptSum S T zs ∧ sweptSum S T zs ≤ zs.length * 1000000
  | [] => by simp [sweptSum]
  | x :: xs => by
    have h1 := sweptSum_bound (T := T) h xs
    have h2 := h x
    have h3 := dropN_le T (S.N x)
    simp only [sweptSum, List.map_cons, List.sum_cons, List.length_cons] at *
    omega

theorem ne_01 (n : Nat) : n ≠ n + 1 + 1 := by omega
theorem le_02 (n : Nat) : n ≤ n + 1 + 1 := by omega
theorem drop_len {D : Nat → Prop} {w : World} {vs : List Ver} {xs : List Value} (h : VersAre D w vs xs) {n : Nat} : (xs.drop (n * 8)).length = (vs.length - n) * 8 := by
  rw [List.length_drop, h.length]; omega
theorem drop_cells {W W2 : World} {g n c : Nat} {xs : List Value} (ho : W.ownsRow 0 93 8 (.slice (some ⟨g, 0, none⟩) n c) n xs) (hk : W2.heap[g]? = W.heap[g]?) {o : Nat} : ∀ j u, (xs.drop o)[j]? = some u → W2.drew.cell? ((⟨g, o, none⟩ : Addr).add j) = some u := by
  intro j u hu
  rcases ho.2 with ⟨e, _⟩ | ⟨g', cap', cur, e, _, hgg, h1, h2, h3, h4⟩
  · cases e
  · cases e
    rw [List.getElem?_drop] at hu
    have hj := (List.getElem?_eq_some_iff.1 hu).1
    have e1 : ((⟨g, o, none⟩ : Addr).add j) = ⟨g, o + j, none⟩ := by cases j <;> simp [Addr.add]
    rw [e1]
    rw [← h4, List.getElem?_take_of_lt (by rw [ho.1] at hj; exact hj)] at hu
    have hk2 := hk.trans hgg
    show W2.cell? _ = _
    simp only [World.cell?, hk2]
    simpa using hu
theorem ownsRow_le {w : World} {B B' e size n : Nat} {v : Value} {xs : List Value} (h : w.ownsRow B e size v n xs) (hB : B' ≤ B) : w.ownsRow B' e size v n xs := by
  refine ⟨h.1, ?_⟩
  rcases h.2 with h | ⟨g, cp, cur, e, hbg, r⟩
  · exact .inl h
  · exact .inr ⟨g, cp, cur, e, Nat.le_trans hB hbg, r⟩
theorem ne_of_lt1 {k n : Nat} (h : k + 1 ≤ n) : ¬ ((k : Int) = (n : Int)) := by omega
theorem eq_of_len1 {k n : Nat} (h : k + 1 = n) : (k : Int) + 1 = (n : Int) := by omega
theorem ne_of_len1 {k n : Nat} (h : ¬ (k + 1 = n)) : ¬ ((k : Int) + 1 = (n : Int)) := by omega
section
variable {F : Fence} {n : Nat} {P : Program} {κ : Type} [DecidableEq κ] {k : TypeId} {enc : κ → Value}
theorem wpListIn_mapDrop {ops : Array Oper} {rest : List Oper} {o : Oper} {a : Act} {Q : Exit → Act → World → Prop} {w : World} (hg : o.guard = none) (m x : Operand) (t k' : TypeId) (hop : o.op = .call { callee := .builtin .delete, args := #[m, x], argTypes := #[t, k'] }) (K : MKey P k enc) {e : TypeId} (ht : P.underlying t = some (.map k e))
    {b : Nat} {f : κ → Option Value} (hm : a.eval m = .map (some b)) (h : MapIs enc w b f) (key : κ) (hx : a.eval x = enc key)
    (hK : ∀ ob, MapIs enc (setBlock w b ob) b (upd f key none) → wpListIn F n P ops Q rest (a.put o.dst (.tuple #[])) (setBlock w b ob)) : wpListIn F n P ops Q (o :: rest) a w := by
  refine wpListIn_plain hg fun K' hK' => ?_
  obtain ⟨es, clock, hrun, hview⟩ := h.drop (ty := o.type) (k' := k') K ht key
  unfold Oper.wpIn
  refine ⟨by simp [Oper.about, hop, resolve, Target.leads, Sem.run_pure], ?_⟩
  rw [Oper.semAt_plain F _ _ (by rw [hop]; intro c hc'; cases hc')]
  simp [execOp, hop, resolve, invoke, builtin, hm, hx, hrun, Result.andThen]
  exact hK' _ _ (hK _ ⟨es, clock, heap_setBlock_same h.lt _, hview⟩)
end



/-- what a round of Sweep keeps -/
def SwInv (R D : Nat → Prop) (w : World) (s : Nat) (S : Store) (T : Nat) (pre : List Int) (M : Nat → Prop) (W : World) : Prop :=
  Boxed W w.heap.size 68 (.pointer (some ⟨s, 0, none⟩)) ∧ Boxed W (w.heap.size + 1) 66 (.int .u64 T) ∧ Boxed W (w.heap.size + 1 + 1) 3 (.int .i64 (sweptSum S T pre)) ∧ Chg R w W ∧
      ∃ R', StoreIn R' D W (.pointer (some ⟨s, 0, none⟩)) (S.swept T pre) ∧ (∀ k, R' k → (R k ∨ w.heap.size + 3 ≤ k) ∧ k < W.heap.size) ∧ (∀ k, M k ↔ R' k ∨ k = w.heap.size + 1 + 1)
theorem sw_fin {R D R' M : Nat → Prop} {w W w3 : World} {s m' : Nat} {S : Store} {T : Nat} {pre : List Int} {x : Int} {ob : Obj} {R'' : Nat → Prop}
    (hR : ∀ k, R k → k < w.heap.size) (hD : ∀ k, D k → k < w.heap.size) (hRD : ∀ k, R k → ¬ D k) (hm' : R' m') (hsz : w.heap.size + 3 ≤ W.heap.size)
    (i1 : Boxed W w.heap.size 68 (.pointer (some ⟨s, 0, none⟩))) (i2 : Boxed W (w.heap.size + 1) 66 (.int .u64 T)) (i4 : Chg R w W)
    (i6 : ∀ k, R' k → (R k ∨ w.heap.size + 3 ≤ k) ∧ k < W.heap.size) (i7 : ∀ k, M k ↔ R' k ∨ k = w.heap.size + 1 + 1)
    (hc3 : Chg (fun k => k = w.heap.size + 1 + 1) W w3) (hb3 : Boxed w3 (w.heap.size + 1 + 1) 3 (.int .i64 (sweptSum S T pre + dropN T (S.N x))))
    (hR'' : ∀ k, R'' k → R' k ∨ (W.heap.size ≤ k ∧ k < w3.heap.size)) (hR2 : ∀ k, R' k → R'' k)
    (hst : StoreIn R'' D (setBlock w3 m' ob) (.pointer (some ⟨s, 0, none⟩)) ((S.swept T pre).setN x (sweepV T (S.N x)))) :
    ∃ M', Chg M W (setBlock w3 m' ob) ∧ (∀ k, M' k → M k ∨ W.heap.size ≤ k) ∧ SwInv R D w s S T (pre ++ [x]) M' (setBlock w3 m' ob) := by
  have hml := (i6 m' hm').2
  have hne : ∀ k, k < w.heap.size + 3 → k ≠ m' → w.heap.size ≤ k → True := fun _ _ _ _ => trivial
  have hm0 : m' < w.heap.size ∨ w.heap.size + 3 ≤ m' := by
    rcases (i6 m' hm').1 with h | h
    · exact .inl (hR m' h)
    · exact .inr h
  have hch : Chg M W (setBlock w3 m' ob) := (hc3.mono (fun k hk => (i7 k).2 (.inr hk))).trans (chg_setBlock ((i7 m').2 (.inl hm')) ob)
  refine ⟨fun k => R'' k ∨ k = w.heap.size + 1 + 1, hch, ?_, ?_, ?_, ?_, ?_, R'', ?_, ?_, fun k => Iff.rfl⟩
  · rintro k (h | h)
    · rcases hR'' k h with h | h
      · exact .inl ((i7 k).2 (.inl h))
      · exact .inr h.1
    · exact .inl ((i7 k).2 (.inr h))
  · exact (heap_setBlock_other _ (by omega)).trans ((hc3.block _ (by omega) (by omega)).trans i1)
  · exact (heap_setBlock_other _ (by omega)).trans ((hc3.block _ (by omega) (by omega)).trans i2)
  · rw [sweptSum_snoc]
    exact (heap_setBlock_other _ (by omega)).trans hb3
  · refine i4.andThen hch (fun k hk h => ?_)
    rcases (i7 k).1 h with h | h
    · rcases (i6 k h).1 with h | h
      · exact h
      · omega
    · omega
  · rw [swept_snoc]
    exact hst
  · intro k hk
    rcases hR'' k hk with h | h
    · refine ⟨(i6 k h).1, ?_⟩
      have := (i6 k h).2
      have := hc3.size
      rw [size_setBlock]; omega
    · exact ⟨.inr (by omega), by rw [size_setBlock]; exact h.2⟩

set_option maxRecDepth 100000 in
set_option maxHeartbeats 8000000 in
theorem sweep_any {R D : Nat → Prop} {w : World} {p : Value} {S : Store} (h : StoreIn R D w p S) (hS : S.Wf) (T : Nat) (hK : S.Keys) (hR : ∀ k, R k → k < w.heap.size) (hD : ∀ k, D k → k < w.heap.size) (hRD : ∀ k, R k → ¬ D k) (hg0 : 0 ≤ S.given) (hg : S.given ≤ 1099511627776) (hlen : ∀ id, (S.N id).length ≤ 1000000) :
    Calls Try.prog 52 #[p, .int .u64 T] w fun e w' => (∃ zs, IdsOf S zs ∧ e = .returned (.int .i64 (sweptSum S T zs))) ∧ Chg R w w' ∧ ∃ R', StoreAt R' D w' p (S.sweep T) ∧ (∀ k, R' k → R k ∨ w.heap.size ≤ k) := by
  have hkeep := fun (w' : World) (hb : Below w.heap.size w w') => h.keep (w' := w') ((keeps_below hb).mono hR) ((keeps_below hb).mono hD)
  have HE := Lib.hid (fun (w' : World) (hb : Below w.heap.size w w') => each_any (hkeep w' hb) hK hg0 hg)
  have HKP := Lib.hid hkeep
  have HIS := Lib.hid h
  clear hkeep
  obtain ⟨s, m, f, rfl, hs, hm, hb, hf, h1, h2, h3⟩ := h
  have hslt : s < w.heap.size := hR s hs
  have hb1 : ∀ o, Below w.heap.size w (w.alloc o) := fun o => (Below.refl _ w).alloc (Nat.le_refl _) _
  have c0 : w.cell? ⟨s, 0, none⟩ = some (.map (some m)) := by simp [World.cell?, hb]
  have hb2 : ∀ o o', Below w.heap.size w ((w.alloc o).alloc o') := fun o o' => (hb1 o).alloc (by simp) _
  have hb3 : ∀ o o' o'', Below w.heap.size w (((w.alloc o).alloc o').alloc o'') := fun o o' o'' => (hb2 o o').alloc (by simp; omega) _
  have c0' : ∀ o o', ((w.alloc o).alloc o').cell? ⟨s, 0, none⟩ = some (.map (some m)) := fun o o' => ((hb2 o o').cell (p := ⟨s, 0, none⟩) hslt).trans c0
  clear hb hf h1 h2 h3
  refine (callsIn_wide (n := 10)).1 ?_
  refine callsIn_of_wp_marks Try.func52 rfl trivial ?_ rfl
  simp only [Try.ntmps52, List.size_toArray, List.length_cons, List.length_nil, Nat.reduceAdd, Nat.reduceSub, Array.replicate_succ, Array.replicate_zero, List.push_toArray, List.append_toArray, List.nil_append, List.cons_append]
  gi_wp2_with (first
    | (refine ⟨trivial, ?_⟩; gi_at_call 91; refine (callsIn_wide.2 (none_no s m _ (c0' _ _))).mono ?_; rintro e w' ⟨rfl, rfl⟩)
    | (gi_at_call 91; refine (callsIn_wide.2 (none_no s m _ (c0' _ _))).mono ?_; rintro e w' ⟨rfl, rfl⟩))
  have hb4 : Below w.heap.size w (((w.alloc (.cells #[.pointer (some ⟨s, 0, none⟩)] 68)).alloc (.cells #[.int .u64 T] 66)).alloc (.cells #[.int .i64 0] 3)) := hb3 _ _ _
  refine ⟨trivial, (callsIn_wide.2 (HE.out _ hb4)).mono ?_⟩
  rintro e w3 ⟨B, sv, zs, rfl, hsv, hB1, hB2, hints, hids, hbel⟩
  have z0 : (((w.alloc (.cells #[.pointer (some ⟨s, 0, none⟩)] 68)).alloc (.cells #[.int .u64 T] 66)).alloc (.cells #[.int .i64 0] 3)).heap.size = w.heap.size + 3 := by simp
  have bP : Boxed w3 w.heap.size 68 (.pointer (some ⟨s, 0, none⟩)) := (hbel.block w.heap.size (by omega)).trans ((Go.heap_alloc_old _ _ (by simp; omega)).trans ((Go.heap_alloc_old _ _ (by simp)).trans (Go.heap_alloc_new w _)))
  have bT : Boxed w3 (w.heap.size + 1) 66 (.int .u64 T) := (hbel.block (w.heap.size + 1) (by omega)).trans ((Go.heap_alloc_old _ _ (by simp)).trans (by simpa using Go.heap_alloc_new (w.alloc (.cells #[.pointer (some ⟨s, 0, none⟩)] 68)) (.cells #[.int .u64 T] 66)))
  have bN : Boxed w3 (w.heap.size + 1 + 1) 3 (.int .i64 0) := (hbel.block (w.heap.size + 1 + 1) (by omega)).trans (by simpa using Go.heap_alloc_new ((w.alloc (.cells #[.pointer (some ⟨s, 0, none⟩)] 68)).alloc (.cells #[.int .u64 T] 66)) (.cells #[.int .i64 0] 3))
  have hb5 : Below w.heap.size w w3 := hb4.trans (hbel.mono (by omega))
  have hs3 : w.heap.size + 3 ≤ w3.heap.size := by have := hbel.size; omega
  rw [z0] at hB1 hints
  have hidl := idsOf_length hids hK hg0
  have BP := Lib.hid bP
  have BT := Lib.hid bT
  have BN := Lib.hid bN
  have HIDS := Lib.hid hids
  clear bP bT bN hids z0
  gi_wp2
  refine wpIn_rangeFunc_gives rfl (by omega) (gf := 144) (lb := #[.pointer (some ⟨B, 0, none⟩)]) rfl trivial (enters_of Try.func144 (by kernel_rfl) rfl)
    (values_gives 9 (by omega) B _ sv zs w3 hsv hints) (Keeps.refl _ _) (fun k hk => by rcases hk with rfl | h; exact hB2; exact h.2) (fun _ => rfl)
    (fun pre M W => Boxed W w.heap.size 68 (.pointer (some ⟨s, 0, none⟩)) ∧ Boxed W (w.heap.size + 1) 66 (.int .u64 T) ∧ Boxed W (w.heap.size + 1 + 1) 3 (.int .i64 (sweptSum S T pre)) ∧ Chg R w W ∧
      ∃ R', StoreIn R' D W (.pointer (some ⟨s, 0, none⟩)) (S.swept T pre) ∧ (∀ k, R' k → (R k ∨ w.heap.size + 3 ≤ k) ∧ k < W.heap.size) ∧ (∀ k, M k ↔ R' k ∨ k = w.heap.size + 1 + 1))
    (fun _ _ _ _ => False)
    (fun pre M A A' ⟨i1, i2, i3, i4, R', i5, i6, i7⟩ hc => ⟨chg_boxed hc (fun h => by omega) i1, chg_boxed hc (fun h => by omega) i2, chg_boxed hc (fun h => h.2 ((i7 _).2 (.inr rfl))) i3, i4.andThen hc (fun k hk h => by omega), R', i5.keep (fun k hk => hc.block k (i6 k hk).2 (fun h => h.2 ((i7 k).2 (.inl hk)))) (fun k hk => hc.block k (Nat.lt_of_lt_of_le (hD k hk) i4.size) (fun h => by have := hD k hk; omega)), fun k hk => ⟨(i6 k hk).1, Nat.lt_of_lt_of_le (i6 k hk).2 hc.size⟩, i7⟩)
    (fun _ _ _ _ _ hs _ => hs) (fun k => R k ∨ k = w.heap.size + 1 + 1) (fun k hk => ⟨by rcases hk with h | h; (have := hR k h; omega); omega, fun h => by rcases h with h | h; (rcases hk with h2 | h2; (have := hR k h2; omega); omega); (have := h.1; rcases hk with h2 | h2; (have := hR k h2; omega); omega)⟩)
    ⟨BP.out, BT.out, by simpa [sweptSum] using BN.out, chg_new hb5, R, by have := HKP.out w3 hb5; simpa [Store.swept] using this, fun k hk => ⟨.inl hk, by have := hR k hk; omega⟩, fun _ => Iff.rfl⟩
    (fun x => { tmps := #[.pointer (some ⟨s, 0, none⟩), .int .u64 T, .pointer (some ⟨w.heap.size, 0, none⟩), .pointer (some ⟨w.heap.size + 1, 0, none⟩), .int .i64 0, .pointer (some ⟨w.heap.size + 1 + 1, 0, none⟩), .int .i64 x, undef, undef, .pointer (some ⟨s, 0, none⟩), .bool false, .pointer (some ⟨s, 0, none⟩), .func (.func 144) #[] #[.pointer (some ⟨B, 0, none⟩)], .int .i64 x, undef, undef, undef, undef, undef, undef, undef, undef, undef, undef, undef, undef, undef, undef, undef, undef, undef, undef, undef, undef, undef, undef, undef, undef, undef, undef, undef, undef, undef, undef, undef, undef, undef, undef, undef, undef, undef, undef, undef, undef, undef, undef, undef, undef, undef], defers := [] }) ?assign ?body ?done ?stop
  case assign =>
    intro l x W K hK
    gi_wp2
    exact hK
  case body =>
    rintro l pre x M W hpre hsz ⟨i1, i2, i3, i4, R', i5, i6, i7⟩
    have hxz : x ∈ zs := hpre.subset (by simp)
    have hxp : x ∉ pre := fun hx => by
      have h1 := HIDS.out.1.sublist hpre.sublist
      rw [List.pairwise_append] at h1
      have := h1.2.2 x hx x (by simp)
      omega
    have hNx : (S.swept T pre).N x = S.N x := by simp [Store.swept, hxp]
    have hne : S.N x ≠ [] := (HIDS.out.2 x).1 hxz
    obtain ⟨s', m', f', he, hs', hm', hb', hf', g1, g2, g3⟩ := i5
    obtain rfl : s = s' := by cases he; rfl
    clear he
    obtain ⟨v, hfx⟩ : ∃ v, f' x = some v := by
      cases e : f' x with
      | none => exact absurd (hNx ▸ g2 x e) hne
      | some v => exact ⟨v, rfl⟩
    have hrow := g1 x v hfx
    rw [hNx] at hrow
    obtain ⟨g, cap, rfl, hgR, hgl, hcells⟩ := ver_cells hrow
    obtain ⟨-, g', cap', xs, eg, -, hown, hvers⟩ := hrow
    obtain ⟨rfl, rfl⟩ : g = g' ∧ cap = cap' := by cases eg; exact ⟨rfl, rfl⟩
    clear eg
    have hlk : ∀ W' : World, W'.heap[m']? = W.heap[m']? → (Instr.lookup 96 (.map (some m')) (.int .i64 x) false).run Try.prog W' = .ok (.slice (some ⟨g, 0, none⟩) (S.N x).length cap) W' := fun W' hW' => by
      have := (hf'.keep hW').look key3 Try.underlying96 Try.zero79 x false
      rw [hfx] at this
      exact this
    have hlk0 := hlk W rfl
    have hbeh := behind_any (fun k => (((S.N x)[k]?).map (·.time)).getD 0) T (S.N x).length cap g 0 W (hS.len x) ?hmono hgl ?hc
    case hmono =>
      intro i j hij hj hi
      by_cases e : i = j
      · subst e; exact hi
      · have hil : i < (S.N x).length := by omega
        have := List.pairwise_iff_getElem.1 (hS.rise x) i j hil hj (by omega)
        simp only [List.getElem?_eq_getElem hil, List.getElem?_eq_getElem hj, Option.map_some, Option.getD_some] at hi ⊢
        omega
    case hc =>
      intro k hk
      obtain ⟨kv, av, -, -, hc⟩ := hcells k _ (List.getElem?_eq_getElem hk)
      have := hc 0 _ rfl
      rw [Nat.zero_add]
      simpa [List.getElem?_eq_getElem hk] using this
    have hRs : s < W.heap.size := (i6 s hs').2
    have hRm : m' < W.heap.size := (i6 m' hm').2
    have d0 := i1.cell
    have d1 := i2.cell
    have d2 := i3.cell
    have d3 := i3.frozen
    have d4 : W.cell? ⟨s, 0, none⟩ = some (.map (some m')) := by simp [World.cell?, hb']
    have hl0 := i1.lt
    have hl1 := i2.lt
    have hl2 := i3.lt
    have hpl : pre.length ≤ zs.length := by have := hpre.length_le; simp at this; omega
    have hbnd := sweptSum_bound (T := T) hlen pre
    have hlx := hlen x
    have HBH := Lib.hid hbeh
    have HCELLS := Lib.hid hcells
    have HLK := Lib.hid hlk
    have HOWN := Lib.hid hown
    have HVERS := Lib.hid hvers
    have I1 := Lib.hid i1
    have I2 := Lib.hid i2
    have I3 := Lib.hid i3
    have I4 := Lib.hid i4
    have I6 := Lib.hid i6
    have I7 := Lib.hid i7
    have GB := Lib.hid hb'
    have GF := Lib.hid hf'
    have G1 := Lib.hid g1
    have G2 := Lib.hid g2
    have G3 := Lib.hid g3
    have HNX := Lib.hid hNx
    have HNE := Lib.hid hne
    have D4 := Lib.hid d4
    have HGB : Hid (g ≠ w.heap.size + 1 + 1) := by
      rcases (i6 g hgR).1 with h | h
      · have := hR g h; show g ≠ _; omega
      · show g ≠ _; omega
    have HMB : Hid (m' ≠ w.heap.size + 1 + 1) := by
      rcases (i6 m' hm').1 with h | h
      · have := hR m' h; show m' ≠ _; omega
      · show m' ≠ _; omega
    have hlpos : 0 < (S.N x).length := List.length_pos_iff.2 hne
    clear hbeh hcells hlk hown hvers i1 i2 i3 i4 i6 i7 hb' hf' g1 g2 g3 hNx hne hfx
    have hmx : Try.prog.follows .mixedOrders = true := by kernel_rfl
    have hlcap : (S.N x).length ≤ cap := by
      rcases HOWN.out.2 with ⟨e, _⟩ | ⟨g', cp, cur, e, _, _, h1, _⟩
      · cases e
      · cases e; exact h1
    have HM0 : Hid (w.heap.size ≠ m') := by
      rcases (I6.out m' hm').1 with h | h
      · have := hR m' h; show _ ≠ m'; omega
      · show _ ≠ m'; omega
    have HSM : Hid (s ≠ m') := by
      obtain ⟨es, cl, e4, _⟩ := GF.out
      show s ≠ m'
      rintro rfl
      have := GB.out
      rw [e4] at this; cases this
    have HRD2 : Hid (∀ k, R' k → ¬ D k) := fun k hk hd => by
      rcases (I6.out k hk).1 with h | h
      · exact hRD k h hd
      · have := hD k hd; omega
    have HRB : Hid (∀ k, R' k ∨ D k → k < W.heap.size ∧ k ≠ w.heap.size + 1 + 1) := fun k hk => by
      rcases hk with hk | hk
      · refine ⟨(I6.out k hk).2, ?_⟩
        rcases (I6.out k hk).1 with h | h
        · have := hR k h; omega
        · omega
      · have h1 := hD k hk
        have h2 := I4.out.size
        exact ⟨by omega, by omega⟩
    gi_upto_region 8 with ((refine ⟨trivial, ?_⟩; gi_at_call 95; refine (callsIn_wide.2 HBH.out).mono ?_; rintro e w1 ⟨⟨q, hq, rfl, ht1, ht2⟩, hb1⟩; have T1 := Lib.hid ht1; have T2 := Lib.hid ht2; clear ht1 ht2; have d0 := (hb1.cell (p := ⟨w.heap.size, 0, none⟩) hl0).trans d0; have d1 := (hb1.cell (p := ⟨w.heap.size + 1, 0, none⟩) hl1).trans d1; have d2 := (hb1.cell (p := ⟨w.heap.size + 1 + 1, 0, none⟩) hl2).trans d2; have d3 := (hb1.frozen (p := ⟨w.heap.size + 1 + 1, 0, none⟩) hl2).trans d3; have d4 := (hb1.cell (p := ⟨s, 0, none⟩) hRs).trans d4))
    cases q with
    | zero =>
      have hlz : ¬ ((S.N x).length = 0) := by omega
      have hlz1 : ¬ (((S.N x).length : Int) = 0) := by omega
      have hlz2 : ¬ ((0 : Int) = ((S.N x).length : Int)) := by omega
      gi_upto_region 13 with fail
      have hdn : dropN T (S.N x) = 0 := dropN_zero (fun k v hk => by
        have := T2.out k (Nat.zero_le _) (List.getElem?_eq_some_iff.1 hk).1
        simpa [hk] using this)
      have HDN := Lib.hid hdn
      clear hdn
      obtain ⟨W2, hW2⟩ : ∃ W2, w1.setCell ⟨w.heap.size + 1 + 1, 0, none⟩ (.int .i64 (sweptSum S T pre)) = W2 := ⟨_, rfl⟩
      have hch2 : Chg (fun k => k = w.heap.size + 1 + 1) W (w1.setCell ⟨w.heap.size + 1 + 1, 0, none⟩ (.int .i64 (sweptSum S T pre))) := (chg_new hb1).trans (chg_set (M := fun k => k = w.heap.size + 1 + 1) rfl 0 _)
      have hbx2 : Boxed (w1.setCell ⟨w.heap.size + 1 + 1, 0, none⟩ (.int .i64 (sweptSum S T pre))) (w.heap.size + 1 + 1) 3 (.int .i64 (sweptSum S T pre)) := by
        have := heap_setCell_same w1 (w.heap.size + 1 + 1) 0 _ _ (.int .i64 (sweptSum S T pre)) ((hb1.block _ hl2).trans I3.out)
        unfold Boxed
        simpa using this
      rw [hW2] at hch2 hbx2 ⊢
      clear hW2
      have CH2 := Lib.hid hch2
      have BX2 := Lib.hid hbx2
      have q0 : W2.cell? ⟨w.heap.size, 0, none⟩ = some (.pointer (some ⟨s, 0, none⟩)) := (World.cell?_of_block (a := ⟨w.heap.size, 0, none⟩) (hch2.block _ hl0 (ne_01 _))).trans I1.out.cell
      have q4 : W2.cell? ⟨s, 0, none⟩ = some (.map (some m')) := (World.cell?_of_block (a := ⟨s, 0, none⟩) (hch2.block _ hRs (Nat.ne_of_lt (Nat.lt_of_lt_of_le hslt (le_02 _))))).trans D4.out
      have hcl := cloneV_any ⟨g, 0 * 8, none⟩ ((S.N x).length - 0) (cap - 0) (xs.drop (0 * 8)) W2.drew (drop_cells HOWN.out ((hch2.block g hgl (HGB.out)))) (drop_len HVERS.out) (fun u hu => HVERS.out.oneCell u (List.mem_of_mem_drop hu)) (Nat.lt_of_lt_of_le hgl hch2.size) (Nat.le_trans (Nat.sub_le _ _) hlx)
      simp only [Nat.zero_mul, Nat.sub_zero] at hcl
      have HCL := Lib.hid hcl
      clear hcl hch2 hbx2 d0 d1 d2 d3 d4
      have hS0 : W2.drew.cell? ⟨w.heap.size, 0, none⟩ = some (.pointer (some ⟨s, 0, none⟩)) ∧ W2.drew.cell? ⟨s, 0, none⟩ = some (.map (some m')) := ⟨q0, q4⟩
      refine wpIn_region_round (S := (fun w' => w'.cell? ⟨w.heap.size, 0, none⟩ = some (.pointer (some ⟨s, 0, none⟩)) ∧ w'.cell? ⟨s, 0, none⟩ = some (.map (some m')))) hmx (noDefer_spec (by kernel_rfl)) (fun ⟨_, _, h⟩ => h) ?_
      refine wpAnyH_take (i := 0) (v := .pointer (some ⟨s, 0, none⟩)) rfl (by kernel_rfl) (by kernel_rfl) (by kernel_rfl) (fun _ _ _ h => h) (.inl ⟨by rfl, fun w' hw => by simp [go_sem, hw.1]⟩) hS0 ?_
      refine wpAnyH_take (i := 1) (v := .pointer (some ⟨s, 0, none⟩)) rfl (by kernel_rfl) (by kernel_rfl) (by kernel_rfl) (fun _ _ _ h => h) (.inl ⟨by rfl, fun w' hw => by simp [go_sem]⟩) hS0 ?_
      refine wpAnyH_take (i := 2) (v := .pointer (some ⟨s, 0, none⟩)) rfl (by kernel_rfl) (by kernel_rfl) (by kernel_rfl) (fun _ _ _ h => h) (.inl ⟨by rfl, fun w' hw => by simp [go_sem]⟩) hS0 ?_
      refine wpAnyH_take (i := 3) (v := .map (some m')) rfl (by kernel_rfl) (by kernel_rfl) (by kernel_rfl) (fun _ _ _ h => h) (.inl ⟨by rfl, fun w' hw => by simp [go_sem, hw.2]⟩) hS0 ?_
      refine wpAnyH_take (i := 4) (v := .int .i64 x) rfl (by kernel_rfl) (by kernel_rfl) (by kernel_rfl) (fun _ _ _ h => h) (.inl ⟨by rfl, fun w' hw => by simp [go_sem]⟩) hS0 ?_
      refine wpAnyH_take (i := 5) (v := .slice (some ⟨g, 0, none⟩) (S.N x).length cap) rfl (by kernel_rfl) (by kernel_rfl) (by kernel_rfl) (fun _ _ _ h => h) (.inl ⟨by rfl, fun w' hw => by simp [go_sem]⟩) hS0 ?_
      refine wpAnyH_take (i := 6) (v := .int .i64 ((0 : Nat) : Int)) rfl (by kernel_rfl) (by kernel_rfl) (by kernel_rfl) (fun _ _ _ h => h) (.inl ⟨by rfl, fun w' hw => by simp [go_sem]⟩) hS0 ?_
      refine wpAnyH_take (i := 7) (v := .slice (some ⟨g, 0 * 8, none⟩) ((S.N x).length - 0) (cap - 0)) rfl (by kernel_rfl) (by kernel_rfl) (by kernel_rfl) (fun _ _ _ h => h) (.inl ⟨by rfl, fun w' hw => by simp [go_sem]⟩) hS0 ?_
      refine wpAnyH_next (i := 8) (by kernel_rfl) rfl (by rfl) (fun K hK => ?_)
      unfold Oper.wp
      go_simp
      refine HCL.out.mono ?_
      rintro e w3 ⟨⟨v', rfl, hown3⟩, hb3⟩
      obtain ⟨a2, n2, c2, rfl⟩ := slice_form hown3
      have q0' := (hb3.cell (p := ⟨w.heap.size, 0, none⟩) (Nat.lt_of_lt_of_le hl0 CH2.out.size)).trans q0
      have q4' := (hb3.cell (p := ⟨s, 0, none⟩) (Nat.lt_of_lt_of_le hRs CH2.out.size)).trans q4
      obtain ⟨es', ck', hmu, hview⟩ := MapIs.store (GF.out.keep ((hb3.block m' (Nat.lt_of_lt_of_le hRm CH2.out.size)).trans (CH2.out.block m' hRm HMB.out))) key3 Try.underlying96 x (.slice a2 n2 c2)
      have HVW := Lib.hid hview
      clear hview
      refine hK _ _ ⟨q0', q4'⟩ ?_
      refine wpAnyH_next (i := 9) (by kernel_rfl) rfl (by rfl) (fun K2 hK2 => ?_)
      unfold Oper.wp
      go_simp
      refine hK2 _ _ ⟨(World.cell?_of_block (a := ⟨w.heap.size, 0, none⟩) (heap_setBlock_other _ (by simpa using HM0.out))).trans q0', (World.cell?_of_block (a := ⟨s, 0, none⟩) (heap_setBlock_other _ HSM.out)).trans q4'⟩ ?_
      refine wpAnyH_done (by kernel_rfl) ?_ _
      have hsv : sweepV T (S.N x) = (S.N x).drop 0 := by unfold sweepV; rw [HDN.out]
      have hsl : (sweepV T (S.N x)).length = (S.N x).length - 0 := by rw [hsv, List.length_drop]
      have hst := store_set (W := W) (W2 := w3) (S := S.swept T pre) (vs' := sweepV T (S.N x)) (fun k hk => (I6.out k hk).2) (fun k hk => Nat.lt_of_lt_of_le (hD k hk) I4.out.size) HRD2.out hs' hm' GB.out GF.out G1.out G2.out G3.out
        (fun k hk => (hb3.block k (Nat.lt_of_lt_of_le (HRB.out k hk).1 CH2.out.size)).trans (CH2.out.block k (HRB.out k hk).1 (HRB.out k hk).2)) (by rw [hsv]; intro h; have := congrArg List.length h; rw [List.length_drop] at this; simp only [List.length_nil] at this; omega) (by rw [hsl]; exact ownsRow_le hown3 CH2.out.size) (by rw [hsv]; exact HVERS.out.drop 0) ⟨es', ck', heap_setBlock_same (Nat.lt_of_lt_of_le hRm (Nat.le_trans CH2.out.size hb3.size)) _, HVW.out⟩
      exact sw_fin hR hD hRD hm' (Nat.le_trans hs3 hsz) I1.out I2.out I4.out I6.out I7.out ((CH2.out.trans (chg_drewN _ 1)).trans (chg_new hb3)) (by rw [HDN.out]; exact (hb3.block _ (Nat.lt_of_lt_of_le hl2 CH2.out.size)).trans (show Boxed W2 (w.heap.size + 1 + 1) 3 (.int .i64 (sweptSum S T pre + ((0 : Nat) : Int))) by simpa using BX2.out))
        (fun k hk => hk.elim .inl (fun h => .inr ⟨Nat.le_trans CH2.out.size (ownsRow_base hown3 h).1, (ownsRow_base hown3 h).2⟩)) (fun k hk => .inl hk) hst
    | succ k =>
      obtain ⟨u, hu⟩ : ∃ u, (S.N x)[k]? = some u := ⟨_, List.getElem?_eq_getElem hq⟩
      obtain ⟨kv, av, ik, ia, hcl⟩ := HCELLS.out k u hu
      have e7 : w1.cell? ⟨g, k * 8 + 1 + 6, none⟩ = some (.bool u.r.gone) := (hb1.cell (p := ⟨g, k * 8 + 7, none⟩) hgl).trans (hcl 7 _ rfl)
      have hdn := dropN_succ (T := T) hu (fun j v hj hv => by have := T1.out j hj; simpa [hv] using this) (fun j v hj hv => by have := T2.out j hj (List.getElem?_eq_some_iff.1 hv).1; simpa [hv] using this)
      have hk0 : (0 : Int) ≤ k := by omega
      have hkl : (k : Int) < (S.N x).length := by omega
      obtain ⟨gv, hgv⟩ : ∃ b, u.r.gone = b := ⟨_, rfl⟩
      rw [hgv] at e7 hdn
      clear hgv hcl ik ia hu
      cases gv
      · have HDN : Hid (dropN T (S.N x) = k) := hdn
        clear hdn
        have hlk1 : ¬ ((k : Int) = ((S.N x).length : Int)) := ne_of_lt1 hq
        have hsl1 : k ≤ (S.N x).length := Nat.le_of_succ_le hq
        have hsl2 : ¬ cap = k := by omega
        gi_upto_region 13 with fail
        obtain ⟨W2, hW2⟩ : ∃ W2, w1.setCell ⟨w.heap.size + 1 + 1, 0, none⟩ (.int .i64 (sweptSum S T pre + (k : Int))) = W2 := ⟨_, rfl⟩
        have hch2 : Chg (fun k => k = w.heap.size + 1 + 1) W (w1.setCell ⟨w.heap.size + 1 + 1, 0, none⟩ (.int .i64 (sweptSum S T pre + (k : Int)))) := (chg_new hb1).trans (chg_set (M := fun k => k = w.heap.size + 1 + 1) rfl 0 _)
        have hbx2 : Boxed (w1.setCell ⟨w.heap.size + 1 + 1, 0, none⟩ (.int .i64 (sweptSum S T pre + (k : Int)))) (w.heap.size + 1 + 1) 3 (.int .i64 (sweptSum S T pre + (k : Int))) := by
          have := heap_setCell_same w1 (w.heap.size + 1 + 1) 0 _ _ (.int .i64 (sweptSum S T pre + (k : Int))) ((hb1.block _ hl2).trans I3.out)
          unfold Boxed
          simpa using this
        rw [hW2] at hch2 hbx2 ⊢
        clear hW2
        have CH2 := Lib.hid hch2
        have BX2 := Lib.hid hbx2
        have q0 : W2.cell? ⟨w.heap.size, 0, none⟩ = some (.pointer (some ⟨s, 0, none⟩)) := (World.cell?_of_block (a := ⟨w.heap.size, 0, none⟩) (hch2.block _ hl0 (ne_01 _))).trans I1.out.cell
        have q4 : W2.cell? ⟨s, 0, none⟩ = some (.map (some m')) := (World.cell?_of_block (a := ⟨s, 0, none⟩) (hch2.block _ hRs (Nat.ne_of_lt (Nat.lt_of_lt_of_le hslt (le_02 _))))).trans D4.out
        have hcl := cloneV_any ⟨g, k * 8, none⟩ ((S.N x).length - k) (cap - k) (xs.drop (k * 8)) W2.drew (drop_cells HOWN.out ((hch2.block g hgl (HGB.out)))) (drop_len HVERS.out) (fun u hu => HVERS.out.oneCell u (List.mem_of_mem_drop hu)) (Nat.lt_of_lt_of_le hgl hch2.size) (Nat.le_trans (Nat.sub_le _ _) hlx)
        skip
        have HCL := Lib.hid hcl
        clear hcl hch2 hbx2 d0 d1 d2 d3 d4
        have hS0 : W2.drew.cell? ⟨w.heap.size, 0, none⟩ = some (.pointer (some ⟨s, 0, none⟩)) ∧ W2.drew.cell? ⟨s, 0, none⟩ = some (.map (some m')) := ⟨q0, q4⟩
        refine wpIn_region_round (S := (fun w' => w'.cell? ⟨w.heap.size, 0, none⟩ = some (.pointer (some ⟨s, 0, none⟩)) ∧ w'.cell? ⟨s, 0, none⟩ = some (.map (some m')))) hmx (noDefer_spec (by kernel_rfl)) (fun ⟨_, _, h⟩ => h) ?_
        refine wpAnyH_take (i := 0) (v := .pointer (some ⟨s, 0, none⟩)) rfl (by kernel_rfl) (by kernel_rfl) (by kernel_rfl) (fun _ _ _ h => h) (.inl ⟨by rfl, fun w' hw => by simp [go_sem, hw.1]⟩) hS0 ?_
        refine wpAnyH_take (i := 1) (v := .pointer (some ⟨s, 0, none⟩)) rfl (by kernel_rfl) (by kernel_rfl) (by kernel_rfl) (fun _ _ _ h => h) (.inl ⟨by rfl, fun w' hw => by simp [go_sem]⟩) hS0 ?_
        refine wpAnyH_take (i := 2) (v := .pointer (some ⟨s, 0, none⟩)) rfl (by kernel_rfl) (by kernel_rfl) (by kernel_rfl) (fun _ _ _ h => h) (.inl ⟨by rfl, fun w' hw => by simp [go_sem]⟩) hS0 ?_
        refine wpAnyH_take (i := 3) (v := .map (some m')) rfl (by kernel_rfl) (by kernel_rfl) (by kernel_rfl) (fun _ _ _ h => h) (.inl ⟨by rfl, fun w' hw => by simp [go_sem, hw.2]⟩) hS0 ?_
        refine wpAnyH_take (i := 4) (v := .int .i64 x) rfl (by kernel_rfl) (by kernel_rfl) (by kernel_rfl) (fun _ _ _ h => h) (.inl ⟨by rfl, fun w' hw => by simp [go_sem]⟩) hS0 ?_
        refine wpAnyH_take (i := 5) (v := .slice (some ⟨g, 0, none⟩) (S.N x).length cap) rfl (by kernel_rfl) (by kernel_rfl) (by kernel_rfl) (fun _ _ _ h => h) (.inl ⟨by rfl, fun w' hw => by simp [go_sem]⟩) hS0 ?_
        refine wpAnyH_take (i := 6) (v := .int .i64 ((k : Nat) : Int)) rfl (by kernel_rfl) (by kernel_rfl) (by kernel_rfl) (fun _ _ _ h => h) (.inl ⟨by rfl, fun w' hw => by simp [go_sem]⟩) hS0 ?_
        refine wpAnyH_take (i := 7) (v := .slice (some ⟨g, k * 8, none⟩) ((S.N x).length - k) (cap - k)) rfl (by kernel_rfl) (by kernel_rfl) (by kernel_rfl) (fun _ _ _ h => h) (.inl ⟨by rfl, fun w' hw => by simp [go_sem, hsl1, hsl2]⟩) hS0 ?_
        refine wpAnyH_next (i := 8) (by kernel_rfl) rfl (by rfl) (fun K hK => ?_)
        unfold Oper.wp
        go_simp
        refine HCL.out.mono ?_
        rintro e w3 ⟨⟨v', rfl, hown3⟩, hb3⟩
        obtain ⟨a2, n2, c2, rfl⟩ := slice_form hown3
        have q0' := (hb3.cell (p := ⟨w.heap.size, 0, none⟩) (Nat.lt_of_lt_of_le hl0 CH2.out.size)).trans q0
        have q4' := (hb3.cell (p := ⟨s, 0, none⟩) (Nat.lt_of_lt_of_le hRs CH2.out.size)).trans q4
        obtain ⟨es', ck', hmu, hview⟩ := MapIs.store (GF.out.keep ((hb3.block m' (Nat.lt_of_lt_of_le hRm CH2.out.size)).trans (CH2.out.block m' hRm HMB.out))) key3 Try.underlying96 x (.slice a2 n2 c2)
        have HVW := Lib.hid hview
        clear hview
        refine hK _ _ ⟨q0', q4'⟩ ?_
        refine wpAnyH_next (i := 9) (by kernel_rfl) rfl (by rfl) (fun K2 hK2 => ?_)
        unfold Oper.wp
        go_simp
        refine hK2 _ _ ⟨(World.cell?_of_block (a := ⟨w.heap.size, 0, none⟩) (heap_setBlock_other _ (by simpa using HM0.out))).trans q0', (World.cell?_of_block (a := ⟨s, 0, none⟩) (heap_setBlock_other _ HSM.out)).trans q4'⟩ ?_
        refine wpAnyH_done (by kernel_rfl) ?_ _
        have hsv : sweepV T (S.N x) = (S.N x).drop k := by unfold sweepV; rw [HDN.out]
        have hsl : (sweepV T (S.N x)).length = (S.N x).length - k := by rw [hsv, List.length_drop]
        have hst := store_set (W := W) (W2 := w3) (S := S.swept T pre) (vs' := sweepV T (S.N x)) (fun k hk => (I6.out k hk).2) (fun k hk => Nat.lt_of_lt_of_le (hD k hk) I4.out.size) HRD2.out hs' hm' GB.out GF.out G1.out G2.out G3.out
          (fun k hk => (hb3.block k (Nat.lt_of_lt_of_le (HRB.out k hk).1 CH2.out.size)).trans (CH2.out.block k (HRB.out k hk).1 (HRB.out k hk).2)) (by rw [hsv]; intro h; have := congrArg List.length h; rw [List.length_drop] at this; simp only [List.length_nil] at this; omega) (by rw [hsl]; exact ownsRow_le hown3 CH2.out.size) (by rw [hsv]; exact HVERS.out.drop k) ⟨es', ck', heap_setBlock_same (Nat.lt_of_lt_of_le hRm (Nat.le_trans CH2.out.size hb3.size)) _, HVW.out⟩
        exact sw_fin hR hD hRD hm' (Nat.le_trans hs3 hsz) I1.out I2.out I4.out I6.out I7.out ((CH2.out.trans (chg_drewN _ 1)).trans (chg_new hb3)) (by rw [HDN.out]; exact (hb3.block _ (Nat.lt_of_lt_of_le hl2 CH2.out.size)).trans (show Boxed W2 (w.heap.size + 1 + 1) 3 (.int .i64 (sweptSum S T pre + ((k : Nat) : Int))) by simpa using BX2.out))
          (fun k hk => hk.elim .inl (fun h => .inr ⟨Nat.le_trans CH2.out.size (ownsRow_base hown3 h).1, (ownsRow_base hown3 h).2⟩)) (fun k hk => .inl hk) hst
      · have HDN : Hid (dropN T (S.N x) = k + 1) := hdn
        clear hdn
        by_cases hkn : k + 1 = (S.N x).length
        · have hkn1 : ((k : Int) + 1 = ((S.N x).length : Int)) := eq_of_len1 hkn
          have e7' : w1.cell? ⟨g, ((S.N x).length - 1) * 8 + 1 + 6, none⟩ = some (.bool true) := by rw [show (S.N x).length - 1 = k by omega]; exact e7
          gi_upto_region 12 with fail
          obtain ⟨W2, hW2⟩ : ∃ W2, w1.setCell ⟨w.heap.size + 1 + 1, 0, none⟩ (.int .i64 (sweptSum S T pre + ((S.N x).length : Int))) = W2 := ⟨_, rfl⟩
          have hch2 : Chg (fun k => k = w.heap.size + 1 + 1) W (w1.setCell ⟨w.heap.size + 1 + 1, 0, none⟩ (.int .i64 (sweptSum S T pre + ((S.N x).length : Int)))) := (chg_new hb1).trans (chg_set (M := fun k => k = w.heap.size + 1 + 1) rfl 0 _)
          have hbx2 : Boxed (w1.setCell ⟨w.heap.size + 1 + 1, 0, none⟩ (.int .i64 (sweptSum S T pre + ((S.N x).length : Int)))) (w.heap.size + 1 + 1) 3 (.int .i64 (sweptSum S T pre + ((S.N x).length : Int))) := by
            have := heap_setCell_same w1 (w.heap.size + 1 + 1) 0 _ _ (.int .i64 (sweptSum S T pre + ((S.N x).length : Int))) ((hb1.block _ hl2).trans I3.out)
            unfold Boxed
            simpa using this
          rw [hW2] at hch2 hbx2 ⊢
          clear hW2
          have q0 : W2.cell? ⟨w.heap.size, 0, none⟩ = some (.pointer (some ⟨s, 0, none⟩)) := (World.cell?_of_block (a := ⟨w.heap.size, 0, none⟩) (hch2.block _ hl0 (ne_01 _))).trans I1.out.cell
          have q4 : W2.cell? ⟨s, 0, none⟩ = some (.map (some m')) := (World.cell?_of_block (a := ⟨s, 0, none⟩) (hch2.block _ hRs (Nat.ne_of_lt (Nat.lt_of_lt_of_le hslt (le_02 _))))).trans D4.out
          have HMAP := Lib.hid (GF.out.keep (hch2.block m' hRm HMB.out))
          have CH2 := Lib.hid hch2
          have BX2 := Lib.hid hbx2
          clear hch2 hbx2 d0 d1 d2 d3 d4
          obtain ⟨es', ck', hdel, hview⟩ := HMAP.out.drop (ty := 0) (k' := 3) key3 Try.underlying96 x
          have HVW := Lib.hid hview
          clear hview
          gi_wp2
          have hsv : sweepV T (S.N x) = [] := by unfold sweepV; rw [HDN.out, hkn]; exact List.drop_length ..
          have hst := store_del (W := W) (W2 := W2) (S := S.swept T pre) (fun k hk => (I6.out k hk).2) HRD2.out hs' hm' GB.out GF.out G1.out G2.out G3.out
            (fun k hk => CH2.out.block k (HRB.out k hk).1 (HRB.out k hk).2) ⟨es', ck', heap_setBlock_same (Nat.lt_of_lt_of_le hRm CH2.out.size) _, HVW.out⟩
          rw [← hsv] at hst
          exact sw_fin hR hD hRD hm' (Nat.le_trans hs3 hsz) I1.out I2.out I4.out I6.out I7.out CH2.out (by rw [HDN.out, hkn]; exact BX2.out)
            (fun k hk => .inl hk) (fun k hk => hk) hst
        · have hkn1 : ¬ ((k : Int) + 1 = ((S.N x).length : Int)) := ne_of_len1 hkn
          have hsl1 : k + 1 ≤ (S.N x).length := hq
          have hsl2 : ¬ cap = k + 1 := by omega
          gi_upto_region 13 with fail
          obtain ⟨W2, hW2⟩ : ∃ W2, w1.setCell ⟨w.heap.size + 1 + 1, 0, none⟩ (.int .i64 (sweptSum S T pre + ((k : Int) + 1))) = W2 := ⟨_, rfl⟩
          have hch2 : Chg (fun k => k = w.heap.size + 1 + 1) W (w1.setCell ⟨w.heap.size + 1 + 1, 0, none⟩ (.int .i64 (sweptSum S T pre + ((k : Int) + 1)))) := (chg_new hb1).trans (chg_set (M := fun k => k = w.heap.size + 1 + 1) rfl 0 _)
          have hbx2 : Boxed (w1.setCell ⟨w.heap.size + 1 + 1, 0, none⟩ (.int .i64 (sweptSum S T pre + ((k : Int) + 1)))) (w.heap.size + 1 + 1) 3 (.int .i64 (sweptSum S T pre + ((k : Int) + 1))) := by
            have := heap_setCell_same w1 (w.heap.size + 1 + 1) 0 _ _ (.int .i64 (sweptSum S T pre + ((k : Int) + 1))) ((hb1.block _ hl2).trans I3.out)
            unfold Boxed
            simpa using this
          rw [hW2] at hch2 hbx2 ⊢
          clear hW2
          have CH2 := Lib.hid hch2
          have BX2 := Lib.hid hbx2
          have q0 : W2.cell? ⟨w.heap.size, 0, none⟩ = some (.pointer (some ⟨s, 0, none⟩)) := (World.cell?_of_block (a := ⟨w.heap.size, 0, none⟩) (hch2.block _ hl0 (ne_01 _))).trans I1.out.cell
          have q4 : W2.cell? ⟨s, 0, none⟩ = some (.map (some m')) := (World.cell?_of_block (a := ⟨s, 0, none⟩) (hch2.block _ hRs (Nat.ne_of_lt (Nat.lt_of_lt_of_le hslt (le_02 _))))).trans D4.out
          have hcl := cloneV_any ⟨g, (k + 1) * 8, none⟩ ((S.N x).length - (k + 1)) (cap - (k + 1)) (xs.drop ((k + 1) * 8)) W2.drew (drop_cells HOWN.out ((hch2.block g hgl (HGB.out)))) (drop_len HVERS.out) (fun u hu => HVERS.out.oneCell u (List.mem_of_mem_drop hu)) (Nat.lt_of_lt_of_le hgl hch2.size) (Nat.le_trans (Nat.sub_le _ _) hlx)
          skip
          have HCL := Lib.hid hcl
          clear hcl hch2 hbx2 d0 d1 d2 d3 d4
          have hS0 : W2.drew.cell? ⟨w.heap.size, 0, none⟩ = some (.pointer (some ⟨s, 0, none⟩)) ∧ W2.drew.cell? ⟨s, 0, none⟩ = some (.map (some m')) := ⟨q0, q4⟩
          refine wpIn_region_round (S := (fun w' => w'.cell? ⟨w.heap.size, 0, none⟩ = some (.pointer (some ⟨s, 0, none⟩)) ∧ w'.cell? ⟨s, 0, none⟩ = some (.map (some m')))) hmx (noDefer_spec (by kernel_rfl)) (fun ⟨_, _, h⟩ => h) ?_
          refine wpAnyH_take (i := 0) (v := .pointer (some ⟨s, 0, none⟩)) rfl (by kernel_rfl) (by kernel_rfl) (by kernel_rfl) (fun _ _ _ h => h) (.inl ⟨by rfl, fun w' hw => by simp [go_sem, hw.1]⟩) hS0 ?_
          refine wpAnyH_take (i := 1) (v := .pointer (some ⟨s, 0, none⟩)) rfl (by kernel_rfl) (by kernel_rfl) (by kernel_rfl) (fun _ _ _ h => h) (.inl ⟨by rfl, fun w' hw => by simp [go_sem]⟩) hS0 ?_
          refine wpAnyH_take (i := 2) (v := .pointer (some ⟨s, 0, none⟩)) rfl (by kernel_rfl) (by kernel_rfl) (by kernel_rfl) (fun _ _ _ h => h) (.inl ⟨by rfl, fun w' hw => by simp [go_sem]⟩) hS0 ?_
          refine wpAnyH_take (i := 3) (v := .map (some m')) rfl (by kernel_rfl) (by kernel_rfl) (by kernel_rfl) (fun _ _ _ h => h) (.inl ⟨by rfl, fun w' hw => by simp [go_sem, hw.2]⟩) hS0 ?_
          refine wpAnyH_take (i := 4) (v := .int .i64 x) rfl (by kernel_rfl) (by kernel_rfl) (by kernel_rfl) (fun _ _ _ h => h) (.inl ⟨by rfl, fun w' hw => by simp [go_sem]⟩) hS0 ?_
          refine wpAnyH_take (i := 5) (v := .slice (some ⟨g, 0, none⟩) (S.N x).length cap) rfl (by kernel_rfl) (by kernel_rfl) (by kernel_rfl) (fun _ _ _ h => h) (.inl ⟨by rfl, fun w' hw => by simp [go_sem]⟩) hS0 ?_
          refine wpAnyH_take (i := 6) (v := .int .i64 (((k + 1) : Nat) : Int)) rfl (by kernel_rfl) (by kernel_rfl) (by kernel_rfl) (fun _ _ _ h => h) (.inl ⟨by rfl, fun w' hw => by simp [go_sem]⟩) hS0 ?_
          refine wpAnyH_take (i := 7) (v := .slice (some ⟨g, (k + 1) * 8, none⟩) ((S.N x).length - (k + 1)) (cap - (k + 1))) rfl (by kernel_rfl) (by kernel_rfl) (by kernel_rfl) (fun _ _ _ h => h) (.inl ⟨by rfl, fun w' hw => by simp [go_sem, hsl2]; intro h; exact absurd (h (by omega)) (by omega)⟩) hS0 ?_
          refine wpAnyH_next (i := 8) (by kernel_rfl) rfl (by rfl) (fun K hK => ?_)
          unfold Oper.wp
          go_simp
          refine HCL.out.mono ?_
          rintro e w3 ⟨⟨v', rfl, hown3⟩, hb3⟩
          obtain ⟨a2, n2, c2, rfl⟩ := slice_form hown3
          have q0' := (hb3.cell (p := ⟨w.heap.size, 0, none⟩) (Nat.lt_of_lt_of_le hl0 CH2.out.size)).trans q0
          have q4' := (hb3.cell (p := ⟨s, 0, none⟩) (Nat.lt_of_lt_of_le hRs CH2.out.size)).trans q4
          obtain ⟨es', ck', hmu, hview⟩ := MapIs.store (GF.out.keep ((hb3.block m' (Nat.lt_of_lt_of_le hRm CH2.out.size)).trans (CH2.out.block m' hRm HMB.out))) key3 Try.underlying96 x (.slice a2 n2 c2)
          have HVW := Lib.hid hview
          clear hview
          refine hK _ _ ⟨q0', q4'⟩ ?_
          refine wpAnyH_next (i := 9) (by kernel_rfl) rfl (by rfl) (fun K2 hK2 => ?_)
          unfold Oper.wp
          go_simp
          refine hK2 _ _ ⟨(World.cell?_of_block (a := ⟨w.heap.size, 0, none⟩) (heap_setBlock_other _ (by simpa using HM0.out))).trans q0', (World.cell?_of_block (a := ⟨s, 0, none⟩) (heap_setBlock_other _ HSM.out)).trans q4'⟩ ?_
          refine wpAnyH_done (by kernel_rfl) ?_ _
          have hsv : sweepV T (S.N x) = (S.N x).drop (k + 1) := by unfold sweepV; rw [HDN.out]
          have hsl : (sweepV T (S.N x)).length = (S.N x).length - (k + 1) := by rw [hsv, List.length_drop]
          have hst := store_set (W := W) (W2 := w3) (S := S.swept T pre) (vs' := sweepV T (S.N x)) (fun k hk => (I6.out k hk).2) (fun k hk => Nat.lt_of_lt_of_le (hD k hk) I4.out.size) HRD2.out hs' hm' GB.out GF.out G1.out G2.out G3.out
            (fun k hk => (hb3.block k (Nat.lt_of_lt_of_le (HRB.out k hk).1 CH2.out.size)).trans (CH2.out.block k (HRB.out k hk).1 (HRB.out k hk).2)) (by rw [hsv]; intro h; have := congrArg List.length h; rw [List.length_drop] at this; simp only [List.length_nil] at this; omega) (by rw [hsl]; exact ownsRow_le hown3 CH2.out.size) (by rw [hsv]; exact HVERS.out.drop (k + 1)) ⟨es', ck', heap_setBlock_same (Nat.lt_of_lt_of_le hRm (Nat.le_trans CH2.out.size hb3.size)) _, HVW.out⟩
          exact sw_fin hR hD hRD hm' (Nat.le_trans hs3 hsz) I1.out I2.out I4.out I6.out I7.out ((CH2.out.trans (chg_drewN _ 1)).trans (chg_new hb3)) (by rw [HDN.out]; exact (hb3.block _ (Nat.lt_of_lt_of_le hl2 CH2.out.size)).trans (show Boxed W2 (w.heap.size + 1 + 1) 3 (.int .i64 (sweptSum S T pre + (((k + 1) : Nat) : Int))) by simpa using BX2.out))
            (fun k hk => hk.elim .inl (fun h => .inr ⟨Nat.le_trans CH2.out.size (ownsRow_base hown3 h).1, (ownsRow_base hown3 h).2⟩)) (fun k hk => .inl hk) hst

  case done =>
    rintro Dd M W hD2 hMD ⟨i1, i2, i3, i4, R', i5, i6, i7⟩ hK
    have d0 := i3.cell
    gi_wp2
    refine ⟨by simp, .inl ⟨_, _, rfl, run_takeDeferred hK, ?_⟩⟩
    have hsz : w.heap.size + 3 ≤ Dd := Nat.le_trans hs3 hD2
    refine ⟨_, results_tmp rfl _ _ _, ⟨zs, HIDS.out, rfl⟩, i4.andThen (chg_putObj (M := fun k => k = Dd) rfl _) (fun k hk h => by omega), R', ⟨?_, ?_, ?_, ?_⟩, fun k hk => by rcases (i6 k hk).1 with h | h; exact .inl h; exact .inr (by omega)⟩
    · rw [← swept_all HIDS.out]
      exact i5.keep (fun k hk => World.putObj_heap_other (fun e => hMD (by rw [← e]; exact (i7 _).2 (.inl hk)))) (fun k hk => World.putObj_heap_other (fun e => by have := hD _ hk; omega))
    · intro k hk; have := (i6 k hk).2; simpa [World.putObj] using this
    · intro k hk; have := Nat.lt_of_lt_of_le (hD k hk) i4.size; simpa [World.putObj] using this
    · intro k hk hd
      rcases (i6 k hk).1 with h | h
      · exact hRD k h hd
      · have := hD k hd; omega
  case stop =>
    rintro Dd c pre M W _ _ _ h _
    exact h.elim
end Go.Proofs.Ytinkjhkbaadbpaa
