/- A walk over a map from which entries are dropped; the closure of Victims (22). -/
import Derived.Test.YtkfmgeddckcnkaaCF
namespace Go.Proofs.Ytkfmgeddckcnkaa
open Go.RowKit
open Go.ChangeMaps (setBlock)
set_option linter.unusedVariables false

section
variable {κ : Type} [DecidableEq κ] {P : Program} {k : TypeId} {enc : κ → Value}
theorem drop_at {w : World} {b : Nat} {f : κ → Option Value} {es : Array MapEntry} {clock : Nat} (hb : w.heap[b]? = some (.map es clock)) (hv : MapView enc es clock f) (K : MKey P k enc) {t e ty k' : TypeId} (ht : P.underlying t = some (.map k e)) (x : κ) :
    ∃ es', (Builtin.delete_ #[t, k'] ty #[.map (some b), enc x]).run P w = .ok (.tuple #[]) (setBlock w b (.map es' clock)) ∧ MapView enc es' clock (upd f x none) ∧
      (∀ a, a ∈ es'.toList ↔ a ∈ es.toList ∧ a.key ≠ enc x) ∧ es'.toList.Sublist es.toList := by
  rcases K.find w x es.toList hv.2.1 with ⟨h1, h2⟩ | ⟨j, e0, h1, h2, h3⟩
  · refine ⟨es, ?_, ⟨hv.1, hv.2.1, ?_⟩, fun a => ⟨fun ha => ⟨ha, h2 a ha⟩, fun ha => ha.1⟩, List.Sublist.refl _⟩
    · simp [Builtin.delete_, run_underlying ht, MapKept.run_getObj_map hb, K.check w, h1, MapKept.run_setObj_map _ hb, Result.andThen, setBlock]
    · intro y u
      by_cases hy : y = x
      · subst hy
        rw [upd_same]
        constructor
        · rintro ⟨⟩
        · rintro ⟨e', he', hk', _⟩; exact absurd hk' (h2 e' he')
      · rw [upd_other _ _ hy]; exact hv.2.2 y u
  · have hjl : j < es.toList.length := (List.getElem?_eq_some_iff.1 h2).1
    have hlist : (es.eraseIdxIfInBounds j).toList = es.toList.eraseIdx j := by
      have : j < es.size := by simpa using hjl
      simp [Array.eraseIdxIfInBounds, this]
    have hmem : ∀ a, a ∈ es.toList.eraseIdx j ↔ a ∈ es.toList ∧ a.key ≠ enc x := by
      intro a
      rw [List.mem_eraseIdx_iff_getElem?]
      constructor
      · rintro ⟨i, hne, hi⟩
        refine ⟨List.mem_of_getElem? hi, fun hk => hne ?_⟩
        exact keys_apart hv.1.2.2 hi h2 (by rw [hk, h3])
      · rintro ⟨ha, hk⟩
        obtain ⟨i, hi⟩ := List.mem_iff_getElem?.1 ha
        refine ⟨i, ?_, hi⟩
        rintro rfl
        rw [hi] at h2
        cases h2
        exact hk h3
    refine ⟨es.eraseIdxIfInBounds j, ?_, ⟨⟨?_, ?_, ?_⟩, ?_, ?_⟩, by rw [hlist]; exact hmem, by rw [hlist]; exact List.eraseIdx_sublist _ _⟩
    · simp [Builtin.delete_, run_underlying ht, MapKept.run_getObj_map hb, K.check w, h1, MapKept.run_setObj_map _ hb, Result.andThen, setBlock]
    · intro e he; rw [hlist] at he; exact hv.1.1 e ((hmem e).1 he).1
    · rw [hlist]; exact hv.1.2.1.sublist ((List.eraseIdx_sublist _ _).map _)
    · rw [hlist]; exact hv.1.2.2.sublist ((List.eraseIdx_sublist _ _).map _)
    · intro e he; rw [hlist] at he; exact hv.2.1 e ((hmem e).1 he).1
    · intro y u
      rw [hlist]
      by_cases hy : y = x
      · subst hy
        rw [upd_same]
        constructor
        · rintro ⟨⟩
        · rintro ⟨e', he', hk', _⟩; exact absurd hk' ((hmem e').1 he').2
      · rw [upd_other _ _ hy, hv.2.2]
        constructor
        · rintro ⟨e', he', hk', hu⟩
          exact ⟨e', (hmem e').2 ⟨he', fun h => hy (K.inj (hk'.symm.trans h))⟩, hk', hu⟩
        · rintro ⟨e', he', hk', hu⟩
          exact ⟨e', ((hmem e').1 he').1, hk', hu⟩

theorem Iter.drop {w : World} {r b n : Nat} {f : κ → Option Value} {L : κ → Prop} (h : Iter enc w r b f L n) (K : MKey P k enc) {t e ty k' : TypeId} (ht : P.underlying t = some (.map k e)) (x : κ) :
    ∃ ob n', (Builtin.delete_ #[t, k'] ty #[.map (some b), enc x]).run P w = .ok (.tuple #[]) (setBlock w b ob) ∧ Iter enc (setBlock w b ob) r b (upd f x none) (fun y => L y ∧ y ≠ x) n' ∧ n' ≤ n := by
  have hne := h.ne
  have hbl := h.lt.1
  obtain ⟨es, clock, since, seen, last, hb, hr, hv, hold, hcl, hL, hn⟩ := h
  obtain ⟨es', hrun, hv', hmem, hsub⟩ := drop_at (P := P) (ty := ty) (k' := k') hb hv K ht x
  refine ⟨_, (leftOf es' seen).size, hrun, ⟨es', clock, since, seen, last, heap_setBlock_same hbl _, (heap_setBlock_other _ hne).trans hr, hv', fun a ha => hold a ((hmem a).1 ha).1, hcl, ?_, rfl⟩, ?_⟩
  · intro y
    show (L y ∧ y ≠ x) ↔ _
    rw [hL y]
    constructor
    · rintro ⟨⟨a, ha, hk, hs⟩, hy⟩
      exact ⟨a, (hmem a).2 ⟨ha, fun h => hy (K.inj (hk.symm.trans h))⟩, hk, hs⟩
    · rintro ⟨a, ha, hk, hs⟩
      obtain ⟨ha1, ha2⟩ := (hmem a).1 ha
      exact ⟨⟨a, ha1, hk, hs⟩, fun h => ha2 (by rw [hk, h])⟩
  · rw [hn]
    unfold leftOf
    have e1 : ∀ (q : MapEntry → Bool) (A : Array MapEntry), (A.filter q).size = (A.toList.filter q).length := fun q A => by rw [← Array.toList_filter]; rfl
    rw [e1, e1]
    exact (hsub.filter _).length_le

section
variable {ops : Array Oper} {rest : List Oper} {o : Oper} {a : Act} {Q : Exit → Act → World → Prop} {w : World}
theorem wpList_iterDrop (hg : o.guard = none) (m x : Operand) (t k' : TypeId) (hop : o.op = .call { callee := .builtin .delete, args := #[m, x], argTypes := #[t, k'] }) (K : MKey P k enc) {e : TypeId} (ht : P.underlying t = some (.map k e))
    {r b n : Nat} {f : κ → Option Value} {L : κ → Prop} (hm : a.eval m = .map (some b)) (h : Iter enc w r b f L n) (key : κ) (hx : a.eval x = enc key)
    (hK : ∀ ob n', Iter enc (setBlock w b ob) r b (upd f key none) (fun y => L y ∧ y ≠ key) n' → n' ≤ n → wpList P ops Q rest (a.put o.dst (.tuple #[])) (setBlock w b ob)) : wpList P ops Q (o :: rest) a w := by
  refine wpList_plain hg fun K' hK' => ?_
  obtain ⟨ob, n', hrun, hi, hle⟩ := h.drop (ty := o.type) (k' := k') K ht key
  unfold Oper.wp
  simp only [execOp, hop, resolve, invoke, builtin, List.map_toArray, List.map_cons, List.map_nil, hm, hx, hrun, Result.andThen, Sem.run_bind, Sem.run_pure]
  exact hK' _ _ (hK ob n' hi hle)
end
end

def touches (v : Int) (e : Edge) : Bool := e.1 == v || e.2 == v
def without (v : Int) (G : List Edge) : List Edge := G.filter (fun e => !touches v e)

theorem closure_any {w : World} {c : Addr} {v : Int} (hv : w.cell? c = some (iv v)) (e : Edge) (bv : Value) :
    Calls Try.prog 22 #[pv e, bv, .pointer (some c)] w fun en w' => en = .returned (.bool (touches v e)) ∧ Below w.heap.size w w' := by
  obtain ⟨x, y⟩ := e
  have hcl : c.block < w.heap.size := by
    unfold World.cell? at hv
    apply Classical.byContradiction
    intro hn
    simp [Array.getElem?_eq_none (Nat.le_of_not_lt hn)] at hv
  have hv2 : ∀ o, (w.alloc o).cell? c = some (iv v) := fun o => (World.cell?_of_block (Go.heap_alloc_old _ _ hcl)).trans hv
  unfold touches
  cases hx : (x == v) with
  | true =>
    go_enter Try.func22, Try.ntmps22
    go_wp2
    go_ret
    exact ⟨rfl, (Below.refl _ w).alloc (Nat.le_refl _) _⟩
  | false =>
    go_enter Try.func22, Try.ntmps22
    go_wp2
    go_ret
    exact ⟨rfl, (Below.refl _ w).alloc (Nat.le_refl _) _⟩

set_option maxRecDepth 100000 in
set_option maxHeartbeats 4000000 in
theorem delete_any {w : World} {m : Nat} {G : List Edge} (hg : GIs w m G) {c : Addr} {v : Int} (hv : w.cell? c = some (iv v)) (hcm : c.block ≠ m) :
    Calls Try.prog 21 #[.map (some m), .func (.func 22) #[] #[.pointer (some c)]] w fun e w' => e = .returned (.tuple #[]) ∧ GIs w' m (without v G) ∧ Chg (fun k => k = m) w w' := by
  have hml : m < w.heap.size := hg.lt
  have hcl : c.block < w.heap.size := by
    unfold World.cell? at hv
    apply Classical.byContradiction
    intro hn
    simp [Array.getElem?_eq_none (Nat.le_of_not_lt hn)] at hv
  have HG := Lib.hid hg
  have HV := Lib.hid hv
  clear hg hv
  go_enter Try.func21, Try.ntmps21
  go_wp2_with ((refine wpList_mapRange rfl _ 33 rfl Try.underlying33 rfl HG.out ?_; intro ob2 n0 hit))
  have hmr : m ≠ w.heap.size := hit.ne.symm
  have HIT := Lib.hid hit
  clear hit
  try go_simp
  go_loopw [8] (fun _ wx => ∃ (f : Edge → Option Value) (L : Edge → Prop) (n1 : Nat), Iter pv wx w.heap.size m f L n1 ∧ (∀ y, ¬ L y → f y = gF (without v G) y) ∧ (∀ y, L y → f y = gF G y) ∧ Chg (fun k => k = m) w wx) (fun _ wx => iterLeft w.heap.size m wx)
  case atStart => exact ⟨_, _, n0, HIT.out, fun y hy => by
      have h0 : y ∉ G := fun h => hy (by simp [gF, h])
      have h1 : y ∉ without v G := fun h => h0 (List.mem_filter.1 h).1
      simp [gF, h0, h1], fun y _ => rfl, chg_alloc w _⟩
  case round =>
    obtain ⟨f, L, n1, hit, hno, hyes, hch⟩ := hrel
    have hleft := hit.left
    have HIT2 := Lib.hid hit
    have HNO := Lib.hid hno
    have HYES := Lib.hid hyes
    have HCH := Lib.hid hch
    have hsz := hch.size
    clear hit hno hyes hch
    go_wp2_with (first
      | (refine wpList_mapNext rfl _ rfl key31 rfl HIT2.out (fun hend => ?_) (fun x uu w1 ob' n' hLx hfx hst hob hi' hlt hen => ?_); rotate_left; (obtain ⟨xa, xb⟩ := x; have hen1 := hen w1 (hst.2.2.2.2 m hmr) hob; have HST := Lib.hid hst; have HI2 := Lib.hid hi'; have HLX := Lib.hid hLx; have HFX := Lib.hid hfx; clear hst hi' hLx hen hfx); rotate_left; (have HEND := Lib.hid hend; clear hend)))
    · go_end0
      exact ⟨rfl, HIT2.out.map.congr (fun y => HNO.out y (HEND.out y)), HCH.out⟩
    · have hcv : (w1.alloc (Obj.cells #[Value.int IntKind.i64 xa, Value.int IntKind.i64 xb] 31)).cell? c = some (iv v) := by
        have e1 : (w1.alloc (Obj.cells #[Value.int IntKind.i64 xa, Value.int IntKind.i64 xb] 31)).heap[c.block]? = w.heap[c.block]? :=
          (Go.heap_alloc_old w1 _ (by have := HST.out.2.2.2.1; omega)).trans ((HST.out.2.2.2.2 c.block (by omega)).trans (HCH.out.block c.block hcl hcm))
        exact (World.cell?_of_block e1).trans HV.out
      refine (closure_any hcv (xa, xb) _).mono ?_
      rintro en w2 ⟨rfl, hb2⟩
      have hk2 : w2.heap[w1.heap.size]? = some (Obj.cells #[Value.int IntKind.i64 xa, Value.int IntKind.i64 xb] 31) := (hb2.block w1.heap.size (by simp)).trans (Go.heap_alloc_new w1 _)
      have hc0 : w2.cell? ⟨w1.heap.size, 0, none⟩ = some (.int .i64 xa) := by simp [World.cell?, hk2]
      have hc1 : w2.cell? ⟨w1.heap.size, 1, none⟩ = some (.int .i64 xb) := by simp [World.cell?, hk2]
      have hold : ∀ k, k < w1.heap.size → w2.heap[k]? = w1.heap[k]? := fun k hk => (hb2.block k (by simp; omega)).trans (Go.heap_alloc_old w1 _ hk)
      have HI3 := Lib.hid (HI2.out.keep (hold m (by have := HST.out.2.2.2.1; omega)) (hold w.heap.size (by have := HIT2.out.lt.2; have := HST.out.2.2.2.1; omega)))
      have hch2 : Chg (fun k => k = m) w w2 := ((HCH.out.andThen (chg_below (below_stepped (B := w.heap.size) HST.out (Nat.le_refl _))) (fun k hk hge => absurd hk (Nat.not_lt_of_le hge))).trans (chg_alloc w1 _)).trans (chg_new hb2)
      have HCH2 := Lib.hid hch2
      obtain ⟨tb, htb⟩ : ∃ tb, touches v (xa, xb) = tb := ⟨_, rfl⟩
      rw [htb]
      have HTB := Lib.hid htb
      clear hb2 hk2 hcv hold hch2 htb
      cases tb with
      | true =>
        go_wp2_with (refine wpList_iterDrop rfl _ _ 33 31 rfl key31 Try.underlying33 rfl HI3.out (xa, xb) rfl ?_; intro ob6 n6 hi6 hle6)
        refine ⟨⟨_, _, _, _, _, _, _, _, _, _, _, _, _, ⟨_, _, n6, hi6, ?_, ?_, ?_⟩, rfl⟩, ?_⟩
        · intro y hy
          unfold upd
          split
          · rename_i hyx
            subst hyx
            have : (xa, xb) ∉ without v G := fun h => by have := (List.mem_filter.1 h).2; rw [HTB.out] at this; simp at this
            simp [gF, this]
          · rename_i hyx
            exact HNO.out y (fun hL => hy ⟨⟨hL, hyx⟩, hyx⟩)
        · rintro y ⟨⟨hL, hyx⟩, -⟩
          rw [upd_other _ _ hyx]
          exact HYES.out y hL
        · exact HCH2.out.trans (chg_setBlock (M := fun k => k = m) (b := m) rfl _)
        · rw [hi6.left]; omega
      | false =>
        go_wp2
        refine ⟨⟨_, _, n', HI3.out, ?_, ?_, HCH2.out⟩, ?_⟩
        · intro y hy
          by_cases hyx : y = (xa, xb)
          · subst hyx
            rw [HYES.out _ HLX.out]
            have : ((xa, xb) ∈ without v G) = ((xa, xb) ∈ G) := by
              unfold without
              rw [List.mem_filter, HTB.out]; simp
            unfold gF
            simp only [this]
          · exact HNO.out y (fun hL => hy ⟨hL, hyx⟩)
        · rintro y ⟨hL, hyx⟩
          exact HYES.out y hL
        · rw [HI3.out.left]; omega
end Go.Proofs.Ytkfmgeddckcnkaa
