/- A store in memory; New, Fresh, Last, At. -/
import Derived.Test.YtinkjhkbaadbpaaS0
namespace Go.Proofs.Ytinkjhkbaadbpaa
open Go.RowKit
open Go.ChangeMaps (setBlock)

/-- From w to w' nothing that lay in w turned, but blocks of M. -/
structure Chg (M : Nat → Prop) (w w' : World) : Prop where
  os : w'.os = w.os
  tape : w'.tape = w.tape
  output : w'.output = w.output
  size : w.heap.size ≤ w'.heap.size
  block : ∀ k, k < w.heap.size → ¬ M k → w'.heap[k]? = w.heap[k]?
theorem Chg.refl (M : Nat → Prop) (w : World) : Chg M w w := ⟨rfl, rfl, rfl, Nat.le_refl _, fun _ _ _ => rfl⟩
theorem Chg.andThen {M M' : Nat → Prop} {a b c : World} (h : Chg M a b) (h' : Chg M' b c) (hM : ∀ k, k < a.heap.size → M' k → M k) : Chg M a c :=
  ⟨h'.os.trans h.os, h'.tape.trans h.tape, h'.output.trans h.output, Nat.le_trans h.size h'.size, fun k hk hn => (h'.block k (Nat.lt_of_lt_of_le hk h.size) (fun hm => hn (hM k hk hm))).trans (h.block k hk hn)⟩
theorem Chg.trans {M : Nat → Prop} {a b c : World} (h : Chg M a b) (h' : Chg M b c) : Chg M a c := h.andThen h' (fun _ _ h => h)
theorem Chg.mono {M M' : Nat → Prop} {a b : World} (h : Chg M a b) (hM : ∀ k, M k → M' k) : Chg M' a b := ⟨h.os, h.tape, h.output, h.size, fun k hk hn => h.block k hk (fun hm => hn (hM k hm))⟩
theorem chg_below {B : Nat} {w w' : World} (h : Below B w w') : Chg (fun k => B ≤ k) w w' := ⟨h.os, h.tape, h.output, h.size, fun k _ hn => h.block k (Nat.lt_of_not_le hn)⟩
/-- what only lays blocks turns nothing -/
theorem chg_new {M : Nat → Prop} {w w' : World} (h : Below w.heap.size w w') : Chg M w w' := ⟨h.os, h.tape, h.output, h.size, fun k hk _ => h.block k hk⟩
theorem Chg.new {M : Nat → Prop} {a b c : World} (h : Chg M a b) (h' : Below b.heap.size b c) : Chg M a c := h.trans (chg_new h')
theorem Chg.below {w w' : World} (h : Chg (fun _ => False) w w') : Below w.heap.size w w' := ⟨h.os, h.tape, h.output, h.size, fun k hk => h.block k hk (fun f => f)⟩
theorem Chg.keeps {M F : Nat → Prop} {w w' : World} (h : Chg M w w') (hF : ∀ k, F k → k < w.heap.size ∧ ¬ M k) : Keeps F w w' := fun k hk => h.block k (hF k hk).1 (hF k hk).2
theorem chg_set {M : Nat → Prop} {w : World} {b : Nat} (hb : M b) (j : Nat) (v : Value) : Chg M w (w.setCell ⟨b, j, none⟩ v) :=
  ⟨rfl, rfl, rfl, by simp [World.setCell], fun k _ hn => heap_setCell_other _ _ _ _ (by rintro rfl; exact hn hb)⟩
theorem chg_setBlock {M : Nat → Prop} {w : World} {b : Nat} (hb : M b) (o : Obj) : Chg M w (setBlock w b o) :=
  ⟨rfl, rfl, rfl, by simp, fun k _ hn => heap_setBlock_other _ (by rintro rfl; exact hn hb)⟩
theorem chg_alloc {M : Nat → Prop} (w : World) (o : Obj) : Chg M w (w.alloc o) := chg_new ((Below.refl _ _).alloc (Nat.le_refl _) _)
theorem chg_drewN {M : Nat → Prop} (w : World) (n : Nat) : Chg M w (w.drewN n) := chg_new (below_drewN (Below.refl _ _) n)
theorem chg_grown {M : Nat → Prop} {w w' : World} {row : Option Nat} (h : w.grownBy w' row) (hr : ∀ k, row = some k → M k) : Chg M w w' :=
  ⟨h.os, h.tape, h.output, h.size, fun k hk hn => h.block k hk (fun e => hn (hr k e.symm))⟩

structure Store where
  N : Int → List Ver
  given : Int
  last : Nat

abbrev iv (n : Int) : Value := .int .i64 n

/-- what a map's element says of a node's versions -/
def RowIs (R D : Nat → Prop) (w : World) (v : Value) (vs : List Ver) : Prop :=
  vs ≠ [] ∧ ∃ g cap xs, v = .slice (some ⟨g, 0, none⟩) vs.length cap ∧ R g ∧ w.ownsRow 0 93 8 v vs.length xs ∧ VersAre D w vs xs
/-- p leads to the store S: what may turn lies in R, the lists in D. -/
def StoreIn (R D : Nat → Prop) (w : World) (p : Value) (S : Store) : Prop :=
  ∃ s m f, p = .pointer (some ⟨s, 0, none⟩) ∧ R s ∧ R m ∧ w.heap[s]? = some (.cells #[.map (some m), iv S.given, .int .u64 S.last] 98) ∧ MapIs iv w m f ∧
    (∀ id v, f id = some v → RowIs R D w v (S.N id)) ∧ (∀ id, f id = none → S.N id = []) ∧
    (∀ id id' v v', f id = some v → f id' = some v' → v.ownBlock = v'.ownBlock → id = id')
/-- a record whose lists are no longer than a machine bears -/
def RecOk (r : Rec) : Prop := r.kids.length * 8 ≤ 140737488351232 ∧ r.attrs.length * 8 ≤ 140737488351232
/-- Each node's versions rise in time, to the last time at most. -/
structure Store.Wf (S : Store) : Prop where
  rise : ∀ id, (S.N id).Pairwise (fun a b => a.time < b.time)
  last : ∀ id v, v ∈ S.N id → v.time ≤ S.last
  ok : ∀ id v, v ∈ S.N id → RecOk v.r
  len : ∀ id, (S.N id).length ≤ 4611686018427387904
/-- What a node was at a time. -/
def Store.at (S : Store) (id : Int) (T : Nat) : Option Rec :=
  match ((S.N id).filter (fun v => decide (v.time ≤ T))).getLast? with
  | some v => if v.r.gone then none else some v.r
  | none => none
theorem filter_take {T : Nat} : ∀ {vs : List Ver} {m : Nat}, m ≤ vs.length → (∀ (k : Nat) (v : Ver), k < m → vs[k]? = some v → v.time ≤ T) → (∀ (k : Nat) (v : Ver), m ≤ k → vs[k]? = some v → T < v.time) → vs.filter (fun v => decide (v.time ≤ T)) = vs.take m
  | [], m, _, _, _ => by simp
  | v :: vs, 0, _, _, h2 => by
    have hv := h2 0 v (Nat.le_refl _) rfl
    have := filter_take (T := T) (vs := vs) (m := 0) (Nat.zero_le _) (fun k v hk => by omega) (fun k u _ hu => h2 (k + 1) u (by omega) (by simpa using hu))
    rw [List.filter_cons, if_neg (by simp; omega), this]
    simp
  | v :: vs, m + 1, hm, h1, h2 => by
    have hv := h1 0 v (by omega) rfl
    have := filter_take (T := T) (vs := vs) (m := m) (by simpa using hm) (fun k u hk hu => h1 (k + 1) u (by omega) (by simpa using hu)) (fun k u hk hu => h2 (k + 1) u (by omega) (by simpa using hu))
    rw [List.filter_cons, if_pos (by simpa using hv), this]
    simp
theorem at_zero {S : Store} {id : Int} {T : Nat} (h : ∀ (k : Nat) (v : Ver), (S.N id)[k]? = some v → T < v.time) : S.at id T = none := by
  unfold Store.at
  rw [filter_take (m := 0) (Nat.zero_le _) (fun k v hk => by omega) (fun k v _ => h k v)]
  simp
theorem at_succ {S : Store} {id : Int} {T k : Nat} {v : Ver} (hk : (S.N id)[k]? = some v) (h1 : ∀ (j : Nat) (v : Ver), j < k + 1 → (S.N id)[j]? = some v → v.time ≤ T) (h2 : ∀ (j : Nat) (v : Ver), k + 1 ≤ j → (S.N id)[j]? = some v → T < v.time) :
    S.at id T = if v.r.gone then none else some v.r := by
  unfold Store.at
  have hl : k < (S.N id).length := (List.getElem?_eq_some_iff.1 hk).1
  rw [filter_take (m := k + 1) hl h1 h2, List.getLast?_eq_getElem?]
  have : (List.take (k + 1) (S.N id))[(List.take (k + 1) (S.N id)).length - 1]? = some v := by
    rw [List.length_take, Nat.min_eq_left (by omega), List.getElem?_take_of_lt (by omega)]
    exact hk
  rw [this]

theorem ownsRow_keeps {w w' : World} {B e size n : Nat} {v : Value} {xs : List Value} (h : w.ownsRow B e size v n xs) (hk : ∀ g, v.ownBlock = some g → w'.heap[g]? = w.heap[g]?) : w'.ownsRow B e size v n xs := by
  obtain ⟨hl, h⟩ := h
  rcases h with h | ⟨g, cap, cur, rfl, hb, hg, h1, h2, h3, h4⟩
  · exact ⟨hl, .inl h⟩
  · exact ⟨hl, .inr ⟨g, cap, cur, rfl, hb, (hk g rfl).trans hg, h1, h2, h3, h4⟩⟩
theorem RowIs.keep {R D R' D' : Nat → Prop} {w w' : World} {v : Value} {vs : List Ver} (h : RowIs R D w v vs) (hR : Keeps R w w') (hD : Keeps D w w') (hRR : ∀ k, R k → R' k) (hDD : ∀ k, D k → D' k) : RowIs R' D' w' v vs := by
  obtain ⟨hne, g, cap, xs, rfl, hg, ho, hv⟩ := h
  exact ⟨hne, g, cap, xs, rfl, hRR _ hg, ownsRow_keeps ho (fun g' e => by cases e; exact hR _ hg), hv.keep hD hDD⟩
theorem StoreIn.keep {R D : Nat → Prop} {w w' : World} {p : Value} {S : Store} (h : StoreIn R D w p S) (hR : Keeps R w w') (hD : Keeps D w w') : StoreIn R D w' p S := by
  obtain ⟨s, m, f, rfl, hs, hm, hb, hf, h1, h2, h3⟩ := h
  exact ⟨s, m, f, rfl, hs, hm, (hR s hs).trans hb, hf.keep (hR m hm), fun id v e => (h1 id v e).keep hR hD (fun _ h => h) (fun _ h => h), h2, h3⟩

theorem Try.zero79 (w : World) : (zeroValue 79).run Try.prog w = .ok (.slice none 0 0) w := by kernel_rfl
theorem key3 : MKey Try.prog 3 iv := mkey_int Try.underlying3

theorem none_no (s m : Nat) (w : World) (h : w.cell? ⟨s, 0, none⟩ = some (.map (some m))) : Calls Try.prog 91 #[.pointer (some ⟨s, 0, none⟩)] w fun e w' => e = .returned (.bool false) ∧ w = w' := by
  have hq := fun w => run_eql_map_nil (P := Try.prog) w 96 3 79 (some m) Try.underlying96
  go_enter Try.func91, Try.ntmps91
  go_wp2
  go_ret
  exact ⟨rfl, rfl⟩

theorem last_any {R D : Nat → Prop} {w : World} {p : Value} {S : Store} (h : StoreIn R D w p S) : Calls Try.prog 48 #[p] w fun e w' => e = .returned (.int .u64 S.last) ∧ w = w' := by
  obtain ⟨s, m, f, rfl, -, -, hb, -⟩ := h
  have c0 : w.cell? ⟨s, 0, none⟩ = some (.map (some m)) := by simp [World.cell?, hb]
  have c2 : w.cell? ⟨s, 2, none⟩ = some (.int .u64 S.last) := by simp [World.cell?, hb]
  clear hb
  go_enter Try.func48, Try.ntmps48
  go_wp2_with (go_at_call 91; refine (none_no s m _ c0).mono ?_; rintro e w' ⟨rfl, rfl⟩)
  go_ret
  exact ⟨rfl, rfl⟩

theorem fresh_any {R D : Nat → Prop} {w : World} {p : Value} {S : Store} (h : StoreIn R D w p S) (hRD : ∀ k, R k → ¬ D k) (h0 : 0 ≤ S.given) (hg : S.given < 9223372036854775807) :
    Calls Try.prog 54 #[p] w fun e w' => e = .returned (.int .i64 (S.given + 1)) ∧ StoreIn R D w' p { S with given := S.given + 1 } ∧ Chg R w w' := by
  obtain ⟨s, m, f, rfl, hs, hm, hb, hf, h1, h2, h3⟩ := h
  have c0 : w.cell? ⟨s, 0, none⟩ = some (.map (some m)) := by simp [World.cell?, hb]
  have c1 : w.cell? ⟨s, 1, none⟩ = some (iv S.given) := by simp [World.cell?, hb]
  have f1 := free_block hb 1
  have fin : StoreIn R D (w.setCell ⟨s, 1, none⟩ (.int .i64 (S.given + 1))) (.pointer (some ⟨s, 0, none⟩)) { S with given := S.given + 1 } ∧ Chg R w (w.setCell ⟨s, 1, none⟩ (.int .i64 (S.given + 1))) := by
    have hms : m ≠ s := by
      rintro rfl
      obtain ⟨es, c, e, _⟩ := hf
      rw [hb] at e; cases e
    have hc := chg_set (M := R) (w := w) hs 1 (.int .i64 (S.given + 1))
    refine ⟨⟨s, m, f, rfl, hs, hm, ?_, hf.keep (heap_setCell_other _ _ _ _ hms), fun id v e => ?_, h2, h3⟩, hc⟩
    · have := heap_setCell_same w s 1 _ _ (.int .i64 (S.given + 1)) hb
      simpa using this
    · obtain ⟨hne, g, cap, xs, rfl, hg', ho, hv⟩ := h1 id v e
      have hgs : g ≠ s := by
        rintro rfl
        rcases ho.2 with ⟨e, _⟩ | ⟨g', cap', cur, e, _, hgg, _⟩
        · cases e
        · cases e; rw [hb] at hgg; cases hgg
      exact ⟨hne, g, cap, xs, rfl, hg', ownsRow_keeps ho (fun g' e => by cases e; exact heap_setCell_other _ _ _ _ hgs), hv.keep (fun k hk => heap_setCell_other _ _ _ _ (by rintro rfl; exact hRD _ hs hk)) (fun _ h => h)⟩
  have FIN := Lib.hid fin
  clear fin hb hf h1 h2 h3
  go_enter Try.func54, Try.ntmps54
  go_wp2_with (go_at_call 91; refine (none_no s m _ c0).mono ?_; rintro e w' ⟨rfl, rfl⟩)
  go_ret
  exact ⟨rfl, FIN.out.1, FIN.out.2⟩

/-- A record that is handed back, if there is one: its lists lie in new memory. -/
def RecOut (n : Nat) (w' : World) (o : Option Rec) (e : Ending) : Prop :=
  ∃ kv av, e = .returned (.tuple #[recV (o.getD Rec.zero) kv av, .bool o.isSome]) ∧ IntsIn (New n) w' kv (o.getD Rec.zero).kids ∧ IntsIn (New n) w' av (o.getD Rec.zero).attrs
theorem recOut_none (n : Nat) (w' : World) : RecOut n w' none (.returned (.tuple #[recV Rec.zero (.slice none 0 0) (.slice none 0 0), .bool false])) := ⟨_, _, rfl, intsIn_nil _ _, intsIn_nil _ _⟩

set_option maxRecDepth 100000 in
set_option maxHeartbeats 2000000 in
theorem at_none {R D : Nat → Prop} {w : World} {p : Value} {S : Store} (h : StoreIn R D w p S) (id : Int) (T : Nat) (hN : S.N id = []) :
    Calls Try.prog 51 #[p, .int .i64 id, .int .u64 T] w fun e w' => RecOut w.heap.size w' (S.at id T) e ∧ Below w.heap.size w w' := by
  have hat : S.at id T = none := at_zero (fun k v hk => by rw [hN] at hk; simp at hk)
  obtain ⟨s, m, f, rfl, hs, hm, hb, hf, h1, h2, h3⟩ := h
  have hfi : f id = none := by
    cases e : f id with
    | none => rfl
    | some v => exact absurd hN (h1 id v e).1
  have c0 : w.cell? ⟨s, 0, none⟩ = some (.map (some m)) := by simp [World.cell?, hb]
  have hslt : s < w.heap.size := (Array.getElem?_eq_some_iff.1 hb).1
  have c0' : ∀ o, (w.alloc o).cell? ⟨s, 0, none⟩ = some (.map (some m)) := fun o => (World.cell?_of_block (w := w) (Go.heap_alloc_old w o hslt)).trans c0
  have hf' : ∀ o, MapIs iv (w.alloc o) m f := fun o => hf.keep (Go.heap_alloc_old w o hf.lt)
  have hl : ∀ o, (Instr.lookup 96 (.map (some m)) (.int .i64 id) false).run Try.prog (w.alloc o) = .ok (.slice none 0 0) (w.alloc o) := fun o => by
    have := (hf' o).look key3 Try.underlying96 Try.zero79 id false
    rw [hfi] at this
    exact this
  rw [hat]
  have hsz : s ≠ w.heap.size := by omega
  clear hb hf h1 h2 h3 hfi hf' hat hN
  go_enter Try.func51, Try.ntmps51
  go_wp2_with (first | (go_at_call 91; refine (none_no s m _ (c0' _)).mono ?_; rintro e w' ⟨rfl, rfl⟩) | (go_at_call 95; refine (behind_nil _ _).mono ?_; rintro e w1 ⟨rfl, hb1⟩; have g0 := (hb1.block w.heap.size (by simp)).trans (Go.heap_alloc_new w _); obtain ⟨p0, p1, p2, p3, p4, p5, p6⟩ := cells7 g0; have hfr0 := free_block g0; clear g0))
  refine bodyPost_ret (v := .tuple #[recV Rec.zero (.slice none 0 0) (.slice none 0 0), .bool false]) (by simp [results, Try.results51, go_sem, Rec.zero, *]) rfl ⟨recOut_none _ _, ?_⟩
  have hb0 : Below w.heap.size w w1 := ((Below.refl _ w).alloc (Nat.le_refl _) _).trans (hb1.mono (by simp))
  exact below_setAt (below_setAt (below_setAt (below_setAt (below_setAt (below_setAt (below_setAt hb0 (Nat.le_refl _) _ _) (Nat.le_refl _) _ _) (Nat.le_refl _) _ _) (Nat.le_refl _) _ _) (Nat.le_refl _) _ _) (Nat.le_refl _) _ _) (Nat.le_refl _) _ _

/-- The cells of a version's record, at their places. -/
theorem ver_cells {R D : Nat → Prop} {w : World} {v : Value} {vs : List Ver} (h : RowIs R D w v vs) : ∃ g cap, v = .slice (some ⟨g, 0, none⟩) vs.length cap ∧ R g ∧ g < w.heap.size ∧
    ∀ (k : Nat) (u : Ver), vs[k]? = some u → ∃ kv av, IntsIn D w kv u.r.kids ∧ IntsIn D w av u.r.attrs ∧ ∀ c x, (verL u kv av)[c]? = some x → w.cell? ⟨g, k * 8 + c, none⟩ = some x := by
  obtain ⟨hne, g, cap, xs, rfl, hg, ho, hv⟩ := h
  obtain ⟨hl, ho⟩ := ho
  rcases ho with ⟨e, _⟩ | ⟨g', cap', cur, e, _, hgg, h1, h2, h3, h4⟩
  · cases e
  · cases e
    refine ⟨g, cap, rfl, hg, (Array.getElem?_eq_some_iff.1 hgg).1, fun k u hu => ?_⟩
    obtain ⟨kv, av, i1, i2, hc⟩ := hv.get k u hu
    refine ⟨kv, av, i1, i2, fun c x hx => ?_⟩
    have hc8 : c < 8 := by have := (List.getElem?_eq_some_iff.1 hx).1; simpa using this
    have hk : k < vs.length := (List.getElem?_eq_some_iff.1 hu).1
    have e := hc c hc8
    rw [hx, ← h4, List.getElem?_take_of_lt (by omega)] at e
    simpa [World.cell?, hgg] using e

set_option maxRecDepth 100000 in
set_option maxHeartbeats 4000000 in
theorem at_some {R D : Nat → Prop} {w : World} {p : Value} {S : Store} (h : StoreIn R D w p S) (hS : S.Wf) (hDw : ∀ k, D k → k < w.heap.size) (id : Int) (T : Nat) (hN : S.N id ≠ []) :
    Calls Try.prog 51 #[p, .int .i64 id, .int .u64 T] w fun e w' => RecOut w.heap.size w' (S.at id T) e ∧ Below w.heap.size w w' := by
  obtain ⟨s, m, f, rfl, hs, hm, hb, hf, h1, h2, h3⟩ := h
  obtain ⟨v, hfi⟩ : ∃ v, f id = some v := by
    cases e : f id with
    | none => exact absurd (h2 id e) hN
    | some v => exact ⟨v, rfl⟩
  obtain ⟨g, cap, rfl, -, hgl, hcells⟩ := ver_cells (h1 id v hfi)
  have c0 : w.cell? ⟨s, 0, none⟩ = some (.map (some m)) := by simp [World.cell?, hb]
  have hslt : s < w.heap.size := (Array.getElem?_eq_some_iff.1 hb).1
  have c0' : ∀ o, (w.alloc o).cell? ⟨s, 0, none⟩ = some (.map (some m)) := fun o => (World.cell?_of_block (w := w) (Go.heap_alloc_old w o hslt)).trans c0
  have hf' : ∀ o, MapIs iv (w.alloc o) m f := fun o => hf.keep (Go.heap_alloc_old w o hf.lt)
  have hl : ∀ o, (Instr.lookup 96 (.map (some m)) (.int .i64 id) false).run Try.prog (w.alloc o) = .ok (.slice (some ⟨g, 0, none⟩) (S.N id).length cap) (w.alloc o) := fun o => by
    have := (hf' o).look key3 Try.underlying96 Try.zero79 id false
    rw [hfi] at this
    exact this
  have hsz : s ≠ w.heap.size := by omega
  have hbeh := fun o => behind_any (fun k => (((S.N id)[k]?).map (·.time)).getD 0) T (S.N id).length cap g 0 (w.alloc o) (hS.len id) ?hmono (by simp; omega) ?hc
  case hmono =>
    intro i j hij hj hi
    by_cases e : i = j
    · subst e; exact hi
    · have hil : i < (S.N id).length := by omega
      have := List.pairwise_iff_getElem.1 (hS.rise id) i j hil hj (by omega)
      simp only [List.getElem?_eq_getElem hil, List.getElem?_eq_getElem hj, Option.map_some, Option.getD_some] at hi ⊢
      omega
  case hc =>
    intro k hk
    obtain ⟨kv, av, -, -, hc⟩ := hcells k _ (List.getElem?_eq_getElem hk)
    have := hc 0 _ rfl
    refine (World.cell?_of_block (a := ⟨g, 0 + k * 8, none⟩) (Go.heap_alloc_old w o hgl)).trans ?_
    rw [Nat.zero_add]
    simpa [List.getElem?_eq_getElem hk] using this
  have HB := Lib.hid hbeh
  have HC := Lib.hid hcells
  clear hb hf h1 h2 h3 hfi hf' hN hbeh hcells
  go_enter Try.func51, Try.ntmps51
  go_wp2_with (go_at_call 91; refine (none_no s m _ (c0' _)).mono ?_; rintro e w' ⟨rfl, rfl⟩)
  refine (HB.out _).mono ?_
  rintro e w1 ⟨⟨q, hq, rfl, ht1, ht2⟩, hb1⟩
  have g0 := (hb1.block w.heap.size (by simp)).trans (Go.heap_alloc_new w _)
  obtain ⟨p0, p1, p2, p3, p4, p5, p6⟩ := cells7 g0
  have hfr0 := free_block g0
  have HG := Lib.hid g0
  clear g0
  have hb0 : Below w.heap.size w w1 := ((Below.refl _ w).alloc (Nat.le_refl _) _).trans (hb1.mono (by simp))
  have T1 := Lib.hid ht1
  have T2 := Lib.hid ht2
  clear ht1 ht2 hb1
  cases q with
  | zero =>
    have hat : S.at id T = none := at_zero (fun k v hk => by
      have := T2.out k (Nat.zero_le _) (List.getElem?_eq_some_iff.1 hk).1
      simpa [hk] using this)
    have HAT := Lib.hid hat
    clear hat
    go_wp2
    refine bodyPost_ret (v := .tuple #[recV Rec.zero (.slice none 0 0) (.slice none 0 0), .bool false]) (by simp [results, Try.results51, go_sem, Rec.zero, *]) rfl ?_
    rw [HAT.out]
    refine ⟨recOut_none _ _, ?_⟩
    exact below_setAt (below_setAt (below_setAt (below_setAt (below_setAt (below_setAt (below_setAt hb0 (Nat.le_refl _) _ _) (Nat.le_refl _) _ _) (Nat.le_refl _) _ _) (Nat.le_refl _) _ _) (Nat.le_refl _) _ _) (Nat.le_refl _) _ _) (Nat.le_refl _) _ _
  | succ k =>
    obtain ⟨u, hu⟩ : ∃ u, (S.N id)[k]? = some u := ⟨_, List.getElem?_eq_getElem hq⟩
    have hat := at_succ (T := T) hu (fun j v hj hv => by have := T1.out j hj; simpa [hv] using this) (fun j v hj hv => by have := T2.out j hj (List.getElem?_eq_some_iff.1 hv).1; simpa [hv] using this)
    obtain ⟨kv, av, i1, i2, hc⟩ := HC.out k u hu
    have hok := hS.ok id u (List.mem_of_getElem? hu)
    have hc' : ∀ c x, (verL u kv av)[c]? = some x → w1.cell? ⟨g, k * 8 + c, none⟩ = some x := fun c x hx => (hb0.cell (p := ⟨g, k * 8 + c, none⟩) hgl).trans (hc c x hx)
    have e1 : w1.cell? ⟨g, k * 8 + 1, none⟩ = some _ := hc' 1 _ rfl
    have e2 : w1.cell? ⟨g, k * 8 + 1 + 1, none⟩ = some _ := (by rw [show k * 8 + 1 + 1 = k * 8 + 2 by omega]; exact hc' 2 _ rfl)
    have e3 : w1.cell? ⟨g, k * 8 + 1 + 2, none⟩ = some _ := (by rw [show k * 8 + 1 + 2 = k * 8 + 3 by omega]; exact hc' 3 _ rfl)
    have e4 : w1.cell? ⟨g, k * 8 + 1 + 3, none⟩ = some _ := (by rw [show k * 8 + 1 + 3 = k * 8 + 4 by omega]; exact hc' 4 _ rfl)
    have e5 : w1.cell? ⟨g, k * 8 + 1 + 4, none⟩ = some _ := (by rw [show k * 8 + 1 + 4 = k * 8 + 5 by omega]; exact hc' 5 _ rfl)
    have e6 : w1.cell? ⟨g, k * 8 + 1 + 5, none⟩ = some _ := (by rw [show k * 8 + 1 + 5 = k * 8 + 6 by omega]; exact hc' 6 _ rfl)
    have e7 : w1.cell? ⟨g, k * 8 + 1 + 6, none⟩ = some _ := (by rw [show k * 8 + 1 + 6 = k * 8 + 7 by omega]; exact hc' 7 _ rfl)
    have hlen := hS.len id
    have hwk : wrap64 (k : Int) = k := by unfold wrap64; omega
    have hk0 : (0 : Int) ≤ k := by omega
    have hkl : (k : Int) < (S.N id).length := by omega
    have hne : ¬ ((k : Int) + 1 = 0) := by omega
    have hneb : ((k : Int) + 1 == 0) = false := by simpa using hne
    obtain ⟨ut, r⟩ := u
    simp only at *
    clear hc hc' T1 T2 HB HC
    obtain ⟨kind, name, text, parent, kids, attrs, gone⟩ := r
    simp only at *
    cases gone
    · have HK := Lib.hid i1
      have HA := Lib.hid i2
      have HO := Lib.hid hok
      have HAT := Lib.hid hat
      clear hat hu i1 i2 hok
      go_wp2_with fail
      refine (copied_any ⟨kind, name, text, parent, kids, attrs, false⟩ kv av D _ (HK.out.keep ((keeps_below hb0).mono hDw)) (HA.out.keep ((keeps_below hb0).mono hDw)) (fun k hk => Nat.lt_of_lt_of_le (hDw k hk) hb0.size) HO.out.1 HO.out.2).mono ?_
      rintro e w2 ⟨⟨kv', av', rfl, j1, j2⟩, hb2⟩
      have hn1 : w.heap.size < w1.heap.size := (Array.getElem?_eq_some_iff.1 (show w1.heap[w.heap.size]? = some _ from HG.out)).1
      have hb3 : Below w.heap.size w w2 := hb0.trans (hb2.mono (by omega))
      have g0 := (hb2.block w.heap.size hn1).trans HG.out
      obtain ⟨q0, q1, q2, q3, q4, q5, q6⟩ := cells7 g0
      have hfr1 := free_block g0
      have J1 := Lib.hid j1
      have J2 := Lib.hid j2
      obtain ⟨ka', kc', rfl, -, -, -⟩ := j1
      obtain ⟨aa', ac', rfl, -, -, -⟩ := j2
      clear g0 p0 p1 p2 p3 p4 p5 p6 hfr0
      simp only [recV]
      go_wp2
      refine bodyPost_ret (v := .tuple #[recV ⟨kind, name, text, parent, kids, attrs, false⟩ (.slice ka' kids.length kc') (.slice aa' attrs.length ac'), .bool true]) (by simp [results, Try.results51, go_sem, recV, *]) rfl ?_
      rw [HAT.out]
      have hnm : ∀ k, New w1.heap.size k → New w.heap.size k := fun k hk => Nat.le_trans (Nat.le_of_lt hn1) hk
      have hnn : ¬ New w1.heap.size w.heap.size := Nat.not_le_of_lt hn1
      have hkp : Keeps (New w1.heap.size) w2 _ := ((((((((Keeps.refl _ w2).setAt hnn 0 (.int .i64 kind)).setAt hnn 1 (.string name)).setAt hnn 2 (.string text)).setAt hnn 3 (.int .i64 parent)).setAt hnn 4 (.slice ka' kids.length kc')).setAt hnn 5 (.slice aa' attrs.length ac')).setAt hnn 6 (.bool false))
      refine ⟨⟨_, _, rfl, (J1.out.keep hkp).mono hnm, (J2.out.keep hkp).mono hnm⟩, ?_⟩
      exact below_setAt (below_setAt (below_setAt (below_setAt (below_setAt (below_setAt (below_setAt hb3 (Nat.le_refl _) _ _) (Nat.le_refl _) _ _) (Nat.le_refl _) _ _) (Nat.le_refl _) _ _) (Nat.le_refl _) _ _) (Nat.le_refl _) _ _) (Nat.le_refl _) _ _
    · have HAT := Lib.hid hat
      clear hat hu i1 i2 hok
      go_wp2
      refine bodyPost_ret (v := .tuple #[recV Rec.zero (.slice none 0 0) (.slice none 0 0), .bool false]) (by simp [results, Try.results51, go_sem, Rec.zero, *]) rfl ?_
      rw [HAT.out]
      refine ⟨recOut_none _ _, ?_⟩
      exact below_setAt (below_setAt (below_setAt (below_setAt (below_setAt (below_setAt (below_setAt hb0 (Nat.le_refl _) _ _) (Nat.le_refl _) _ _) (Nat.le_refl _) _ _) (Nat.le_refl _) _ _) (Nat.le_refl _) _ _) (Nat.le_refl _) _ _) (Nat.le_refl _) _ _
theorem at_any {R D : Nat → Prop} {w : World} {p : Value} {S : Store} (h : StoreIn R D w p S) (hS : S.Wf) (hDw : ∀ k, D k → k < w.heap.size) (id : Int) (T : Nat) :
    Calls Try.prog 51 #[p, .int .i64 id, .int .u64 T] w fun e w' => RecOut w.heap.size w' (S.at id T) e ∧ Below w.heap.size w w' := by
  by_cases e : S.N id = []
  · exact at_none h id T e
  · exact at_some h hS hDw id T e
end Go.Proofs.Ytinkjhkbaadbpaa
