/- Install. -/
import Derived.Test.YtinkjhkbaadbpaaI2
import Derived.Maps.AppendAt
import Derived.Deep.DeepCutAuto
import Derived.Deep.RegionWith
import Derived.Deep.RegionHeld3
import Derived.Deep.AppendLies
namespace Go.Proofs.Ytinkjhkbaadbpaa
open Go.RowKit
open Go.ChangeMaps (setBlock)
set_option linter.unusedVariables false

abbrev chL (c : Chn) (kv av : Value) : List Value := .int .i64 c.id :: recL c.r kv av
/-- a slice of changes in memory, all of it in blocks of F -/
def ChnsIn (F : Nat → Prop) (w : World) (v : Value) (cs : List Chn) : Prop :=
  ∃ a cap, v = .slice a cs.length cap ∧ cs.length ≤ cap ∧ cap ≤ maxLen ∧ (cs = [] ∨ ∃ g off, a = some ⟨g, off, none⟩ ∧ F g ∧
    ∀ (k : Nat) (c : Chn), cs[k]? = some c → ∃ kv av, IntsIn F w kv c.r.kids ∧ IntsIn F w av c.r.attrs ∧ ∀ j x, (chL c kv av)[j]? = some x → w.cell? ⟨g, off + k * 8 + j, none⟩ = some x)
theorem ChnsIn.keep {F : Nat → Prop} {w w' : World} {v : Value} {cs : List Chn} (h : ChnsIn F w v cs) (hk : Keeps F w w') : ChnsIn F w' v cs := by
  obtain ⟨a, cap, rfl, h1, h2, rfl | ⟨g, off, rfl, hg, hc⟩⟩ := h
  · exact ⟨a, cap, rfl, h1, h2, .inl rfl⟩
  · refine ⟨_, cap, rfl, h1, h2, .inr ⟨g, off, rfl, hg, fun k c e => ?_⟩⟩
    obtain ⟨kv, av, i1, i2, h3⟩ := hc k c e
    exact ⟨kv, av, i1.keep hk, i2.keep hk, fun j x hx => (hk.cell (p := ⟨g, off + k * 8 + j, none⟩) hg).trans (h3 j x hx)⟩

def bad1 (g : Int) (seen : List Int) (c : Chn) : Bool := decide (c.id < 1) || decide (g < c.id) || decide (c.id ∈ seen) || !rightR c.r
def okL (g : Int) : List Int → List Chn → Bool
  | _, [] => true
  | seen, c :: cs => !bad1 g seen c && okL g (c.id :: seen) cs
/-- what a map of seen numbers holds -/
def seenF (l : List Int) (id : Int) : Option Value := if id ∈ l then some (.bool true) else none
def Store.put (S : Store) (T : Nat) (cs : List Chn) : Store := ⟨cs.foldl (putN T) S.N, S.given, T⟩
theorem okL_snoc (g : Int) : ∀ (cs : List Chn) (seen : List Int) (c : Chn), okL g seen (cs ++ [c]) = (okL g seen cs && !bad1 g ((cs.map (·.id)).reverse ++ seen) c)
  | [], seen, c => by simp [okL]
  | d :: cs, seen, c => by
    simp only [List.cons_append, okL, okL_snoc g cs, List.map_cons, List.reverse_cons, List.append_assoc, List.nil_append, Bool.and_assoc]
theorem bad1_perm {g : Int} {l l' : List Int} (h : ∀ x, x ∈ l ↔ x ∈ l') (c : Chn) : bad1 g l c = bad1 g l' c := by simp [bad1, h]
theorem okL_take {g : Int} {cs : List Chn} {k : Nat} {c : Chn} (hk : cs[k]? = some c) : okL g [] (cs.take (k + 1)) = (okL g [] (cs.take k) && !bad1 g ((cs.take k).map (·.id)) c) := by
  rw [List.take_add_one, hk]
  simp only [Option.toList_some]
  rw [okL_snoc, bad1_perm (l' := (cs.take k).map (·.id)) (by simp)]
theorem okL_mono (g : Int) : ∀ (cs : List Chn) (seen : List Int) (k : Nat), okL g seen cs = true → okL g seen (cs.take k) = true
  | [], _, _, _ => by simp [okL]
  | _ :: _, _, 0, _ => by simp [okL]
  | c :: cs, seen, k + 1, h => by
    simp only [okL, Bool.and_eq_true, List.take_succ_cons] at *
    exact ⟨h.1, okL_mono g cs _ k h.2⟩
theorem fold_other {T : Nat} : ∀ {cs : List Chn} {N : Int → List Ver} {id : Int}, id ∉ cs.map (·.id) → cs.foldl (putN T) N id = N id
  | [], _, _, _ => rfl
  | c :: cs, N, id, h => by
    simp only [List.map_cons, List.mem_cons, not_or] at h
    rw [List.foldl_cons, fold_other h.2]
    simp [putN, h.1]
theorem fold_take {T : Nat} {cs : List Chn} {N : Int → List Ver} {k : Nat} {c : Chn} (hk : cs[k]? = some c) : (cs.take (k + 1)).foldl (putN T) N = putN T ((cs.take k).foldl (putN T) N) c := by
  rw [List.take_add_one, hk]
  simp
theorem okL_id {g : Int} : ∀ {cs : List Chn} {seen : List Int} {k : Nat} {c : Chn}, okL g seen cs = true → cs[k]? = some c → c.id ∉ (cs.take k).map (·.id) ∧ c.id ∉ seen
  | [], _, _, _, _, h => by simp at h
  | d :: cs, seen, 0, c, h, hk => by
    simp at hk; subst hk
    simp only [okL, bad1, Bool.and_eq_true] at h
    simp at h
    simp [h]
  | d :: cs, seen, k + 1, c, h, hk => by
    simp only [okL, Bool.and_eq_true] at h
    have := okL_id h.2 (by simpa using hk)
    simp at this ⊢
    exact ⟨⟨this.2.1, this.1⟩, this.2.2⟩
theorem storeIn_chg {R D R' D' : Nat → Prop} {w w' : World} {p : Value} {S : Store} (h : StoreIn R D w p S) (hk : Below w.heap.size w w') (hR : ∀ k, R k → k < w.heap.size) (hD : ∀ k, D k → k < w.heap.size) : StoreIn R D w' p S := h.keep ((keeps_below hk).mono hR) ((keeps_below hk).mono hD)
theorem cells_new {w : World} {xs : List Value} {t : TypeId} : ∀ (j : Nat) (u : Value), xs[j]? = some u → (w.alloc (.cells xs.toArray t)).cell? ((⟨w.heap.size, 0, none⟩ : Addr).add j) = some u := by
  intro j u h
  have hj : ((⟨w.heap.size, 0, none⟩ : Addr).add j) = ⟨w.heap.size, j, none⟩ := by cases j <;> simp [Addr.add]
  rw [hj]
  have hn := Go.heap_alloc_new w (.cells xs.toArray t)
  simp only [World.cell?, hn]
  simpa using h
theorem set_last {R D : Nat → Prop} {w : World} {s : Nat} {S : Store} (h : StoreAt R D w (.pointer (some ⟨s, 0, none⟩)) S) (T : Nat) :
    StoreAt R D (w.setCell ⟨s, 2, none⟩ (.int .u64 T)) (.pointer (some ⟨s, 0, none⟩)) ⟨S.N, S.given, T⟩ ∧ Chg R w (w.setCell ⟨s, 2, none⟩ (.int .u64 T)) := by
  obtain ⟨⟨s', m, f, e, hs, hm, hb, hf, h1, h2, h3⟩, hr, hd, hrd⟩ := h
  obtain rfl : s = s' := by cases e; rfl
  have hsz : (w.setCell ⟨s, 2, none⟩ (.int .u64 T)).heap.size = w.heap.size := by simp [World.setCell]
  have hms : m ≠ s := by
    rintro rfl
    obtain ⟨es, c, e, _⟩ := hf
    rw [hb] at e; cases e
  refine ⟨⟨⟨s, m, f, rfl, hs, hm, ?_, hf.keep (heap_setCell_other _ _ _ _ hms), fun id v e => ?_, h2, h3⟩, fun k hk => by rw [hsz]; exact hr k hk, fun k hk => by rw [hsz]; exact hd k hk, hrd⟩, chg_set hs 2 _⟩
  · have := heap_setCell_same w s 2 _ _ (.int .u64 T) hb
    simpa using this
  · obtain ⟨hne, g, cap, xs, rfl, hg', ho, hv⟩ := h1 id v e
    have hgs : g ≠ s := by
      rintro rfl
      rcases ho.2 with ⟨e, _⟩ | ⟨g', cap', cur, e, _, hgg, _⟩
      · cases e
      · cases e; rw [hb] at hgg; cases hgg
    exact ⟨hne, g, cap, xs, rfl, hg', ownsRow_keeps ho (fun g' e => by cases e; exact heap_setCell_other _ _ _ _ hgs), hv.keep (fun k hk => heap_setCell_other _ _ _ _ (by rintro rfl; exact hrd _ hs hk)) (fun _ h => h)⟩
theorem seenF_step (l : List Int) (x : Int) : upd (seenF l) x (some (.bool true)) = seenF (l ++ [x]) := by
  funext y
  unfold upd seenF
  by_cases e : y = x
  · simp [e]
  · simp [e]
theorem below_setBlock {B b : Nat} (w : World) (h : B ≤ b) (o : Obj) : Below B w (setBlock w b o) := ⟨rfl, rfl, rfl, by simp, fun k hk => heap_setBlock_other _ (by omega)⟩
theorem Try.zero4 (w : World) : (zeroValue 4).run Try.prog w = .ok (.bool false) w := by kernel_rfl

set_option maxRecDepth 100000 in
set_option maxHeartbeats 4000000 in
theorem install_time {R D : Nat → Prop} {w : World} {p : Value} {S : Store} (h : StoreIn R D w p S) (T : Nat) (hT : T ≤ S.last) (v : Value) :
    Calls Try.prog 42 #[p, .int .u64 T, v] w fun e w' => e = .returned (.int .i64 43) ∧ w = w' := by
  obtain ⟨s, m, f, rfl, hs, hm, hb, hf, h1, h2, h3⟩ := h
  have c0 : w.cell? ⟨s, 0, none⟩ = some (.map (some m)) := by simp [World.cell?, hb]
  have c2 : w.cell? ⟨s, 2, none⟩ = some (.int .u64 S.last) := by simp [World.cell?, hb]
  clear hb hf h1 h2 h3
  go_enter Try.func42, Try.ntmps42
  go_wp2_with (go_at_call 91; refine (none_no s m _ c0).mono ?_; rintro e w' ⟨rfl, rfl⟩)
  go_ret
  exact ⟨rfl, rfl⟩

set_option maxRecDepth 100000 in
set_option maxHeartbeats 4000000 in
theorem install_any {R D F : Nat → Prop} {w : World} {p : Value} {S : Store} (h : StoreIn R D w p S) (hS : S.Wf) (T : Nat) (hT : S.last < T) (cs : List Chn) (v : Value) (hv : ChnsIn F w v cs) (hF : ∀ k, F k → k < w.heap.size ∧ ¬ R k) (hRw : ∀ k, R k → k < w.heap.size) (hDw : ∀ k, D k → k < w.heap.size) (hRD : ∀ k, R k → ¬ D k)
    (hlenN : ∀ id, (S.N id).length ≤ 1000000) (hcok : ∀ c ∈ cs, RecOk c.r) :
    Calls Try.prog 42 #[p, .int .u64 T, v] w fun e w' =>
      (okL S.given [] cs = false ∧ e = .returned (.int .i64 2) ∧ Below w.heap.size w w') ∨
      (okL S.given [] cs = true ∧ e = .returned (.int .i64 0) ∧ Chg R w w' ∧ ∃ R' D', StoreAt R' D' w' p (S.put T cs) ∧ (∀ k, R' k → R k ∨ w.heap.size ≤ k) ∧ (∀ k, D' k → D k ∨ w.heap.size ≤ k)) := by
  have hSI := Lib.hid h
  obtain ⟨s, m, f, rfl, hs, hm, hb, hf, h1, h2, h3⟩ := h
  obtain ⟨a, cap, rfl, hcl0, hcm, hcs⟩ := hv
  have c0 : w.cell? ⟨s, 0, none⟩ = some (.map (some m)) := by simp [World.cell?, hb]
  have c1 : w.cell? ⟨s, 1, none⟩ = some (iv S.given) := by simp [World.cell?, hb]
  have c2 : w.cell? ⟨s, 2, none⟩ = some (.int .u64 S.last) := by simp [World.cell?, hb]
  have hslt : s < w.heap.size := (Array.getElem?_eq_some_iff.1 hb).1
  have hTn : ¬ T ≤ S.last := by omega
  have hTd : decide (T ≤ S.last) = false := decide_eq_false hTn
  have hmm := @run_makeMap Try.prog
  have hmx : cs.length ≤ 9223372036854775807 := by unfold maxLen at hcm; omega
  have HB := Lib.hid hb
  have HF := Lib.hid hf
  have H1 := Lib.hid h1
  have H2 := Lib.hid h2
  have H3 := Lib.hid h3
  have HCS := Lib.hid hcs
  have HFF := Lib.hid hF
  clear hb hf h1 h2 h3 hcs hF
  go_enter Try.func42, Try.ntmps42
  go_wp2_with (go_at_call 91; refine (none_no s m _ c0).mono ?_; rintro e w' ⟨rfl, rfl⟩)
  have hb0 : Below w.heap.size w (w.alloc (.map #[] 0)) := (Below.refl _ w).alloc (Nat.le_refl _) _
  have hmn := mapIs_new iv w
  have HM0 := Lib.hid hmn
  clear hmn
  go_loopw [25] (fun i wr => ∃ k : Nat, k ≤ cs.length ∧ i = .int .i64 k ∧ okL S.given [] (cs.take k) = true ∧ MapIs iv wr w.heap.size (seenF ((cs.take k).map (·.id))) ∧ Below w.heap.size w wr) (fun i _ => cs.length - (Lib.intOf i).toNat)
  case atStart => exact ⟨0, Nat.zero_le _, rfl, rfl, HM0.out, hb0⟩
  case round =>
    obtain ⟨k, hk, rfl, hok, hmap, hbel⟩ := hrel
    have HOK := Lib.hid hok
    have HMAP := Lib.hid hmap
    have HBEL := Lib.hid hbel
    clear hok hmap hbel
    by_cases hlt : k < cs.length
    · obtain ⟨c, hck⟩ : ∃ c, cs[k]? = some c := ⟨_, List.getElem?_eq_getElem hlt⟩
      rcases HCS.out with rfl | ⟨g, off, rfl, hgF, hcc⟩
      · simp at hlt
      obtain ⟨kv, av, ik, ia, hcl⟩ := hcc k c hck
      have hcl' : ∀ j x, (chL c kv av)[j]? = some x → wr.cell? ⟨g, off + k * 8 + j, none⟩ = some x := fun j x hx => (HBEL.out.cell (p := ⟨g, off + k * 8 + j, none⟩) (HFF.out g hgF).1).trans (hcl j x hx)
      have e0 : wr.cell? ⟨g, off + k * 8, none⟩ = some _ := hcl' 0 _ rfl
      have e1 := hcl' 1 _ rfl
      have e2 := hcl' 2 _ rfl
      have e3 := hcl' 3 _ rfl
      have e4 := hcl' 4 _ rfl
      have e5 := hcl' 5 _ rfl
      have e6 := hcl' 6 _ rfl
      have e7 := hcl' 7 _ rfl
      have hsr : wr.cell? ⟨s, 1, none⟩ = some (iv S.given) := (HBEL.out.cell (p := ⟨s, 1, none⟩) hslt).trans c1
      have IK := Lib.hid ik
      have IA := Lib.hid ia
      obtain ⟨ka, kc, rfl, -, -, -⟩ := ik
      obtain ⟨aa, ac, rfl, -, -, -⟩ := ia
      have HCK := Lib.hid hck
      clear hcl hcl' hcc hck
      obtain ⟨cid, kind, name, text, parent, kids, attrs, gone⟩ := c
      simp only at *
      go_upto_region 9 with fail
      obtain ⟨W1, hW1⟩ : ∃ W1, wr.alloc (Obj.cells #[.int .i64 cid, .int .i64 kind, .string name, .string text, .int .i64 parent, .slice ka kids.length kc, .slice aa attrs.length ac, .bool gone] 125) = W1 := ⟨_, rfl⟩
      have hg1 := Go.heap_alloc_new wr (Obj.cells #[.int .i64 cid, .int .i64 kind, .string name, .string text, .int .i64 parent, .slice ka kids.length kc, .slice aa attrs.length ac, .bool gone] 125)
      have hbw1 : Below wr.heap.size wr (wr.alloc (Obj.cells #[.int .i64 cid, .int .i64 kind, .string name, .string text, .int .i64 parent, .slice ka kids.length kc, .slice aa attrs.length ac, .bool gone] 125)) := (Below.refl _ _).alloc (Nat.le_refl _) _
      rw [hW1] at hg1 hbw1 ⊢
      clear hW1
      have hb1 : Below w.heap.size w W1 := HBEL.out.trans (hbw1.mono HBEL.out.size)
      have hsr1 : W1.cell? ⟨s, 1, none⟩ = some (iv S.given) := (hb1.cell (p := ⟨s, 1, none⟩) hslt).trans c1
      have d0 : W1.cell? ⟨wr.heap.size, 0, none⟩ = some (.int .i64 cid) := by simp [World.cell?, hg1]
      have d1 : W1.cell? ⟨wr.heap.size, 1, none⟩ = some (.int .i64 kind) := by simp [World.cell?, hg1]
      have d2 : W1.cell? ⟨wr.heap.size, 2, none⟩ = some (.string name) := by simp [World.cell?, hg1]
      have d3 : W1.cell? ⟨wr.heap.size, 3, none⟩ = some (.string text) := by simp [World.cell?, hg1]
      have d4 : W1.cell? ⟨wr.heap.size, 4, none⟩ = some (.int .i64 parent) := by simp [World.cell?, hg1]
      have d5 : W1.cell? ⟨wr.heap.size, 5, none⟩ = some (.slice ka kids.length kc) := by simp [World.cell?, hg1]
      have d6 : W1.cell? ⟨wr.heap.size, 6, none⟩ = some (.slice aa attrs.length ac) := by simp [World.cell?, hg1]
      have d7 : W1.cell? ⟨wr.heap.size, 7, none⟩ = some (.bool gone) := by simp [World.cell?, hg1]
      have hmap1 : MapIs iv W1 w.heap.size (seenF ((cs.take k).map (·.id))) := HMAP.out.keep (hbw1.block _ HMAP.out.lt)
      obtain ⟨ids, hids⟩ : ∃ ids, (cs.take k).map (·.id) = ids := ⟨_, rfl⟩
      rw [hids] at hmap1
      have hlk : ∀ d, (Instr.lookup 144 (.map (some w.heap.size)) (.int .i64 cid) false).run Try.prog (W1.drewN d) = .ok (.bool (decide (cid ∈ ids))) (W1.drewN d) := fun d => by
        have := (hmap1.keep (w' := W1.drewN d) rfl).look key3 Try.underlying144 Try.zero4 cid false
        simp only [Bool.false_eq_true, if_false] at this
        rw [this]
        congr 1
        unfold seenF
        by_cases e : cid ∈ ids <;> simp [e]
      have hlk1 := hlk 1
      have ik1 : IntsIn F W1 (.slice ka kids.length kc) kids := IK.out.keep ((keeps_below hb1).mono (fun k hk => (HFF.out k hk).1))
      have ia1 : IntsIn F W1 (.slice aa attrs.length ac) attrs := IA.out.keep ((keeps_below hb1).mono (fun k hk => (HFF.out k hk).1))
      have hright := right_any ⟨kind, name, text, parent, kids, attrs, gone⟩ _ _ F W1.drew (ik1.keep (Keeps.refl _ _)) (ia1.keep (Keeps.refl _ _)) (fun k hk => Nat.lt_of_lt_of_le (HFF.out k hk).1 hb1.size)
      have HR := Lib.hid hright
      have HG1 := Lib.hid hg1
      have HBW := Lib.hid hbw1
      have HB1 := Lib.hid hb1
      have HM1 := Lib.hid hmap1
      clear hright hg1 hbw1 hb1 hmap1 ik1 ia1 e0 e1 e2 e3 e4 e5 e6 e7 hsr
      go_cut [52] (fun v wx => v = .bool (bad1 S.given ids ⟨cid, ⟨kind, name, text, parent, kids, attrs, gone⟩⟩) ∧ Below W1.heap.size W1 wx)
      case first =>
        have HL := Lib.hid hlk
        by_cases h1 : cid < 1
        · clear hlk hlk1
          have hb : bad1 S.given ids ⟨cid, ⟨kind, name, text, parent, kids, attrs, gone⟩⟩ = true := by simp [bad1, h1]
          go_quiet (fail)
          go_wp2_with fail
          go_meet
          exact ⟨congrArg Value.bool hb.symm, below_drewN (Below.refl _ _) _⟩
        · by_cases h2 : S.given < cid
          · clear hlk hlk1
            have hb : bad1 S.given ids ⟨cid, ⟨kind, name, text, parent, kids, attrs, gone⟩⟩ = true := by simp [bad1, h2]
            go_quiet (fail)
            go_wp2_with fail
            go_meet
            exact ⟨congrArg Value.bool hb.symm, below_drewN (Below.refl _ _) _⟩
          · by_cases h3 : cid ∈ ids
            · have hb : bad1 S.given ids ⟨cid, ⟨kind, name, text, parent, kids, attrs, gone⟩⟩ = true := by simp [bad1, h3]
              rw [decide_eq_true h3] at hlk hlk1
              go_quiet (fail)
              go_wp2_with fail
              go_meet
              exact ⟨congrArg Value.bool hb.symm, below_drewN (Below.refl _ _) _⟩
            · have hb : bad1 S.given ids ⟨cid, ⟨kind, name, text, parent, kids, attrs, gone⟩⟩ = !rightR ⟨kind, name, text, parent, kids, attrs, gone⟩ := by simp [bad1, h1, h2, h3]
              rw [decide_eq_false h3] at hlk hlk1
              have hlk2 : (Instr.lookup 144 (.map (some w.heap.size)) (.int .i64 cid) false).run Try.prog W1.drew = .ok (.bool false) W1.drew := hlk1
              clear hlk hlk1
              go_region_with (go_at_call 36; refine HR.out.mono ?_; rintro e w2 ⟨rfl, hb2⟩)
              all_goals
                go_wp2_with fail
                try go_simp
                go_meet
                exact ⟨congrArg Value.bool hb.symm, Below.trans (below_drewN (Below.refl _ _) 1) hb2⟩
      case rest =>
        obtain ⟨rfl, hbx⟩ := hcut
        have hst := okL_take (g := S.given) HCK.out
        rw [HOK.out, hids] at hst
        cases hbad : bad1 S.given ids ⟨cid, ⟨kind, name, text, parent, kids, attrs, gone⟩⟩
        · have dc0 : wc.cell? ⟨wr.heap.size, 0, none⟩ = some (.int .i64 cid) := (hbx.cell (p := ⟨wr.heap.size, 0, none⟩) ((Array.getElem?_eq_some_iff.1 HG1.out).1)).trans d0
          have hmapc : MapIs iv wc w.heap.size (seenF ids) := HM1.out.keep (hbx.block _ HM1.out.lt)
          have HMC := Lib.hid hmapc
          clear hmapc hlk hlk1
          go_wp2_with ((refine wpList_mapStore rfl _ _ _ 144 rfl key3 Try.underlying144 rfl HMC.out cid rfl (.bool true) rfl ?_; intro ob hmap2))
          go_roundw
          case rel =>
            refine ⟨k + 1, by omega, by go_num, by rw [hst, hbad]; rfl, ?_, ?_⟩
            · have e : (cs.take (k + 1)).map (·.id) = ids ++ [cid] := by rw [List.take_add_one, HCK.out, List.map_append, hids]; rfl
              rw [e, ← seenF_step]
              exact hmap2
            · exact (HB1.out.trans (hbx.mono HB1.out.size)).trans (below_setBlock _ (Nat.le_refl _) _)
          case measure => simp [Lib.intOf]; omega
        · rw [hbad] at hst
          have HST := Lib.hid hst
          clear hst hlk hlk1
          go_wp2
          go_ret
          refine .inl ⟨?_, rfl, HB1.out.trans (hbx.mono HB1.out.size)⟩
          cases e : okL S.given [] cs with
          | false => rfl
          | true =>
            have := okL_mono S.given cs [] (k + 1) e
            rw [HST.out] at this
            exact absurd this (by simp)
    · obtain rfl : k = cs.length := by omega
      have hok1 := HOK.out
      rw [List.take_length] at hok1
      have HOK1 := Lib.hid hok1
      clear hok1
      obtain ⟨i0, hi, hz0, hz1, hz2⟩ := info_parts Try.info93
      have hids2 := fun k c (hk : cs[k]? = some c) => (okL_id (seen := []) HOK1.out hk).1
      have HID := Lib.hid hids2
      have HLN := Lib.hid hlenN
      have HCO := Lib.hid hcok
      have HRW := Lib.hid hRw
      have HDW := Lib.hid hDw
      have HRD := Lib.hid hRD
      have hst0 : StoreAt R D wr (.pointer (some ⟨s, 0, none⟩)) S := ⟨storeIn_chg (R' := R) (D' := D) hSI.out HBEL.out hRw hDw, fun k hk => Nat.lt_of_lt_of_le (hRw k hk) HBEL.out.size, fun k hk => Nat.lt_of_lt_of_le (hDw k hk) HBEL.out.size, hRD⟩
      have HST0 := Lib.hid hst0
      clear hids2 hlenN hcok hRw hDw hRD hst0
      go_wp2
      go_loopw [59] (fun i wx => ∃ k : Nat, k ≤ cs.length ∧ i = .int .i64 k ∧ ∃ R' D', StoreAt R' D' wx (.pointer (some ⟨s, 0, none⟩)) ⟨(cs.take k).foldl (putN T) S.N, S.given, S.last⟩ ∧ (∀ k, R' k → R k ∨ w.heap.size ≤ k) ∧ (∀ k, D' k → D k ∨ w.heap.size ≤ k) ∧ Chg R w wx) (fun i _ => cs.length - (Lib.intOf i).toNat)
      case atStart => exact ⟨0, Nat.zero_le _, rfl, R, D, HST0.out, fun k h => .inl h, fun k h => .inl h, chg_new HBEL.out⟩
      case round =>
        obtain ⟨k, hk, rfl, R', D', ⟨hsx, hrl, hdl, hrd⟩, hR', hD', hchg⟩ := hrel
        obtain ⟨s', m', f', he, hs', hm', hb', hf', g1, g2, g3⟩ := hsx
        obtain rfl : s = s' := by cases he; rfl
        clear he
        by_cases hlt : k < cs.length
        · obtain ⟨c, hck⟩ : ∃ c, cs[k]? = some c := ⟨_, List.getElem?_eq_getElem hlt⟩
          rcases HCS.out with rfl | ⟨g, off, rfl, hgF, hcc⟩
          · simp at hlt
          obtain ⟨kv, av, ik, ia, hcl⟩ := hcc k c hck
          have hkF : Keeps F w wr := hchg.keeps HFF.out
          have hcl' : ∀ j x, (chL c kv av)[j]? = some x → wr.cell? ⟨g, off + k * 8 + j, none⟩ = some x := fun j x hx => (hkF.cell (p := ⟨g, off + k * 8 + j, none⟩) hgF).trans (hcl j x hx)
          have e0 : wr.cell? ⟨g, off + k * 8, none⟩ = some _ := hcl' 0 _ rfl
          have e1 := hcl' 1 _ rfl
          have e2 := hcl' 2 _ rfl
          have e3 := hcl' 3 _ rfl
          have e4 := hcl' 4 _ rfl
          have e5 := hcl' 5 _ rfl
          have e6 := hcl' 6 _ rfl
          have e7 := hcl' 7 _ rfl
          have IK := Lib.hid (ik.keep hkF)
          have IA := Lib.hid (ia.keep hkF)
          obtain ⟨ka, kc, rfl, -, -, -⟩ := ik
          obtain ⟨aa, ac, rfl, -, -, -⟩ := ia
          have HCK := Lib.hid hck
          have hrok := HCO.out c (List.mem_of_getElem? hck)
          have HROK := Lib.hid hrok
          have hfo : (cs.take k).foldl (putN T) S.N c.id = S.N c.id := fold_other (HID.out k c hck)
          obtain ⟨va, n, cap', xs, hV, hn, hown, hvers, hVR⟩ := row_or_nil (S := ⟨(cs.take k).foldl (putN T) S.N, S.given, S.last⟩) g1 g2 c.id
          have hnb : n ≤ 1000000 := by rw [hn]; simp only; rw [hfo]; exact HLN.out _
          have hst := fold_take (T := T) (N := S.N) hck
          clear hcl hcl' hcc hck hrok hfo
          obtain ⟨cid, kind, name, text, parent, kids, attrs, gone⟩ := c
          simp only at *
          have hsc : wr.cell? ⟨s, 0, none⟩ = some (.map (some m')) := by simp [World.cell?, hb']
          have GB := Lib.hid hb'
          have GF := Lib.hid hf'
          have G1 := Lib.hid g1
          have G2 := Lib.hid g2
          have G3 := Lib.hid g3
          have GV := Lib.hid hV
          have GN := Lib.hid hn
          have GO := Lib.hid hown
          have GX := Lib.hid hvers
          have GR := Lib.hid hVR
          have GRL := Lib.hid hrl
          have GDL := Lib.hid hdl
          have GRD := Lib.hid hrd
          have GR' := Lib.hid hR'
          have GD' := Lib.hid hD'
          have GCH := Lib.hid hchg
          have GST := Lib.hid hst
          have GKF := Lib.hid hkF
          clear hb' hf' g1 g2 g3 hV hn hown hvers hVR hrl hdl hrd hR' hD' hchg hst hkF
          go_upto_region 16 with fail
          obtain ⟨W1, hW1⟩ : ∃ W1, wr.alloc (Obj.cells #[.int .i64 cid, .int .i64 kind, .string name, .string text, .int .i64 parent, .slice ka kids.length kc, .slice aa attrs.length ac, .bool gone] 125) = W1 := ⟨_, rfl⟩
          have hg1 := Go.heap_alloc_new wr (Obj.cells #[.int .i64 cid, .int .i64 kind, .string name, .string text, .int .i64 parent, .slice ka kids.length kc, .slice aa attrs.length ac, .bool gone] 125)
          have hbw1 : Below wr.heap.size wr (wr.alloc (Obj.cells #[.int .i64 cid, .int .i64 kind, .string name, .string text, .int .i64 parent, .slice ka kids.length kc, .slice aa attrs.length ac, .bool gone] 125)) := (Below.refl _ _).alloc (Nat.le_refl _) _
          have hsz1 : (wr.alloc (Obj.cells #[.int .i64 cid, .int .i64 kind, .string name, .string text, .int .i64 parent, .slice ka kids.length kc, .slice aa attrs.length ac, .bool gone] 125)).heap.size = wr.heap.size + 1 := by simp
          rw [hW1] at hg1 hbw1 hsz1 ⊢
          clear hW1
          have d0 : W1.cell? ⟨wr.heap.size, 0, none⟩ = some (.int .i64 cid) := by simp [World.cell?, hg1]
          have d1 : W1.cell? ⟨wr.heap.size, 1, none⟩ = some (.int .i64 kind) := by simp [World.cell?, hg1]
          have d2 : W1.cell? ⟨wr.heap.size, 2, none⟩ = some (.string name) := by simp [World.cell?, hg1]
          have d3 : W1.cell? ⟨wr.heap.size, 3, none⟩ = some (.string text) := by simp [World.cell?, hg1]
          have d4 : W1.cell? ⟨wr.heap.size, 4, none⟩ = some (.int .i64 parent) := by simp [World.cell?, hg1]
          have d5 : W1.cell? ⟨wr.heap.size, 5, none⟩ = some (.slice ka kids.length kc) := by simp [World.cell?, hg1]
          have d6 : W1.cell? ⟨wr.heap.size, 6, none⟩ = some (.slice aa attrs.length ac) := by simp [World.cell?, hg1]
          have d7 : W1.cell? ⟨wr.heap.size, 7, none⟩ = some (.bool gone) := by simp [World.cell?, hg1]
          have hlts : s < wr.heap.size := GRL.out s hs'
          have hltm : m' < wr.heap.size := GRL.out m' hm'
          have hsc1 : W1.cell? ⟨s, 0, none⟩ = some (.map (some m')) := (hbw1.cell (p := ⟨s, 0, none⟩) hlts).trans hsc
          have hlkW : ∀ W2 : World, W2.heap[m']? = wr.heap[m']? → (Instr.lookup 96 (.map (some m')) (.int .i64 cid) false).run Try.prog W2 = .ok (.slice va n cap') W2 := fun W2 hW2 => by
            have := (GF.out.keep hW2).look key3 Try.underlying96 Try.zero79 cid false
            rw [← GV.out]
            exact this
          have hlk1 := hlkW W1.drew (hbw1.block _ hltm)
          have LKW := Lib.hid hlkW
          have hnes : ¬ (some s = Value.ownBlock (.slice va n cap')) := by
            intro e
            rcases GO.out.2 with ⟨e2, _⟩ | ⟨g2, cap2, cur, e2, _, hgg, _⟩
            · rw [e2] at e; cases e
            · rw [e2] at e
              cases e
              have := GB.out
              rw [hgg] at this; cases this
          have hnem : ¬ (some m' = Value.ownBlock (.slice va n cap')) := by
            intro e
            rcases GO.out.2 with ⟨e2, _⟩ | ⟨g2, cap2, cur, e2, _, hgg, _⟩
            · rw [e2] at e; cases e
            · rw [e2] at e
              cases e
              obtain ⟨es, cl, e4, _⟩ := GF.out
              rw [hgg] at e4; cases e4
          have hsm : s ≠ m' := by
            rintro rfl
            obtain ⟨es, cl, e4, _⟩ := GF.out
            rw [GB.out] at e4; cases e4
          have hneb : ¬ (some wr.heap.size = Value.ownBlock (.slice va n cap')) := fun e => by have := (ownsRow_base GO.out e.symm).2; omega
          have hss : ∀ w' : World, (∀ k, k < W1.heap.size → ¬ (some k = Value.ownBlock (.slice va n cap')) → k ≠ m' → w'.heap[k]? = W1.heap[k]?) → (w'.cell? ⟨s, 0, none⟩ = some (.map (some m')) ∧ w'.cell? ⟨wr.heap.size, 0, none⟩ = some (.int .i64 cid) ∧ w'.cell? ⟨wr.heap.size, 1, none⟩ = some (.int .i64 kind) ∧ w'.cell? ⟨wr.heap.size, 2, none⟩ = some (.string name) ∧ w'.cell? ⟨wr.heap.size, 3, none⟩ = some (.string text) ∧ w'.cell? ⟨wr.heap.size, 4, none⟩ = some (.int .i64 parent) ∧ w'.cell? ⟨wr.heap.size, 5, none⟩ = some (.slice ka kids.length kc) ∧ w'.cell? ⟨wr.heap.size, 6, none⟩ = some (.slice aa attrs.length ac) ∧ w'.cell? ⟨wr.heap.size, 7, none⟩ = some (.bool gone)) := fun w' hw' => by
            have hbx := hw' wr.heap.size (by omega) hneb (by omega)
            have hbs := hw' s (by omega) hnes hsm
            exact ⟨(World.cell?_of_block (a := ⟨s, 0, none⟩) hbs).trans hsc1, (World.cell?_of_block (a := ⟨wr.heap.size, 0, none⟩) hbx).trans d0, (World.cell?_of_block (a := ⟨wr.heap.size, 1, none⟩) hbx).trans d1, (World.cell?_of_block (a := ⟨wr.heap.size, 2, none⟩) hbx).trans d2, (World.cell?_of_block (a := ⟨wr.heap.size, 3, none⟩) hbx).trans d3, (World.cell?_of_block (a := ⟨wr.heap.size, 4, none⟩) hbx).trans d4, (World.cell?_of_block (a := ⟨wr.heap.size, 5, none⟩) hbx).trans d5, (World.cell?_of_block (a := ⟨wr.heap.size, 6, none⟩) hbx).trans d6, (World.cell?_of_block (a := ⟨wr.heap.size, 7, none⟩) hbx).trans d7⟩
          have HSS := Lib.hid hss
          clear hss
          have hcp := copied_any ⟨kind, name, text, parent, kids, attrs, gone⟩ (.slice ka kids.length kc) (.slice aa attrs.length ac) F W1.drew (IK.out.keep (((keeps_below hbw1).mono (fun k hk => Nat.lt_of_lt_of_le (HFF.out k hk).1 GCH.out.size)))) (IA.out.keep (((keeps_below hbw1).mono (fun k hk => Nat.lt_of_lt_of_le (HFF.out k hk).1 GCH.out.size)))) (fun k hk => Nat.lt_of_lt_of_le (HFF.out k hk).1 (Nat.le_trans GCH.out.size hbw1.size)) HROK.out.1 HROK.out.2
          have HCP := Lib.hid hcp
          have HBW := Lib.hid hbw1
          have hltd : wr.heap.size < W1.heap.size := by omega
          clear hlkW hcp hg1 hsc e0 e1 e2 e3 e4 e5 e6 e7
          go_region_held3 (fun w' => w'.cell? ⟨s, 0, none⟩ = some (.map (some m')) ∧ w'.cell? ⟨wr.heap.size, 0, none⟩ = some (.int .i64 cid) ∧ w'.cell? ⟨wr.heap.size, 1, none⟩ = some (.int .i64 kind) ∧ w'.cell? ⟨wr.heap.size, 2, none⟩ = some (.string name) ∧ w'.cell? ⟨wr.heap.size, 3, none⟩ = some (.string text) ∧ w'.cell? ⟨wr.heap.size, 4, none⟩ = some (.int .i64 parent) ∧ w'.cell? ⟨wr.heap.size, 5, none⟩ = some (.slice ka kids.length kc) ∧ w'.cell? ⟨wr.heap.size, 6, none⟩ = some (.slice aa attrs.length ac) ∧ w'.cell? ⟨wr.heap.size, 7, none⟩ = some (.bool gone))
            (first
              | exact HSS.out _ (fun k hk hn hkm => (heap_setBlock_other _ hkm).trans ((hgrow.block k (Nat.lt_of_lt_of_le hk (Nat.le_trans hb2.size (by simp))) hn).trans ((Go.heap_alloc_old w2 _ (Nat.lt_of_lt_of_le hk hb2.size)).trans (hb2.block k hk))))
              | exact HSS.out _ (fun k hk hn _ => (hgrow.block k (Nat.lt_of_lt_of_le hk (Nat.le_trans hb2.size (by simp))) hn).trans ((Go.heap_alloc_old w2 _ (Nat.lt_of_lt_of_le hk hb2.size)).trans (hb2.block k hk)))
              | exact HSS.out _ (fun k hk _ _ => (Go.heap_alloc_old w2 _ (Nat.lt_of_lt_of_le hk hb2.size)).trans (hb2.block k hk))
              | exact HSS.out _ (fun k hk _ _ => hb2.block k hk)
              | exact HSS.out _ (fun k _ _ _ => rfl))
            (first
              | (go_at_call 92; refine HCP.out.mono ?_; rintro e w2 ⟨⟨kv', av', rfl, j1, j2⟩, hb2⟩; have J1 := Lib.hid j1; have J2 := Lib.hid j2; obtain ⟨ka', kc', rfl, -, -, -⟩ := j1; obtain ⟨aa', ac', rfl, -, -, -⟩ := j2; simp only [recV]; have hlk2 := LKW.out w2 ((hb2.block m' (Nat.lt_trans hltm hltd)).trans (HBW.out.block m' hltm)); have hlk3 := fun o => LKW.out (w2.alloc o) ((Go.heap_alloc_old w2 o (Nat.lt_of_lt_of_le (Nat.lt_trans hltm hltd) hb2.size)).trans ((hb2.block m' (Nat.lt_trans hltm hltd)).trans (HBW.out.block m' hltm))))
              | (refine step_append_lies _ (by rfl) _ _ 79 (by rfl) 0 93 i0 _ 8 112 Try.underlying79 hi hz0 hz1 hz2 rfl (by decide) (.slice va n cap') n xs (by rfl) (ownsRow_keeps GO.out (fun k hk => (Go.heap_alloc_old w2 _ (Nat.lt_of_lt_of_le (Nat.lt_trans (ownsRow_base GO.out hk).2 hltd) hb2.size)).trans ((hb2.block k (Nat.lt_trans (ownsRow_base GO.out hk).2 hltd)).trans (HBW.out.block k (ownsRow_base GO.out hk).2)))) ⟨w2.heap.size, 0, none⟩ 1 1 (verL ⟨T, ⟨kind, name, text, parent, kids, attrs, gone⟩⟩ (.slice ka' kids.length kc') (.slice aa' attrs.length ac')) (by rfl) (by rfl) (cells_new (xs := verL ⟨T, ⟨kind, name, text, parent, kids, attrs, gone⟩⟩ (.slice ka' kids.length kc') (.slice aa' attrs.length ac'))) (by simp [Value.oneCell']) (by omega) (by unfold maxLen; omega) (by omega) (Nat.zero_le _) (w2.heap.size + 1) (by simp) ?_; intro g2 cap2 w3 hown3 hgrow hloc hlt3; obtain ⟨es', ck', hmu, hview⟩ := MapIs.store (GF.out.keep ((hgrow.block m' (Nat.lt_of_lt_of_le (Nat.lt_trans hltm hltd) (Nat.le_trans hb2.size (by simp))) hnem).trans ((Go.heap_alloc_old w2 _ (Nat.lt_of_lt_of_le (Nat.lt_trans hltm hltd) hb2.size)).trans ((hb2.block m' (Nat.lt_trans hltm hltd)).trans (HBW.out.block m' hltm))))) key3 Try.underlying96 cid (.slice (some ⟨g2, 0, none⟩) (n + 1) cap2)))
          all_goals
            go_wp2_with fail
            go_roundw
            case measure => simp [Lib.intOf]; omega
            case rel =>
              have hc2 : Chg (fun _ => False) wr (w2.alloc (Obj.cells #[.int .u64 T, .int .i64 kind, .string name, .string text, .int .i64 parent, .slice ka' kids.length kc', .slice aa' attrs.length ac', .bool gone] 93)) := (chg_new HBW.out).trans ((chg_drewN W1 1).trans ((chg_new hb2).trans (chg_alloc _ _)))
              have hsw : W1.heap.size ≤ w2.heap.size := hb2.size
              have hkeepw : Keeps (fun k => New W1.drew.heap.size k ∧ k < w2.heap.size) w2 (w2.alloc (Obj.cells #[.int .u64 T, .int .i64 kind, .string name, .string text, .int .i64 parent, .slice ka' kids.length kc', .slice aa' attrs.length ac', .bool gone] 93)) := fun k hk => Go.heap_alloc_old w2 _ hk.2
              have hmono : ∀ k, (New W1.drew.heap.size k ∧ k < w2.heap.size) → (wr.heap.size ≤ k ∧ k < (w2.alloc (Obj.cells #[.int .u64 T, .int .i64 kind, .string name, .string text, .int .i64 parent, .slice ka' kids.length kc', .slice aa' attrs.length ac', .bool gone] 93)).heap.size) := fun k hk => ⟨Nat.le_trans HBW.out.size hk.1, by rw [World.size_alloc]; exact Nat.lt_succ_of_lt hk.2⟩
              have hps := put_step (T := T) (r := ⟨kind, name, text, parent, kids, attrs, gone⟩) (S := ⟨(cs.take k).foldl (putN T) S.N, S.given, S.last⟩) (ob := .map es' ck') GRL.out GDL.out GRD.out hs' hm' GB.out GF.out G1.out G2.out G3.out GV.out.symm hc2 GN.out hown3 GX.out hgrow
                (by rcases hloc with h | h
                    · exact .inl h.symm
                    · exact .inr (by rw [World.size_alloc, h]; rfl))
                ((J1.out.bound.keep hkeepw).mono hmono) ((J2.out.bound.keep hkeepw).mono hmono) ⟨es', ck', heap_setBlock_same (Nat.lt_of_lt_of_le (Nat.lt_trans hltm hltd) (Nat.le_trans hb2.size (Nat.le_trans (by simp) hgrow.size))) _, hview⟩
              refine ⟨k + 1, by omega, by go_num, (fun j => R' j ∨ Value.ownBlock (.slice (some ⟨g2, 0, none⟩) (n + 1) cap2) = some j), (fun j => D' j ∨ (wr.heap.size ≤ j ∧ j < (w2.alloc (Obj.cells #[.int .u64 T, .int .i64 kind, .string name, .string text, .int .i64 parent, .slice ka' kids.length kc', .slice aa' attrs.length ac', .bool gone] 93)).heap.size)), ?_, ?_, ?_, GCH.out.andThen hps.2.1 ?_⟩
              · rw [GST.out]; exact hps.1
              · rintro j (h | h)
                · exact GR'.out j h
                · rcases hps.2.2 j h with h | h
                  · exact GR'.out j h
                  · exact .inr (Nat.le_trans GCH.out.size h)
              · rintro j (h | h)
                · exact GD'.out j h
                · exact .inr (Nat.le_trans GCH.out.size h.1)
              · intro j hj h
                rcases GR'.out j h with h | h
                · exact h
                · omega
        · obtain rfl : k = cs.length := by omega
          rw [List.take_length] at g1 g2 hb'
          have hsa : StoreAt R' D' wr (.pointer (some ⟨s, 0, none⟩)) ⟨cs.foldl (putN T) S.N, S.given, S.last⟩ := ⟨⟨s, m', f', rfl, hs', hm', hb', hf', g1, g2, g3⟩, hrl, hdl, hrd⟩
          have q2 : wr.cell? ⟨s, 2, none⟩ = some (.int .u64 S.last) := by simp [World.cell?, hb']
          have qf := free_block hb' 2
          have HFIN := Lib.hid (set_last hsa T)
          have GR' := Lib.hid hR'
          have GD' := Lib.hid hD'
          have GCH := Lib.hid hchg
          clear hb' hf' g1 g2 g3 hrl hdl hrd hR' hD' hchg hsa
          go_wp2
          go_ret
          refine .inr ⟨HOK1.out, rfl, GCH.out.andThen HFIN.out.2 ?_, R', D', HFIN.out.1, GR'.out, GD'.out⟩
          intro j hj h
          rcases GR'.out j h with h | h
          · exact h
          · omega
end Go.Proofs.Ytinkjhkbaadbpaa
