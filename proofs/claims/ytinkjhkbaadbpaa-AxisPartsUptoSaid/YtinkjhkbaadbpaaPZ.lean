import Derived.Test.YtinkjhkbaadbpaaTZ
import Derived.Maps.OwnIn
import Derived.Test.YtinkjhkbaadbpaaVO
import Derived.Test.YtinkjhkbaadbpaaNM
/- Nodes (22) on the axes self, ancestor, descendant, following, preceding: the list is new. -/
namespace Go.Proofs.Ytinkjhkbaadbpaa
open Go.RowKit Go.Shelf
open Go.ChangeMaps (setBlock)
set_option linter.unusedVariables false
set_option linter.unusedSimpArgs false

/-- a list that is handed back, in blocks that were not there -/
def AxNew (w : World) (xs : List Int) (e : Ending) (w' : World) : Prop := (∃ u, e = .returned u ∧ IntsIn (fun k => w.heap.size ≤ k ∧ k < w'.heap.size) w' u xs) ∧ Below w.heap.size w w'
theorem AxNew.back {w w1 w2 : World} {xs : List Int} {e : Ending} (hb : Below w.heap.size w w1) (h : AxNew w1 xs e w2) : AxNew w xs e w2 := by
  obtain ⟨⟨u, he, hu⟩, hb2⟩ := h
  exact ⟨⟨u, he, hu.mono (fun k hk => ⟨Nat.le_trans hb.size hk.1, hk.2⟩)⟩, hb.trans (hb2.mono hb.size)⟩
theorem row_new {w : World} {B n : Nat} {v : Value} {xs : List Int} (hn : n ≤ B) (h : w.ownsRow B 3 1 v xs.length (xs.map (Value.int .i64))) : IntsIn (fun k => n ≤ k ∧ k < w.heap.size) w v xs :=
  (intsIn_row h).bound.mono (fun k hk => ⟨Nat.le_trans hn hk.1, hk.2⟩)
section
attribute [local go_sem] Oper.semAt_some
set_option maxRecDepth 100000 in
set_option maxHeartbeats 4000000 in
theorem below_new {Rb : Nat → Prop} {w : World} {v : Nat} {g : Int → Option Rec} {keys : List Int} (hR : ReadsK Rb w v g) (hRl : ∀ k, Rb k → k < w.heap.size) (hk : KeysOf g keys) (hkl : keys.length ≤ 1000000000) (id : Int) :
    Calls Try.prog 70 #[ptr v, iv id] w (AxNew w (belowF g (keys.length + 1) id)) := by
  obtain ⟨i0, hi, hz0, hz1, hz2⟩ := info_parts Try.info3
  obtain ⟨W1, hW1⟩ : ∃ W1, (w.alloc (.cells #[iv id] 3)).alloc (.cells #[.slice none 0 0] 33) = W1 := ⟨_, rfl⟩
  have hs1 : W1.heap.size = w.heap.size + 2 := by rw [← hW1]; simp
  have hb1 : Below w.heap.size w W1 := by rw [← hW1]; exact ((Below.refl _ w).alloc (Nat.le_refl _) _).alloc (by simp) _
  have hL1 : W1.heap[w.heap.size + 1]? = some (.cells #[.slice none 0 0] 33 (0, 0)) := by
    rw [← hW1]
    have := Go.heap_alloc_new (w.alloc (.cells #[iv id] 3)) (.cells #[.slice none 0 0] 33)
    rw [World.size_alloc] at this
    exact this
  have hI1 : W1.heap[w.heap.size]? = some (.cells #[iv id] 3 (0, 0)) := by rw [← hW1]; exact (Go.heap_alloc_old _ _ (by simp)).trans (Go.heap_alloc_new _ _)
  obtain ⟨W3, hW3⟩ : ∃ W3, (W1.alloc (.cells #[ptr v] 35)).alloc (.cells #[iv id] 3) = W3 := ⟨_, rfl⟩
  have hs3 : W3.heap.size = w.heap.size + 4 := by rw [← hW3]; simp [hs1]
  have hb3 : Below W1.heap.size W1 W3 := by rw [← hW3]; exact ((Below.refl _ _).alloc (Nat.le_refl _) _).alloc (by simp) _
  have h2 : W3.heap[w.heap.size + 2]? = some (.cells #[ptr v] 35 (0, 0)) := by
    rw [← hW3]
    refine (Go.heap_alloc_old _ _ (by simp; omega)).trans ?_
    rw [← hs1]; exact Go.heap_alloc_new _ _
  have h3 : W3.heap[w.heap.size + 2 + 1]? = some (.cells #[iv id] 3 (0, 0)) := by
    rw [← hW3]
    have := Go.heap_alloc_new (W1.alloc (.cells #[ptr v] 35)) (.cells #[iv id] 3)
    rw [World.size_alloc, hs1] at this
    exact this
  have hL3 := (hb3.block (w.heap.size + 1) (by omega)).trans hL1
  have hI3 := (hb3.block w.heap.size (by omega)).trans hI1
  have hbB : Below w.heap.size w W3 := hb1.trans (hb3.mono hb1.size)
  have hgv := through_gives (id := id) 9 (by omega) (hR.later (fun k hk => hbB.block k (hRl k hk))) hk hkl (b1 := w.heap.size + 2) (b2 := w.heap.size + 2 + 1) (by simp [World.cell?, h2]) (by simp [World.cell?, h3])
  have hlt := through_any v id W1
  rw [hs1, hW3] at hlt
  have hinv := goS_inv hk (keys.length + 1) id false [] (GoInv.nil keys)
  have hlen : (goF g (keys.length + 1) id).length ≤ keys.length := hinv.len
  have d10 : W1.cell? ⟨w.heap.size, 0, none⟩ = some (iv id) := by simp [World.cell?, hI1]
  have HT := Lib.hid hlt
  have HW1 := Lib.hid hW1
  clear hW1 hW3 hlt h2 h3 hb1 hb3 hL1 hinv hI1
  refine (callsIn_wide (n := 10)).1 ?_
  refine callsIn_of_wp_marks Try.func70 rfl trivial ?_ rfl
  simp only [Try.ntmps70, List.size_toArray, List.length_cons, List.length_nil, Nat.reduceAdd, Nat.reduceSub, Array.replicate_succ, Array.replicate_zero, List.push_toArray, List.append_toArray, List.nil_append, List.cons_append]
  gi_upto_region 2 with fail
  rw [HW1.out]
  gi_wp2_with fail
  refine ⟨trivial, (callsIn_wide.2 HT.out).mono ?_⟩
  rintro e w9 ⟨rfl, rfl⟩
  gi_wp2
  obtain ⟨acc, hacc⟩ : ∃ acc, goF g (keys.length + 1) id = acc := ⟨_, rfl⟩
  have hall : belowF g (keys.length + 1) id = (acc.filter (fun p => decide (p.1 ≠ id) && !p.2)).map (·.1) := by unfold belowF; rw [hacc]
  rw [hacc] at hgv hlen
  have HALL := Lib.hid hall
  clear hall hacc
  refine wpIn_rangeFunc_gives2 rfl (by omega) (gf := 119) (lb := #[ptr (w.heap.size + 2), ptr (w.heap.size + 2 + 1)]) rfl trivial (enters_of Try.func119 (by kernel_rfl) rfl)
    hgv (Keeps.refl _ _) (fun k hk => by rcases hk with rfl | rfl | h; omega; omega; have := hRl k h; omega) (fun _ => rfl)
    (fun pre M W => ∃ v, Boxed W (w.heap.size + 1) 33 v ∧ Boxed W w.heap.size 3 (iv id) ∧ W.ownsRow (w.heap.size + 4) 3 1 v (pre.filter (fun p => decide (p.1 ≠ id) && !p.2)).length ((pre.filter (fun p => decide (p.1 ≠ id) && !p.2)).map (fun x => iv x.1)) ∧ (∀ k, M k ↔ k = w.heap.size + 1 ∨ v.ownBlock = some k) ∧ Below w.heap.size w W)
    (fun _ _ _ _ => False)
    (fun pre M A A' ⟨v, i1, i0, i2, i3, i4⟩ hc => ⟨v, chg_boxed hc (fun h => h.2 ((i3 _).2 (.inl rfl))) i1, chg_boxed hc (fun h => by have := h.1; omega) i0, ownsRow_keeps i2 (fun g hg => hc.block g (ownsRow_base i2 hg).2 (fun h => h.2 ((i3 _).2 (.inr hg)))), i3, i4.trans ⟨hc.os, hc.tape, hc.output, hc.size, fun k hk => hc.block k (by have := i4.size; omega) (fun h => by have := h.1; omega)⟩⟩)
    (fun _ _ _ _ _ hs _ => hs)
    (fun pre M A ⟨v, i1, i0, i2, i3, i4⟩ => ⟨v, i1, i0, i2, fun k => ⟨fun h => (i3 k).1 h.1, fun h => ⟨(i3 k).2 h, h.elim (fun e => by rw [e]; exact i1.lt) (fun e => (ownsRow_base i2 e).2)⟩⟩, i4⟩)
    (fun _ _ _ _ h => h)
    (fun k => k = w.heap.size + 1) (fun k hk => ⟨by omega, fun h => by rcases h with h | h | h; omega; omega; have := hRl k h; omega⟩)
    ⟨.slice none 0 0, hL3, hI3, World.ownsRow_nil _ _ _ _, fun k => by simp [Value.ownBlock], hbB⟩
    (fun x => { tmps := #[ptr v, iv id, undef, .pointer (some ⟨w.heap.size, 0, none⟩), .slice none 0 0, .pointer (some ⟨w.heap.size + 1, 0, none⟩), iv x.1, .bool x.2, ptr v, iv id, .func (.func 119) #[] #[ptr (w.heap.size + 2), ptr (w.heap.size + 2 + 1)], iv x.1, .bool x.2, undef, undef, undef, undef, undef, undef, undef, undef, undef, undef, undef, undef], defers := [] }) ?assign ?body ?done ?stop
  case assign =>
    intro l x W K hK
    gi_wp2
    exact hK
  case body =>
    rintro l pre x M W hpre hsz ⟨u, i1, i0, i2, i3, i4⟩
    obtain ⟨x1, x2⟩ := x
    have d0 := i1.cell
    have d1 := i1.frozen
    have d2 := i0.cell
    have hpl : pre.length + 1 ≤ acc.length := by have := hpre.length_le; simpa using this
    have hfl := List.length_filter_le (fun p : Int × Bool => decide (p.1 ≠ id) && !p.2) pre
    have hsn : (pre ++ [(x1, x2)]).filter (fun p => decide (p.1 ≠ id) && !p.2) = pre.filter (fun p => decide (p.1 ≠ id) && !p.2) ++ (if (decide (x1 ≠ id) && !x2) = true then [(x1, x2)] else []) := by
      rw [List.filter_append, List.filter_cons, List.filter_nil]
    have hlt := i1.lt
    have HSN := Lib.hid hsn
    have I1 := Lib.hid i1
    have I0 := Lib.hid i0
    have I2 := Lib.hid i2
    have I3 := Lib.hid i3
    have I4 := Lib.hid i4
    clear i1 i0 i2 i3 i4 hgv hsn
    have hmx : Try.prog.follows .mixedOrders = true := by kernel_rfl
    by_cases hin : x1 = id
    · have hne : (x1 != id) = false := by simpa using hin
      have HIN := Lib.hid hin
      clear hin
      gi_wp2
      all_goals (try go_bits)
      exact ⟨M, Chg.refl _ _, fun k hk => .inl hk, u, I1.out, I0.out, by rw [HSN.out, if_neg (by simp [HIN.out]), List.append_nil]; exact I2.out, I3.out, I4.out⟩
    · have hne : (x1 != id) = true := by simpa using hin
      have HIN := Lib.hid hin
      clear hin
      cases x2 with
      | true =>
        gi_wp2
        all_goals (try go_bits)
        exact ⟨M, Chg.refl _ _, fun k hk => .inl hk, u, I1.out, I0.out, by rw [HSN.out, if_neg (by simp), List.append_nil]; exact I2.out, I3.out, I4.out⟩
      | false =>
        gi_wp2_with ((gi_at_builtin; refine wpListIn_append_own_at _ rfl _ _ 33 rfl (w.heap.size + 4) 3 i0 (.int .i64 0) 1 8 Try.underlying33 hi hz0 hz1 hz2 rfl (by decide) _ _ _ rfl (ownsRow_alloc I2.out _) ⟨W.heap.size, 0, none⟩ 1 1 [iv x1] rfl rfl (cell_one_new _ _ _) (by simp [Value.oneCell']) (by unfold maxLen; omega) (by omega) (by simp; omega) ?_; intro v' w2 hown2 hgrow hnil hloc; obtain ⟨a2, n2, cp2, rfl⟩ := slice_form2 hown2; have hkb := (hgrow.block (w.heap.size + 1) (by simp; omega) (fun e => by have := (ownsRow_base I2.out e.symm).1; omega)).trans (Go.heap_alloc_old W _ hlt); have hki := (hgrow.block w.heap.size (by simp; omega) (fun e => by have := (ownsRow_base I2.out e.symm).1; omega)).trans (Go.heap_alloc_old W _ (by omega)); have q0 := (World.cell?_of_block (a := ⟨w.heap.size + 1, 0, none⟩) hkb).trans d0; have q1 : w2.frozen? ⟨w.heap.size + 1, 0, none⟩ = false := free_block (hkb.trans I1.out) 0))
        have hch : Chg M W w2 := (chg_alloc W _).trans (chg_grown hgrow (fun k e => (I3.out k).2 (.inr e)))
        have hbox : M (w.heap.size + 1) := (I3.out _).2 (.inl rfl)
        generalize hv' : Value.slice a2 n2 cp2 = v' at *
        refine ⟨fun k => k = w.heap.size + 1 ∨ v'.ownBlock = some k, hch.trans (chg_set hbox 0 _), ?_, v', ?_, ?_, ?_, fun _ => Iff.rfl, ?_⟩
        · rintro k (h | h)
          · exact .inl ((I3.out k).2 (.inl h))
          · rcases hloc with e | e
            · exact .inl ((I3.out k).2 (.inr (e.symm.trans h)))
            · rw [e] at h; cases h; exact .inr (by simp)
        · have := heap_setCell_same w2 (w.heap.size + 1) 0 _ _ v' (hkb.trans I1.out)
          unfold Boxed
          simpa using this
        · exact (heap_setCell_other _ _ _ _ (by simp)).trans (hki.trans I0.out)
        · rw [HSN.out, if_pos (by simp [HIN.out]), List.length_append, List.map_append]
          exact ownsRow_keeps hown2 (fun g hg => heap_setCell_other _ _ _ _ (by have := (ownsRow_base hown2 hg).1; simp; omega))
        · refine I4.out.trans ?_
          have hc2 := hch.trans (chg_set (w := w2) hbox 0 v')
          exact ⟨hc2.os, hc2.tape, hc2.output, hc2.size, fun k hk => hc2.block k (by omega) (fun h => by
            rcases (I3.out k).1 h with h | h
            · omega
            · have := (ownsRow_base I2.out h).1; omega)⟩
  case done =>
    rintro Dd M W hD2 hMD ⟨u, i1, i0, i2, i3, i4⟩ hK
    have d0 := i1.cell
    have hfinal : ∀ o, IntsIn (fun k => w.heap.size ≤ k ∧ k < (W.putObj Dd o).heap.size) (W.putObj Dd o) u ((acc.filter (fun p => decide (p.1 ≠ id) && !p.2)).map (·.1)) := fun o => by
      have h8 : W.ownsRow (w.heap.size + 4) 3 1 u ((acc.filter (fun p => decide (p.1 ≠ id) && !p.2)).map (·.1)).length (((acc.filter (fun p => decide (p.1 ≠ id) && !p.2)).map (·.1)).map iv) := by rw [List.map_map, List.length_map]; exact i2
      have hDv : u.ownBlock ≠ some Dd := fun e => hMD ((i3 _).2 (.inr e))
      have h9 : (W.putObj Dd o).ownsRow (w.heap.size + 4) 3 1 u ((acc.filter (fun p => decide (p.1 ≠ id) && !p.2)).map (·.1)).length (((acc.filter (fun p => decide (p.1 ≠ id) && !p.2)).map (·.1)).map iv) := ownsRow_keeps h8 (fun q hq => World.putObj_heap_other (by rintro rfl; exact hDv hq))
      exact row_new (by omega) h9
    gi_wp2
    refine ⟨by simp, .inl ⟨_, _, rfl, run_takeDeferred hK, ?_⟩⟩
    exact ⟨_, results_tmp rfl _ _ _, ⟨_, rfl, by rw [HALL.out]; exact hfinal _⟩, i4.trans (below_putObj _ (by omega) _)⟩
  case stop =>
    rintro Dd c pre M W _ _ _ h _
    exact h.elim
end
set_option maxRecDepth 100000 in
set_option maxHeartbeats 4000000 in
theorem parents_new {w : World} {v : Nat} {g : Int → Option Rec} {keys : List Int} (h : Reads 29 w v g) (hk : KeysOf g keys) (hkl : keys.length ≤ 1000000000) (id : Int) :
    Calls Try.prog 69 #[ptr v, iv id] w (AxNew w (upF g (keys.length + 1) id)) := by
  obtain ⟨i0, hi, hz0, hz1, hz2⟩ := info_parts Try.info3
  have hmm := @run_makeMap Try.prog
  obtain ⟨es0, ck0, hmu0, hset0⟩ := (setIs_new w).store id
  obtain ⟨W, hW⟩ : ∃ W, setBlock (w.alloc (.map #[] 0)) w.heap.size (.map es0 ck0) = W := ⟨_, rfl⟩
  have hbW : Below w.heap.size w W := by
    rw [← hW]
    exact below_of_chg (((chg_alloc w _).trans (chg_setBlock (M := New w.heap.size) (Nat.le_refl _) _)))
  have hsW : W.heap.size = w.heap.size + 1 := by
    rw [← hW]
    have h9 := (show (setBlock (w.alloc (.map #[] 0)) w.heap.size (.map es0 ck0)).heap.size = (w.alloc (.map #[] 0)).heap.size by simp [setBlock])
    rw [h9]; simp
  rw [hW] at hset0
  have HSET := Lib.hid (hset0.congr (s' := fun x => x = id ∨ x ∈ ([] : List Int)) (fun x => by simp))
  have HC := Lib.hid (h W hbW id)
  obtain ⟨o, ho⟩ : ∃ o, g id = o := ⟨_, rfl⟩
  have hfin : upF g (keys.length + 1) id = upO g (keys.length + 1) id o := by rw [upF_eq, ho]
  rw [ho] at HC
  obtain ⟨fin, hf⟩ : ∃ fin, upF g (keys.length + 1) id = fin := ⟨_, rfl⟩
  rw [hf] at hfin ⊢
  have hfl : fin.length ≤ keys.length := by
    rw [hfin]
    cases o with
    | none => simp [upO]
    | some r =>
      have := upS_nodup hk (keys.length + 1) id [] r.parent ⟨List.nodup_nil, by simp, by simp⟩
      exact nodup_len this.1 this.2.2
  have HFIN := Lib.hid hfin
  have HW := Lib.hid hW
  have HBW := Lib.hid hbW
  have HSW := Lib.hid hsW
  have HR := Lib.hid h
  have HK := Lib.hid hk
  clear hset0 hW hbW h hsW hk ho hf hfin hfl
  go_enter Try.func69, Try.ntmps69
  go_wp2_with fail
  rw [HW.out]
  refine HC.out.mono ?_
  rintro e w1 ⟨⟨kv1, av1, rfl, hk1, ha1⟩, hb1⟩
  obtain ⟨ka, kc, rfl, -, -, -⟩ := hk1
  obtain ⟨aa, ac, rfl, -, -, -⟩ := ha1
  have hs1 := hb1.size
  have HSET1 := Lib.hid (HSET.out.keep (hb1.block w.heap.size (by have := HSW.out; omega)))
  have HB1 := Lib.hid (HBW.out.trans (hb1.mono HBW.out.size))
  have hms : w.heap.size < w1.heap.size := by have := HSW.out; omega
  clear hb1 hmu0
  go_upto_region 4 with fail
  obtain ⟨W2, hW2⟩ : ∃ W2, w1.alloc (recCells (o.getD Rec.zero) (.slice ka (o.getD Rec.zero).kids.length kc) (.slice aa (o.getD Rec.zero).attrs.length ac)) = W2 := ⟨_, rfl⟩
  have hs2 : W2.heap.size = w1.heap.size + 1 := by rw [← hW2]; simp
  have hb2 : Below w1.heap.size w1 W2 := by rw [← hW2]; exact (Below.refl _ _).alloc (Nat.le_refl _) _
  have hr2 : W2.heap[w1.heap.size]? = some (recCells (o.getD Rec.zero) (.slice ka (o.getD Rec.zero).kids.length kc) (.slice aa (o.getD Rec.zero).attrs.length ac)) := by rw [← hW2]; exact Go.heap_alloc_new _ _
  rw [show w1.alloc (.cells #[.int .i64 (o.getD Rec.zero).kind, .string (o.getD Rec.zero).name, .string (o.getD Rec.zero).text, .int .i64 (o.getD Rec.zero).parent, .slice ka (o.getD Rec.zero).kids.length kc, .slice aa (o.getD Rec.zero).attrs.length ac, .bool (o.getD Rec.zero).gone] 52) = W2 from hW2]
  have HSET2 := Lib.hid (HSET1.out.keep (hb2.block w.heap.size hms))
  have HB2 := Lib.hid (HB1.out.trans (hb2.mono HB1.out.size))
  have HS2 := Lib.hid hs2
  have HR2 := Lib.hid hr2
  clear hW2 hs2 hb2 hr2
  go_loopw [1, 5, 8] (fun i1 u ub wr => ∃ (b : Bool) (l : List Int) (p : Int), i1 = iv p ∧ ub = .bool b ∧ wr.ownsRow (w1.heap.size + 1) 3 1 u l.length (l.map iv) ∧ SetIs wr w.heap.size (fun x => x = id ∨ x ∈ l) ∧ Below w.heap.size w wr ∧ w1.heap.size < wr.heap.size ∧
      (∃ r kv av, wr.heap[w1.heap.size]? = some (recCells r kv av) ∧ (b = true → ∃ n, n + l.length = keys.length + 1 ∧ fin = upS g n id l r.parent)) ∧ (b = false → l = fin) ∧ (l.Nodup ∧ id ∉ l ∧ ∀ x ∈ l, x ∈ keys)) (fun _ u ub _ => (keys.length + 2 - (match u with | .slice _ n _ => n | _ => 0)))
  case atStart =>
    refine ⟨o.isSome, [], id, rfl, rfl, World.ownsRow_nil _ _ _ _, HSET2.out, HB2.out, by have := HS2.out; omega, ⟨_, _, _, HR2.out, fun hb => ⟨keys.length + 1, rfl, ?_⟩⟩, fun hb => ?_, List.nodup_nil, by simp, by simp⟩
    · cases o with
      | none => cases hb
      | some r => exact HFIN.out
    · cases o with
      | none => exact HFIN.out.symm
      | some r => cases hb
  case round =>
    obtain ⟨b, l, p, rfl, rfl, hown, hset, hbr, hlr, ⟨r, kv, av, hrec, hgo⟩, hend, hnd⟩ := hrel
    obtain ⟨al, cl, rfl⟩ := ownsRow_shape hown
    have hlen := nodup_len hnd.1 hnd.2.2
    have HOWN := Lib.hid hown
    have HST := Lib.hid hset
    have HBR := Lib.hid hbr
    have HREC := Lib.hid hrec
    have HGO := Lib.hid hgo
    have HEND := Lib.hid hend
    have HND := Lib.hid hnd
    obtain ⟨z0, z1, z2, z3, z4, z5, z6⟩ := cells7 hrec
    have fz := free_block hrec
    clear hown hset hbr hgo hend hnd hrec
    cases b with
    | false =>
      have he := HEND.out rfl
      have HE := Lib.hid he
      clear he
      go_wp2
      go_ret
      rw [← HE.out]
      exact ⟨⟨_, rfl, row_new (by have := hlr; omega) HOWN.out⟩, HBR.out⟩
    | true =>
      have hsr := HBR.out.size
      obtain ⟨o2, ho2⟩ : ∃ o2, g r.parent = o2 := ⟨_, rfl⟩
      have hc2 := HR.out wr HBR.out r.parent
      rw [ho2] at hc2
      obtain ⟨n, hn, hfin⟩ := HGO.out rfl
      obtain ⟨n, rfl⟩ : ∃ n', n = n' + 1 := ⟨n - 1, by omega⟩
      have hstep : fin = upN g n id l r.parent o2 := by rw [hfin, upS_succ, ho2]
      have HC2 := Lib.hid hc2
      have HSTEP := Lib.hid hstep
      have HO2 := Lib.hid ho2
      clear hc2 hstep ho2 hfin
      go_upto_region 7 with (go_at_call 29; refine HC2.out.mono ?_; rintro e w2 ⟨⟨kv2, av2, rfl, hk2, ha2⟩, hb2⟩; obtain ⟨ka2, kc2, rfl, -, -, -⟩ := hk2; obtain ⟨aa2, ac2, rfl, -, -, -⟩ := ha2; have hr2 := (hb2.block w1.heap.size hlr).trans HREC.out; obtain ⟨y0, y1, y2, y3, y4, y5, y6⟩ := cells7 hr2; have fy := free_block hr2; have HR2 := Lib.hid hr2; have HB2x := Lib.hid hb2; clear hr2 hb2)
      obtain ⟨W3, hW3⟩ : ∃ W3, (((((((w2.setCell ⟨w1.heap.size, 0, none⟩ (.int .i64 (o2.getD Rec.zero).kind)).setCell ⟨w1.heap.size, 1, none⟩ (.string (o2.getD Rec.zero).name)).setCell ⟨w1.heap.size, 2, none⟩ (.string (o2.getD Rec.zero).text)).setCell ⟨w1.heap.size, 3, none⟩ (.int .i64 (o2.getD Rec.zero).parent)).setCell ⟨w1.heap.size, 4, none⟩ (.slice ka2 (o2.getD Rec.zero).kids.length kc2)).setCell ⟨w1.heap.size, 5, none⟩ (.slice aa2 (o2.getD Rec.zero).attrs.length ac2)).setCell ⟨w1.heap.size, 6, none⟩ (.bool (o2.getD Rec.zero).gone)) = W3 := ⟨_, rfl⟩
      rw [hW3]
      have hs2 := HB2x.out.size
      have hb3 : Below w.heap.size w W3 := by rw [← hW3]; exact set7_below (HBR.out.trans (HB2x.out.mono HBR.out.size)) (Nat.le_of_lt hms) _ _ _ _ _ _ _
      have hr3 : W3.heap[w1.heap.size]? = some (recCells (o2.getD Rec.zero) (.slice ka2 (o2.getD Rec.zero).kids.length kc2) (.slice aa2 (o2.getD Rec.zero).attrs.length ac2)) := by rw [← hW3]; exact set7 HR2.out _ _ _ _ _ _ _
      have hk3 : ∀ j, j < wr.heap.size → j ≠ w1.heap.size → W3.heap[j]? = wr.heap[j]? := fun j h1 h2 => by
        rw [← hW3]
        exact (set7_other h2 _ _ _ _ _ _ _).trans (HB2x.out.block j h1)
      have hsz3 : W3.heap.size = w2.heap.size := by rw [← hW3]; simp [World.setCell]
      have hset3 := HST.out.keep (hk3 w.heap.size (by omega) (by omega))
      have hown3 := ownsRow_keeps HOWN.out (fun q hq => by have := ownsRow_base HOWN.out hq; exact hk3 q this.2 (by omega) : ∀ q, (Value.slice al l.length cl).ownBlock = some q → W3.heap[q]? = wr.heap[q]?)
      have hlk := fun b hb => hset3.look r.parent b hb
      obtain ⟨es, ck, hmu, hset4⟩ := hset3.store r.parent
      obtain ⟨W4, hW4⟩ : ∃ W4, setBlock W3 w.heap.size (.map es ck) = W4 := ⟨_, rfl⟩
      rw [hW4] at hset4
      have hsz4 : W4.heap.size = W3.heap.size := by
        rw [← hW4]
        have h9 := (show (setBlock W3 w.heap.size (.map es ck)).heap.size = W3.heap.size by simp [setBlock])
        exact h9
      have hk4 : ∀ j, j ≠ w.heap.size → W4.heap[j]? = W3.heap[j]? := fun j hj => by rw [← hW4]; exact heap_setBlock_other _ hj
      have hb4 : Below w.heap.size w W4 := by
        rw [← hW4]
        exact below_of_chg ((chg_new (M := New w.heap.size) hb3).trans (chg_setBlock (M := New w.heap.size) (Nat.le_refl _) _))
      have hown4 := ownsRow_keeps hown3 (fun q hq => by have := ownsRow_base hown3 hq; exact hk4 q (by omega) : ∀ q, (Value.slice al l.length cl).ownBlock = some q → W4.heap[q]? = W3.heap[q]?)
      have hr4 := (hk4 w1.heap.size (by omega)).trans hr3
      have HB3 := Lib.hid hb3
      have HR4 := Lib.hid hr4
      have HB4 := Lib.hid hb4
      have HSET4 := Lib.hid hset4
      have HOWN4 := Lib.hid hown4
      have HOWN3 := Lib.hid hown3
      have HW4 := Lib.hid hW4
      have HLK := Lib.hid hlk
      have HK4 := Lib.hid hk4
      have hls3 : w1.heap.size < W3.heap.size := by omega
      have HSZ4 := Lib.hid hsz4
      clear hW3 hb3 hr3 hk3 hset3 hown3 hlk hset4 hW4 hsz4 hk4 hb4 hown4 hr4 hsz3
      cases o2 with
      | none =>
        have he : fin = l := HSTEP.out
        have HE := Lib.hid he
        clear he hmu
        simp only [Option.isSome_none]
        go_wp2
        go_ret
        rw [HE.out]
        exact ⟨⟨_, rfl, row_new (by have := HBW.out.size; omega) HOWN3.out⟩, HB3.out⟩
      | some r2 =>
        simp only [Option.isSome_some, Option.getD_some] at *
        by_cases hin : r.parent = id ∨ r.parent ∈ l
        · have hl1 := HLK.out true (by simp [hin])
          have he : fin = l := by have := HSTEP.out; simp only [upN] at this; rw [if_pos hin] at this; exact this
          have HE := Lib.hid he
          clear he hmu hin
          go_wp2
          go_ret
          rw [HE.out]
          exact ⟨⟨_, rfl, row_new (by have := HBW.out.size; omega) HOWN3.out⟩, HB3.out⟩
        · have hl1 := HLK.out false (by simp [hin])
          have he : fin = upS g n id (l ++ [r.parent]) r2.parent := by have := HSTEP.out; simp only [upN] at this; rw [if_neg hin] at this; exact this
          have HE := Lib.hid he
          have HIN := Lib.hid hin
          clear he hin
          go_upto_region 9 with fail
          rw [HW4.out]
          go_wp2_with (at_builtin; go_loud (refine wpList_append_own_at _ rfl _ _ 33 rfl (w1.heap.size + 1) 3 i0 (.int .i64 0) 1 8 Try.underlying33 hi hz0 hz1 hz2 rfl (by decide) _ _ _ rfl (ownsRow_alloc HOWN4.out _) ⟨W4.heap.size, 0, none⟩ 1 1 [iv r.parent] rfl rfl (cell_one_new _ _ _) (by simp [Value.oneCell']) (by unfold maxLen; omega) (by omega) (by have := HSZ4.out; simp; omega) ?_; intro v' w8 hown8 hgrow hnil hloc; have HO8 := Lib.hid hown8; have HG8 := Lib.hid hgrow; obtain ⟨a8, c8, rfl⟩ := ownsRow_shape hown8; clear hown8 hgrow hloc))
          go_roundw
          case rel =>
            have hs8 := HG8.out.size
            simp only [World.size_alloc] at hs8
            have hk8 : ∀ j, j < W4.heap.size → (Value.slice al l.length cl).ownBlock ≠ some j → w8.heap[j]? = W4.heap[j]? := fun j h1 h2 => (HG8.out.block j (by simp; omega) (fun e => h2 e.symm)).trans (Go.heap_alloc_old _ _ h1)
            have hsz4 := HSZ4.out
            refine ⟨true, l ++ [r.parent], r.parent, rfl, rfl, by simpa using HO8.out, ?_, ?_, by omega, ⟨r2, _, _, (hk8 _ (by omega) (fun e => by have := (ownsRow_base HOWN4.out e).1; omega)).trans HR4.out, fun _ => ⟨n, by simp; omega, HE.out⟩⟩, fun h => (by cases h), ?_, ?_, ?_⟩
            · refine (HSET4.out.keep (hk8 _ (by omega) (fun e => by have := (ownsRow_base HOWN4.out e).1; omega))).congr (fun x => ?_)
              simp only [List.mem_append, List.mem_singleton]
              constructor
              · rintro ((h | h) | h)
                · exact .inl h
                · exact .inr (.inl h)
                · exact .inr (.inr h)
              · rintro (h | h | h)
                · exact .inl (.inl h)
                · exact .inl (.inr h)
                · exact .inr h
            · exact below_of_chg (((chg_new (M := New w.heap.size) HB4.out).trans (chg_alloc _ _)).trans (chg_grown HG8.out (fun k h => by have := (ownsRow_base HOWN4.out h).1; show w.heap.size ≤ k; omega)))
            · rw [List.nodup_append]
              refine ⟨HND.out.1, by simp, ?_⟩
              rintro a ha b hb rfl
              simp at hb; subst hb
              exact HIN.out (.inr ha)
            · simp only [List.mem_append, List.mem_singleton, not_or]
              exact ⟨HND.out.2.1, fun e => HIN.out (.inl e.symm)⟩
            · intro x hx
              rcases List.mem_append.1 hx with hx | hx
              · exact HND.out.2.2 x hx
              · simp at hx; rw [hx]; exact HK.out _ (by rw [HO2.out]; simp)
          case measure => simp; omega
section
variable {Rb : Nat → Prop} {w : World} {v : Nat} {g : Int → Option Rec} {keys : List Int}
set_option maxRecDepth 100000 in
set_option maxHeartbeats 4000000 in
theorem descendant_new (h : Ax Rb w v g keys) (id : Int) (r : Rec) (kv av : Value) :
    Calls Try.prog 108 #[nodeV v id r kv av] w (AxNew w (belowF g (keys.length + 1) id)) := by
  obtain ⟨W, hW⟩ : ∃ W, w.alloc (.cells #[ptr v, iv id, .int .i64 r.kind, .string r.name, .string r.text, .int .i64 r.parent, kv, av, .bool r.gone] 133) = W := ⟨_, rfl⟩
  have hbW : Below w.heap.size w W := by rw [← hW]; exact (Below.refl _ _).alloc (Nat.le_refl _) _
  have hx0 : W.heap[w.heap.size]? = some (.cells #[ptr v, iv id, .int .i64 r.kind, .string r.name, .string r.text, .int .i64 r.parent, kv, av, .bool r.gone] 133 (0, 0)) := by rw [← hW]; exact Go.heap_alloc_new _ _
  obtain ⟨c0, c1, c2, c3, c4, c5, c6, c7, c8⟩ := cells9 hx0
  have HC := Lib.hid (below_new (h.later hbW).k (h.later hbW).rl h.ko h.kl id)
  have HW := Lib.hid hW
  have HB := Lib.hid hbW
  clear h hW hbW hx0
  go_enter Try.func108, Try.ntmps108
  go_wp2_with fail
  rw [HW.out]
  go_wp2_with fail
  refine HC.out.mono ?_
  rintro e w2 ⟨⟨u, rfl, ho⟩, hb2⟩
  go_wp2
  go_ret
  exact AxNew.back HB.out ⟨⟨_, rfl, ho⟩, hb2⟩
set_option maxRecDepth 100000 in
set_option maxHeartbeats 4000000 in
theorem ancestor_new (h : Ax Rb w v g keys) (id : Int) (r : Rec) (kv av : Value) :
    Calls Try.prog 110 #[nodeV v id r kv av] w (AxNew w (upF g (keys.length + 1) id)) := by
  obtain ⟨W, hW⟩ : ∃ W, w.alloc (.cells #[ptr v, iv id, .int .i64 r.kind, .string r.name, .string r.text, .int .i64 r.parent, kv, av, .bool r.gone] 133) = W := ⟨_, rfl⟩
  have hbW : Below w.heap.size w W := by rw [← hW]; exact (Below.refl _ _).alloc (Nat.le_refl _) _
  have hx0 : W.heap[w.heap.size]? = some (.cells #[ptr v, iv id, .int .i64 r.kind, .string r.name, .string r.text, .int .i64 r.parent, kv, av, .bool r.gone] 133 (0, 0)) := by rw [← hW]; exact Go.heap_alloc_new _ _
  obtain ⟨c0, c1, c2, c3, c4, c5, c6, c7, c8⟩ := cells9 hx0
  have HC := Lib.hid (parents_new (h.later hbW).n.reads h.ko h.kl id)
  have HW := Lib.hid hW
  have HB := Lib.hid hbW
  clear h hW hbW hx0
  go_enter Try.func110, Try.ntmps110
  go_wp2_with fail
  rw [HW.out]
  go_wp2_with fail
  refine HC.out.mono ?_
  rintro e w2 ⟨⟨u, rfl, ho⟩, hb2⟩
  go_wp2
  go_ret
  exact AxNew.back HB.out ⟨⟨_, rfl, ho⟩, hb2⟩
end
set_option maxRecDepth 100000 in
set_option maxHeartbeats 4000000 in
theorem following_new {Rb : Nat → Prop} {w : World} {v : Nat} {g : Int → Option Rec} {keys : List Int} (h : Ax Rb w v g keys) (id : Int) (r : Rec) (kv av : Value) (hk : IntsIn (Old w.heap.size) w kv r.kids) (ha : IntsIn (Old w.heap.size) w av r.attrs) :
    Calls Try.prog 113 #[nodeV v id r kv av] w (AxNew w (onceF (offP g (belowF g (keys.length + 1) id)) (behindF (allF g (keys.length + 1)) id))) := by
  obtain ⟨W, hW⟩ : ∃ W, w.alloc (.cells #[ptr v, iv id, .int .i64 r.kind, .string r.name, .string r.text, .int .i64 r.parent, kv, av, .bool r.gone] 133) = W := ⟨_, rfl⟩
  have hbW : Below w.heap.size w W := by rw [← hW]; exact (Below.refl _ _).alloc (Nat.le_refl _) _
  have hx0 : W.heap[w.heap.size]? = some (.cells #[ptr v, iv id, .int .i64 r.kind, .string r.name, .string r.text, .int .i64 r.parent, kv, av, .bool r.gone] 133 (0, 0)) := by rw [← hW]; exact Go.heap_alloc_new _ _
  have hlW : w.heap.size < W.heap.size := by rw [← hW]; simp
  have hal : (allF g (keys.length + 1)).length ≤ 1000000000 := Nat.le_trans (allF_len h.ko) h.kl
  have hA := all_any (h.later hbW).k (h.later hbW).rl h.ko h.kl
  obtain ⟨xs, hxs⟩ : ∃ xs, allF g (keys.length + 1) = xs := ⟨_, rfl⟩
  rw [hxs] at hal hA ⊢
  obtain ⟨ys, hys⟩ : ∃ ys, belowF g (keys.length + 1) id = ys := ⟨_, rfl⟩
  have hC := fun (W2 : World) (hb : Below W.heap.size W W2) => descendant_any ((h.later hbW).later hb) id r kv av
  rw [hys] at hC ⊢
  have HA := Lib.hid hA
  have HC := Lib.hid hC
  have HAL := Lib.hid hal
  have HW := Lib.hid hW
  have HB := Lib.hid hbW
  have HAX := Lib.hid (h.later hbW)
  obtain ⟨ka, kc, rfl, -, -, -⟩ := hk
  obtain ⟨aa, ac, rfl, -, -, -⟩ := ha
  have HNODE := Lib.hid (fun (W2 : World) (hb : Below W.heap.size W W2) => (hb.block _ hlW).trans hx0)
  obtain ⟨c0, c1, c2, c3, c4, c5, c6, c7, c8⟩ := cells9 hx0
  have hmf : ∀ (fn : Fn) (first cap : Array Value) (w : World), (Instr.makeFunc fn first cap).run Try.prog w = .ok (.func fn first cap) w := fun _ _ _ _ => rfl
  clear h hW hbW hx0 hxs hys hal hA hC
  go_enter Try.func113, Try.ntmps113
  go_wp2_with fail
  rw [HW.out]
  go_wp2_with fail
  refine HA.out.mono ?_
  rintro e w2 ⟨⟨u, rfl, hu⟩, hb2⟩
  have HU := Lib.hid hu
  have hln := hu.len
  have hidx := idx_any xs _ u id w2 hu
  obtain ⟨au, cu, rfl, hcu, -, -⟩ := hu
  have HB2 := Lib.hid hb2
  obtain ⟨ix, hix⟩ : ∃ ix, idxI xs id = ix := ⟨_, rfl⟩
  rw [hix] at hidx
  have HI := Lib.hid hidx
  clear hidx c0 c1 c2 c3 c4 c5 c6 c7 c8
  obtain ⟨c0, c1, c2, c3, c4, c5, c6, c7, c8⟩ := cells9 (HNODE.out w2 hb2)
  clear hb2
  rcases idxI_cases xs id with ⟨hi, -⟩ | ⟨k, hi, -, -, hlt⟩
  · have HF := Lib.hid (show onceF (offP g ys) (behindF xs id) = [] by unfold behindF; rw [hi]; rfl)
    rw [hi] at hix
    subst hix
    go_wp2_with (go_at_call 137; refine HI.out.mono ?_; rintro e w3 ⟨rfl, rfl⟩)
    go_ret
    exact ⟨⟨_, rfl, by rw [HF.out]; exact intsIn_nil _ _⟩, HB.out.trans (HB2.out.mono HB.out.size)⟩
  · have HF := Lib.hid (show behindF xs id = xs.drop (k + 1) by unfold behindF; rw [hi, if_neg (by omega)]; rfl)
    rw [hi] at hix
    subst hix
    clear hi
    have h0 : ¬ (k : Int) < 0 := by omega
    have ek : ((k : Int) + 1).toNat = k + 1 := by omega
    have e9 : (0 : Int) ≤ (k : Int) + 1 := by omega
    have e8 : (k : Int) + 1 ≤ xs.length := by omega
    have hCd := HC.out w2 HB2.out
    have HCD := Lib.hid hCd
    clear hCd
    go_wp2_with (first
      | (go_at_call 108; refine HCD.out.mono ?_; rintro e w4 ⟨⟨u4, rfl, hu4⟩, hb4⟩; have HU4 := Lib.hid hu4; obtain ⟨a4, c4', rfl, -, -, -⟩ := hu4; have HB4 := Lib.hid hb4; clear hb4; have H5 := Lib.hid (show Below w2.heap.size w2 (w4.alloc (.cells #[.slice a4 ys.length c4'] 33)) ∧ (w4.alloc (.cells #[.slice a4 ys.length c4'] 33)).heap[w4.heap.size]? = some (.cells #[.slice a4 ys.length c4'] 33 (0, 0)) ∧ w4.heap.size < (w4.alloc (.cells #[.slice a4 ys.length c4'] 33)).heap.size ∧ IntsIn (Old (w4.alloc (.cells #[.slice a4 ys.length c4'] 33)).heap.size) (w4.alloc (.cells #[.slice a4 ys.length c4'] 33)) (.slice a4 ys.length c4') ys ∧ Below W.heap.size W (w4.alloc (.cells #[.slice a4 ys.length c4'] 33)) from ⟨HB4.out.alloc HB4.out.size _, Go.heap_alloc_new _ _, by simp, HU4.out.later ((Below.refl _ _).alloc (Nat.le_refl _) _), HB2.out.trans ((HB4.out.alloc HB4.out.size _).mono HB2.out.size)⟩))
      | (go_at_call 137; refine HI.out.mono ?_; rintro e w3 ⟨rfl, rfl⟩))
    all_goals
      obtain ⟨hb5, hL5, hl5, HY5, HBW5⟩ := H5.out
      have hall : ∀ W6, Below (w4.alloc (.cells #[.slice a4 ys.length c4'] 33)).heap.size (w4.alloc (.cells #[.slice a4 ys.length c4'] 33)) W6 → ∀ x, Calls Try.prog 138 #[iv x, ptr w.heap.size, ptr w4.heap.size] W6 fun e w' => e = .returned (.bool (offP g ys x)) ∧ Below W6.heap.size W6 w' := fun W6 h6 x =>
        off_138 (HAX.out.later (HBW5.trans (h6.mono HBW5.size))).n.reads (HNODE.out W6 (HBW5.trans (h6.mono HBW5.size))) ((h6.block _ hl5).trans hL5) (HY5.later h6) x
      have hD := (HU.out.drop (k + 1) (by omega)).later hb5
      refine (once_138 (p := offP g ys) (xs := xs.drop (k + 1)) (by simpa [sliced, Addr.add, *] using hD) (fun _ h => h) (by have := HAL.out; simp; omega) hall).mono ?_
      rintro e w6 ⟨⟨u6, rfl, ho⟩, hb6⟩
      obtain ⟨a6, n6, rfl⟩ := shape3 ho
      go_wp2
      go_ret
      exact ⟨⟨_, rfl, by rw [HF.out]; exact row_new (Nat.le_trans HB.out.size HBW5.size) ho⟩, HB.out.trans ((HBW5.trans (hb6.mono HBW5.size)).mono HB.out.size)⟩

set_option maxRecDepth 100000 in
set_option maxHeartbeats 4000000 in
theorem back_new {w : World} {F : Nat → Prop} {v : Value} {xs : List Int} (h : IntsIn F w v xs) (hF : ∀ k, F k → k < w.heap.size) (hr : xs.length * 8 ≤ 140737488351232) :
    Calls Try.prog 136 #[v] w fun e w' => (∃ u, e = .returned u ∧ IntsIn (fun k => w.heap.size ≤ k ∧ k < w'.heap.size) w' u xs.reverse) ∧ Below w.heap.size w w' := by
  have HC := Lib.hid (clone_own xs F v w h hF hr)
  clear h hF hr
  go_enter Try.func136, Try.ntmps136
  go_wp2_with fail
  refine HC.out.mono ?_
  rintro e w1 ⟨⟨u, rfl, ho⟩, hb⟩
  have HR := Lib.hid (reverse_own ho)
  obtain ⟨a, n, c, rfl⟩ : ∃ a n c, u = .slice a n c := by
    rcases ho.2 with ⟨rfl, _⟩ | ⟨g, cp, cur, rfl, _⟩
    · exact ⟨_, _, _, rfl⟩
    · exact ⟨_, _, _, rfl⟩
  have HB := Lib.hid hb
  clear ho hb
  go_wp2_with fail
  refine HR.out.mono ?_
  rintro e w2 ⟨rfl, hi, hc⟩
  go_wp2
  go_ret
  exact ⟨⟨_, rfl, hi.mono (fun k hk => ⟨hk.1, Nat.lt_of_lt_of_le hk.2 hc.size⟩)⟩, HB.out.trans ⟨hc.os, hc.tape, hc.output, hc.size, fun k hk => hc.block k (Nat.lt_of_lt_of_le hk HB.out.size) (fun e => by omega)⟩⟩
set_option maxRecDepth 100000 in
set_option maxHeartbeats 4000000 in
theorem preceding_new {Rb : Nat → Prop} {w : World} {v : Nat} {g : Int → Option Rec} {keys : List Int} (h : Ax Rb w v g keys) (id : Int) (r : Rec) (kv av : Value) (hk : IntsIn (Old w.heap.size) w kv r.kids) (ha : IntsIn (Old w.heap.size) w av r.attrs) :
    Calls Try.prog 114 #[nodeV v id r kv av] w (AxNew w (onceF (offP g (upF g (keys.length + 1) id)) (aheadF (allF g (keys.length + 1)) id)).reverse) := by
  obtain ⟨W, hW⟩ : ∃ W, w.alloc (.cells #[ptr v, iv id, .int .i64 r.kind, .string r.name, .string r.text, .int .i64 r.parent, kv, av, .bool r.gone] 133) = W := ⟨_, rfl⟩
  have hbW : Below w.heap.size w W := by rw [← hW]; exact (Below.refl _ _).alloc (Nat.le_refl _) _
  have hx0 : W.heap[w.heap.size]? = some (.cells #[ptr v, iv id, .int .i64 r.kind, .string r.name, .string r.text, .int .i64 r.parent, kv, av, .bool r.gone] 133 (0, 0)) := by rw [← hW]; exact Go.heap_alloc_new _ _
  have hlW : w.heap.size < W.heap.size := by rw [← hW]; simp
  have hal : (allF g (keys.length + 1)).length ≤ 1000000000 := Nat.le_trans (allF_len h.ko) h.kl
  have hA := all_any (h.later hbW).k (h.later hbW).rl h.ko h.kl
  obtain ⟨xs, hxs⟩ : ∃ xs, allF g (keys.length + 1) = xs := ⟨_, rfl⟩
  rw [hxs] at hal hA ⊢
  obtain ⟨ys, hys⟩ : ∃ ys, upF g (keys.length + 1) id = ys := ⟨_, rfl⟩
  have hC := fun (W2 : World) (hb : Below W.heap.size W W2) => ancestor_any ((h.later hbW).later hb) id r kv av
  rw [hys] at hC ⊢
  have HA := Lib.hid hA
  have HC := Lib.hid hC
  have HAL := Lib.hid hal
  have HW := Lib.hid hW
  have HB := Lib.hid hbW
  have HAX := Lib.hid (h.later hbW)
  obtain ⟨ka, kc, rfl, -, -, -⟩ := hk
  obtain ⟨aa, ac, rfl, -, -, -⟩ := ha
  have HNODE := Lib.hid (fun (W2 : World) (hb : Below W.heap.size W W2) => (hb.block _ hlW).trans hx0)
  obtain ⟨c0, c1, c2, c3, c4, c5, c6, c7, c8⟩ := cells9 hx0
  have hmf : ∀ (fn : Fn) (first cap : Array Value) (w : World), (Instr.makeFunc fn first cap).run Try.prog w = .ok (.func fn first cap) w := fun _ _ _ _ => rfl
  clear h hW hbW hx0 hxs hys hal hA hC
  go_enter Try.func114, Try.ntmps114
  go_wp2_with fail
  rw [HW.out]
  go_wp2_with fail
  refine HA.out.mono ?_
  rintro e w2 ⟨⟨u, rfl, hu⟩, hb2⟩
  have HU := Lib.hid hu
  have hln := hu.len
  have hidx := idx_any xs _ u id w2 hu
  obtain ⟨au, cu, rfl, hcu, -, -⟩ := hu
  have HB2 := Lib.hid hb2
  obtain ⟨ix, hix⟩ : ∃ ix, idxI xs id = ix := ⟨_, rfl⟩
  rw [hix] at hidx
  have HI := Lib.hid hidx
  clear hidx c0 c1 c2 c3 c4 c5 c6 c7 c8
  obtain ⟨c0, c1, c2, c3, c4, c5, c6, c7, c8⟩ := cells9 (HNODE.out w2 hb2)
  clear hb2
  obtain ⟨k, hk, hmx⟩ : ∃ k : Nat, k = (idxI xs id).toNat ∧ max (idxI xs id) 0 = (k : Int) := ⟨_, rfl, by omega⟩
  have hkl : k ≤ xs.length := by
    rcases idxI_cases xs id with ⟨hi, -⟩ | ⟨j, hi, -, -, hlt⟩ <;> omega
  have HF := Lib.hid (show aheadF xs id = xs.take k by unfold aheadF; rw [hk])
  rw [hix] at hmx
  clear hk hix
  have h0 : (0 : Int) ≤ k := by omega
  have h1 : (k : Int) ≤ cu := by omega
  have hCd := HC.out w2 HB2.out
  have HCD := Lib.hid hCd
  clear hCd
  go_wp2_with (first
    | (go_at_call 110; refine HCD.out.mono ?_; rintro e w4 ⟨⟨u4, rfl, hu4⟩, hb4⟩; have HU4 := Lib.hid hu4; obtain ⟨a4, c4', rfl, -, -, -⟩ := hu4; have HB4 := Lib.hid hb4; clear hb4; have H5 := Lib.hid (show Below w2.heap.size w2 (w4.alloc (.cells #[.slice a4 ys.length c4'] 33)) ∧ (w4.alloc (.cells #[.slice a4 ys.length c4'] 33)).heap[w4.heap.size]? = some (.cells #[.slice a4 ys.length c4'] 33 (0, 0)) ∧ w4.heap.size < (w4.alloc (.cells #[.slice a4 ys.length c4'] 33)).heap.size ∧ IntsIn (Old (w4.alloc (.cells #[.slice a4 ys.length c4'] 33)).heap.size) (w4.alloc (.cells #[.slice a4 ys.length c4'] 33)) (.slice a4 ys.length c4') ys ∧ Below W.heap.size W (w4.alloc (.cells #[.slice a4 ys.length c4'] 33)) from ⟨HB4.out.alloc HB4.out.size _, Go.heap_alloc_new _ _, by simp, HU4.out.later ((Below.refl _ _).alloc (Nat.le_refl _) _), HB2.out.trans ((HB4.out.alloc HB4.out.size _).mono HB2.out.size)⟩))
    | (go_at_call 137; refine HI.out.mono ?_; rintro e w3 ⟨rfl, rfl⟩))
  obtain ⟨hb5, hL5, hl5, HY5, HBW5⟩ := H5.out
  have hall : ∀ W6, Below (w4.alloc (.cells #[.slice a4 ys.length c4'] 33)).heap.size (w4.alloc (.cells #[.slice a4 ys.length c4'] 33)) W6 → ∀ x, Calls Try.prog 141 #[iv x, ptr w.heap.size, ptr w4.heap.size] W6 fun e w' => e = .returned (.bool (offP g ys x)) ∧ Below W6.heap.size W6 w' := fun W6 h6 x =>
    off_141 (HAX.out.later (HBW5.trans (h6.mono HBW5.size))).n.reads (HNODE.out W6 (HBW5.trans (h6.mono HBW5.size))) ((h6.block _ hl5).trans hL5) (HY5.later h6) x
  have hD := (HU.out.head k hkl).later hb5
  refine (once_141 (p := offP g ys) (xs := xs.take k) hD (fun _ h => h) (by have := HAL.out; simp; omega) hall).mono ?_
  rintro e w6 ⟨⟨u6, rfl, ho⟩, hb6⟩
  have hlen6 := onceF_len (offP g ys) (xs.take k) []
  have HBK := Lib.hid (back_new (intsIn_row ho).old (fun _ h => h) (by have := HAL.out; simp only [List.length_nil, List.length_take] at hlen6; unfold onceF; omega))
  obtain ⟨a6, n6, rfl⟩ := shape3 ho
  clear hlen6 ho hD hall
  go_wp2_with fail
  refine HBK.out.mono ?_
  rintro e w7 ⟨⟨u7, rfl, hu7⟩, hb7⟩
  have HU7 := Lib.hid hu7
  obtain ⟨a7, n7, rfl, -, -, -⟩ := hu7
  go_wp2_with fail
  go_ret
  have hbw6 := HBW5.trans (hb6.mono HBW5.size)
  exact ⟨⟨_, rfl, by rw [HF.out]; have h8 := HU7.out; rw [List.length_reverse] at h8; exact h8.mono (fun k hk => ⟨Nat.le_trans (Nat.le_trans HB.out.size hbw6.size) hk.1, hk.2⟩)⟩, HB.out.trans ((hbw6.trans (hb7.mono hbw6.size)).mono HB.out.size)⟩
set_option maxRecDepth 100000 in
set_option maxHeartbeats 4000000 in
/-- Nodes (22) on axis 2, given what that axis does -/
theorem nodesN_2 {w : World} {v : Nat} {g : Int → Option Rec} {xs : List Int} (h : Reads 29 w v g) (id : Int) {r : Rec} (hr : g id = some r)
    (hf : ∀ (W : World) (kv av : Value), Below w.heap.size w W → IntsIn (Old W.heap.size) W kv r.kids → IntsIn (Old W.heap.size) W av r.attrs → Calls Try.prog 108 #[nodeV v id r kv av] W (AxNew W xs)) :
    Calls Try.prog 22 #[ptr v, iv id, .int .i64 2] w (AxNew w xs) := by
  have HC := Lib.hid (h w (Below.refl _ _) id)
  rw [hr] at HC
  have HF := Lib.hid hf
  clear h hr hf
  go_enter Try.func22, Try.ntmps22
  go_wp2_with fail
  refine HC.out.mono ?_
  rintro e w2 ⟨⟨kv2, av2, rfl, hk2, ha2⟩, hb2⟩
  simp only [Option.getD_some] at hk2 ha2
  have HK := Lib.hid hk2
  have HA := Lib.hid ha2
  obtain ⟨ka, kc, rfl, -, -, -⟩ := hk2
  obtain ⟨aa, ac, rfl, -, -, -⟩ := ha2
  simp only [Option.getD_some, Option.isSome_some]
  have HB2 := Lib.hid hb2
  clear hb2
  go_wp2_with fail
  refine (way_2 _ v id r _ _).mono ?_
  rintro e w3 ⟨rfl, hb3⟩
  have h1 : Below w2.heap.size w2 (w2.alloc (.cells #[.int .i64 r.kind, .string r.name, .string r.text, .int .i64 r.parent, .slice ka r.kids.length kc, .slice aa r.attrs.length ac, .bool r.gone] 52)) := (Below.refl _ _).alloc (Nat.le_refl _) _
  have h2 : Below w2.heap.size w2 w3 := h1.trans (hb3.mono h1.size)
  have H3 := Lib.hid (HB2.out.trans (h2.mono HB2.out.size))
  have HC3 := Lib.hid (HF.out w3 _ _ H3.out (HK.out.later h2) (HA.out.later h2))
  have hq := fun w => run_eql_func (.func 108) #[nodeV v id r (.slice ka r.kids.length kc) (.slice aa r.attrs.length ac)] #[] w
  clear h1 h2 hb3
  go_wp2_with fail
  refine HC3.out.mono ?_
  rintro e w4 ⟨⟨u, rfl, hu⟩, hb4⟩
  have HU := Lib.hid hu
  obtain ⟨ua, uc, rfl, -, -, -⟩ := hu
  go_wp2
  go_ret
  exact AxNew.back H3.out ⟨⟨_, rfl, HU.out⟩, hb4⟩

set_option maxRecDepth 100000 in
set_option maxHeartbeats 4000000 in
/-- Nodes (22) on axis 4, given what that axis does -/
theorem nodesN_4 {w : World} {v : Nat} {g : Int → Option Rec} {xs : List Int} (h : Reads 29 w v g) (id : Int) {r : Rec} (hr : g id = some r)
    (hf : ∀ (W : World) (kv av : Value), Below w.heap.size w W → IntsIn (Old W.heap.size) W kv r.kids → IntsIn (Old W.heap.size) W av r.attrs → Calls Try.prog 110 #[nodeV v id r kv av] W (AxNew W xs)) :
    Calls Try.prog 22 #[ptr v, iv id, .int .i64 4] w (AxNew w xs) := by
  have HC := Lib.hid (h w (Below.refl _ _) id)
  rw [hr] at HC
  have HF := Lib.hid hf
  clear h hr hf
  go_enter Try.func22, Try.ntmps22
  go_wp2_with fail
  refine HC.out.mono ?_
  rintro e w2 ⟨⟨kv2, av2, rfl, hk2, ha2⟩, hb2⟩
  simp only [Option.getD_some] at hk2 ha2
  have HK := Lib.hid hk2
  have HA := Lib.hid ha2
  obtain ⟨ka, kc, rfl, -, -, -⟩ := hk2
  obtain ⟨aa, ac, rfl, -, -, -⟩ := ha2
  simp only [Option.getD_some, Option.isSome_some]
  have HB2 := Lib.hid hb2
  clear hb2
  go_wp2_with fail
  refine (way_4 _ v id r _ _).mono ?_
  rintro e w3 ⟨rfl, hb3⟩
  have h1 : Below w2.heap.size w2 (w2.alloc (.cells #[.int .i64 r.kind, .string r.name, .string r.text, .int .i64 r.parent, .slice ka r.kids.length kc, .slice aa r.attrs.length ac, .bool r.gone] 52)) := (Below.refl _ _).alloc (Nat.le_refl _) _
  have h2 : Below w2.heap.size w2 w3 := h1.trans (hb3.mono h1.size)
  have H3 := Lib.hid (HB2.out.trans (h2.mono HB2.out.size))
  have HC3 := Lib.hid (HF.out w3 _ _ H3.out (HK.out.later h2) (HA.out.later h2))
  have hq := fun w => run_eql_func (.func 110) #[nodeV v id r (.slice ka r.kids.length kc) (.slice aa r.attrs.length ac)] #[] w
  clear h1 h2 hb3
  go_wp2_with fail
  refine HC3.out.mono ?_
  rintro e w4 ⟨⟨u, rfl, hu⟩, hb4⟩
  have HU := Lib.hid hu
  obtain ⟨ua, uc, rfl, -, -, -⟩ := hu
  go_wp2
  go_ret
  exact AxNew.back H3.out ⟨⟨_, rfl, HU.out⟩, hb4⟩

set_option maxRecDepth 100000 in
set_option maxHeartbeats 4000000 in
/-- Nodes (22) on axis 7, given what that axis does -/
theorem nodesN_7 {w : World} {v : Nat} {g : Int → Option Rec} {xs : List Int} (h : Reads 29 w v g) (id : Int) {r : Rec} (hr : g id = some r)
    (hf : ∀ (W : World) (kv av : Value), Below w.heap.size w W → IntsIn (Old W.heap.size) W kv r.kids → IntsIn (Old W.heap.size) W av r.attrs → Calls Try.prog 113 #[nodeV v id r kv av] W (AxNew W xs)) :
    Calls Try.prog 22 #[ptr v, iv id, .int .i64 7] w (AxNew w xs) := by
  have HC := Lib.hid (h w (Below.refl _ _) id)
  rw [hr] at HC
  have HF := Lib.hid hf
  clear h hr hf
  go_enter Try.func22, Try.ntmps22
  go_wp2_with fail
  refine HC.out.mono ?_
  rintro e w2 ⟨⟨kv2, av2, rfl, hk2, ha2⟩, hb2⟩
  simp only [Option.getD_some] at hk2 ha2
  have HK := Lib.hid hk2
  have HA := Lib.hid ha2
  obtain ⟨ka, kc, rfl, -, -, -⟩ := hk2
  obtain ⟨aa, ac, rfl, -, -, -⟩ := ha2
  simp only [Option.getD_some, Option.isSome_some]
  have HB2 := Lib.hid hb2
  clear hb2
  go_wp2_with fail
  refine (way_7 _ v id r _ _).mono ?_
  rintro e w3 ⟨rfl, hb3⟩
  have h1 : Below w2.heap.size w2 (w2.alloc (.cells #[.int .i64 r.kind, .string r.name, .string r.text, .int .i64 r.parent, .slice ka r.kids.length kc, .slice aa r.attrs.length ac, .bool r.gone] 52)) := (Below.refl _ _).alloc (Nat.le_refl _) _
  have h2 : Below w2.heap.size w2 w3 := h1.trans (hb3.mono h1.size)
  have H3 := Lib.hid (HB2.out.trans (h2.mono HB2.out.size))
  have HC3 := Lib.hid (HF.out w3 _ _ H3.out (HK.out.later h2) (HA.out.later h2))
  have hq := fun w => run_eql_func (.func 113) #[nodeV v id r (.slice ka r.kids.length kc) (.slice aa r.attrs.length ac)] #[] w
  clear h1 h2 hb3
  go_wp2_with fail
  refine HC3.out.mono ?_
  rintro e w4 ⟨⟨u, rfl, hu⟩, hb4⟩
  have HU := Lib.hid hu
  obtain ⟨ua, uc, rfl, -, -, -⟩ := hu
  go_wp2
  go_ret
  exact AxNew.back H3.out ⟨⟨_, rfl, HU.out⟩, hb4⟩

set_option maxRecDepth 100000 in
set_option maxHeartbeats 4000000 in
/-- Nodes (22) on axis 8, given what that axis does -/
theorem nodesN_8 {w : World} {v : Nat} {g : Int → Option Rec} {xs : List Int} (h : Reads 29 w v g) (id : Int) {r : Rec} (hr : g id = some r)
    (hf : ∀ (W : World) (kv av : Value), Below w.heap.size w W → IntsIn (Old W.heap.size) W kv r.kids → IntsIn (Old W.heap.size) W av r.attrs → Calls Try.prog 114 #[nodeV v id r kv av] W (AxNew W xs)) :
    Calls Try.prog 22 #[ptr v, iv id, .int .i64 8] w (AxNew w xs) := by
  have HC := Lib.hid (h w (Below.refl _ _) id)
  rw [hr] at HC
  have HF := Lib.hid hf
  clear h hr hf
  go_enter Try.func22, Try.ntmps22
  go_wp2_with fail
  refine HC.out.mono ?_
  rintro e w2 ⟨⟨kv2, av2, rfl, hk2, ha2⟩, hb2⟩
  simp only [Option.getD_some] at hk2 ha2
  have HK := Lib.hid hk2
  have HA := Lib.hid ha2
  obtain ⟨ka, kc, rfl, -, -, -⟩ := hk2
  obtain ⟨aa, ac, rfl, -, -, -⟩ := ha2
  simp only [Option.getD_some, Option.isSome_some]
  have HB2 := Lib.hid hb2
  clear hb2
  go_wp2_with fail
  refine (way_8 _ v id r _ _).mono ?_
  rintro e w3 ⟨rfl, hb3⟩
  have h1 : Below w2.heap.size w2 (w2.alloc (.cells #[.int .i64 r.kind, .string r.name, .string r.text, .int .i64 r.parent, .slice ka r.kids.length kc, .slice aa r.attrs.length ac, .bool r.gone] 52)) := (Below.refl _ _).alloc (Nat.le_refl _) _
  have h2 : Below w2.heap.size w2 w3 := h1.trans (hb3.mono h1.size)
  have H3 := Lib.hid (HB2.out.trans (h2.mono HB2.out.size))
  have HC3 := Lib.hid (HF.out w3 _ _ H3.out (HK.out.later h2) (HA.out.later h2))
  have hq := fun w => run_eql_func (.func 114) #[nodeV v id r (.slice ka r.kids.length kc) (.slice aa r.attrs.length ac)] #[] w
  clear h1 h2 hb3
  go_wp2_with fail
  refine HC3.out.mono ?_
  rintro e w4 ⟨⟨u, rfl, hu⟩, hb4⟩
  have HU := Lib.hid hu
  obtain ⟨ua, uc, rfl, -, -, -⟩ := hu
  go_wp2
  go_ret
  exact AxNew.back H3.out ⟨⟨_, rfl, HU.out⟩, hb4⟩

set_option maxRecDepth 100000 in
set_option maxHeartbeats 4000000 in
/-- Nodes (22) on axis 10, given what that axis does -/
theorem nodesN_10 {w : World} {v : Nat} {g : Int → Option Rec} {xs : List Int} (h : Reads 29 w v g) (id : Int) {r : Rec} (hr : g id = some r)
    (hf : ∀ (W : World) (kv av : Value), Below w.heap.size w W → IntsIn (Old W.heap.size) W kv r.kids → IntsIn (Old W.heap.size) W av r.attrs → Calls Try.prog 116 #[nodeV v id r kv av] W (AxNew W xs)) :
    Calls Try.prog 22 #[ptr v, iv id, .int .i64 10] w (AxNew w xs) := by
  have HC := Lib.hid (h w (Below.refl _ _) id)
  rw [hr] at HC
  have HF := Lib.hid hf
  clear h hr hf
  go_enter Try.func22, Try.ntmps22
  go_wp2_with fail
  refine HC.out.mono ?_
  rintro e w2 ⟨⟨kv2, av2, rfl, hk2, ha2⟩, hb2⟩
  simp only [Option.getD_some] at hk2 ha2
  have HK := Lib.hid hk2
  have HA := Lib.hid ha2
  obtain ⟨ka, kc, rfl, -, -, -⟩ := hk2
  obtain ⟨aa, ac, rfl, -, -, -⟩ := ha2
  simp only [Option.getD_some, Option.isSome_some]
  have HB2 := Lib.hid hb2
  clear hb2
  go_wp2_with fail
  refine (way_10 _ v id r _ _).mono ?_
  rintro e w3 ⟨rfl, hb3⟩
  have h1 : Below w2.heap.size w2 (w2.alloc (.cells #[.int .i64 r.kind, .string r.name, .string r.text, .int .i64 r.parent, .slice ka r.kids.length kc, .slice aa r.attrs.length ac, .bool r.gone] 52)) := (Below.refl _ _).alloc (Nat.le_refl _) _
  have h2 : Below w2.heap.size w2 w3 := h1.trans (hb3.mono h1.size)
  have H3 := Lib.hid (HB2.out.trans (h2.mono HB2.out.size))
  have HC3 := Lib.hid (HF.out w3 _ _ H3.out (HK.out.later h2) (HA.out.later h2))
  have hq := fun w => run_eql_func (.func 116) #[nodeV v id r (.slice ka r.kids.length kc) (.slice aa r.attrs.length ac)] #[] w
  clear h1 h2 hb3
  go_wp2_with fail
  refine HC3.out.mono ?_
  rintro e w4 ⟨⟨u, rfl, hu⟩, hb4⟩
  have HU := Lib.hid hu
  obtain ⟨ua, uc, rfl, -, -, -⟩ := hu
  go_wp2
  go_ret
  exact AxNew.back H3.out ⟨⟨_, rfl, HU.out⟩, hb4⟩

/-- on the five axes the list is new -/
theorem nodes_new {Rb : Nat → Prop} {w : World} {v : Nat} {g : Int → Option Rec} {keys : List Int} (h : Ax Rb w v g keys) (id a : Int) {r : Rec} (hr : g id = some r) (ha : a = 10 ∨ a = 4 ∨ a = 2 ∨ a = 7 ∨ a = 8) :
    Calls Try.prog 22 #[ptr v, iv id, .int .i64 a] w (AxNew w (nodesR g (keys.length + 1) id a r)) := by
  have hok := h.ok id r hr
  obtain ⟨hn, ht⟩ := all_nodup h.ko
  have e7 : ∀ out, onceF (offP g out) (behindF (allF g (keys.length + 1)) id) = woutF g out (behindF (allF g (keys.length + 1)) id) := fun out => off_wout ((behind_sub _ _).nodup hn) (fun x hx => ht x ((behind_sub _ _).subset hx))
  have e8 : ∀ out, onceF (offP g out) (aheadF (allF g (keys.length + 1)) id) = woutF g out (aheadF (allF g (keys.length + 1)) id) := fun out => off_wout ((ahead_sub _ _).nodup hn) (fun x hx => ht x ((ahead_sub _ _).subset hx))
  rcases ha with rfl | rfl | rfl | rfl | rfl
  · refine nodesN_10 h.n.reads id hr (fun W kv av hb hk ha => (self_any W v id r kv av).mono ?_)
    rintro e w' ⟨⟨u, he, ho⟩, hb'⟩
    exact ⟨⟨u, he, row_new (xs := [id]) (Nat.le_refl _) ho⟩, hb'⟩
  · exact nodesN_4 h.n.reads id hr (fun W kv av hb hk ha => ancestor_new (h.later hb) id r kv av)
  · exact nodesN_2 h.n.reads id hr (fun W kv av hb hk ha => descendant_new (h.later hb) id r kv av)
  · refine nodesN_7 h.n.reads id hr (fun W kv av hb hk ha => ?_)
    have := following_new (h.later hb) id r kv av hk ha
    rw [e7] at this
    exact this
  · refine nodesN_8 h.n.reads id hr (fun W kv av hb hk ha => ?_)
    have := preceding_new (h.later hb) id r kv av hk ha
    rw [e8] at this
    exact this
end Go.Proofs.Ytinkjhkbaadbpaa
/- Of a planted tree: the five axes part it, each in its order (the plain law of AxisParts). -/
namespace Go.Proofs.Ytinkjhkbaadbpaa
open Go.RowKit
set_option linter.unusedVariables false
set_option linter.unusedSimpArgs false

theorem rise_ext : ∀ (l m : List Int), l.Pairwise (· < ·) → m.Pairwise (· < ·) → (∀ x, x ∈ l ↔ x ∈ m) → l = m
  | [], [], _, _, _ => rfl
  | [], y :: m, _, _, h => by have := (h y).2 (by simp); simp at this
  | x :: l, [], _, _, h => by have := (h x).1 (by simp); simp at this
  | x :: l, y :: m, hl, hm, h => by
    obtain ⟨h1, h2⟩ := List.pairwise_cons.1 hl
    obtain ⟨h3, h4⟩ := List.pairwise_cons.1 hm
    have e : x = y := by
      rcases List.mem_cons.1 ((h x).1 (by simp)) with e | e
      · exact e
      · rcases List.mem_cons.1 ((h y).2 (by simp)) with e' | e'
        · exact e'.symm
        · have := h3 x e
          have := h1 y e'
          omega
    subst e
    have : l = m := rise_ext l m h2 h4 (fun z => ⟨fun hz => by
      rcases List.mem_cons.1 ((h z).1 (List.mem_cons_of_mem _ hz)) with e | e
      · have := h1 z hz; omega
      · exact e, fun hz => by
      rcases List.mem_cons.1 ((h z).2 (List.mem_cons_of_mem _ hz)) with e | e
      · have := h3 z hz; omega
      · exact e⟩)
    rw [this]
theorem rise_split {S : List Int} (hS : S.Pairwise (· < ·)) {i : Nat} {a : Int} (hi : S[i]? = some a) (x : Int) : (x ∈ S.drop (i + 1) ↔ x ∈ S ∧ a < x) ∧ (x ∈ S.take i ↔ x ∈ S ∧ x < a) := by
  obtain ⟨h1, h2⟩ := List.getElem?_eq_some_iff.1 hi
  have e : S = S.take i ++ a :: S.drop (i + 1) := by rw [← h2, ← List.drop_eq_getElem_cons h1, List.take_append_drop]
  generalize S.take i = l at *
  generalize S.drop (i + 1) = m at *
  subst e
  obtain ⟨p1, p2, p3⟩ := List.pairwise_append.1 hS
  obtain ⟨p4, p5⟩ := List.pairwise_cons.1 p2
  simp only [List.mem_append, List.mem_cons]
  constructor
  · constructor
    · intro h; exact ⟨.inr (.inr h), p4 x h⟩
    · rintro ⟨h | rfl | h, h'⟩
      · have := p3 x h a (by simp); omega
      · omega
      · exact h
  · constructor
    · intro h; exact ⟨.inl h, p3 x h a (by simp)⟩
    · rintro ⟨h | rfl | h, h'⟩
      · exact h
      · omega
      · have := p4 x h; omega
theorem mem_behind {S : List Int} (hS : S.Pairwise (· < ·)) {a : Int} (ha : a ∈ S) (x : Int) : x ∈ behindF S a ↔ x ∈ S ∧ a < x := by
  unfold behindF
  rcases idxI_cases S a with ⟨h1, h2⟩ | ⟨i, h1, h2, -, h4⟩
  · exact absurd ha h2
  · rw [h1, if_neg (by omega)]
    exact (rise_split hS h2 x).1
theorem mem_ahead {S : List Int} (hS : S.Pairwise (· < ·)) {a : Int} (ha : a ∈ S) (x : Int) : x ∈ aheadF S a ↔ x ∈ S ∧ x < a := by
  unfold aheadF
  rcases idxI_cases S a with ⟨h1, h2⟩ | ⟨i, h1, h2, -, h4⟩
  · exact absurd ha h2
  · rw [h1]
    exact (rise_split hS h2 x).2
theorem count_nodup : ∀ (l : List Int), l.Nodup → ∀ x, l.count x = if x ∈ l then 1 else 0
  | [], _, x => by simp
  | y :: l, h, x => by
    obtain ⟨h1, h2⟩ := List.nodup_cons.1 h
    rw [List.count_cons, count_nodup l h2 x]
    by_cases e : y = x
    · subst e; simp [h1]
    · have e' : ¬ x = y := fun h => e h.symm
      simp [e, e']
theorem rise_nodup {l : List Int} (h : l.Pairwise (· < ·)) : l.Nodup := h.imp (fun hab hc => by omega)
theorem fall_nodup {l : List Int} (h : l.Pairwise (· > ·)) : l.Nodup := h.imp (fun hab hc => by omega)
section
variable {g : Int → Option Rec} {e : Int → Int} {N : Int} {K : Nat}
theorem sort_rise {xs : List Int} (hn : (allF g K).Pairwise (· < ·)) (hx : xs.Pairwise (· < ·)) (hs : ∀ x ∈ xs, x ∈ allF g K) : sortF g K xs = xs :=
  rise_ext _ _ (hn.sublist List.filter_sublist) hx (fun x => by
    unfold sortF
    rw [List.mem_filter]
    simp only [decide_eq_true_eq]
    exact ⟨fun h => h.2, fun h => ⟨hs x h, h⟩⟩)
theorem sort_fall {xs : List Int} (hn : (allF g K).Pairwise (· < ·)) (hx : xs.Pairwise (· > ·)) (hs : ∀ x ∈ xs, x ∈ allF g K) : sortF g K xs = xs.reverse := by
  have h1 : sortF g K xs = sortF g K xs.reverse := by unfold sortF; simp
  rw [h1]
  exact sort_rise hn (List.pairwise_reverse.2 hx) (fun x hx => hs x (List.mem_reverse.1 hx))
theorem Tree.rise_all (h : Tree g e N) (hK : N < K) : (allF g K).Pairwise (· < ·) := by
  rw [h.all hK]; exact segL_rise g 0 N
theorem Tree.below_attr (h : Tree g e N) (hK : N < K) {a : Int} {r : Rec} (hr : g a = some r) (hk : r.kind = 3) : belowF g K a = [] := by
  have := h.one
  unfold belowF
  rw [h.goAttr (by omega) hr hk]
  simp
theorem Tree.below_rise (h : Tree g e N) (hK : N < K) {a : Int} {r : Rec} (hr : g a = some r) : (belowF g K a).Pairwise (· < ·) := by
  by_cases hk : r.kind = 3
  · rw [h.below_attr hK hr hk]; exact List.Pairwise.nil
  · unfold belowF
    rw [h.go hK hr hk]
    have := segL_rise g (a - 1) (e a)
    rw [List.pairwise_map] at this ⊢
    exact this.sublist List.filter_sublist
theorem Tree.below_mem (h : Tree g e N) (hK : N < K) {a : Int} {r : Rec} (hr : g a = some r) {x : Int} (hx : x ∈ belowF g K a) : a < x ∧ x ≤ e a ∧ isAttr g x = false := by
  by_cases hk : r.kind = 3
  · rw [h.below_attr hK hr hk] at hx; simp at hx
  · exact (h.mem_below hK hr hk x).1 hx
/-- the five axes -/
def partOk (p : Int) : Prop := p = 10 ∨ p = 4 ∨ p = 2 ∨ p = 7 ∨ p = 8
theorem nodes10 (g : Int → Option Rec) (K : Nat) (a : Int) (r : Rec) : nodesR g K a 10 r = [a] := by unfold nodesR; simp
theorem nodes4 (g : Int → Option Rec) (K : Nat) (a : Int) (r : Rec) : nodesR g K a 4 r = upF g K a := by unfold nodesR; simp
theorem nodes2 (g : Int → Option Rec) (K : Nat) (a : Int) (r : Rec) : nodesR g K a 2 r = belowF g K a := by unfold nodesR; simp
theorem nodes7 (g : Int → Option Rec) (K : Nat) (a : Int) (r : Rec) : nodesR g K a 7 r = woutF g (belowF g K a) (behindF (allF g K) a) := by unfold nodesR; simp
theorem nodes8 (g : Int → Option Rec) (K : Nat) (a : Int) (r : Rec) : nodesR g K a 8 r = (woutF g (upF g K a) (aheadF (allF g K) a)).reverse := by unfold nodesR; simp
theorem Tree.part_order (h : Tree g e N) (hK : N < K) {a : Int} {r : Rec} (hr : g a = some r) {p : Int} (hp : partOk p) :
    (axRev p = false ∧ (nodesR g K a p r).Pairwise (· < ·) ∨ axRev p = true ∧ (nodesR g K a p r).Pairwise (· > ·)) ∧ ∀ x ∈ nodesR g K a p r, x ∈ allF g K := by
  obtain ⟨h1, h2, -, h3, h4⟩ := h.is hr
  have hup := h.up hK hr
  have hall := h.rise_all hK
  rcases hp with rfl | rfl | rfl | rfl | rfl
  · rw [nodes10]
    exact ⟨.inl ⟨rfl, by simp⟩, fun x hx => by rw [List.mem_singleton] at hx; subst hx; exact (h.mem_all hK x).2 ⟨h1, h2⟩⟩
  · rw [nodes4]
    exact ⟨.inr ⟨rfl, hup.1⟩, fun x hx => by have := (hup.2 x).1 hx; exact (h.mem_all hK x).2 ⟨this.1, by omega⟩⟩
  · rw [nodes2]
    exact ⟨.inl ⟨rfl, h.below_rise hK hr⟩, fun x hx => by have := h.below_mem hK hr hx; exact (h.mem_all hK x).2 ⟨by omega, by omega⟩⟩
  · rw [nodes7]
    have hs : (woutF g (belowF g K a) (behindF (allF g K) a)).Sublist (allF g K) := List.filter_sublist.trans (behind_sub _ _)
    exact ⟨.inl ⟨rfl, hall.sublist hs⟩, fun x hx => hs.subset hx⟩
  · rw [nodes8]
    have hs : (woutF g (upF g K a) (aheadF (allF g K) a)).Sublist (allF g K) := List.filter_sublist.trans (ahead_sub _ _)
    refine ⟨.inr ⟨rfl, ?_⟩, fun x hx => hs.subset (List.mem_reverse.1 hx)⟩
    rw [List.pairwise_reverse]
    exact hall.sublist hs
/-- each of the five, sorted, is itself or its reverse -/
theorem Tree.part_sorts (h : Tree g e N) (hK : N < K) {a : Int} {r : Rec} (hr : g a = some r) {p : Int} (hp : partOk p) :
    (sortF g K (nodesR g K a p r)).length = (nodesR g K a p r).length ∧ ∀ (k : Nat) (x : Int), (nodesR g K a p r)[k]? = some x → (sortF g K (nodesR g K a p r))[if axRev p then (nodesR g K a p r).length - 1 - k else k]? = some x := by
  obtain ⟨h1, h2⟩ := h.part_order hK hr hp
  rcases h1 with ⟨h3, h4⟩ | ⟨h3, h4⟩
  · rw [sort_rise (h.rise_all hK) h4 h2, h3]
    exact ⟨rfl, fun k x hx => hx⟩
  · rw [sort_fall (h.rise_all hK) h4 h2, h3]
    refine ⟨List.length_reverse, fun k x hx => ?_⟩
    have hk := (List.getElem?_eq_some_iff.1 hx).1
    rw [if_pos rfl, List.getElem?_reverse (by omega), show (nodesR g K a p r).length - 1 - ((nodesR g K a p r).length - 1 - k) = k by omega]
    exact hx
def partsL (g : Int → Option Rec) (K : Nat) (a : Int) (r : Rec) : List Int := nodesR g K a 10 r ++ nodesR g K a 4 r ++ nodesR g K a 2 r ++ nodesR g K a 7 r ++ nodesR g K a 8 r
/-- each node but attributes stands once among them -/
theorem Tree.parts (h : Tree g e N) (hK : N < K) {a : Int} {r : Rec} (hr : g a = some r) {x : Int} {rx : Rec} (hx : g x = some rx) :
    (partsL g K a r).count x = if rx.kind = 3 ∧ x ≠ a then 0 else 1 := by
  obtain ⟨a1, a2, -, a3, a4⟩ := h.is hr
  obtain ⟨x1, x2, -, x3, x4⟩ := h.is hx
  have hall := h.rise_all hK
  have ham := (h.mem_all hK a).2 ⟨a1, a2⟩
  have hxm := (h.mem_all hK x).2 ⟨x1, x2⟩
  have hup := (h.up hK hr).2 x
  have hat := isAttr_eq hx
  have hlow : ∀ p, partOk p → (nodesR g K a p r).Nodup := fun p hp => by
    rcases (h.part_order hK hr hp).1 with ⟨-, h4⟩ | ⟨-, h4⟩
    · exact rise_nodup h4
    · exact fall_nodup h4
  unfold partsL
  rw [List.count_append, List.count_append, List.count_append, List.count_append, count_nodup _ (hlow 10 (by simp [partOk])), count_nodup _ (hlow 4 (by simp [partOk])), count_nodup _ (hlow 2 (by simp [partOk])), count_nodup _ (hlow 7 (by simp [partOk])), count_nodup _ (hlow 8 (by simp [partOk])),
    nodes10, nodes4, nodes2, nodes7, nodes8]
  have m10 : x ∈ [a] ↔ x = a := List.mem_singleton
  have m7 : x ∈ woutF g (belowF g K a) (behindF (allF g K) a) ↔ a < x ∧ rx.kind ≠ 3 ∧ x ∉ belowF g K a := by
    unfold woutF woutP
    rw [List.mem_filter, mem_behind hall ham, kindOf_eq hx]
    simp [hxm]
  have m8 : x ∈ (woutF g (upF g K a) (aheadF (allF g K) a)).reverse ↔ x < a ∧ rx.kind ≠ 3 ∧ x ∉ upF g K a := by
    rw [List.mem_reverse]
    unfold woutF woutP
    rw [List.mem_filter, mem_ahead hall ham, kindOf_eq hx]
    simp [hxm]
  have hb : x ∈ belowF g K a → a < x ∧ rx.kind ≠ 3 := fun hm => by
    have := h.below_mem hK hr hm
    rw [hat] at this
    exact ⟨this.1, by simpa using this.2.2⟩
  have hu : x ∈ upF g K a → x < a ∧ rx.kind ≠ 3 := fun hm => by
    have := hup.1 hm
    refine ⟨this.2.1, fun hk => ?_⟩
    have := h.leaf hx hk
    omega
  simp only [m10, m7, m8]
  clear m10 m7 m8
  by_cases c1 : x = a <;> by_cases c2 : rx.kind = 3 <;> by_cases c3 : x ∈ belowF g K a <;> by_cases c4 : x ∈ upF g K a <;> by_cases c5 : a < x <;> by_cases c6 : x < a <;> first
    | (exfalso; first | (have := hb c3; omega) | (have := hu c4; omega) | omega)
    | (rw [if_pos c1]; simp only [c2, c3, c4, c5, c6]; simp [c1])
    | (rw [if_neg c1]; simp only [c2, c3, c4, c5, c6]; simp [c1]; done)
    | (rw [if_neg c1]; simp only [c2, c3, c4, c5, c6]; simp [c1]; exact c2)
end
end Go.Proofs.Ytinkjhkbaadbpaa
/- The walk of AxisParts (7). -/
namespace Go.Proofs.Ytinkjhkbaadbpaa
open Go.RowKit
set_option linter.unusedVariables false
set_option linter.unusedSimpArgs false

/-- what the first k of the five axes give -/
def accF (f : Int → List Int) (k : Nat) : List Int := ((([10, 4, 2, 7, 8] : List Int).take k).map f).flatten
theorem accF_succ {f : Int → List Int} {k : Nat} {p : Int} (h : ([10, 4, 2, 7, 8] : List Int)[k]? = some p) : accF f (k + 1) = accF f k ++ f p := by
  unfold accF
  rw [List.take_add_one, h, Option.toList_some, List.map_append, List.flatten_append]
  simp
theorem accF_len {f : Int → List Int} {n : Nat} (hf : ∀ p, partOk p → (f p).length ≤ n) : ∀ k, (accF f k).length ≤ k * n
  | 0 => by simp [accF]
  | k + 1 => by
    have ih := accF_len hf k
    rw [Nat.add_mul, Nat.one_mul]
    cases h : ([10, 4, 2, 7, 8] : List Int)[k]? with
    | none =>
      have hk : 5 ≤ k := by
        have := List.getElem?_eq_none_iff.1 h
        simpa using this
      have e : accF f (k + 1) = accF f k := by
        unfold accF
        rw [List.take_of_length_le (by simp; omega), List.take_of_length_le (by simp; omega)]
      rw [e]; omega
    | some p =>
      have hp : partOk p := by
        have := List.mem_of_getElem? h
        simp at this
        unfold partOk
        omega
      have := hf p hp
      rw [accF_succ h, List.length_append]; omega
theorem accF_five (f : Int → List Int) : accF f 5 = f 10 ++ f 4 ++ f 2 ++ f 7 ++ f 8 := by simp [accF]
theorem count_take {l : List Int} {k : Nat} {y : Int} (h : l[k]? = some y) (x : Int) : (l.take (k + 1)).count x = (l.take k).count x + (if y = x then 1 else 0) := by
  rw [List.take_add_one, h, Option.toList_some, List.count_append, List.count_singleton]
  by_cases e : y = x <;> simp [e]

theorem cutA {wr w9 : World} (hb : Below wr.heap.size wr w9) (x0 x1 x2 x3 x4 x5 x6 : Value) : ∃ b, Value.pointer (some ⟨w9.heap.size, 0, none⟩) = .pointer (some ⟨b, 0, none⟩) ∧ (w9.alloc (.cells #[x0, x1, x2, x3, x4, x5, x6] 52)).cell? ⟨b, 0, none⟩ = some x0 ∧ b < (w9.alloc (.cells #[x0, x1, x2, x3, x4, x5, x6] 52)).heap.size ∧ Below wr.heap.size wr (w9.alloc (.cells #[x0, x1, x2, x3, x4, x5, x6] 52)) := by
  refine ⟨_, rfl, ?_, by simp, hb.alloc hb.size _⟩
  have := Go.heap_alloc_new w9 (.cells #[x0, x1, x2, x3, x4, x5, x6] 52)
  simp only [World.cell?, this]
  rfl
theorem cutB {wr w9 : World} (hb : Below wr.heap.size wr w9) {a0 a1 a2 a3 a4 a5 a6 : Value} (hz : w9.heap[wr.heap.size]? = some (.cells #[a0, a1, a2, a3, a4, a5, a6] 52 (0, 0))) (x0 x1 x2 x3 x4 x5 x6 : Value) :
    ∃ b, Value.pointer (some ⟨wr.heap.size, 0, none⟩) = .pointer (some ⟨b, 0, none⟩) ∧ (((((((w9.setCell ⟨wr.heap.size, 0, none⟩ x0).setCell ⟨wr.heap.size, 1, none⟩ x1).setCell ⟨wr.heap.size, 2, none⟩ x2).setCell ⟨wr.heap.size, 3, none⟩ x3).setCell ⟨wr.heap.size, 4, none⟩ x4).setCell ⟨wr.heap.size, 5, none⟩ x5).setCell ⟨wr.heap.size, 6, none⟩ x6).cell? ⟨b, 0, none⟩ = some x0 ∧
      b < (((((((w9.setCell ⟨wr.heap.size, 0, none⟩ x0).setCell ⟨wr.heap.size, 1, none⟩ x1).setCell ⟨wr.heap.size, 2, none⟩ x2).setCell ⟨wr.heap.size, 3, none⟩ x3).setCell ⟨wr.heap.size, 4, none⟩ x4).setCell ⟨wr.heap.size, 5, none⟩ x5).setCell ⟨wr.heap.size, 6, none⟩ x6).heap.size ∧
      Below wr.heap.size wr (((((((w9.setCell ⟨wr.heap.size, 0, none⟩ x0).setCell ⟨wr.heap.size, 1, none⟩ x1).setCell ⟨wr.heap.size, 2, none⟩ x2).setCell ⟨wr.heap.size, 3, none⟩ x3).setCell ⟨wr.heap.size, 4, none⟩ x4).setCell ⟨wr.heap.size, 5, none⟩ x5).setCell ⟨wr.heap.size, 6, none⟩ x6) := by
  have h0 := heap_setCell_same w9 wr.heap.size 0 _ _ x0 hz
  have h1 := heap_setCell_same _ wr.heap.size 1 _ _ x1 h0
  have h2 := heap_setCell_same _ wr.heap.size 2 _ _ x2 h1
  have h3 := heap_setCell_same _ wr.heap.size 3 _ _ x3 h2
  have h4 := heap_setCell_same _ wr.heap.size 4 _ _ x4 h3
  have h5 := heap_setCell_same _ wr.heap.size 5 _ _ x5 h4
  have h6 := heap_setCell_same _ wr.heap.size 6 _ _ x6 h5
  have hc : Chg (New wr.heap.size) wr _ := ((((((((chg_new hb).trans (chg_set (M := New wr.heap.size) (Nat.le_refl _) 0 x0)).trans (chg_set (M := New wr.heap.size) (Nat.le_refl _) 1 x1)).trans (chg_set (M := New wr.heap.size) (Nat.le_refl _) 2 x2)).trans (chg_set (M := New wr.heap.size) (Nat.le_refl _) 3 x3)).trans (chg_set (M := New wr.heap.size) (Nat.le_refl _) 4 x4)).trans (chg_set (M := New wr.heap.size) (Nat.le_refl _) 5 x5)).trans (chg_set (M := New wr.heap.size) (Nat.le_refl _) 6 x6))
  refine ⟨_, rfl, ?_, (Array.getElem?_eq_some_iff.1 h6).1, below_of_chg hc⟩
  simp [World.cell?, h6]
set_option maxRecDepth 100000 in
set_option maxHeartbeats 4000000 in
theorem axisParts_walk {w : World} {t : Tr} {av kv : Value} (one : Int) (h1 : 0 ≤ one) (h1' : one < 65536) (hT : TrIn (Old w.heap.size) w t av kv) (hsz : t.size ≤ 100000000) :
    Calls Try.prog 7 #[trV t av kv, .int .u16 one] w fun e w' => e = .returned (.bool true) ∧ Below w.heap.size w w' := by
  have hT2 := hT
  obtain ⟨kind, name, text, attrs, kids⟩ := t
  simp only [TrIn] at hT2
  obtain ⟨⟨a1, c1, rfl, -, -⟩, zs, ⟨a2, c2, rfl, -, -⟩, -⟩ := hT2
  obtain ⟨t, ht⟩ : ∃ t, Tr.mk kind name text attrs kids = t := ⟨_, rfl⟩
  have htr : trV t (.slice a1 attrs.length c1) (.slice a2 kids.length c2) = .agg #[.int .i64 kind, .string name, .string text, .slice a1 attrs.length c1, .slice a2 kids.length c2] := by rw [← ht]; rfl
  rw [ht] at hT hsz
  obtain ⟨W, hW⟩ : ∃ W, w.alloc (.cells #[.int .i64 kind, .string name, .string text, .slice a1 attrs.length c1, .slice a2 kids.length c2] 25) = W := ⟨_, rfl⟩
  have hbB : Below w.heap.size w W := by rw [← hW]; exact (Below.refl _ _).alloc (Nat.le_refl _) _
  have hs1 : W.heap.size = w.heap.size + 1 := by rw [← hW]; simp
  have hx0 : W.heap[w.heap.size]? = some (.cells #[.int .i64 kind, .string name, .string text, .slice a1 attrs.length c1, .slice a2 kids.length c2] 25 (0, 0)) := by rw [← hW]; exact Go.heap_alloc_new _ _
  obtain ⟨x0, x1, x2, x3, x4⟩ : W.cell? ⟨w.heap.size, 0, none⟩ = some (.int .i64 kind) ∧ W.cell? ⟨w.heap.size, 1, none⟩ = some (.string name) ∧ W.cell? ⟨w.heap.size, 2, none⟩ = some (.string text) ∧ W.cell? ⟨w.heap.size, 3, none⟩ = some (.slice a1 attrs.length c1) ∧ W.cell? ⟨w.heap.size, 4, none⟩ = some (.slice a2 kids.length c2) := by
    refine ⟨?_, ?_, ?_, ?_, ?_⟩ <;> simp [World.cell?, hx0]
  have hTW : ∀ W2, Below w.heap.size w W2 → TrIn (Old w.heap.size) W2 t (.slice a1 attrs.length c1) (.slice a2 kids.length c2) := fun W2 h2 => TrIn.keep (keeps_below h2) (fun _ h => h) _ _ _ hT
  have hfew := few_any (hTW W hbB) (fun k hk => by have : k < w.heap.size := hk; omega)
  rw [htr] at hfew
  have HFEW := Lib.hid hfew
  have HTW := Lib.hid hTW
  have HTR := Lib.hid htr
  have HW := Lib.hid hW
  have HX0 := Lib.hid hx0
  have HBB := Lib.hid hbB
  have HS1 := Lib.hid hs1
  have HSZ := Lib.hid hsz
  clear hT hW hs1 hx0 hbB hTW hfew htr ht hsz
  show Calls Try.prog 7 #[.agg #[.int .i64 kind, .string name, .string text, .slice a1 attrs.length c1, .slice a2 kids.length c2], .int .u16 one] w _
  go_enter Try.func7, Try.ntmps7
  go_upto_region 1 with fail
  rw [HW.out]
  go_wp2_with fail
  refine HFEW.out.mono ?_
  rintro e w1 ⟨⟨b, rfl⟩, hbf⟩
  have HB1 := Lib.hid (HBB.out.trans (hbf.mono HBB.out.size))
  have hs1 := hbf.size
  have hx01 := (hbf.block w.heap.size (by have := HS1.out; omega)).trans HX0.out
  clear hbf x0 x1 x2 x3 x4
  cases b with
  | false =>
    clear hx01
    go_wp2_with (go_at_call 19; refine (aworks_any _).mono ?_; rintro e w5 ⟨rfl, hb5⟩)
    go_ret
    exact ⟨rfl, HB1.out.trans (hb5.mono HB1.out.size)⟩
  | true =>
    obtain ⟨x0, x1, x2, x3, x4⟩ : w1.cell? ⟨w.heap.size, 0, none⟩ = some (.int .i64 kind) ∧ w1.cell? ⟨w.heap.size, 1, none⟩ = some (.string name) ∧ w1.cell? ⟨w.heap.size, 2, none⟩ = some (.string text) ∧ w1.cell? ⟨w.heap.size, 3, none⟩ = some (.slice a1 attrs.length c1) ∧ w1.cell? ⟨w.heap.size, 4, none⟩ = some (.slice a2 kids.length c2) := by
      refine ⟨?_, ?_, ?_, ?_, ?_⟩ <;> simp [World.cell?, hx01]
    have hmd := made_any (cs := []) (HTW.out w1 HB1.out) (chnsIn_nil _ _) (by simp) (fun k hk => Nat.lt_of_lt_of_le hk HB1.out.size) HSZ.out
    rw [HTR.out] at hmd
    have HMD := Lib.hid hmd
    clear hmd hx01
    go_wp2_with fail
    refine HMD.out.mono ?_
    rintro e w2 ⟨R, Rd, p, vv, m, s, v2, s2, rfl, hdu, hpc, hnp, hb2⟩
    obtain ⟨Rb, g, keys, ee, N, hax, htree, hK⟩ := made_ax hdu HSZ.out
    have hpl : p < w2.heap.size := (Array.getElem?_eq_some_iff.1 hpc).1
    have HAX := Lib.hid hax
    have HTREE := Lib.hid htree
    have HK := Lib.hid hK
    have HPP := Lib.hid (show ∀ W2, Below w2.heap.size w2 W2 → W2.cell? ⟨p, 0, none⟩ = some (ptr vv) from fun W2 h2 => by
      have e1 := (h2.block p hpl).trans hpc
      simp [World.cell?, e1])
    have HB2 := Lib.hid (HB1.out.trans (hb2.mono HB1.out.size))
    have hpv := HPP.out w2 (Below.refl _ _)
    have HALL := Lib.hid (all_any hax.k hax.rl hax.ko hax.kl)
    have hallm := htree.mem_all (K := keys.length + 1) hK
    obtain ⟨all, hal⟩ : ∃ all, allF g (keys.length + 1) = all := ⟨_, rfl⟩
    have hall9 : (allF g (keys.length + 1)).length ≤ 1000000000 := by
      have h8 := (goS_inv hax.ko (keys.length + 1) 1 false [] (GoInv.nil keys)).len
      have h9 := hax.kl
      unfold allF
      rw [List.length_map]
      unfold goF
      omega
    rw [hal] at HALL hallm hall9
    have HALL9 := Lib.hid hall9
    have HAL := Lib.hid hal
    have hal1 : 1 ∈ all := (hallm 1).2 ⟨by omega, htree.one⟩
    have hpos : 0 < all.length := List.length_pos_of_mem hal1
    have HAM := Lib.hid hallm
    clear hal
    clear hdu hpc hnp hb2 hax htree hK hallm hal1 hall9 x0 x1 x2 x3 x4
    go_wp2_with fail
    refine HALL.out.mono ?_
    rintro e w3 ⟨⟨u3, rfl, hu3⟩, hb3⟩
    have HU3 := Lib.hid hu3
    have hln := hu3.len
    obtain ⟨a3, c3, rfl, -, -, hx3⟩ := hu3
    obtain ⟨gb, off, rfl, hgb, hc3⟩ : ∃ g off, a3 = some ⟨g, off, none⟩ ∧ Old w3.heap.size g ∧ ∀ j x, all[j]? = some x → w3.cell? ⟨g, off + j, none⟩ = some (.int .i64 x) := by
      rcases hx3 with h | h
      · rw [h] at hpos; simp at hpos
      · exact h
    obtain ⟨i1, hi1, hi1l⟩ : ∃ i : Nat, one.tmod (all.length : Int) = i ∧ i < all.length := ⟨(one.tmod all.length).toNat, by rw [Int.toNat_of_nonneg]; exact Int.tmod_nonneg _ h1, by
      have := Int.tmod_lt_of_pos one (show (0 : Int) < all.length by omega)
      have := Int.tmod_nonneg (all.length : Int) h1
      omega⟩
    obtain ⟨a, ha⟩ : ∃ a, all[i1]? = some a := ⟨_, List.getElem?_eq_getElem hi1l⟩
    have q1 := hc3 i1 a ha
    have hne : all.length ≠ 0 := by omega
    have hneb : ((all.length : Int) == 0) = false := beq_eq_false_iff_ne.2 (by omega)
    have ham := (HAM.out a).1 (List.mem_of_getElem? ha)
    obtain ⟨ra, hra, -⟩ := HTREE.out.node ham.1 ham.2
    have HRA := Lib.hid hra
    have HB3 := Lib.hid hb3
    have HC3 := Lib.hid (show ∀ W2, Below w3.heap.size w3 W2 → ∀ j x, all[j]? = some x → W2.cell? ⟨gb, off + j, none⟩ = some (.int .i64 x) from fun W2 h2 j x hj => (h2.cell (p := ⟨gb, off + j, none⟩) hgb).trans (hc3 j x hj))
    clear ha ham hra hb3 hc3 hx3
    go_wp2_with fail
    obtain ⟨W4, hW4⟩ : ∃ W4, w3.alloc (.cells #[iv 10, iv 4, iv 2, iv 7, iv 8] 3) = W4 := ⟨_, rfl⟩
    have hr4 : W4.heap[w3.heap.size]? = some (.cells #[iv 10, iv 4, iv 2, iv 7, iv 8] 3 (0, 0)) := by rw [← hW4]; exact Go.heap_alloc_new _ _
    have hl4 : w3.heap.size < W4.heap.size := by rw [← hW4]; simp
    have hb34 : Below w3.heap.size w3 W4 := by rw [← hW4]; exact (Below.refl _ _).alloc (Nat.le_refl _) _
    have hb24 : Below w2.heap.size w2 W4 := HB3.out.trans (hb34.mono HB3.out.size)
    rw [hW4]
    obtain ⟨f, hf⟩ : ∃ f : Int → List Int, f = fun p => nodesR g (keys.length + 1) a p ra := ⟨_, rfl⟩
    have HL4 := Lib.hid (show ∀ W, Below W4.heap.size W4 W → ∀ (k : Nat) (p : Int), ([10, 4, 2, 7, 8] : List Int)[k]? = some p → W.cell? ⟨w3.heap.size, k, none⟩ = some (iv p) from fun W hb k p hp => by
      have h9 := (hb.block _ hl4).trans hr4
      have hk5 := (List.getElem?_eq_some_iff.1 hp).1
      have h6 : k = 0 ∨ k = 1 ∨ k = 2 ∨ k = 3 ∨ k = 4 := by simp at hk5; omega
      rcases h6 with rfl | rfl | rfl | rfl | rfl <;> (simp at hp; subst hp; simp [World.cell?, h9]))
    have hford : ∀ p, partOk p → (sortF g (keys.length + 1) (f p)).length = (f p).length ∧ ∀ (k : Nat) (x : Int), (f p)[k]? = some x → (sortF g (keys.length + 1) (f p))[if axRev p then (f p).length - 1 - k else k]? = some x := fun p hp => by
      rw [hf]; exact HTREE.out.part_sorts HK.out HRA.out hp
    have hflen : ∀ p, partOk p → (f p).length ≤ 1000000000 := fun p hp => by
      have h1 := HTREE.out.part_order HK.out HRA.out hp
      rw [hf]
      refine Nat.le_trans (nodup_len ?_ h1.2) (by rw [HAL.out]; exact HALL9.out)
      rcases h1.1 with ⟨-, h4⟩ | ⟨-, h4⟩
      · exact rise_nodup h4
      · exact fall_nodup h4
    have hfpos : ∀ p, partOk p → ∀ x ∈ f p, x ∈ all := fun p hp x hx => by
      rw [hf] at hx
      rw [← HAL.out]
      exact (HTREE.out.part_order HK.out HRA.out hp).2 x hx
    have HN := Lib.hid (show ∀ W, Below W4.heap.size W4 W → ∀ p, partOk p → Calls Try.prog 22 #[ptr vv, iv a, iv p] W (AxNew W (f p)) from fun W hb p hp => by
      rw [hf]
      exact nodes_new (HAX.out.later (hb24.trans (hb.mono hb24.size))) a p HRA.out hp)
    have HSRT := Lib.hid (show ∀ W, Below W4.heap.size W4 W → ∀ (lv : Value) (xs : List Int), IntsIn (Old W.heap.size) W lv xs → Calls Try.prog 35 #[ptr vv, lv] W (AxPost W (sortF g (keys.length + 1) xs)) from fun W hb lv xs hx =>
      have h9 := HAX.out.later (hb24.trans (hb.mono hb24.size))
      sort_view h9.k h9.rl h9.ko h9.kl hx (fun _ h => h))
    have HV4 := Lib.hid (show ∀ W, Below W4.heap.size W4 W → W.cell? ⟨p, 0, none⟩ = some (ptr vv) from fun W hb => HPP.out W (hb24.trans (hb.mono hb24.size)))
    have HFORD := Lib.hid hford
    have HFL := Lib.hid hflen
    have HF := Lib.hid hf
    have HB4 := Lib.hid hb24
    have HB34 := Lib.hid hb34
    clear hr4 hl4 hW4 hb34 hb24 hf hford hflen hfpos hpv q1
    go_loopw [8, 47] (fun u i wr => ∃ k : Nat, k ≤ 5 ∧ i = .int .i64 k ∧ wr.ownsRow W4.heap.size 3 1 u (accF f k).length ((accF f k).map iv) ∧ Below W4.heap.size W4 wr) (fun _ i _ => 5 - (Lib.intOf i).toNat)
    case atStart => exact ⟨0, Nat.zero_le _, rfl, World.ownsRow_nil _ _ _ _, Below.refl _ _⟩
    case round =>
      obtain ⟨k, hk, rfl, hown, hbr⟩ := hrel
      obtain ⟨au, cu, rfl⟩ := ownsRow_shape hown
      by_cases hlt : k < 5
      · obtain ⟨ax, hax⟩ : ∃ ax, ([10, 4, 2, 7, 8] : List Int)[k]? = some ax := ⟨_, List.getElem?_eq_getElem (by simpa using hlt)⟩
        have hpo : partOk ax := by
          have := List.mem_of_getElem? hax
          simp at this
          unfold partOk
          omega
        have hck := HL4.out wr hbr k ax hax
        have hsucc := accF_succ (f := f) hax
        have hal9 := accF_len (f := f) (n := 1000000000) HFL.out k
        have hfl9 := HFL.out ax hpo
        have hvr := HV4.out wr hbr
        have HNR := Lib.hid (HN.out wr hbr ax hpo)
        obtain ⟨l, hl⟩ : ∃ l, f ax = l := ⟨_, rfl⟩
        have hord := HFORD.out ax hpo
        rw [hl] at hord HNR hsucc hfl9
        obtain ⟨acc, hacc⟩ : ∃ acc, accF f k = acc := ⟨_, rfl⟩
        rw [hacc] at hown hsucc hal9 ⊢
        have HOWN := Lib.hid hown
        have HBR := Lib.hid hbr
        have HSUC := Lib.hid hsucc
        have HORD := Lib.hid hord
        have HAC := Lib.hid (show acc.length + l.length ≤ 10000000000 by omega)
        have hk0 : (0 : Int) ≤ k := by omega
        have hk5 : (k : Int) < 5 := by omega
        clear hax hown hbr hord hsucc hl hacc hal9
        go_wp2_with fail
        refine HNR.out.mono ?_
        rintro e w5 ⟨⟨u5, rfl, ho5⟩, hb5⟩
        have HO5 := Lib.hid ho5
        have HOWN5 := Lib.hid (ownsRow_keeps HOWN.out (fun g hg => hb5.block g (ownsRow_base HOWN.out hg).2))
        have HBR5 := Lib.hid (HBR.out.trans (hb5.mono HBR.out.size))
        obtain ⟨a5, c5, rfl, -, -, -⟩ := ho5
        have hln5 : (l.length : Int) ≤ 1000000000 := by omega
        clear hvr hck
        go_wp2_with ((at_builtin; refine wpList_append_ints rfl _ _ rfl (zs := acc) (ys := l) rfl rfl HOWN5.out HO5.out HAC.out HBR5.out.size ?_; intro u6 w6 ho6 hg6 hl6; have hbr6 := HBR5.out.grown hg6 HBR5.out.size (fun k hk => (ownsRow_base HOWN5.out hk).1); have hvr := HV4.out w6 hbr6; have HBR6 := Lib.hid hbr6; have HO6 := Lib.hid ((HO5.out.keep (fun k hk => hg6.block k hk.2 (fun e => by have := (ownsRow_base HOWN.out e.symm).2; omega))).mono (fun k hk => Nat.lt_of_lt_of_le hk.2 hg6.size) : IntsIn (Old w6.heap.size) w6 _ l); have HOWN6 := Lib.hid ho6; obtain ⟨a6, c6, rfl⟩ := shape3 ho6; clear ho6 hg6 hl6 hbr6))
        refine (HSRT.out w6 HBR6.out _ l HO6.out).mono ?_
        rintro e w7 ⟨⟨u7, rfl, ho7⟩, hb7⟩
        have HO7 := Lib.hid ho7
        obtain ⟨a7, c7, hu7, -, -, -⟩ := ho7
        rw [HORD.out.1] at hu7
        subst hu7
        have HO8 := Lib.hid (HO6.out.later hb7)
        have HBR7 := Lib.hid (HBR6.out.trans (hb7.mono HBR6.out.size))
        have HOWN7 := Lib.hid (ownsRow_keeps HOWN6.out (fun g hg => hb7.block g (ownsRow_base HOWN6.out hg).2))
        clear hvr hb7
        go_wp2_with fail
        obtain ⟨W0, hW0⟩ : ∃ W0, W0 = wr := ⟨_, rfl⟩
        clear hW0
        go_loopw [13] (fun i wx => ∃ m : Nat, m ≤ l.length ∧ i = .int .i64 m ∧ Below w7.heap.size w7 wx) (fun i _ => l.length - (Lib.intOf i).toNat)
        case atStart => exact ⟨0, Nat.zero_le _, rfl, Below.refl _ _⟩
        case round =>
          obtain ⟨m, hm, rfl, hbx⟩ := hrel
          by_cases hml : m < l.length
          · obtain ⟨x, hx⟩ : ∃ x, l[m]? = some x := ⟨_, List.getElem?_eq_getElem hml⟩
            have hsx := HORD.out.2 m x hx
            obtain ⟨g5, o5, rfl, hg5, hc5⟩ : ∃ g off, a5 = some ⟨g, off, none⟩ ∧ Old w7.heap.size g ∧ ∀ j x, l[j]? = some x → w7.cell? ⟨g, off + j, none⟩ = some (.int .i64 x) := by
              obtain ⟨a', c', e', -, -, h⟩ := HO8.out
              cases e'
              rcases h with h | h
              · rw [h] at hml; simp at hml
              · exact h
            have hsl : 0 < (sortF g (keys.length + 1) l).length := by rw [HORD.out.1]; omega
            obtain ⟨g7, o7, rfl, hg7, hc7⟩ : ∃ g' off, a7 = some ⟨g', off, none⟩ ∧ Old w7.heap.size g' ∧ ∀ j x, (sortF g (keys.length + 1) l)[j]? = some x → w7.cell? ⟨g', off + j, none⟩ = some (.int .i64 x) := by
              obtain ⟨a', c', e', -, -, h⟩ := HO7.out
              rw [HORD.out.1] at e'
              cases e'
              rcases h with h | h
              · rw [h] at hsl; simp at hsl
              · exact h
            have z1 : wr.cell? ⟨g5, o5 + m, none⟩ = some (.int .i64 x) := (hbx.cell (p := ⟨g5, o5 + m, none⟩) hg5).trans (hc5 m x hx)
            have HZ2 := Lib.hid (show ∀ j, (sortF g (keys.length + 1) l)[j]? = some x → wr.cell? ⟨g7, o7 + j, none⟩ = some (.int .i64 x) from fun j hj => (hbx.cell (p := ⟨g7, o7 + j, none⟩) hg7).trans (hc7 j x hj))
            have HBX := Lib.hid hbx
            have hm0 : (0 : Int) ≤ m := by omega
            have hmi : (m : Int) < l.length := by omega
            have HREV := Lib.hid (reverse_any ax wr)
            obtain ⟨rb, hrb⟩ : ∃ rb, axRev ax = rb := ⟨_, rfl⟩
            rw [hrb] at hsx HREV
            clear hx hc5 hc7 hbx hsl hrb
            cases rb with
            | true =>
              have z2 := HZ2.out (l.length - 1 - m) hsx
              have et : ((l.length : Int) - 1 - m).toNat = l.length - 1 - m := by omega
              clear hsx
              go_wp2_with (go_at_call 34; refine HREV.out.mono ?_; rintro e w8 ⟨rfl, rfl⟩)
              go_quiet (fail)
              go_wp2_with fail
              go_roundw
              case rel => exact ⟨m + 1, by omega, by go_num, below_drewN HBX.out nq⟩
              case measure => simp [Lib.intOf]; omega
            | false =>
              have z2 := HZ2.out m hsx
              clear hsx
              go_wp2_with (go_at_call 34; refine HREV.out.mono ?_; rintro e w8 ⟨rfl, rfl⟩)
              go_quiet (fail)
              go_wp2_with fail
              go_roundw
              case rel => exact ⟨m + 1, by omega, by go_num, below_drewN HBX.out nq⟩
              case measure => simp [Lib.intOf]; omega
          · obtain rfl : m = l.length := by omega
            have HBX := Lib.hid (HBR7.out.trans (hbx.mono HBR7.out.size))
            have HOWN9 := Lib.hid (ownsRow_keeps HOWN7.out (fun g hg => hbx.block g (ownsRow_base HOWN7.out hg).2))
            clear hbx
            go_wp2_with fail
            go_roundw
            case rel => exact ⟨k + 1, by omega, by go_num, by rw [HSUC.out]; simpa using HOWN9.out, HBX.out⟩
            case measure => simp [Lib.intOf]; omega
      · obtain rfl : k = 5 := by omega
        have hgc : ∀ x rx, g x = some rx → (accF f 5).count x = if rx.kind = 3 ∧ x ≠ a then 0 else 1 := fun x rx hx => by
          rw [accF_five, HF.out]
          exact HTREE.out.parts HK.out HRA.out hx
        have hgl := accF_len (f := f) (n := 1000000000) HFL.out 5
        obtain ⟨got, hgot⟩ : ∃ got, accF f 5 = got := ⟨_, rfl⟩
        rw [hgot] at hown hgc hgl ⊢
        have HG := Lib.hid (intsIn_row hown).old
        have HGC := Lib.hid hgc
        have hbx := HB4.out.trans (hbr.mono HB4.out.size)
        have hget := HAX.out.n.reads wr hbx a
        rw [HRA.out] at hget
        have HGET := Lib.hid hget
        have hvr := HV4.out wr hbr
        have HBX := Lib.hid hbx
        have HBR := Lib.hid hbr
        have hgl9 : (got.length : Int) ≤ 5000000000 := by omega
        clear hown hgc hgl hgot hbx hget hbr
        go_wp2_with fail
        refine HGET.out.mono ?_
        rintro e w5 ⟨⟨kv5, av5, rfl, hk5, ha5⟩, hb5⟩
        simp only [Option.getD_some, Option.isSome_some] at *
        obtain ⟨ka5, kc5, rfl, -, -, -⟩ := hk5
        obtain ⟨aa5, ac5, rfl, -, -, -⟩ := ha5
        clear hvr
        go_upto_region 25 with fail
        obtain ⟨W6, hW6⟩ : ∃ W6, w5.alloc (.cells #[.int .i64 ra.kind, .string ra.name, .string ra.text, .int .i64 ra.parent, .slice ka5 ra.kids.length kc5, .slice aa5 ra.attrs.length ac5, .bool ra.gone] 52) = W6 := ⟨_, rfl⟩
        have hr6 : W6.heap[w5.heap.size]? = some (.cells #[.int .i64 ra.kind, .string ra.name, .string ra.text, .int .i64 ra.parent, .slice ka5 ra.kids.length kc5, .slice aa5 ra.attrs.length ac5, .bool ra.gone] 52 (0, 0)) := by rw [← hW6]; exact Go.heap_alloc_new _ _
        have hl6 : w5.heap.size < W6.heap.size := by rw [← hW6]; simp
        have hb56 : Below w5.heap.size w5 W6 := by rw [← hW6]; exact (Below.refl _ _).alloc (Nat.le_refl _) _
        rw [hW6]
        have hbr6 : Below wr.heap.size wr W6 := hb5.trans (hb56.mono hb5.size)
        have HR6 := Lib.hid (show ∀ W, Below W6.heap.size W6 W → W.cell? ⟨w5.heap.size, 0, none⟩ = some (.int .i64 ra.kind) from fun W hb => by
          have h9 := (hb.block _ hl6).trans hr6
          simp [World.cell?, h9])
        have HG6 := Lib.hid (HG.out.later hbr6)
        have HB6 := Lib.hid (HBR.out.trans (hbr6.mono HBR.out.size))
        clear hr6 hl6 hb56 hW6 hb5 hbr6
        go_wp2_with fail
        go_loopw [17] (fun i wr => ∃ m : Nat, m ≤ all.length ∧ i = .int .i64 m ∧ Below W6.heap.size W6 wr) (fun i _ => all.length - (Lib.intOf i).toNat)
        case atStart => exact ⟨0, Nat.zero_le _, rfl, Below.refl _ _⟩
        case round =>
          obtain ⟨m, hm, rfl, hbr⟩ := hrel
          by_cases hml : m < all.length
          · obtain ⟨x, hx⟩ : ∃ x, all[m]? = some x := ⟨_, List.getElem?_eq_getElem hml⟩
            have hxm := (HAM.out x).1 (List.mem_of_getElem? hx)
            obtain ⟨rx, hrx, -⟩ := HTREE.out.node hxm.1 hxm.2
            have hb4r := HB6.out.trans (hbr.mono HB6.out.size)
            have hb3r := HB34.out.trans (hb4r.mono HB34.out.size)
            have hb2r := HB4.out.trans (hb4r.mono HB4.out.size)
            have HQ := Lib.hid (show ∀ W, Below wr.heap.size wr W → W.cell? ⟨p, 0, none⟩ = some (ptr vv) ∧ W.cell? ⟨gb, off + m, none⟩ = some (.int .i64 x) from fun W hb => ⟨HPP.out W (hb2r.trans (hb.mono hb2r.size)), HC3.out W (hb3r.trans (hb.mono hb3r.size)) m x hx⟩)
            have hget := fun (W : World) (hb : Below wr.heap.size wr W) => HAX.out.n.reads W (hb2r.trans (hb.mono hb2r.size)) x
            rw [hrx] at hget
            have HGET := Lib.hid hget
            have hcnt := HGC.out x rx hrx
            have HGR := Lib.hid (HG6.out.later hbr)
            have HBR6 := Lib.hid hbr
            have hm0 : (0 : Int) ≤ m := by omega
            have hmi : (m : Int) < all.length := by omega
            have HCNT := Lib.hid hcnt
            clear hx hxm hrx hb4r hb3r hb2r hget hcnt hbr
            go_upto_region 28 with fail
            go_cut [18] from 107 to 160 (fun s wx => ∃ b, s = .pointer (some ⟨b, 0, none⟩) ∧ wx.cell? ⟨b, 0, none⟩ = some (.int .i64 rx.kind) ∧ b < wx.heap.size ∧ Below wr.heap.size wr wx)
            case first =>
              have hZ : Below wr.heap.size wr (wr.alloc (.cells #[.int .i64 0, .string ⟨#[]⟩, .string ⟨#[]⟩, .int .i64 0, .slice none 0 0, .slice none 0 0, .bool false] 52)) := (Below.refl wr.heap.size wr).alloc (Nat.le_refl _) _
              obtain ⟨y0, y1⟩ := HQ.out wr (Below.refl _ _)
              obtain ⟨y2, y3⟩ := HQ.out _ hZ
              have HZ := Lib.hid hZ
              clear hZ
              go_region_with (first
                | ((go_at_call 29; (with_reducible refine (HGET.out _ (Below.refl wr.heap.size wr).drew).mono ?_); rintro e w9 ⟨⟨kv9, av9, rfl, hk9, ha9⟩, hb9⟩; simp only [Option.getD_some, Option.isSome_some] at *; obtain ⟨ka9, kc9, rfl, -, -, -⟩ := hk9; obtain ⟨aa9, ac9, rfl, -, -, -⟩ := ha9; have HB9 := Lib.hid ((Below.refl wr.heap.size wr).drew.trans hb9); clear hb9))
                | ((go_at_call 29; (with_reducible refine (HGET.out _ HZ.out.drew).mono ?_); rintro e w9 ⟨⟨kv9, av9, rfl, hk9, ha9⟩, hb9⟩; simp only [Option.getD_some, Option.isSome_some] at *; obtain ⟨ka9, kc9, rfl, -, -, -⟩ := hk9; obtain ⟨aa9, ac9, rfl, -, -, -⟩ := ha9; have hz9 := (hb9.block wr.heap.size (by simp)).trans (Go.heap_alloc_new wr _); have HB9 := Lib.hid (HZ.out.drew.trans (hb9.mono HZ.out.size)); obtain ⟨s0, s1, s2, s3, s4, s5, s6⟩ := cells7 hz9; have f0 := free_block hz9 0; have f1 := free_block hz9 1; have f2 := free_block hz9 2; have f3 := free_block hz9 3; have f4 := free_block hz9 4; have f5 := free_block hz9 5; have f6 := free_block hz9 6; have HZ9 := Lib.hid hz9; clear hb9)))
              all_goals
                go_wp2_with fail
                go_meet
                first
                  | exact cutA HB9.out _ _ _ _ _ _ _
                  | exact cutB HB9.out HZ9.out _ _ _ _ _ _ _
            case rest =>
              obtain ⟨b9, rfl, hk9, hl9, hb9⟩ := hcut
              have HK9 := Lib.hid (show ∀ W, Below wc.heap.size wc W → W.cell? ⟨b9, 0, none⟩ = some (.int .i64 rx.kind) from fun W hb => (hb.cell (p := ⟨b9, 0, none⟩) hl9).trans hk9)
              have HB9 := Lib.hid hb9
              have HGW := Lib.hid (HGR.out.later hb9)
              have HQW := Lib.hid (show ∀ W, Below wc.heap.size wc W → W.cell? ⟨gb, off + m, none⟩ = some (.int .i64 x) from fun W hb => (HQ.out W (hb9.trans (hb.mono hb9.size))).2)
              have HR6W := Lib.hid (show ∀ W, Below wc.heap.size wc W → W.cell? ⟨w5.heap.size, 0, none⟩ = some (.int .i64 ra.kind) from fun W hb => HR6.out W (HBR6.out.trans ((hb9.trans (hb.mono hb9.size)).mono HBR6.out.size)))
              clear hk9 hl9 hb9
              go_wp2_with fail
              go_loopw [20, 21] (fun c i wx => ∃ n : Nat, n ≤ got.length ∧ i = .int .i64 n ∧ c = .int .i64 ((got.take n).count x : Nat) ∧ Below wc.heap.size wc wx) (fun _ i _ => got.length - (Lib.intOf i).toNat)
              case atStart => exact ⟨0, Nat.zero_le _, rfl, by simp, Below.refl _ _⟩
              case round =>
                obtain ⟨n, hn, rfl, rfl, hbx⟩ := hrel
                by_cases hnl : n < got.length
                · obtain ⟨y, hy⟩ : ∃ y, got[n]? = some y := ⟨_, List.getElem?_eq_getElem hnl⟩
                  obtain ⟨gg, og, rfl, hgg, hcg⟩ : ∃ g' off, au = some ⟨g', off, none⟩ ∧ Old wc.heap.size g' ∧ ∀ j x, got[j]? = some x → wc.cell? ⟨g', off + j, none⟩ = some (.int .i64 x) := by
                    obtain ⟨a', c', e', -, -, h⟩ := HGW.out
                    cases e'
                    rcases h with h | h
                    · rw [h] at hnl; simp at hnl
                    · exact h
                  have z1 : wr.cell? ⟨gg, og + n, none⟩ = some (.int .i64 y) := (hbx.cell (p := ⟨gg, og + n, none⟩) hgg).trans (hcg n y hy)
                  have z2 := HQW.out wr hbx
                  have hct := count_take hy x
                  have hn0 : (0 : Int) ≤ n := by omega
                  have hni : (n : Int) < got.length := by omega
                  have hcl : (got.take n).count x ≤ n := Nat.le_trans List.count_le_length (by rw [List.length_take]; omega)
                  obtain ⟨cn, hcn⟩ : ∃ cn, (got.take n).count x = cn := ⟨_, rfl⟩
                  rw [hcn] at hct hcl ⊢
                  have HBX9 := Lib.hid hbx
                  have HCT := Lib.hid hct
                  have hcl9 : (cn : Int) ≤ 5000000000 := by omega
                  clear hcg hy hct hcn hbx
                  by_cases hxy : y = x
                  · have hxb : (y == x) = true := beq_iff_eq.2 hxy
                    have HXY := Lib.hid hxy
                    clear hxy
                    go_wp2_with fail
                    go_quiet (fail)
                    go_wp2_with fail
                    go_roundw
                    case rel => exact ⟨n + 1, by omega, by go_num, by rw [HCT.out, if_pos HXY.out]; go_num, below_drewN HBX9.out nq⟩
                    case measure => simp [Lib.intOf]; omega
                  · have hxb : (y == x) = false := beq_eq_false_iff_ne.2 hxy
                    have HXY := Lib.hid hxy
                    clear hxy
                    go_wp2_with fail
                    go_quiet (fail)
                    go_wp2_with fail
                    go_roundw
                    case rel => exact ⟨n + 1, by omega, by go_num, by rw [HCT.out, if_neg HXY.out]; rfl, below_drewN HBX9.out nq⟩
                    case measure => simp [Lib.intOf]; omega
                · obtain rfl : n = got.length := by omega
                  rw [List.take_length, HCNT.out]
                  have z0 := HK9.out wr hbx
                  have z2 := HQW.out wr hbx
                  have z3 := HR6W.out wr hbx
                  have HBX9 := Lib.hid (HBR6.out.trans ((HB9.out.trans (hbx.mono HB9.out.size)).mono HBR6.out.size))
                  clear hbx
                  by_cases hk3 : rx.kind = 3
                  · have hk3b : (rx.kind == 3) = true := beq_iff_eq.2 hk3
                    by_cases hxa : x = a
                    · have hxb : (x != a) = false := by simp [hxa]
                      rw [if_neg (by rintro ⟨-, h⟩; exact h hxa)]
                      clear hk3 hxa
                      go_wp2_with fail
                      go_roundw
                      case rel => exact ⟨m + 1, by omega, by go_num, HBX9.out⟩
                      case measure => simp [Lib.intOf]; omega
                    · have hxb : (x != a) = true := by simp [hxa]
                      rw [if_pos ⟨hk3, hxa⟩]
                      clear hk3 hxa
                      go_wp2_with fail
                      go_roundw
                      case rel => exact ⟨m + 1, by omega, by go_num, HBX9.out⟩
                      case measure => simp [Lib.intOf]; omega
                  · have hk3b : (rx.kind == 3) = false := beq_eq_false_iff_ne.2 hk3
                    rw [if_neg (fun h => hk3 h.1)]
                    clear hk3
                    go_wp2_with fail
                    go_roundw
                    case rel => exact ⟨m + 1, by omega, by go_num, HBX9.out⟩
                    case measure => simp [Lib.intOf]; omega
          · obtain rfl : m = all.length := by omega
            have HBX9 := Lib.hid (HB6.out.trans (hbr.mono HB6.out.size))
            have HBX8 := Lib.hid (HB4.out.trans (HBX9.out.mono HB4.out.size))
            clear hbr
            go_wp2_with (go_at_call 19; refine (aworks_any _).mono ?_; rintro e w9 ⟨rfl, hb9⟩)
            go_ret
            exact ⟨rfl, HB2.out.trans ((HBX8.out.trans (hb9.mono HBX8.out.size)).mono HB2.out.size)⟩
end Go.Proofs.Ytinkjhkbaadbpaa
