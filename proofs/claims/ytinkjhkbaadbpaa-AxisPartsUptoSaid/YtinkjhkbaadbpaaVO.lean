/- Sort (35). -/
import Derived.Test.YtinkjhkbaadbpaaVA
namespace Go.Proofs.Ytinkjhkbaadbpaa
open Go.RowKit Go.Shelf
open Go.ChangeMaps (setBlock)
set_option linter.unusedVariables false
attribute [local go_sem] Oper.semAt_some

/-- what Sort answers -/
def sortF (g : Int → Option Rec) (n : Nat) (xs : List Int) : List Int := (allF g n).filter (fun x => decide (x ∈ xs))
set_option maxRecDepth 100000 in
set_option maxHeartbeats 4000000 in
theorem sort_view {Rb : Nat → Prop} {w : World} {v : Nat} {g : Int → Option Rec} {keys : List Int} (hR : ReadsK Rb w v g) (hRl : ∀ k, Rb k → k < w.heap.size) (hk : KeysOf g keys) (hkl : keys.length ≤ 1000000000) {F : Nat → Prop} {lv : Value} {xs : List Int} (hxs : IntsIn F w lv xs) (hF : ∀ k, F k → k < w.heap.size) :
    Calls Try.prog 35 #[ptr v, lv] w (AxPost w (sortF g (keys.length + 1) xs)) := by
  obtain ⟨i0, hi, hz0, hz1, hz2⟩ := info_parts Try.info3
  obtain ⟨W1, hW1⟩ : ∃ W1, (w.alloc (.map #[] 0)).alloc (.cells #[.map (some w.heap.size)] 144) = W1 := ⟨_, rfl⟩
  have hs1 : W1.heap.size = w.heap.size + 2 := by rw [← hW1]; simp
  have hb1 : Below w.heap.size w W1 := by rw [← hW1]; exact ((Below.refl _ w).alloc (Nat.le_refl _) _).alloc (by simp) _
  have hset1 : SetIs W1 w.heap.size (fun x => x ∈ xs.take 0) := by
    rw [← hW1]
    exact ((setIs_new w).keep (Go.heap_alloc_old _ _ (by simp))).congr (fun x => by simp)
  have hM1 : W1.heap[w.heap.size + 1]? = some (.cells #[.map (some w.heap.size)] 144 (0, 0)) := by
    rw [← hW1]
    have := Go.heap_alloc_new (w.alloc (.map #[] 0)) (.cells #[.map (some w.heap.size)] 144)
    rw [World.size_alloc] at this
    exact this
  have hxl := hxs.len
  obtain ⟨a, cap, rfl, -, -, hx⟩ := hxs
  have HW1 := Lib.hid hW1
  have HX := Lib.hid hx
  have HF := Lib.hid hF
  have HR := Lib.hid hR
  have HRL := Lib.hid hRl
  have HKK := Lib.hid hk
  clear hW1 hx hF hR hRl hk
  refine (callsIn_wide (n := 10)).1 ?_
  refine callsIn_of_wp_marks Try.func35 rfl trivial ?_ rfl
  simp only [Try.ntmps35, List.size_toArray, List.length_cons, List.length_nil, Nat.reduceAdd, Nat.reduceSub, Array.replicate_succ, Array.replicate_zero, List.push_toArray, List.append_toArray, List.nil_append, List.cons_append]
  have hmm := @run_makeMap Try.prog
  gi_wp2_with fail
  rw [HW1.out]
  clear hmm
  gi_loopw [13] (fun i wr => ∃ k : Nat, k ≤ xs.length ∧ i = .int .i64 k ∧ SetIs wr w.heap.size (fun x => x ∈ xs.take k) ∧ wr.heap.size = w.heap.size + 2 ∧ Chg (fun j => j = w.heap.size) W1 wr) (fun i _ => xs.length - (intOf i).toNat)
  case atStart => exact ⟨0, Nat.zero_le _, rfl, hset1, hs1, Chg.refl _ _⟩
  case round =>
    obtain ⟨k, hkk, rfl, hset, hsr, hch⟩ := hrel
    by_cases hlt : k < xs.length
    · obtain ⟨x, hxk⟩ : ∃ x, xs[k]? = some x := ⟨_, List.getElem?_eq_getElem hlt⟩
      obtain ⟨gb, off, rfl, hFg, hc⟩ : ∃ g off, a = some ⟨g, off, none⟩ ∧ F g ∧ ∀ j x, xs[j]? = some x → w.cell? ⟨g, off + j, none⟩ = some (.int .i64 x) := by
        rcases HX.out with h | h
        · rw [h] at hlt; simp at hlt
        · exact h
      have hgl := HF.out gb hFg
      have hck : wr.cell? ⟨gb, off + k, none⟩ = some (.int .i64 x) := by
        rw [World.cell?_of_block (a := ⟨gb, off + k, none⟩) ((hch.block gb (by omega) (fun e => by omega)).trans (hb1.block gb hgl))]
        exact hc k x hxk
      have htk : xs.take (k + 1) = xs.take k ++ [x] := by rw [List.take_add_one, hxk]; rfl
      have hmc : wr.cell? ⟨w.heap.size + 1, 0, none⟩ = some (.map (some w.heap.size)) := by
        have h9 := (hch.block (w.heap.size + 1) (by omega) (fun e => by omega)).trans hM1
        simp [World.cell?, h9]
      obtain ⟨es, ck, hmu, hset3⟩ := hset.store x
      have hs3 : (setBlock wr w.heap.size (.map es ck)).heap.size = wr.heap.size := by simp [setBlock]
      have hch3 : Chg (fun j => j = w.heap.size) W1 (setBlock wr w.heap.size (.map es ck)) := hch.trans (chg_setBlock (M := fun k => k = w.heap.size) rfl _)
      obtain ⟨W3, hW3⟩ : ∃ W3, setBlock wr w.heap.size (.map es ck) = W3 := ⟨_, rfl⟩
      rw [hW3] at hset3 hs3 hch3 hmu
      have hset4 : SetIs W3 w.heap.size (fun y => y ∈ xs.take (k + 1)) := hset3.congr (fun y => by rw [htk]; simp)
      have hs4 : W3.heap.size = w.heap.size + 2 := hs3.trans hsr
      have HS4 := Lib.hid hset4
      have HC3 := Lib.hid hch3
      have HZ4 := Lib.hid hs4
      have hk0 : (0 : Int) ≤ k := by omega
      have hkl : (k : Int) < xs.length := by omega
      clear hc hxk htk hset3 hs3 hch3 hset hch hset4 hs4 hW3 hset1 hsr hM1 hb1 hs1
      gi_wp2
      go_roundw
      case rel => exact ⟨k + 1, by omega, by go_num, HS4.out, HZ4.out, HC3.out⟩
      case measure => simp [intOf]; omega
    · obtain rfl : k = xs.length := by omega
      rw [List.take_length] at hset
      obtain ⟨W2, hW2⟩ : ∃ W2, wr.alloc (.cells #[.slice none 0 0] 33) = W2 := ⟨_, rfl⟩
      have hs2 : W2.heap.size = w.heap.size + 3 := by rw [← hW2]; simp; omega
      have hkr : ∀ k, k < w.heap.size → wr.heap[k]? = w.heap[k]? := fun k hk => (hch.block k (by omega) (fun e => by omega)).trans (hb1.block k hk)
      have hbr : Below w.heap.size w wr := by
        have hc9 : Chg (New w.heap.size) W1 wr := hch.mono (fun k hk => by rw [hk]; exact Nat.le_refl _)
        exact below_of_chg ((chg_new hb1).trans hc9)
      have hL2 : W2.heap[w.heap.size + 2]? = some (.cells #[.slice none 0 0] 33 (0, 0)) := by rw [← hW2, ← hsr]; exact Go.heap_alloc_new _ _
      have hbr2 : Below wr.heap.size wr W2 := by rw [← hW2]; exact (Below.refl _ _).alloc (Nat.le_refl _) _
      obtain ⟨W3, hW3⟩ : ∃ W3, (W2.alloc (.cells #[ptr v] 35)).alloc (.cells #[iv 1] 3) = W3 := ⟨_, rfl⟩
      have hs3 : W3.heap.size = w.heap.size + 5 := by rw [← hW3]; simp [hs2]
      have hb3 : Below W2.heap.size W2 W3 := by rw [← hW3]; exact ((Below.refl _ _).alloc (Nat.le_refl _) _).alloc (by simp) _
      have h2 : W3.heap[w.heap.size + 3]? = some (.cells #[ptr v] 35 (0, 0)) := by
        rw [← hW3]
        refine (Go.heap_alloc_old _ _ (by simp; omega)).trans ?_
        rw [← hs2]; exact Go.heap_alloc_new _ _
      have h3 : W3.heap[w.heap.size + 3 + 1]? = some (.cells #[iv 1] 3 (0, 0)) := by
        rw [← hW3]
        have := Go.heap_alloc_new (W2.alloc (.cells #[ptr v] 35)) (.cells #[iv 1] 3)
        rw [World.size_alloc, hs2] at this
        exact this
      have hb23 : Below wr.heap.size wr W3 := hbr2.trans (hb3.mono hbr2.size)
      have hL3 := (hb3.block (w.heap.size + 2) (by omega)).trans hL2
      have hMM3 := (hb23.block (w.heap.size + 1) (by omega)).trans ((hch.block (w.heap.size + 1) (by omega) (fun e => by omega)).trans hM1)
      have hset3 := hset.keep (hb23.block w.heap.size (by omega))
      have hbB : Below w.heap.size w W3 := hbr.trans (hb23.mono hbr.size)
      have hgv := through_gives (id := 1) 9 (by omega) (HR.out.later (fun k hk => hbB.block k (HRL.out k hk))) HKK.out hkl (b1 := w.heap.size + 3) (b2 := w.heap.size + 3 + 1) (by simp [World.cell?, h2]) (by simp [World.cell?, h3])
      have hlt := through_any v 1 W2
      rw [hs2, hW3] at hlt
      have hinv := goS_inv HKK.out (keys.length + 1) 1 false [] (GoInv.nil keys)
      have hlen : (goF g (keys.length + 1) 1).length ≤ keys.length := hinv.len
      have HT := Lib.hid hlt
      have HW2 := Lib.hid hW2
      clear hW2 hW3 hlt h2 h3 hb1 hb3 hL2 hinv hset hch hbr hbr2 hset1 hM1 hb23 hkr
      gi_wp2_with fail
      rw [HW2.out]
      refine ⟨trivial, (callsIn_wide.2 HT.out).mono ?_⟩
      rintro e w9 ⟨rfl, rfl⟩
      gi_wp2
      obtain ⟨acc, hacc⟩ : ∃ acc, goF g (keys.length + 1) 1 = acc := ⟨_, rfl⟩
      have hall : sortF g (keys.length + 1) xs = (acc.filter (fun p => decide (p.1 ∈ xs))).map (·.1) := by unfold sortF allF; rw [hacc, List.filter_map]; rfl
      rw [hacc] at hgv hlen
      have HALL := Lib.hid hall
      clear hall hacc
      refine wpIn_rangeFunc_gives2 rfl (by omega) (gf := 119) (lb := #[ptr (w.heap.size + 3), ptr (w.heap.size + 3 + 1)]) rfl trivial (enters_of Try.func119 (by kernel_rfl) rfl)
        hgv (Keeps.refl _ _) (fun k hk => by rcases hk with rfl | rfl | h; omega; omega; have := HRL.out k h; omega) (fun _ => rfl)
        (fun pre M W => ∃ v, Boxed W (w.heap.size + 2) 33 v ∧ (Boxed W (w.heap.size + 1) 144 (.map (some w.heap.size)) ∧ SetIs W w.heap.size (fun y => y ∈ xs)) ∧ W.ownsRow (w.heap.size + 5) 3 1 v (pre.filter (fun p => decide (p.1 ∈ xs))).length ((pre.filter (fun p => decide (p.1 ∈ xs))).map (fun x => iv x.1)) ∧ (∀ k, M k ↔ k = w.heap.size + 2 ∨ v.ownBlock = some k) ∧ Below w.heap.size w W)
        (fun _ _ _ _ => False)
        (fun pre M A A' ⟨v, i1, ⟨i0, i5⟩, i2, i3, i4⟩ hc => ⟨v, chg_boxed hc (fun h => h.2 ((i3 _).2 (.inl rfl))) i1, ⟨chg_boxed hc (fun h => by have := h.1; omega) i0, i5.keep (hc.block _ i5.lt (fun h => by have := h.1; omega))⟩, ownsRow_keeps i2 (fun g hg => hc.block g (ownsRow_base i2 hg).2 (fun h => h.2 ((i3 _).2 (.inr hg)))), i3, i4.trans ⟨hc.os, hc.tape, hc.output, hc.size, fun k hk => hc.block k (by have := i4.size; omega) (fun h => by have := h.1; omega)⟩⟩)
        (fun _ _ _ _ _ hs _ => hs)
        (fun pre M A ⟨v, i1, i0, i2, i3, i4⟩ => ⟨v, i1, i0, i2, fun k => ⟨fun h => (i3 k).1 h.1, fun h => ⟨(i3 k).2 h, h.elim (fun e => by rw [e]; exact i1.lt) (fun e => (ownsRow_base i2 e).2)⟩⟩, i4⟩)
        (fun _ _ _ _ h => h)
        (fun k => k = w.heap.size + 2) (fun k hk => ⟨by omega, fun h => by rcases h with h | h | h; omega; omega; have := HRL.out k h; omega⟩)
        ⟨.slice none 0 0, hL3, ⟨hMM3, hset3⟩, World.ownsRow_nil _ _ _ _, fun k => by simp [Value.ownBlock], hbB⟩
        (fun x => { tmps := #[ptr v, .slice a xs.length cap, undef, undef, .slice none 0 0, .pointer (some ⟨w.heap.size + 1, 0, none⟩), undef, u7, .pointer (some ⟨w.heap.size + 2, 0, none⟩), iv x.1, .map (some w.heap.size), .slice a xs.length cap, .int .i64 xs.length, .int .i64 xs.length, .bool false, u15, u16, u17, u18, u19, ptr v, .func (.func 119) #[] #[ptr (w.heap.size + 3), ptr (w.heap.size + 3 + 1)], iv x.1, .bool x.2, undef, undef, undef, undef, undef, undef, undef, undef], defers := [] }) ?assign ?body ?done ?stop
      case assign =>
        intro l x W K hK
        gi_wp2
        exact hK
      case body =>
        rintro l pre x M W hpre hsz ⟨u, i1, ⟨i0, i5⟩, i2, i3, i4⟩
        obtain ⟨x1, x2⟩ := x
        have d0 := i1.cell
        have d1 := i1.frozen
        have d2 := i0.cell
        have hpl : pre.length + 1 ≤ acc.length := by have := hpre.length_le; simpa using this
        have hfl := List.length_filter_le (fun p : Int × Bool => decide (p.1 ∈ xs)) pre
        have hsn : (pre ++ [(x1, x2)]).filter (fun p => decide (p.1 ∈ xs)) = pre.filter (fun p => decide (p.1 ∈ xs)) ++ (if decide (x1 ∈ xs) = true then [(x1, x2)] else []) := by
          rw [List.filter_append, List.filter_cons, List.filter_nil]
        have hlt := i1.lt
        have hlk := i5.look x1 (decide (x1 ∈ xs)) (by simp)
        have HSN := Lib.hid hsn
        have I1 := Lib.hid i1
        have I0 := Lib.hid i0
        have I2 := Lib.hid i2
        have I3 := Lib.hid i3
        have I4 := Lib.hid i4
        have I5 := Lib.hid i5
        clear i1 i0 i2 i3 i4 i5 hgv hsn hset3 hMM3 hL3
        have hmx : Try.prog.follows .mixedOrders = true := by kernel_rfl
        by_cases hin : x1 ∈ xs
        · rw [decide_eq_true hin] at hlk HSN
          have HIN := Lib.hid hin
          clear hin
          gi_wp2_with ((gi_at_builtin; refine wpListIn_append_own_at _ rfl _ _ 33 rfl (w.heap.size + 5) 3 i0 (.int .i64 0) 1 8 Try.underlying33 hi hz0 hz1 hz2 rfl (by decide) _ _ _ rfl (ownsRow_alloc I2.out _) ⟨W.heap.size, 0, none⟩ 1 1 [iv x1] rfl rfl (cell_one_new _ _ _) (by simp [Value.oneCell']) (by unfold maxLen; omega) (by omega) (by simp; omega) ?_; intro v' w2 hown2 hgrow hnil hloc; obtain ⟨a2, n2, cp2, rfl⟩ := slice_form2 hown2; have hkb := (hgrow.block (w.heap.size + 2) (by simp; omega) (fun e => by have := (ownsRow_base I2.out e.symm).1; omega)).trans (Go.heap_alloc_old W _ hlt); have hki := (hgrow.block (w.heap.size + 1) (by simp; omega) (fun e => by have := (ownsRow_base I2.out e.symm).1; omega)).trans (Go.heap_alloc_old W _ (by omega)); have hkm := (hgrow.block w.heap.size (by simp; omega) (fun e => by have := (ownsRow_base I2.out e.symm).1; omega)).trans (Go.heap_alloc_old W _ (by omega)); have q0 := (World.cell?_of_block (a := ⟨w.heap.size + 2, 0, none⟩) hkb).trans d0; have q1 : w2.frozen? ⟨w.heap.size + 2, 0, none⟩ = false := free_block (hkb.trans I1.out) 0))
          have hch : Chg M W w2 := (chg_alloc W _).trans (chg_grown hgrow (fun k e => (I3.out k).2 (.inr e)))
          have hbox : M (w.heap.size + 2) := (I3.out _).2 (.inl rfl)
          generalize hv' : Value.slice a2 n2 cp2 = v' at *
          refine ⟨fun k => k = w.heap.size + 2 ∨ v'.ownBlock = some k, hch.trans (chg_set hbox 0 _), ?_, v', ?_, ⟨?_, ?_⟩, ?_, fun _ => Iff.rfl, ?_⟩
          · rintro k (h | h)
            · exact .inl ((I3.out k).2 (.inl h))
            · rcases hloc with e | e
              · exact .inl ((I3.out k).2 (.inr (e.symm.trans h)))
              · rw [e] at h; cases h; exact .inr (by simp)
          · have := heap_setCell_same w2 (w.heap.size + 2) 0 _ _ v' (hkb.trans I1.out)
            unfold Boxed
            simpa using this
          · exact (heap_setCell_other _ _ _ _ (by simp)).trans (hki.trans I0.out)
          · exact I5.out.keep ((heap_setCell_other _ _ _ _ (by simp)).trans hkm)
          · rw [HSN.out, if_pos (by simp), List.length_append, List.map_append]
            exact ownsRow_keeps hown2 (fun g hg => heap_setCell_other _ _ _ _ (by have := (ownsRow_base hown2 hg).1; simp; omega))
          · refine I4.out.trans ?_
            have hc2 := hch.trans (chg_set (w := w2) hbox 0 v')
            exact ⟨hc2.os, hc2.tape, hc2.output, hc2.size, fun k hk => hc2.block k (by omega) (fun h => by
              rcases (I3.out k).1 h with h | h
              · omega
              · have := (ownsRow_base I2.out h).1; omega)⟩
        · rw [decide_eq_false hin] at hlk HSN
          clear hin
          gi_wp2
          all_goals (try go_bits)
          exact ⟨M, Chg.refl _ _, fun k hk => .inl hk, u, I1.out, ⟨I0.out, I5.out⟩, by rw [HSN.out, if_neg (by simp), List.append_nil]; exact I2.out, I3.out, I4.out⟩
      case done =>
        rintro Dd M W hD2 hMD ⟨u, i1, i0, i2, i3, i4⟩ hK
        have d0 := i1.cell
        have hfinal : ∀ o, IntsIn (Old (W.putObj Dd o).heap.size) (W.putObj Dd o) u ((acc.filter (fun p => decide (p.1 ∈ xs))).map (·.1)) := fun o => by
          have h8 : W.ownsRow (w.heap.size + 5) 3 1 u ((acc.filter (fun p => decide (p.1 ∈ xs))).map (·.1)).length (((acc.filter (fun p => decide (p.1 ∈ xs))).map (·.1)).map iv) := by rw [List.map_map, List.length_map]; exact i2
          have hDv : u.ownBlock ≠ some Dd := fun e => hMD ((i3 _).2 (.inr e))
          have h9 : (W.putObj Dd o).ownsRow (w.heap.size + 5) 3 1 u ((acc.filter (fun p => decide (p.1 ∈ xs))).map (·.1)).length (((acc.filter (fun p => decide (p.1 ∈ xs))).map (·.1)).map iv) := ownsRow_keeps h8 (fun q hq => World.putObj_heap_other (by rintro rfl; exact hDv hq))
          exact (intsIn_row h9).old
        gi_wp2
        refine ⟨by simp, .inl ⟨_, _, rfl, run_takeDeferred hK, ?_⟩⟩
        exact ⟨_, results_tmp rfl _ _ _, ⟨_, rfl, by rw [HALL.out]; exact hfinal _⟩, i4.trans (below_putObj _ (by omega) _)⟩
      case stop =>
        rintro Dd c pre M W _ _ _ h _
        exact h.elim
end Go.Proofs.Ytinkjhkbaadbpaa
