import Derived.Test.YtinkjhkbaadbpaaVA
import Derived.Shelf.Strings.BuilderK
import Derived.Test.YtinkjhkbaadbpaaV2
import Derived.Maps.OwnIn
import Derived.Test.YtinkjhkbaadbpaaV1
import Derived.Test.YtinkjhkbaadbpaaFW
import Derived.Deep.RegionHeld3
import Derived.Deep.DeepCutAuto
import Derived.Deep.CutBlock
import Derived.Deep.CutRange
import Derived.BigQuiet
import Derived.Test.YtinkjhkbaadbpaaOY
/- Sort (35). -/
namespace Go.Proofs.Ytinkjhkbaadbpaa
open Go.RowKit Go.Shelf
open Go.ChangeMaps (setBlock)
set_option linter.unusedVariables false
attribute [local go_sem] Oper.semAt_some

/-- what Sort answers -/
def sortF (g : Int → Option Rec) (n : Nat) (xs : List Int) : List Int := (allF g n).filter (fun x => decide (x ∈ xs))
set_option maxRecDepth 100000 in
set_option maxHeartbeats 4000000 in
theorem sort_view {Rb : Nat → Prop} {w : World} {v : Nat} {g : Int → Option Rec} {keys : List Int} (hR : ReadsK Rb w v g) (hRl : ∀ k, Rb k → k < w.heap.size) (hk : KeysOf g keys) (hkl : keys.length ≤ 1000000000) {F : Nat → Prop} {lv : Value} {xs : List Int} (hxs : IntsIn F w lv xs) (hF : ∀ k, F k → k < w.heap.size) :
    Calls Try.prog 35 #[ptr v, lv] w (AxPost w (sortF g (keys.length + 1) xs)) := by
  obtain ⟨i0, hi, hz0, hz1, hz2⟩ := info_parts Try.info3
  obtain ⟨W1, hW1⟩ : ∃ W1, (w.alloc (.map #[] 0)).alloc (.cells #[.map (some w.heap.size)] 144) = W1 := ⟨_, rfl⟩
  have hs1 : W1.heap.size = w.heap.size + 2 := by rw [← hW1]; simp
  have hb1 : Below w.heap.size w W1 := by rw [← hW1]; exact ((Below.refl _ w).alloc (Nat.le_refl _) _).alloc (by simp) _
  have hset1 : SetIs W1 w.heap.size (fun x => x ∈ xs.take 0) := by
    rw [← hW1]
    exact ((setIs_new w).keep (Go.heap_alloc_old _ _ (by simp))).congr (fun x => by simp)
  have hM1 : W1.heap[w.heap.size + 1]? = some (.cells #[.map (some w.heap.size)] 144 (0, 0)) := by
    rw [← hW1]
    have := Go.heap_alloc_new (w.alloc (.map #[] 0)) (.cells #[.map (some w.heap.size)] 144)
    rw [World.size_alloc] at this
    exact this
  have hxl := hxs.len
  obtain ⟨a, cap, rfl, -, -, hx⟩ := hxs
  have HW1 := Lib.hid hW1
  have HX := Lib.hid hx
  have HF := Lib.hid hF
  have HR := Lib.hid hR
  have HRL := Lib.hid hRl
  have HKK := Lib.hid hk
  clear hW1 hx hF hR hRl hk
  refine (callsIn_wide (n := 10)).1 ?_
  refine callsIn_of_wp_marks Try.func35 rfl trivial ?_ rfl
  simp only [Try.ntmps35, List.size_toArray, List.length_cons, List.length_nil, Nat.reduceAdd, Nat.reduceSub, Array.replicate_succ, Array.replicate_zero, List.push_toArray, List.append_toArray, List.nil_append, List.cons_append]
  have hmm := @run_makeMap Try.prog
  gi_wp2_with fail
  rw [HW1.out]
  clear hmm
  gi_loopw [13] (fun i wr => ∃ k : Nat, k ≤ xs.length ∧ i = .int .i64 k ∧ SetIs wr w.heap.size (fun x => x ∈ xs.take k) ∧ wr.heap.size = w.heap.size + 2 ∧ Chg (fun j => j = w.heap.size) W1 wr) (fun i _ => xs.length - (intOf i).toNat)
  case atStart => exact ⟨0, Nat.zero_le _, rfl, hset1, hs1, Chg.refl _ _⟩
  case round =>
    obtain ⟨k, hkk, rfl, hset, hsr, hch⟩ := hrel
    by_cases hlt : k < xs.length
    · obtain ⟨x, hxk⟩ : ∃ x, xs[k]? = some x := ⟨_, List.getElem?_eq_getElem hlt⟩
      obtain ⟨gb, off, rfl, hFg, hc⟩ : ∃ g off, a = some ⟨g, off, none⟩ ∧ F g ∧ ∀ j x, xs[j]? = some x → w.cell? ⟨g, off + j, none⟩ = some (.int .i64 x) := by
        rcases HX.out with h | h
        · rw [h] at hlt; simp at hlt
        · exact h
      have hgl := HF.out gb hFg
      have hck : wr.cell? ⟨gb, off + k, none⟩ = some (.int .i64 x) := by
        rw [World.cell?_of_block (a := ⟨gb, off + k, none⟩) ((hch.block gb (by omega) (fun e => by omega)).trans (hb1.block gb hgl))]
        exact hc k x hxk
      have htk : xs.take (k + 1) = xs.take k ++ [x] := by rw [List.take_add_one, hxk]; rfl
      have hmc : wr.cell? ⟨w.heap.size + 1, 0, none⟩ = some (.map (some w.heap.size)) := by
        have h9 := (hch.block (w.heap.size + 1) (by omega) (fun e => by omega)).trans hM1
        simp [World.cell?, h9]
      obtain ⟨es, ck, hmu, hset3⟩ := hset.store x
      have hs3 : (setBlock wr w.heap.size (.map es ck)).heap.size = wr.heap.size := by simp [setBlock]
      have hch3 : Chg (fun j => j = w.heap.size) W1 (setBlock wr w.heap.size (.map es ck)) := hch.trans (chg_setBlock (M := fun k => k = w.heap.size) rfl _)
      obtain ⟨W3, hW3⟩ : ∃ W3, setBlock wr w.heap.size (.map es ck) = W3 := ⟨_, rfl⟩
      rw [hW3] at hset3 hs3 hch3 hmu
      have hset4 : SetIs W3 w.heap.size (fun y => y ∈ xs.take (k + 1)) := hset3.congr (fun y => by rw [htk]; simp)
      have hs4 : W3.heap.size = w.heap.size + 2 := hs3.trans hsr
      have HS4 := Lib.hid hset4
      have HC3 := Lib.hid hch3
      have HZ4 := Lib.hid hs4
      have hk0 : (0 : Int) ≤ k := by omega
      have hkl : (k : Int) < xs.length := by omega
      clear hc hxk htk hset3 hs3 hch3 hset hch hset4 hs4 hW3 hset1 hsr hM1 hb1 hs1
      gi_wp2
      go_roundw
      case rel => exact ⟨k + 1, by omega, by go_num, HS4.out, HZ4.out, HC3.out⟩
      case measure => simp [intOf]; omega
    · obtain rfl : k = xs.length := by omega
      rw [List.take_length] at hset
      obtain ⟨W2, hW2⟩ : ∃ W2, wr.alloc (.cells #[.slice none 0 0] 33) = W2 := ⟨_, rfl⟩
      have hs2 : W2.heap.size = w.heap.size + 3 := by rw [← hW2]; simp; omega
      have hkr : ∀ k, k < w.heap.size → wr.heap[k]? = w.heap[k]? := fun k hk => (hch.block k (by omega) (fun e => by omega)).trans (hb1.block k hk)
      have hbr : Below w.heap.size w wr := by
        have hc9 : Chg (New w.heap.size) W1 wr := hch.mono (fun k hk => by rw [hk]; exact Nat.le_refl _)
        exact below_of_chg ((chg_new hb1).trans hc9)
      have hL2 : W2.heap[w.heap.size + 2]? = some (.cells #[.slice none 0 0] 33 (0, 0)) := by rw [← hW2, ← hsr]; exact Go.heap_alloc_new _ _
      have hbr2 : Below wr.heap.size wr W2 := by rw [← hW2]; exact (Below.refl _ _).alloc (Nat.le_refl _) _
      obtain ⟨W3, hW3⟩ : ∃ W3, (W2.alloc (.cells #[ptr v] 35)).alloc (.cells #[iv 1] 3) = W3 := ⟨_, rfl⟩
      have hs3 : W3.heap.size = w.heap.size + 5 := by rw [← hW3]; simp [hs2]
      have hb3 : Below W2.heap.size W2 W3 := by rw [← hW3]; exact ((Below.refl _ _).alloc (Nat.le_refl _) _).alloc (by simp) _
      have h2 : W3.heap[w.heap.size + 3]? = some (.cells #[ptr v] 35 (0, 0)) := by
        rw [← hW3]
        refine (Go.heap_alloc_old _ _ (by simp; omega)).trans ?_
        rw [← hs2]; exact Go.heap_alloc_new _ _
      have h3 : W3.heap[w.heap.size + 3 + 1]? = some (.cells #[iv 1] 3 (0, 0)) := by
        rw [← hW3]
        have := Go.heap_alloc_new (W2.alloc (.cells #[ptr v] 35)) (.cells #[iv 1] 3)
        rw [World.size_alloc, hs2] at this
        exact this
      have hb23 : Below wr.heap.size wr W3 := hbr2.trans (hb3.mono hbr2.size)
      have hL3 := (hb3.block (w.heap.size + 2) (by omega)).trans hL2
      have hMM3 := (hb23.block (w.heap.size + 1) (by omega)).trans ((hch.block (w.heap.size + 1) (by omega) (fun e => by omega)).trans hM1)
      have hset3 := hset.keep (hb23.block w.heap.size (by omega))
      have hbB : Below w.heap.size w W3 := hbr.trans (hb23.mono hbr.size)
      have hgv := through_gives (id := 1) 9 (by omega) (HR.out.later (fun k hk => hbB.block k (HRL.out k hk))) HKK.out hkl (b1 := w.heap.size + 3) (b2 := w.heap.size + 3 + 1) (by simp [World.cell?, h2]) (by simp [World.cell?, h3])
      have hlt := through_any v 1 W2
      rw [hs2, hW3] at hlt
      have hinv := goS_inv HKK.out (keys.length + 1) 1 false [] (GoInv.nil keys)
      have hlen : (goF g (keys.length + 1) 1).length ≤ keys.length := hinv.len
      have HT := Lib.hid hlt
      have HW2 := Lib.hid hW2
      clear hW2 hW3 hlt h2 h3 hb1 hb3 hL2 hinv hset hch hbr hbr2 hset1 hM1 hb23 hkr
      gi_wp2_with fail
      rw [HW2.out]
      refine ⟨trivial, (callsIn_wide.2 HT.out).mono ?_⟩
      rintro e w9 ⟨rfl, rfl⟩
      gi_wp2
      obtain ⟨acc, hacc⟩ : ∃ acc, goF g (keys.length + 1) 1 = acc := ⟨_, rfl⟩
      have hall : sortF g (keys.length + 1) xs = (acc.filter (fun p => decide (p.1 ∈ xs))).map (·.1) := by unfold sortF allF; rw [hacc, List.filter_map]; rfl
      rw [hacc] at hgv hlen
      have HALL := Lib.hid hall
      clear hall hacc
      refine wpIn_rangeFunc_gives2 rfl (by omega) (gf := 119) (lb := #[ptr (w.heap.size + 3), ptr (w.heap.size + 3 + 1)]) rfl trivial (enters_of Try.func119 (by kernel_rfl) rfl)
        hgv (Keeps.refl _ _) (fun k hk => by rcases hk with rfl | rfl | h; omega; omega; have := HRL.out k h; omega) (fun _ => rfl)
        (fun pre M W => ∃ v, Boxed W (w.heap.size + 2) 33 v ∧ (Boxed W (w.heap.size + 1) 144 (.map (some w.heap.size)) ∧ SetIs W w.heap.size (fun y => y ∈ xs)) ∧ W.ownsRow (w.heap.size + 5) 3 1 v (pre.filter (fun p => decide (p.1 ∈ xs))).length ((pre.filter (fun p => decide (p.1 ∈ xs))).map (fun x => iv x.1)) ∧ (∀ k, M k ↔ k = w.heap.size + 2 ∨ v.ownBlock = some k) ∧ Below w.heap.size w W)
        (fun _ _ _ _ => False)
        (fun pre M A A' ⟨v, i1, ⟨i0, i5⟩, i2, i3, i4⟩ hc => ⟨v, chg_boxed hc (fun h => h.2 ((i3 _).2 (.inl rfl))) i1, ⟨chg_boxed hc (fun h => by have := h.1; omega) i0, i5.keep (hc.block _ i5.lt (fun h => by have := h.1; omega))⟩, ownsRow_keeps i2 (fun g hg => hc.block g (ownsRow_base i2 hg).2 (fun h => h.2 ((i3 _).2 (.inr hg)))), i3, i4.trans ⟨hc.os, hc.tape, hc.output, hc.size, fun k hk => hc.block k (by have := i4.size; omega) (fun h => by have := h.1; omega)⟩⟩)
        (fun _ _ _ _ _ hs _ => hs)
        (fun pre M A ⟨v, i1, i0, i2, i3, i4⟩ => ⟨v, i1, i0, i2, fun k => ⟨fun h => (i3 k).1 h.1, fun h => ⟨(i3 k).2 h, h.elim (fun e => by rw [e]; exact i1.lt) (fun e => (ownsRow_base i2 e).2)⟩⟩, i4⟩)
        (fun _ _ _ _ h => h)
        (fun k => k = w.heap.size + 2) (fun k hk => ⟨by omega, fun h => by rcases h with h | h | h; omega; omega; have := HRL.out k h; omega⟩)
        ⟨.slice none 0 0, hL3, ⟨hMM3, hset3⟩, World.ownsRow_nil _ _ _ _, fun k => by simp [Value.ownBlock], hbB⟩
        (fun x => { tmps := #[ptr v, .slice a xs.length cap, undef, undef, .slice none 0 0, .pointer (some ⟨w.heap.size + 1, 0, none⟩), undef, u7, .pointer (some ⟨w.heap.size + 2, 0, none⟩), iv x.1, .map (some w.heap.size), .slice a xs.length cap, .int .i64 xs.length, .int .i64 xs.length, .bool false, u15, u16, u17, u18, u19, ptr v, .func (.func 119) #[] #[ptr (w.heap.size + 3), ptr (w.heap.size + 3 + 1)], iv x.1, .bool x.2, undef, undef, undef, undef, undef, undef, undef, undef], defers := [] }) ?assign ?body ?done ?stop
      case assign =>
        intro l x W K hK
        gi_wp2
        exact hK
      case body =>
        rintro l pre x M W hpre hsz ⟨u, i1, ⟨i0, i5⟩, i2, i3, i4⟩
        obtain ⟨x1, x2⟩ := x
        have d0 := i1.cell
        have d1 := i1.frozen
        have d2 := i0.cell
        have hpl : pre.length + 1 ≤ acc.length := by have := hpre.length_le; simpa using this
        have hfl := List.length_filter_le (fun p : Int × Bool => decide (p.1 ∈ xs)) pre
        have hsn : (pre ++ [(x1, x2)]).filter (fun p => decide (p.1 ∈ xs)) = pre.filter (fun p => decide (p.1 ∈ xs)) ++ (if decide (x1 ∈ xs) = true then [(x1, x2)] else []) := by
          rw [List.filter_append, List.filter_cons, List.filter_nil]
        have hlt := i1.lt
        have hlk := i5.look x1 (decide (x1 ∈ xs)) (by simp)
        have HSN := Lib.hid hsn
        have I1 := Lib.hid i1
        have I0 := Lib.hid i0
        have I2 := Lib.hid i2
        have I3 := Lib.hid i3
        have I4 := Lib.hid i4
        have I5 := Lib.hid i5
        clear i1 i0 i2 i3 i4 i5 hgv hsn hset3 hMM3 hL3
        have hmx : Try.prog.follows .mixedOrders = true := by kernel_rfl
        by_cases hin : x1 ∈ xs
        · rw [decide_eq_true hin] at hlk HSN
          have HIN := Lib.hid hin
          clear hin
          gi_wp2_with ((gi_at_builtin; refine wpListIn_append_own_at _ rfl _ _ 33 rfl (w.heap.size + 5) 3 i0 (.int .i64 0) 1 8 Try.underlying33 hi hz0 hz1 hz2 rfl (by decide) _ _ _ rfl (ownsRow_alloc I2.out _) ⟨W.heap.size, 0, none⟩ 1 1 [iv x1] rfl rfl (cell_one_new _ _ _) (by simp [Value.oneCell']) (by unfold maxLen; omega) (by omega) (by simp; omega) ?_; intro v' w2 hown2 hgrow hnil hloc; obtain ⟨a2, n2, cp2, rfl⟩ := slice_form2 hown2; have hkb := (hgrow.block (w.heap.size + 2) (by simp; omega) (fun e => by have := (ownsRow_base I2.out e.symm).1; omega)).trans (Go.heap_alloc_old W _ hlt); have hki := (hgrow.block (w.heap.size + 1) (by simp; omega) (fun e => by have := (ownsRow_base I2.out e.symm).1; omega)).trans (Go.heap_alloc_old W _ (by omega)); have hkm := (hgrow.block w.heap.size (by simp; omega) (fun e => by have := (ownsRow_base I2.out e.symm).1; omega)).trans (Go.heap_alloc_old W _ (by omega)); have q0 := (World.cell?_of_block (a := ⟨w.heap.size + 2, 0, none⟩) hkb).trans d0; have q1 : w2.frozen? ⟨w.heap.size + 2, 0, none⟩ = false := free_block (hkb.trans I1.out) 0))
          have hch : Chg M W w2 := (chg_alloc W _).trans (chg_grown hgrow (fun k e => (I3.out k).2 (.inr e)))
          have hbox : M (w.heap.size + 2) := (I3.out _).2 (.inl rfl)
          generalize hv' : Value.slice a2 n2 cp2 = v' at *
          refine ⟨fun k => k = w.heap.size + 2 ∨ v'.ownBlock = some k, hch.trans (chg_set hbox 0 _), ?_, v', ?_, ⟨?_, ?_⟩, ?_, fun _ => Iff.rfl, ?_⟩
          · rintro k (h | h)
            · exact .inl ((I3.out k).2 (.inl h))
            · rcases hloc with e | e
              · exact .inl ((I3.out k).2 (.inr (e.symm.trans h)))
              · rw [e] at h; cases h; exact .inr (by simp)
          · have := heap_setCell_same w2 (w.heap.size + 2) 0 _ _ v' (hkb.trans I1.out)
            unfold Boxed
            simpa using this
          · exact (heap_setCell_other _ _ _ _ (by simp)).trans (hki.trans I0.out)
          · exact I5.out.keep ((heap_setCell_other _ _ _ _ (by simp)).trans hkm)
          · rw [HSN.out, if_pos (by simp), List.length_append, List.map_append]
            exact ownsRow_keeps hown2 (fun g hg => heap_setCell_other _ _ _ _ (by have := (ownsRow_base hown2 hg).1; simp; omega))
          · refine I4.out.trans ?_
            have hc2 := hch.trans (chg_set (w := w2) hbox 0 v')
            exact ⟨hc2.os, hc2.tape, hc2.output, hc2.size, fun k hk => hc2.block k (by omega) (fun h => by
              rcases (I3.out k).1 h with h | h
              · omega
              · have := (ownsRow_base I2.out h).1; omega)⟩
        · rw [decide_eq_false hin] at hlk HSN
          clear hin
          gi_wp2
          all_goals (try go_bits)
          exact ⟨M, Chg.refl _ _, fun k hk => .inl hk, u, I1.out, ⟨I0.out, I5.out⟩, by rw [HSN.out, if_neg (by simp), List.append_nil]; exact I2.out, I3.out, I4.out⟩
      case done =>
        rintro Dd M W hD2 hMD ⟨u, i1, i0, i2, i3, i4⟩ hK
        have d0 := i1.cell
        have hfinal : ∀ o, IntsIn (Old (W.putObj Dd o).heap.size) (W.putObj Dd o) u ((acc.filter (fun p => decide (p.1 ∈ xs))).map (·.1)) := fun o => by
          have h8 : W.ownsRow (w.heap.size + 5) 3 1 u ((acc.filter (fun p => decide (p.1 ∈ xs))).map (·.1)).length (((acc.filter (fun p => decide (p.1 ∈ xs))).map (·.1)).map iv) := by rw [List.map_map, List.length_map]; exact i2
          have hDv : u.ownBlock ≠ some Dd := fun e => hMD ((i3 _).2 (.inr e))
          have h9 : (W.putObj Dd o).ownsRow (w.heap.size + 5) 3 1 u ((acc.filter (fun p => decide (p.1 ∈ xs))).map (·.1)).length (((acc.filter (fun p => decide (p.1 ∈ xs))).map (·.1)).map iv) := ownsRow_keeps h8 (fun q hq => World.putObj_heap_other (by rintro rfl; exact hDv hq))
          exact (intsIn_row h9).old
        gi_wp2
        refine ⟨by simp, .inl ⟨_, _, rfl, run_takeDeferred hK, ?_⟩⟩
        exact ⟨_, results_tmp rfl _ _ _, ⟨_, rfl, by rw [HALL.out]; exact hfinal _⟩, i4.trans (below_putObj _ (by omega) _)⟩
      case stop =>
        rintro Dd c pre M W _ _ _ h _
        exact h.elim
end Go.Proofs.Ytinkjhkbaadbpaa
/- strings.Builder: copyCheck (132), WriteString (104), String (105). -/
namespace Go.Proofs.Ytinkjhkbaadbpaa
open Go.Shelf Go.RowKit
set_option linter.unusedVariables false

def Try.lays169_ren : Go.Shelf.Ren := ⟨fun | 169 => 105 | n => n, fun | 70 => 165 | 9 => 9 | 0 => 0 | 72 => 168 | 37 => 166 | 127 => 185 | 3 => 3 | 5 => 5 | n => n, fun | n => n⟩
theorem Try.lays169 : Go.Proofs.Lays.n169 Try.prog Try.lays169_ren := {
  mixed := by kernel_rfl
  f169 := Try.func105.trans (congrArg some (by kernel_rfl))
  t0 := Try.underlying0
  a0 := Try.isAgg0
  z0 := Try.sizeOf0
  v0 := Try.zeroValue0
  t3 := Try.underlying3
  a3 := Try.isAgg3
  z3 := Try.sizeOf3
  v3 := Try.zeroValue3
  t9 := Try.underlying9
  a9 := Try.isAgg9
  z9 := Try.sizeOf9
  v9 := Try.zeroValue9
  t37 := Try.underlying166
  a37 := Try.isAgg166
  z37 := Try.sizeOf166
  v37 := Try.zeroValue166
  t70 := Try.underlying165
  a70 := Try.isAgg165
  z70 := Try.sizeOf165
  v70 := Try.zeroValue165
  t72 := Try.underlying168
  a72 := Try.isAgg168
  z72 := Try.sizeOf168
  v72 := Try.zeroValue168
  t127 := Try.underlying185
  a127 := Try.isAgg185
  z127 := Try.sizeOf185
  v127 := Try.zeroValue185 }

theorem Try.bx72 : Go.Proofs.Builder.X72 Try.prog Try.lays169_ren := { sizeBuilder := by kernel_rfl, liesBuilder := by kernel_rfl }
theorem Try.bextra : Go.Proofs.Builder.Extra Try.prog Try.lays169_ren := { Try.bx72 with
  t5 := Try.underlying5
  a5 := Try.isAgg5
  z5 := Try.sizeOf5
  v5 := Try.zeroValue5
  infoByte := by kernel_rfl
  cellsByte := by kernel_rfl
  sizeByte := by kernel_rfl
  neB5 := by decide }
set_option maxHeartbeats 2000000 in
set_option maxRecDepth 100000 in
theorem check_fresh (b : Nat) (w : World) (h0 : w.cell? ⟨b, 0, none⟩ = some (.pointer none)) (hsh : w.shape? b = some (168, 2)) (hfz : w.frozen? ⟨b, 0, none⟩ = false) :
    Calls Try.prog 132 #[.pointer (some ⟨b, 0, none⟩)] w fun e w' => e = .returned (.tuple #[]) ∧ w' = w.setCell ⟨b, 0, none⟩ (.pointer (some ⟨b, 0, none⟩)) := by
  obtain ⟨j, hj, hjs⟩ := Option.map_eq_some_iff.1 Try.bx72.sizeBuilder
  go_enter Try.func132, Try.ntmps132
  go_wp2
  rw [Lib.run_to_unsafe w ⟨b, 0, none⟩ Try.underlying165 Try.underlying204 hj (by rw [hjs]; decide) hsh (Nat.zero_lt_succ 1)]
  simp only [Result.andThen]
  rw [Oper.upon_value]
  go_wp2
  rw [run_callFunc_extern Try.func159 (by kernel_rfl) (by kernel_rfl) (by kernel_rfl) (e := Extern.AbiNoEscape.same) (by kernel_rfl)]
  rw [Lib.run_noEscape]
  simp only [Result.andThen]
  rw [Oper.upon_value]
  go_wp2
  rw [Lib.run_from_unsafe w ⟨b, 0, none⟩ Try.underlying204 Try.underlying165 hj hsh Try.bx72.liesBuilder]
  simp only [Result.andThen]
  rw [Oper.upon_value]
  go_wp2
  go_end0
  exact ⟨rfl, rfl⟩
set_option maxHeartbeats 2000000 in
set_option maxRecDepth 100000 in
theorem check_used (b : Nat) (w : World) (h0 : w.cell? ⟨b, 0, none⟩ = some (.pointer (some ⟨b, 0, none⟩))) :
    Calls Try.prog 132 #[.pointer (some ⟨b, 0, none⟩)] w fun e w' => e = .returned (.tuple #[]) ∧ w' = w := by
  obtain ⟨j, hj, _⟩ := Option.map_eq_some_iff.1 Try.bx72.sizeBuilder
  go_enter Try.func132, Try.ntmps132
  go_wp2
  rw [Lib.run_neq_ptr_same w _ Try.underlying165 hj]
  go_wp2
  go_end0
  exact ⟨rfl, rfl⟩
theorem copyCheck_any (B b : Nat) (bs : List Value) (w : World) (h : Lib.IsBuilderF 168 5 B b bs w) :
    Calls Try.prog 132 #[.pointer (some ⟨b, 0, none⟩)] w fun e w' => e = .returned (.tuple #[]) ∧ (Lib.BuilderAtF 168 5 B b (.pointer (some ⟨b, 0, none⟩)) bs w' ∧ Below B w w' ∧ Lib.OthersKept 5 (some b) w w') := by
  rcases h with h | h
  · refine (check_fresh b w h.cell0 h.shape h.frozen0).mono ?_
    rintro e w' ⟨rfl, rfl⟩
    exact ⟨rfl, h.used _, (Below.refl B w).setCell (p := ⟨b, 0, none⟩) h.1 _, (Lib.OthersKept.refl _ _ w).setCell ⟨b, 0, none⟩ rfl _⟩
  · refine (check_used b w h.cell0).mono ?_
    rintro e w' ⟨rfl, rfl⟩
    exact ⟨rfl, h, Below.refl B _, Lib.OthersKept.refl _ _ _⟩
set_option maxHeartbeats 2000000 in
set_option maxRecDepth 100000 in
theorem writeString_any (B b : Nat) (bs : List Value) (s : ByteArray) (w : World) (h : Lib.IsBuilderF 168 5 B b bs w) (hlen : bs.length + s.size ≤ 140737488355328) (hBw : B ≤ w.heap.size) :
    Calls Try.prog 104 #[.pointer (some ⟨b, 0, none⟩), .string s] w fun e w' => e = .returned (.tuple #[.int .i64 s.size, .nilIface]) ∧ (Lib.BuilderAtF 168 5 B b (.pointer (some ⟨b, 0, none⟩)) (bs ++ Lib.strCells s) w' ∧ Below B w w' ∧ Lib.OthersKept 5 (some b) w w') := by
  obtain ⟨i0, hi, hz0, hz1, hz2⟩ := info_parts Try.bextra.infoByte
  go_enter Try.func104, Try.ntmps104
  go_wp2_with (go_at_call 132; refine (copyCheck_any B b bs _ h).mono ?_)
  rintro e w1 ⟨rfl, h1, hb1, hk1⟩
  obtain ⟨hB, v, hbk, hown, hne⟩ := h1
  have c0 : w1.cell? ⟨b, 0, none⟩ = some (.pointer (some ⟨b, 0, none⟩)) := by rw [Lib.cell_of_heap hbk]; rfl
  have c1 : w1.cell? ⟨b, 1, none⟩ = some v := by rw [Lib.cell_of_heap hbk]; rfl
  go_wp2_with (at_builtin; refine Lib.wpList_append_own_stringF _ rfl _ _ 166 9 rfl B 5 i0 Try.underlying166 Try.underlying9 hi hz0 hz1 hz2 _ _ _ rfl hown s rfl ?c3 ?c4 ?c5 ?_)
  case c3 => unfold maxLen; omega
  case c4 => omega
  case c5 => have := hb1.size; omega
  intro v' w2 hown' hgrow _
  have hlt : b < w1.heap.size := by
    rcases Nat.lt_or_ge b w1.heap.size with h' | h'
    · exact h'
    · simp [Array.getElem?_eq_none h'] at hbk
  have hb2 : w2.heap[b]? = some (.cells #[.pointer (some ⟨b, 0, none⟩), v] 168 (0, 0)) := by
    rw [hgrow.block b hlt (fun e => hne e.symm)]
    exact hbk
  have d0 : w2.cell? ⟨b, 0, none⟩ = some (.pointer (some ⟨b, 0, none⟩)) := by rw [Lib.cell_of_heap hb2]; rfl
  have d1 : w2.cell? ⟨b, 1, none⟩ = some v := by rw [Lib.cell_of_heap hb2]; rfl
  have f1 : w2.frozen? ⟨b, 1, none⟩ = false := Lib.frozen_of_heap hb2 1
  obtain ⟨ao, n', cap, rfl⟩ : ∃ ao n' cap, v' = .slice ao n' cap := by
    rcases hown'.2 with ⟨hv, _⟩ | ⟨g, cap, cur, fz, hv, _⟩
    · exact ⟨_, _, _, hv⟩
    · exact ⟨_, _, _, hv⟩
  go_wp2
  go_ret2
  refine ⟨rfl, ?_, ?_, (hk1.grown hgrow (Lib.ownsRowF_kind hown)).setCell ⟨b, 1, none⟩ rfl _⟩
  · exact Lib.BuilderAtF.put (T := 168) (e := 5) hB hb2 (bs' := bs ++ Lib.strCells s) (by simpa [Lib.strCells_length] using hown') (by decide)
  · exact (hb1.grown hgrow (by have := hb1.size; omega) (fun k hk => (hown.lt k hk).1)).setCell (p := ⟨b, 1, none⟩) hB _
theorem bstring_any (B b : Nat) (l : List UInt8) (w : World) (h : Lib.IsBuilderF 168 5 B b (Lib.byteCells l) w) (hBw : B ≤ w.heap.size) :
    Calls Try.prog 105 #[.pointer (some ⟨b, 0, none⟩)] w fun e w' => e = .returned (.string ⟨l.toArray⟩) ∧ Below B w w' :=
  (Any.Builder_String_any_k Try.lays169 Try.bextra B b l w h hBw).mono (fun e w' h => ⟨h.1, h.2.2.1⟩)
/-- a builder stays one while what is new comes behind it -/
theorem builder_keep {B b : Nat} {bs : List Value} {w w' : World} (h : Lib.IsBuilderF 168 5 B b bs w) (hb : Below w.heap.size w w') : Lib.IsBuilderF 168 5 B b bs w' := by
  have key : ∀ p, Lib.BuilderAtF 168 5 B b p bs w → Lib.BuilderAtF 168 5 B b p bs w' := fun p hp => by
    obtain ⟨hB, v, h1, h2, h3⟩ := hp
    have hlt := (Array.getElem?_eq_some_iff.1 h1).1
    refine ⟨hB, v, (hb.block b hlt).trans h1, ⟨h2.1, ?_⟩, h3⟩
    rcases h2.2 with h9 | ⟨g, cap, cur, fz, e, hbb, hgg, rest⟩
    · exact .inl h9
    · exact .inr ⟨g, cap, cur, fz, e, hbb, (hb.block g (Array.getElem?_eq_some_iff.1 hgg).1).trans hgg, rest⟩
  exact h.elim (fun x => .inl (key _ x)) (fun x => .inr (key _ x))
end Go.Proofs.Ytinkjhkbaadbpaa
/- Value (68): a node's text. -/
namespace Go.Proofs.Ytinkjhkbaadbpaa
open Go.RowKit Go.Shelf
set_option linter.unusedVariables false
set_option linter.unusedSimpArgs false

theorem row_low {w : World} {B B' e size n : Nat} {v : Value} {xs : List Value} (hB : B' ≤ B) (h : w.ownsRow B e size v n xs) : w.ownsRow B' e size v n xs := by
  refine ⟨h.1, ?_⟩
  rcases h.2 with h9 | ⟨g, cap, cur, e1, hb, rest⟩
  · exact .inl h9
  · exact .inr ⟨g, cap, cur, e1, by omega, rest⟩
section
attribute [local go_sem] Oper.semAt_some
set_option maxRecDepth 100000 in
set_option maxHeartbeats 4000000 in
theorem below_row {Rb : Nat → Prop} {w : World} {v : Nat} {g : Int → Option Rec} {keys : List Int} (hR : ReadsK Rb w v g) (hRl : ∀ k, Rb k → k < w.heap.size) (hk : KeysOf g keys) (hkl : keys.length ≤ 1000000000) (id : Int) :
    Calls Try.prog 70 #[ptr v, iv id] w (fun e w' => (∃ u, e = .returned u ∧ w'.ownsRow w.heap.size 3 1 u (belowF g (keys.length + 1) id).length ((belowF g (keys.length + 1) id).map iv)) ∧ Below w.heap.size w w') := by
  obtain ⟨i0, hi, hz0, hz1, hz2⟩ := info_parts Try.info3
  obtain ⟨W1, hW1⟩ : ∃ W1, (w.alloc (.cells #[iv id] 3)).alloc (.cells #[.slice none 0 0] 33) = W1 := ⟨_, rfl⟩
  have hs1 : W1.heap.size = w.heap.size + 2 := by rw [← hW1]; simp
  have hb1 : Below w.heap.size w W1 := by rw [← hW1]; exact ((Below.refl _ w).alloc (Nat.le_refl _) _).alloc (by simp) _
  have hL1 : W1.heap[w.heap.size + 1]? = some (.cells #[.slice none 0 0] 33 (0, 0)) := by
    rw [← hW1]
    have := Go.heap_alloc_new (w.alloc (.cells #[iv id] 3)) (.cells #[.slice none 0 0] 33)
    rw [World.size_alloc] at this
    exact this
  have hI1 : W1.heap[w.heap.size]? = some (.cells #[iv id] 3 (0, 0)) := by rw [← hW1]; exact (Go.heap_alloc_old _ _ (by simp)).trans (Go.heap_alloc_new _ _)
  obtain ⟨W3, hW3⟩ : ∃ W3, (W1.alloc (.cells #[ptr v] 35)).alloc (.cells #[iv id] 3) = W3 := ⟨_, rfl⟩
  have hs3 : W3.heap.size = w.heap.size + 4 := by rw [← hW3]; simp [hs1]
  have hb3 : Below W1.heap.size W1 W3 := by rw [← hW3]; exact ((Below.refl _ _).alloc (Nat.le_refl _) _).alloc (by simp) _
  have h2 : W3.heap[w.heap.size + 2]? = some (.cells #[ptr v] 35 (0, 0)) := by
    rw [← hW3]
    refine (Go.heap_alloc_old _ _ (by simp; omega)).trans ?_
    rw [← hs1]; exact Go.heap_alloc_new _ _
  have h3 : W3.heap[w.heap.size + 2 + 1]? = some (.cells #[iv id] 3 (0, 0)) := by
    rw [← hW3]
    have := Go.heap_alloc_new (W1.alloc (.cells #[ptr v] 35)) (.cells #[iv id] 3)
    rw [World.size_alloc, hs1] at this
    exact this
  have hL3 := (hb3.block (w.heap.size + 1) (by omega)).trans hL1
  have hI3 := (hb3.block w.heap.size (by omega)).trans hI1
  have hbB : Below w.heap.size w W3 := hb1.trans (hb3.mono hb1.size)
  have hgv := through_gives (id := id) 9 (by omega) (hR.later (fun k hk => hbB.block k (hRl k hk))) hk hkl (b1 := w.heap.size + 2) (b2 := w.heap.size + 2 + 1) (by simp [World.cell?, h2]) (by simp [World.cell?, h3])
  have hlt := through_any v id W1
  rw [hs1, hW3] at hlt
  have hinv := goS_inv hk (keys.length + 1) id false [] (GoInv.nil keys)
  have hlen : (goF g (keys.length + 1) id).length ≤ keys.length := hinv.len
  have d10 : W1.cell? ⟨w.heap.size, 0, none⟩ = some (iv id) := by simp [World.cell?, hI1]
  have HT := Lib.hid hlt
  have HW1 := Lib.hid hW1
  clear hW1 hW3 hlt h2 h3 hb1 hb3 hL1 hinv hI1
  refine (callsIn_wide (n := 10)).1 ?_
  refine callsIn_of_wp_marks Try.func70 rfl trivial ?_ rfl
  simp only [Try.ntmps70, List.size_toArray, List.length_cons, List.length_nil, Nat.reduceAdd, Nat.reduceSub, Array.replicate_succ, Array.replicate_zero, List.push_toArray, List.append_toArray, List.nil_append, List.cons_append]
  gi_upto_region 2 with fail
  rw [HW1.out]
  gi_wp2_with fail
  refine ⟨trivial, (callsIn_wide.2 HT.out).mono ?_⟩
  rintro e w9 ⟨rfl, rfl⟩
  gi_wp2
  obtain ⟨acc, hacc⟩ : ∃ acc, goF g (keys.length + 1) id = acc := ⟨_, rfl⟩
  have hall : belowF g (keys.length + 1) id = (acc.filter (fun p => decide (p.1 ≠ id) && !p.2)).map (·.1) := by unfold belowF; rw [hacc]
  rw [hacc] at hgv hlen
  have HALL := Lib.hid hall
  clear hall hacc
  refine wpIn_rangeFunc_gives2 rfl (by omega) (gf := 119) (lb := #[ptr (w.heap.size + 2), ptr (w.heap.size + 2 + 1)]) rfl trivial (enters_of Try.func119 (by kernel_rfl) rfl)
    hgv (Keeps.refl _ _) (fun k hk => by rcases hk with rfl | rfl | h; omega; omega; have := hRl k h; omega) (fun _ => rfl)
    (fun pre M W => ∃ v, Boxed W (w.heap.size + 1) 33 v ∧ Boxed W w.heap.size 3 (iv id) ∧ W.ownsRow (w.heap.size + 4) 3 1 v (pre.filter (fun p => decide (p.1 ≠ id) && !p.2)).length ((pre.filter (fun p => decide (p.1 ≠ id) && !p.2)).map (fun x => iv x.1)) ∧ (∀ k, M k ↔ k = w.heap.size + 1 ∨ v.ownBlock = some k) ∧ Below w.heap.size w W)
    (fun _ _ _ _ => False)
    (fun pre M A A' ⟨v, i1, i0, i2, i3, i4⟩ hc => ⟨v, chg_boxed hc (fun h => h.2 ((i3 _).2 (.inl rfl))) i1, chg_boxed hc (fun h => by have := h.1; omega) i0, ownsRow_keeps i2 (fun g hg => hc.block g (ownsRow_base i2 hg).2 (fun h => h.2 ((i3 _).2 (.inr hg)))), i3, i4.trans ⟨hc.os, hc.tape, hc.output, hc.size, fun k hk => hc.block k (by have := i4.size; omega) (fun h => by have := h.1; omega)⟩⟩)
    (fun _ _ _ _ _ hs _ => hs)
    (fun pre M A ⟨v, i1, i0, i2, i3, i4⟩ => ⟨v, i1, i0, i2, fun k => ⟨fun h => (i3 k).1 h.1, fun h => ⟨(i3 k).2 h, h.elim (fun e => by rw [e]; exact i1.lt) (fun e => (ownsRow_base i2 e).2)⟩⟩, i4⟩)
    (fun _ _ _ _ h => h)
    (fun k => k = w.heap.size + 1) (fun k hk => ⟨by omega, fun h => by rcases h with h | h | h; omega; omega; have := hRl k h; omega⟩)
    ⟨.slice none 0 0, hL3, hI3, World.ownsRow_nil _ _ _ _, fun k => by simp [Value.ownBlock], hbB⟩
    (fun x => { tmps := #[ptr v, iv id, undef, .pointer (some ⟨w.heap.size, 0, none⟩), .slice none 0 0, .pointer (some ⟨w.heap.size + 1, 0, none⟩), iv x.1, .bool x.2, ptr v, iv id, .func (.func 119) #[] #[ptr (w.heap.size + 2), ptr (w.heap.size + 2 + 1)], iv x.1, .bool x.2, undef, undef, undef, undef, undef, undef, undef, undef, undef, undef, undef, undef], defers := [] }) ?assign ?body ?done ?stop
  case assign =>
    intro l x W K hK
    gi_wp2
    exact hK
  case body =>
    rintro l pre x M W hpre hsz ⟨u, i1, i0, i2, i3, i4⟩
    obtain ⟨x1, x2⟩ := x
    have d0 := i1.cell
    have d1 := i1.frozen
    have d2 := i0.cell
    have hpl : pre.length + 1 ≤ acc.length := by have := hpre.length_le; simpa using this
    have hfl := List.length_filter_le (fun p : Int × Bool => decide (p.1 ≠ id) && !p.2) pre
    have hsn : (pre ++ [(x1, x2)]).filter (fun p => decide (p.1 ≠ id) && !p.2) = pre.filter (fun p => decide (p.1 ≠ id) && !p.2) ++ (if (decide (x1 ≠ id) && !x2) = true then [(x1, x2)] else []) := by
      rw [List.filter_append, List.filter_cons, List.filter_nil]
    have hlt := i1.lt
    have HSN := Lib.hid hsn
    have I1 := Lib.hid i1
    have I0 := Lib.hid i0
    have I2 := Lib.hid i2
    have I3 := Lib.hid i3
    have I4 := Lib.hid i4
    clear i1 i0 i2 i3 i4 hgv hsn
    have hmx : Try.prog.follows .mixedOrders = true := by kernel_rfl
    by_cases hin : x1 = id
    · have hne : (x1 != id) = false := by simpa using hin
      have HIN := Lib.hid hin
      clear hin
      gi_wp2
      all_goals (try go_bits)
      exact ⟨M, Chg.refl _ _, fun k hk => .inl hk, u, I1.out, I0.out, by rw [HSN.out, if_neg (by simp [HIN.out]), List.append_nil]; exact I2.out, I3.out, I4.out⟩
    · have hne : (x1 != id) = true := by simpa using hin
      have HIN := Lib.hid hin
      clear hin
      cases x2 with
      | true =>
        gi_wp2
        all_goals (try go_bits)
        exact ⟨M, Chg.refl _ _, fun k hk => .inl hk, u, I1.out, I0.out, by rw [HSN.out, if_neg (by simp), List.append_nil]; exact I2.out, I3.out, I4.out⟩
      | false =>
        gi_wp2_with ((gi_at_builtin; refine wpListIn_append_own_at _ rfl _ _ 33 rfl (w.heap.size + 4) 3 i0 (.int .i64 0) 1 8 Try.underlying33 hi hz0 hz1 hz2 rfl (by decide) _ _ _ rfl (ownsRow_alloc I2.out _) ⟨W.heap.size, 0, none⟩ 1 1 [iv x1] rfl rfl (cell_one_new _ _ _) (by simp [Value.oneCell']) (by unfold maxLen; omega) (by omega) (by simp; omega) ?_; intro v' w2 hown2 hgrow hnil hloc; obtain ⟨a2, n2, cp2, rfl⟩ := slice_form2 hown2; have hkb := (hgrow.block (w.heap.size + 1) (by simp; omega) (fun e => by have := (ownsRow_base I2.out e.symm).1; omega)).trans (Go.heap_alloc_old W _ hlt); have hki := (hgrow.block w.heap.size (by simp; omega) (fun e => by have := (ownsRow_base I2.out e.symm).1; omega)).trans (Go.heap_alloc_old W _ (by omega)); have q0 := (World.cell?_of_block (a := ⟨w.heap.size + 1, 0, none⟩) hkb).trans d0; have q1 : w2.frozen? ⟨w.heap.size + 1, 0, none⟩ = false := free_block (hkb.trans I1.out) 0))
        have hch : Chg M W w2 := (chg_alloc W _).trans (chg_grown hgrow (fun k e => (I3.out k).2 (.inr e)))
        have hbox : M (w.heap.size + 1) := (I3.out _).2 (.inl rfl)
        generalize hv' : Value.slice a2 n2 cp2 = v' at *
        refine ⟨fun k => k = w.heap.size + 1 ∨ v'.ownBlock = some k, hch.trans (chg_set hbox 0 _), ?_, v', ?_, ?_, ?_, fun _ => Iff.rfl, ?_⟩
        · rintro k (h | h)
          · exact .inl ((I3.out k).2 (.inl h))
          · rcases hloc with e | e
            · exact .inl ((I3.out k).2 (.inr (e.symm.trans h)))
            · rw [e] at h; cases h; exact .inr (by simp)
        · have := heap_setCell_same w2 (w.heap.size + 1) 0 _ _ v' (hkb.trans I1.out)
          unfold Boxed
          simpa using this
        · exact (heap_setCell_other _ _ _ _ (by simp)).trans (hki.trans I0.out)
        · rw [HSN.out, if_pos (by simp [HIN.out]), List.length_append, List.map_append]
          exact ownsRow_keeps hown2 (fun g hg => heap_setCell_other _ _ _ _ (by have := (ownsRow_base hown2 hg).1; simp; omega))
        · refine I4.out.trans ?_
          have hc2 := hch.trans (chg_set (w := w2) hbox 0 v')
          exact ⟨hc2.os, hc2.tape, hc2.output, hc2.size, fun k hk => hc2.block k (by omega) (fun h => by
            rcases (I3.out k).1 h with h | h
            · omega
            · have := (ownsRow_base I2.out h).1; omega)⟩
  case done =>
    rintro Dd M W hD2 hMD ⟨u, i1, i0, i2, i3, i4⟩ hK
    have d0 := i1.cell
    have hfinal : ∀ o, (W.putObj Dd o).ownsRow w.heap.size 3 1 u ((acc.filter (fun p => decide (p.1 ≠ id) && !p.2)).map (·.1)).length (((acc.filter (fun p => decide (p.1 ≠ id) && !p.2)).map (·.1)).map iv) := fun o => by
      have h8 : W.ownsRow (w.heap.size + 4) 3 1 u ((acc.filter (fun p => decide (p.1 ≠ id) && !p.2)).map (·.1)).length (((acc.filter (fun p => decide (p.1 ≠ id) && !p.2)).map (·.1)).map iv) := by rw [List.map_map, List.length_map]; exact i2
      have hDv : u.ownBlock ≠ some Dd := fun e => hMD ((i3 _).2 (.inr e))
      have h9 : (W.putObj Dd o).ownsRow (w.heap.size + 4) 3 1 u ((acc.filter (fun p => decide (p.1 ≠ id) && !p.2)).map (·.1)).length (((acc.filter (fun p => decide (p.1 ≠ id) && !p.2)).map (·.1)).map iv) := ownsRow_keeps h8 (fun q hq => World.putObj_heap_other (by rintro rfl; exact hDv hq))
      exact row_low (by omega) h9
    gi_wp2
    refine ⟨by simp, .inl ⟨_, _, rfl, run_takeDeferred hK, ?_⟩⟩
    exact ⟨_, results_tmp rfl _ _ _, ⟨_, rfl, by rw [HALL.out]; exact hfinal _⟩, i4.trans (below_putObj _ (by omega) _)⟩
  case stop =>
    rintro Dd c pre M W _ _ _ h _
    exact h.elim
end
def textOf : Option Rec → List UInt8
  | none => []
  | some r => if r.kind = 4 then r.text.data.toList else []
def textsOf (g : Int → Option Rec) (xs : List Int) : List UInt8 := (xs.map (fun x => textOf (g x))).flatten
/-- a node's text -/
def valueO (g : Int → Option Rec) (K : Nat) (id : Int) : Option Rec → ByteArray
  | none => ⟨#[]⟩
  | some r => if r.kind = 1 ∨ r.kind = 2 then ⟨(textsOf g (belowF g K id)).toArray⟩ else r.text
theorem texts_succ {g : Int → Option Rec} {xs : List Int} {k : Nat} {x : Int} (h : xs[k]? = some x) : textsOf g (xs.take (k + 1)) = textsOf g (xs.take k) ++ textOf (g x) := by
  unfold textsOf
  rw [List.take_add_one, h, Option.toList_some, List.map_append, List.flatten_append]
  simp
theorem texts_len {g : Int → Option Rec} (htx : ∀ x r, g x = some r → r.text.size ≤ 100000) : ∀ (xs : List Int), (textsOf g xs).length ≤ xs.length * 100000
  | [] => by simp [textsOf]
  | x :: xs => by
    have ih := texts_len htx xs
    have h1 : (textOf (g x)).length ≤ 100000 := by
      cases h : g x with
      | none => simp [textOf]
      | some r =>
        have := htx x r h
        unfold textOf
        simp only
        split
        · rw [Array.length_toList]; exact this
        · simp
    unfold textsOf at ih ⊢
    rw [List.map_cons, List.flatten_cons, List.length_append, List.length_cons]
    omega
theorem bytes_append (a : List UInt8) (b : ByteArray) : Lib.byteCells a ++ Lib.strCells b = Lib.byteCells (a ++ b.data.toList) := by
  rw [Lib.strCells_eq]; simp [Lib.byteCells]
set_option maxRecDepth 100000 in
set_option maxHeartbeats 4000000 in
theorem value_any {Rb : Nat → Prop} {w : World} {v : Nat} {g : Int → Option Rec} {keys : List Int} (h : Ax Rb w v g keys) (htx : ∀ x r, g x = some r → r.text.size ≤ 100000) (hkl : keys.length ≤ 1000000) (id : Int) :
    Calls Try.prog 68 #[ptr v, iv id] w fun e w' => e = .returned (.string (valueO g (keys.length + 1) id (g id))) ∧ Below w.heap.size w w' := by
  have HAX := Lib.hid h
  have HTX := Lib.hid htx
  have hget := h.n.reads w (Below.refl _ _) id
  obtain ⟨o, ho⟩ : ∃ o, g id = o := ⟨_, rfl⟩
  rw [ho] at hget ⊢
  have HG := Lib.hid hget
  have hxl : (belowF g (keys.length + 1) id).length ≤ 1000000 := Nat.le_trans (belowF_len h.ko id) hkl
  have HROW := Lib.hid (show ∀ W, Below w.heap.size w W → Calls Try.prog 70 #[ptr v, iv id] W (fun e w' => (∃ u, e = .returned u ∧ w'.ownsRow W.heap.size 3 1 u (belowF g (keys.length + 1) id).length ((belowF g (keys.length + 1) id).map iv)) ∧ Below W.heap.size W w') from fun W hW => below_row (h.later hW).k (h.later hW).rl h.ko h.kl id)
  obtain ⟨xs, hxs⟩ : ∃ xs, belowF g (keys.length + 1) id = xs := ⟨_, rfl⟩
  have HRES := Lib.hid (show ∀ r, o = some r → (r.kind = 1 ∨ r.kind = 2) → valueO g (keys.length + 1) id o = ⟨(textsOf g xs).toArray⟩ from fun r hr hk => by
    rw [hr, ← hxs]
    show (if r.kind = 1 ∨ r.kind = 2 then _ else _) = _
    rw [if_pos hk])
  rw [hxs] at hxl HROW
  clear h htx hget ho hxs
  go_enter Try.func68, Try.ntmps68
  go_wp2_with fail
  refine HG.out.mono ?_
  rintro e w1 ⟨⟨kv1, av1, rfl, hk1, ha1⟩, hb1⟩
  obtain ⟨ka1, kc1, rfl, -, -, -⟩ := hk1
  obtain ⟨aa1, ac1, rfl, -, -, -⟩ := ha1
  go_upto_region 2 with fail
  obtain ⟨W2, hW2⟩ : ∃ W2, w1.alloc (recCells (o.getD Rec.zero) (.slice ka1 (o.getD Rec.zero).kids.length kc1) (.slice aa1 (o.getD Rec.zero).attrs.length ac1)) = W2 := ⟨_, rfl⟩
  have hr2 : W2.heap[w1.heap.size]? = some (recCells (o.getD Rec.zero) (.slice ka1 (o.getD Rec.zero).kids.length kc1) (.slice aa1 (o.getD Rec.zero).attrs.length ac1)) := by rw [← hW2]; exact Go.heap_alloc_new _ _
  have hb2 : Below w.heap.size w W2 := by rw [← hW2]; exact hb1.alloc hb1.size _
  rw [show w1.alloc (.cells #[.int .i64 (o.getD Rec.zero).kind, .string (o.getD Rec.zero).name, .string (o.getD Rec.zero).text, .int .i64 (o.getD Rec.zero).parent, .slice ka1 (o.getD Rec.zero).kids.length kc1, .slice aa1 (o.getD Rec.zero).attrs.length ac1, .bool (o.getD Rec.zero).gone] 52) = W2 from hW2]
  obtain ⟨z0, z1, z2, z3, z4, z5, z6⟩ := cells7 hr2
  have HB2 := Lib.hid hb2
  clear hW2 hb2 hr2 hb1
  cases o with
  | none =>
    simp only [Option.getD_none, Option.isSome_none] at *
    go_wp2
    go_ret
    exact ⟨rfl, HB2.out⟩
  | some r =>
    simp only [Option.getD_some, Option.isSome_some] at *
    by_cases hk : r.kind = 1 ∨ r.kind = 2
    · have HRS := Lib.hid (HRES.out r rfl hk)
      go_cut [29] (fun c wx => c = .bool false ∧ wx = W2)
      case first =>
        by_cases h1 : r.kind = 1
        · have k1 : (r.kind != 1) = false := by simp [h1]
          clear h1 hk
          go_wp2_with fail
          go_meet
          exact ⟨rfl, rfl⟩
        · have k1 : (r.kind != 1) = true := by simp [h1]
          have k2 : (r.kind != 2) = false := by simp; omega
          clear h1 hk
          go_wp2_with fail
          go_meet
          exact ⟨rfl, rfl⟩
      case rest =>
      obtain ⟨rfl, rfl⟩ := hcut
      clear hk z0 z1 z2 z3 z4 z5 z6
      go_upto_region 5 with fail
      obtain ⟨W3, hW3⟩ : ∃ W3, wc.alloc (.cells #[.pointer none, .slice none 0 0] 168) = W3 := ⟨_, rfl⟩
      have hbd := Lib.IsBuilderF.of (Lib.fresh_isBuilder 168 5 wc)
      have hs3 : W3.heap.size = wc.heap.size + 1 := by rw [← hW3]; simp
      have hb3 : Below w.heap.size w W3 := by rw [← hW3]; exact HB2.out.alloc HB2.out.size _
      have hbd3 : Lib.IsBuilderF 168 5 wc.heap.size wc.heap.size (Lib.byteCells (textsOf g (xs.take 0))) W3 := by rw [← hW3]; exact hbd
      rw [hW3]
      obtain ⟨B, hB⟩ : ∃ B, wc.heap.size = B := ⟨_, rfl⟩
      rw [hB] at hbd3 hs3 ⊢
      have hBw : w.heap.size ≤ B := by rw [← hB]; exact HB2.out.size
      have HB3 := Lib.hid hb3
      have HBD3 := Lib.hid hbd3
      clear hbd hb3 hbd3 hW3
      go_wp2_with fail
      refine (HROW.out _ HB3.out).mono ?_
      rintro e w4 ⟨⟨u, rfl, hrow⟩, hb4⟩
      have HROW4 := Lib.hid hrow
      obtain ⟨au, cu, rfl⟩ := shape3 hrow
      have HBD4 := Lib.hid (builder_keep HBD3.out hb4)
      have HB4 := Lib.hid (HB3.out.trans (hb4.mono HB3.out.size))
      have hB4 : B < w4.heap.size := by have := hb4.size; omega
      have hxl9 : (xs.length : Int) ≤ 1000000 := by omega
      clear hrow hb4
      go_wp2_with fail
      go_loopw [36] (fun i wr => ∃ k : Nat, k ≤ xs.length ∧ i = .int .i64 k ∧ Lib.IsBuilderF 168 5 B B (Lib.byteCells (textsOf g (xs.take k))) wr ∧ Below w.heap.size w wr ∧ B < wr.heap.size ∧ (∀ q, (Value.slice au xs.length cu).ownBlock = some q → wr.heap[q]? = w4.heap[q]?)) (fun i _ => xs.length - (Lib.intOf i).toNat)
      case atStart => exact ⟨0, Nat.zero_le _, rfl, HBD4.out, HB4.out, hB4, fun _ _ => rfl⟩
      case round =>
        obtain ⟨k, hk, rfl, hbd, hbr, hBr, hqr⟩ := hrel
        by_cases hlt : k < xs.length
        · obtain ⟨x, hx⟩ : ∃ x, xs[k]? = some x := ⟨_, List.getElem?_eq_getElem hlt⟩
          obtain ⟨q, hau, hq4, hcell⟩ : ∃ q, au = some ⟨q, 0, none⟩ ∧ (∃ c fz, w4.heap[q]? = some (.cells c 3 fz) ∧ B < q) ∧ w4.cell? ⟨q, 0 + k, none⟩ = some (.int .i64 x) := by
            have hri := intsIn_row HROW4.out
            obtain ⟨a', c', e', -, -, hh⟩ := hri
            cases e'
            rcases hh with hh | ⟨q, off, e9, -, hc⟩
            · rw [hh] at hlt; simp at hlt
            · obtain ⟨-, ⟨e1, h0⟩ | ⟨q', cap, cur, e1, hbq, hgg, -⟩⟩ := HROW4.out
              · omega
              · cases e1
                cases e9
                exact ⟨q, rfl, ⟨cur, _, hgg, by omega⟩, hc k x hx⟩
          subst hau
          obtain ⟨c3, f3, hq3, hBq⟩ := hq4
          have hqw := hqr q rfl
          have hck : wr.cell? ⟨q, k, none⟩ = some (.int .i64 x) := by
            rw [World.cell?_of_block (a := ⟨q, k, none⟩) hqw]
            rw [Nat.zero_add] at hcell
            exact hcell
          have hqrr := hqw.trans hq3
          have hsucc := texts_succ (g := g) hx
          have htl := texts_len HTX.out (xs.take k)
          rw [List.length_take, Nat.min_eq_left hk] at htl
          have hget := HAX.out.n.reads wr hbr x
          obtain ⟨ox, hox⟩ : ∃ ox, g x = ox := ⟨_, rfl⟩
          rw [hox] at hget hsucc
          have htxx : ∀ r', ox = some r' → r'.text.size ≤ 100000 := fun r' hr' => HTX.out x r' (hox.trans hr')
          obtain ⟨acc, hacc⟩ : ∃ acc, textsOf g (xs.take k) = acc := ⟨_, rfl⟩
          rw [hacc] at hbd hsucc htl
          have HGET := Lib.hid hget
          have HBD := Lib.hid hbd
          have HSUC := Lib.hid hsucc
          have HTXX := Lib.hid htxx
          have HBR := Lib.hid hbr
          have HQ := Lib.hid hqrr
          have HQ4 := Lib.hid hq3
          have hk0 : (0 : Int) ≤ k := by omega
          have hkl : (k : Int) < xs.length := by omega
          have htl9 : acc.length ≤ 100000000000 := by omega
          clear hx hcell hqw hqr hq3 hqrr hsucc htl hget hox htxx hacc hbd hbr
          go_wp2_with fail
          refine HGET.out.mono ?_
          rintro e w5 ⟨⟨kv5, av5, rfl, hk5, ha5⟩, hb5⟩
          obtain ⟨ka5, kc5, rfl, -, -, -⟩ := hk5
          obtain ⟨aa5, ac5, rfl, -, -, -⟩ := ha5
          clear hck
          go_upto_region 9 with fail
          obtain ⟨W6, hW6⟩ : ∃ W6, w5.alloc (.cells #[.int .i64 (ox.getD Rec.zero).kind, .string (ox.getD Rec.zero).name, .string (ox.getD Rec.zero).text, .int .i64 (ox.getD Rec.zero).parent, .slice ka5 (ox.getD Rec.zero).kids.length kc5, .slice aa5 (ox.getD Rec.zero).attrs.length ac5, .bool (ox.getD Rec.zero).gone] 52) = W6 := ⟨_, rfl⟩
          have hr6 : W6.heap[w5.heap.size]? = some (recCells (ox.getD Rec.zero) (.slice ka5 (ox.getD Rec.zero).kids.length kc5) (.slice aa5 (ox.getD Rec.zero).attrs.length ac5)) := by rw [← hW6]; exact Go.heap_alloc_new _ _
          have hb56 : Below w5.heap.size w5 W6 := by rw [← hW6]; exact (Below.refl _ _).alloc (Nat.le_refl _) _
          have hb6 : Below wr.heap.size wr W6 := hb5.trans (hb56.mono hb5.size)
          rw [hW6]
          obtain ⟨z0, z1, z2, z3, z4, z5, z6⟩ := cells7 hr6
          have HBD6 := Lib.hid (builder_keep HBD.out hb6)
          have HB6 := Lib.hid (HBR.out.trans (hb6.mono HBR.out.size))
          have hqs := (Array.getElem?_eq_some_iff.1 HQ.out).1
          have HQ6 := Lib.hid ((hb6.block q hqs).trans HQ.out)
          have hB6 : B < W6.heap.size := Nat.lt_of_lt_of_le hBr hb6.size
          clear hW6 hr6 hb56 hb5 hb6 hqs
          by_cases h4 : (ox.getD Rec.zero).kind = 4
          · have h4b : ((ox.getD Rec.zero).kind == 4) = true := beq_iff_eq.2 h4
            have htxt : textOf ox = (ox.getD Rec.zero).text.data.toList ∧ (ox.getD Rec.zero).text.size ≤ 100000 := by
              cases ox with
              | none => exact absurd h4 (by decide)
              | some r' =>
                refine ⟨?_, HTXX.out r' rfl⟩
                have h4' : r'.kind = 4 := h4
                show (if r'.kind = 4 then _ else _) = _
                rw [if_pos h4']; rfl
            have HW := Lib.hid (writeString_any B B _ (ox.getD Rec.zero).text W6 HBD6.out (by rw [Lib.byteCells_length]; omega) (Nat.le_of_lt hB6))
            have HTT := Lib.hid htxt.1
            clear h4 htxt
            go_wp2_with (go_at_call 104; refine HW.out.mono ?_; rintro e w7 ⟨rfl, hbd7, hb7, hok7⟩)
            go_roundw
            case rel =>
              refine ⟨k + 1, by omega, by go_num, ?_, HB6.out.trans (hb7.mono hBw), Nat.lt_of_lt_of_le hB6 hb7.size, fun q' hq' => ?_⟩
              · rw [HSUC.out, HTT.out]
                rw [bytes_append] at hbd7
                exact .inr hbd7
              · cases hq'
                rw [HQ4.out]
                exact hok7 q _ HQ6.out (by intro e; cases e; omega) (fun c fz e => by cases e)
            case measure => simp [Lib.intOf]; omega
          · have h4b : ((ox.getD Rec.zero).kind == 4) = false := beq_eq_false_iff_ne.2 h4
            have htxt : textOf ox = [] := by
              cases ox with
              | none => rfl
              | some r' =>
                have h4' : ¬ r'.kind = 4 := h4
                show (if r'.kind = 4 then _ else _) = _
                rw [if_neg h4']
            have HTT := Lib.hid htxt
            clear h4 htxt
            go_wp2_with fail
            go_roundw
            case rel =>
              refine ⟨k + 1, by omega, by go_num, by rw [HSUC.out, HTT.out, List.append_nil]; exact HBD6.out, HB6.out, hB6, fun q' hq' => ?_⟩
              cases hq'
              rw [HQ4.out]
              exact HQ6.out
            case measure => simp [Lib.intOf]; omega
        · obtain rfl : k = xs.length := by omega
          rw [List.take_length] at hbd
          have HST := Lib.hid (bstring_any B B _ wr hbd (Nat.le_of_lt hBr))
          have HBR := Lib.hid hbr
          clear hbd hbr hqr
          go_wp2_with (go_at_call 105; refine HST.out.mono ?_; rintro e w9 ⟨rfl, hb9⟩)
          go_ret
          exact ⟨by rw [HRS.out]; rfl, HBR.out.trans (hb9.mono hBw)⟩
    · have hres : valueO g (keys.length + 1) id (some r) = r.text := by
        show (if r.kind = 1 ∨ r.kind = 2 then _ else _) = _
        rw [if_neg hk]
      have HR := Lib.hid hres
      have k1 : (r.kind != 1) = true := by simp; omega
      have k2 : (r.kind != 2) = true := by simp; omega
      clear hk hres
      go_wp2
      go_ret
      exact ⟨by rw [HR.out]; rfl, HB2.out⟩
end Go.Proofs.Ytinkjhkbaadbpaa
/- works (55) of the view's statements. -/
namespace Go.Proofs.Ytinkjhkbaadbpaa
open Go.RowKit
set_option linter.unusedVariables false
set_option linter.unusedSimpArgs false

/-- what is told of a node when a tree was planted and installed -/
def getO (t : Tr) : Int → Option Rec := (⟨madeO t [], 0⟩ : Vw).get (madeS t)
theorem mid_get {t : Tr} {S : Store} {d : Doc} (h : Mid t S d) : (⟨fun _ => none, 3⟩ : Vw).get S = getO t := funext fun id => by
  show S.at id 3 = _
  exact h.three id
theorem made2_ax {R Ds Rd Dd : Nat → Prop} {n0 : Nat} {w : World} {v m s v2 s2 : Nat} {S : Store} {V2 : RVw} {d : Doc} {t : Tr} (h : Duo R Ds Rd Dd n0 w v m s v2 s2 ⟨fun _ => none, 3⟩ S V2 d) (hm : Mid t S d) (hsz : t.size ≤ 100000000) :
    ∃ Rb : Nat → Prop, Ax Rb w v (getO t) (madeKeys t []) := by
  obtain ⟨Rb, hRl, hRk⟩ := h.readsK hm.wf
  have hn := h.readsN hm.wf
  have hg := h.gok hm.wf
  rw [mid_get hm] at hRk hn hg
  refine ⟨Rb, ⟨hn, hRk, hRl, made_keys t [], ?_, hg⟩⟩
  have := made_len t []
  unfold madeKeys
  rw [List.length_cons, List.length_map]
  simp at this
  omega
def tw : Tr := .mk 2 ⟨#[97]⟩ ⟨#[]⟩ [(⟨#[120]⟩, ⟨#[49]⟩)] [.mk 4 ⟨#[]⟩ ⟨#[98]⟩ [] []]
theorem tw_keys : madeKeys tw [] = [1, 1, 2, 3, 4] := by rfl
theorem tw_all : allF (getO tw) 6 = [1, 2, 3, 4] := by rfl
theorem tw_1 : valueO (getO tw) 6 1 (getO tw 1) = ⟨#[98]⟩ := by rfl
theorem tw_3 : valueO (getO tw) 6 3 (getO tw 3) = ⟨#[49]⟩ := by rfl
theorem tw_text (x : Int) (r : Rec) (h : getO tw x = some r) : r.text.size ≤ 100000 := by
  have hk := made_keys tw [] x (by show getO tw x ≠ none; rw [h]; simp)
  rw [tw_keys] at hk
  simp at hk
  rcases hk with rfl | rfl | rfl | rfl
  · have e : getO tw 1 = some ⟨1, ⟨#[]⟩, ⟨#[]⟩, 0, [2], [], false⟩ := by rfl
    rw [e] at h; cases h; decide
  · have e : getO tw 2 = some ⟨2, ⟨#[97]⟩, ⟨#[]⟩, 1, [4], [3], false⟩ := by rfl
    rw [e] at h; cases h; decide
  · have e : getO tw 3 = some ⟨3, ⟨#[120]⟩, ⟨#[49]⟩, 2, [], [], false⟩ := by rfl
    rw [e] at h; cases h; decide
  · have e : getO tw 4 = some ⟨4, ⟨#[]⟩, ⟨#[98]⟩, 2, [], [], false⟩ := by rfl
    rw [e] at h; cases h; decide
set_option maxRecDepth 100000 in
set_option maxHeartbeats 4000000 in
theorem vworks_any (w : World) : Calls Try.prog 55 #[] w fun e w' => e = .returned (.bool true) ∧ Below w.heap.size w w' := by
  obtain ⟨W, hW⟩ : ∃ W, (w.alloc (.cells #[.string ⟨#[120]⟩, .string ⟨#[49]⟩] 155)).alloc (.cells #[.int .i64 4, .string ⟨#[]⟩, .string ⟨#[98]⟩, .slice none 0 0, .slice none 0 0] 25) = W := ⟨_, rfl⟩
  have hbW : Below w.heap.size w W := by rw [← hW]; exact ((Below.refl _ _).alloc (Nat.le_refl _) _).alloc (by simp) _
  have hsW : W.heap.size = w.heap.size + 2 := by rw [← hW]; simp
  have hx0 : W.heap[w.heap.size]? = some (.cells #[.string ⟨#[120]⟩, .string ⟨#[49]⟩] 155 (0, 0)) := by
    rw [← hW]; exact (Go.heap_alloc_old _ _ (by simp)).trans (Go.heap_alloc_new _ _)
  have hx1 : W.heap[w.heap.size + 1]? = some (.cells #[.int .i64 4, .string ⟨#[]⟩, .string ⟨#[98]⟩, .slice none 0 0, .slice none 0 0] 25 (0, 0)) := by
    rw [← hW]
    have := Go.heap_alloc_new (w.alloc (.cells #[.string ⟨#[120]⟩, .string ⟨#[49]⟩] 155)) (.cells #[.int .i64 4, .string ⟨#[]⟩, .string ⟨#[98]⟩, .slice none 0 0, .slice none 0 0] 25)
    rw [World.size_alloc] at this
    exact this
  have nilT : ∀ (xs : List Value), CellsIn (fun k => k < W.heap.size) W (.slice none 0 0) 0 xs := fun xs => ⟨none, 0, rfl, by omega, .inl rfl⟩
  have hT : TrIn (fun k => k < W.heap.size) W tw (.slice (some ⟨w.heap.size, 0, none⟩) 1 1) (.slice (some ⟨w.heap.size + 1, 0, none⟩) 1 1) := by
    unfold tw
    simp only [TrIn]
    refine ⟨⟨_, 1, rfl, by simp, .inr ⟨w.heap.size, 0, rfl, by omega, fun j u hj => ?_⟩⟩, trL (.mk 4 ⟨#[]⟩ ⟨#[98]⟩ [] []) (.slice none 0 0) (.slice none 0 0) ++ [], ⟨_, 1, rfl, by simp, .inr ⟨w.heap.size + 1, 0, rfl, by omega, fun j u hj => ?_⟩⟩, ?_⟩
    · rw [Nat.zero_add]
      simp only [World.cell?, hx0]
      have hj2 : j < 2 := by have := (List.getElem?_eq_some_iff.1 hj).1; simpa [attrL] using this
      match j, hj2 with
      | 0, _ => exact hj
      | 1, _ => exact hj
    · rw [Nat.zero_add]
      simp only [World.cell?, hx1]
      have hj5 : j < 5 := by have := (List.getElem?_eq_some_iff.1 hj).1; simpa using this
      match j, hj5 with
      | 0, _ => exact hj
      | 1, _ => exact hj
      | 2, _ => exact hj
      | 3, _ => exact hj
      | 4, _ => exact hj
    · simp only [KidsAre]
      refine ⟨_, _, _, rfl, ?_, rfl⟩
      simp only [TrIn]; exact ⟨nilT _, [], nilT _, by simp [KidsAre]⟩
  have hmd := made2_any hT (fun _ h => h) (by decide)
  have HMD := Lib.hid hmd
  have HW := Lib.hid hW
  have HB := Lib.hid hbW
  clear hW hsW hx0 hx1 nilT hT hmd hbW
  go_enter Try.func55, Try.ntmps55
  go_wp2_with fail
  rw [HW.out]
  go_wp2_with fail
  refine HMD.out.mono ?_
  rintro e w1 ⟨R, Ds, Rd, Dd, p, v, m, s, v2, s2, S, d, rfl, hdu, hpc, hnp, hb1, hmid, -⟩
  obtain ⟨Rb, hax⟩ := made2_ax hdu hmid (by decide)
  have hkl : (madeKeys tw []).length + 1 = 6 := by rw [tw_keys]; rfl
  have hpl : p < w1.heap.size := (Array.getElem?_eq_some_iff.1 hpc).1
  have HPP := Lib.hid (show ∀ W2, Below w1.heap.size w1 W2 → W2.cell? ⟨p, 0, none⟩ = some (ptr v) from fun W2 h2 => by
    have e1 := (h2.block p hpl).trans hpc
    simp [World.cell?, e1])
  have y0 := HPP.out w1 (Below.refl _ _)
  have hall := all_any hax.k hax.rl hax.ko hax.kl
  rw [hkl, tw_all] at hall
  have HALL := Lib.hid hall
  have HV1 := Lib.hid (show ∀ W, Below w1.heap.size w1 W → Calls Try.prog 68 #[ptr v, iv 1] W (fun e w' => e = .returned (.string ⟨#[98]⟩) ∧ Below W.heap.size W w') from fun W hW => by
    have := value_any (hax.later hW) tw_text (by rw [tw_keys]; decide) 1
    rw [hkl, tw_1] at this
    exact this)
  have HV3 := Lib.hid (show ∀ W, Below w1.heap.size w1 W → Calls Try.prog 68 #[ptr v, iv 3] W (fun e w' => e = .returned (.string ⟨#[49]⟩) ∧ Below W.heap.size W w') from fun W hW => by
    have := value_any (hax.later hW) tw_text (by rw [tw_keys]; decide) 3
    rw [hkl, tw_3] at this
    exact this)
  have HB1 := Lib.hid (HB.out.trans (hb1.mono HB.out.size))
  clear hdu hpc hmid hax hall hb1 hnp
  go_wp2_with fail
  refine HALL.out.mono ?_
  rintro e w2 ⟨⟨u, rfl, hu⟩, hb2⟩
  have hw3 : Below w2.heap.size w2 (w2.alloc (.cells #[.int .i64 1, .int .i64 2, .int .i64 3, .int .i64 4] 3)) := (Below.refl _ _).alloc (Nat.le_refl _) _
  have hi3 : IntsIn (Old (w2.alloc (.cells #[.int .i64 1, .int .i64 2, .int .i64 3, .int .i64 4] 3)).heap.size) (w2.alloc (.cells #[.int .i64 1, .int .i64 2, .int .i64 3, .int .i64 4] 3)) (.slice (some ⟨w2.heap.size, 0, none⟩) 4 4) [1, 2, 3, 4] := by
    refine ⟨_, 4, rfl, by simp, by decide, .inr ⟨w2.heap.size, 0, rfl, by simp [Old], fun j x hj => ?_⟩⟩
    match j, hj with
    | 0, hj => simp at hj; subst hj; simp [go_sem]
    | 1, hj => simp at hj; subst hj; simp [go_sem]
    | 2, hj => simp at hj; subst hj; simp [go_sem]
    | 3, hj => simp at hj; subst hj; simp [go_sem]
  have HIN := Lib.hid (ints_same [1, 2, 3, 4] _ _ u _ _ (hu.later hw3) hi3)
  have HB23 := Lib.hid (hb2.trans (hw3.mono hb2.size))
  clear hu hb2 hw3 hi3 y0
  go_wp2_with fail
  refine HIN.out.mono ?_
  rintro e w4 ⟨rfl, n4, hn4⟩
  have hb4 : Below w1.heap.size w1 w4 := by rw [← hn4]; exact below_drewN HB23.out _
  have y4 := HPP.out w4 hb4
  have HB4 := Lib.hid hb4
  clear hb4 hn4
  go_wp2_with fail
  refine (HV1.out _ HB4.out).mono ?_
  rintro e w5 ⟨rfl, hb5⟩
  have hb5' := HB4.out.trans (hb5.mono HB4.out.size)
  have y5 := HPP.out w5 hb5'
  have HB5 := Lib.hid hb5'
  clear hb5 hb5' y4
  go_wp2_with fail
  refine (HV3.out _ HB5.out).mono ?_
  rintro e w6 ⟨rfl, hb6⟩
  have HB6 := Lib.hid (HB5.out.trans (hb6.mono HB5.out.size))
  clear hb6 y5
  go_wp2_with fail
  go_ret
  exact ⟨rfl, HB1.out.trans (HB6.out.mono HB1.out.size)⟩
end Go.Proofs.Ytinkjhkbaadbpaa
/- step (57): a call of both views. -/
namespace Go.Proofs.Ytinkjhkbaadbpaa
open Go.RowKit
set_option linter.unusedVariables false
set_option linter.unusedSimpArgs false

/-- a call: what is put, or what is planted -/
structure Sp where
  kind : Int
  id : Int
  r : Rec
  n : Tr
abbrev spL (x : Sp) (kv av tav tkv : Value) : List Value := .int .i64 x.kind :: .int .i64 x.id :: (recL x.r kv av ++ trL x.n tav tkv)
def spV (x : Sp) (kv av tav tkv : Value) : Value := .agg #[.int .i64 x.kind, .int .i64 x.id, .int .i64 x.r.kind, .string x.r.name, .string x.r.text, .int .i64 x.r.parent, kv, av, .bool x.r.gone, .int .i64 x.n.kind, .string x.n.name, .string x.n.text, tav, tkv]
/-- both views after some calls: at most L changes, at most G numbers given -/
def StepSt (R Ds Rd Dd : Nat → Prop) (n1 : Nat) (w : World) (v m s v2 s2 : Nat) (S : Store) (d : Doc) (L : Nat) (G : Int) : Prop :=
  ∃ (o : Owns) (L2 : List Own) (gv : Int), Duo R Ds Rd Dd n1 w v m s v2 s2 ⟨o, 3⟩ { S with given := gv } ⟨L2, 3⟩ { d with given := gv } ∧ ownOf L2 = o ∧ L2.length ≤ L ∧ 0 ≤ gv ∧ gv ≤ G
theorem StepSt.below {R Ds Rd Dd : Nat → Prop} {n1 : Nat} {w w' : World} {v m s v2 s2 : Nat} {S : Store} {d : Doc} {L : Nat} {G : Int} (h : StepSt R Ds Rd Dd n1 w v m s v2 s2 S d L G) (hb : Below w.heap.size w w') : StepSt R Ds Rd Dd n1 w' v m s v2 s2 S d L G := by
  obtain ⟨o, L2, gv, h1, h2⟩ := h
  exact ⟨o, L2, gv, h1.below hb, h2⟩
theorem StepSt.mono {R Ds Rd Dd : Nat → Prop} {n1 : Nat} {w : World} {v m s v2 s2 : Nat} {S : Store} {d : Doc} {L L' : Nat} {G G' : Int} (h : StepSt R Ds Rd Dd n1 w v m s v2 s2 S d L G) (hL : L ≤ L') (hG : G ≤ G') : StepSt R Ds Rd Dd n1 w v m s v2 s2 S d L' G' := by
  obtain ⟨o, L2, gv, h1, h2, h3, h4, h5⟩ := h
  exact ⟨o, L2, gv, h1, h2, by omega, h4, by omega⟩

set_option maxRecDepth 100000 in
set_option maxHeartbeats 4000000 in
theorem step_any2 {R Ds Rd Dd F : Nat → Prop} {n1 : Nat} {w : World} {p v m s v2 s2 : Nat} {S : Store} {d : Doc} {L : Nat} {G : Int} (hst : StepSt R Ds Rd Dd n1 w v m s v2 s2 S d L G) (hp : w.heap[p]? = some (.cells #[ptr v, ptr v2] 108 (0, 0)))
    (x : Sp) {kv av tav tkv : Value} (hkv : IntsIn F w kv x.r.kids) (hav : IntsIn F w av x.r.attrs) (hok : RecOk x.r) (hT : TrIn F w x.n tav tkv) (hA : Aside R Rd w v m v2 (fun k => F k ∨ k = p)) (hL : L ≤ 500000000) (hG : G ≤ 500000000) (hn : x.n.size ≤ 100000000) :
    Calls Try.prog 57 #[ptr p, spV x kv av tav tkv] w fun e w' => (∃ b, e = .returned (.bool b)) ∧ StepSt R Ds Rd Dd n1 w' v m s v2 s2 S d (L + x.n.size + 1) (G + x.n.size) ∧ Chg (Turns R Rd m v2) w w' := by
  obtain ⟨kind, id, ⟨rkind, rname, rtext, rparent, rkids, rattrs, rgone⟩, n⟩ := x
  have hT2 := hT
  obtain ⟨nkind, nname, ntext, nattrs, nkids⟩ := n
  simp only [TrIn] at hT2
  obtain ⟨⟨a1, c1, rfl, -, -⟩, zs, ⟨a2, c2, rfl, -, -⟩, -⟩ := hT2
  obtain ⟨t, ht⟩ : ∃ t, Tr.mk nkind nname ntext nattrs nkids = t := ⟨_, rfl⟩
  have hkv2 := hkv
  have hav2 := hav
  obtain ⟨ka, kc, rfl, -, -, -⟩ := hkv2
  obtain ⟨aa, ac, rfl, -, -, -⟩ := hav2
  simp only at *
  obtain ⟨W, hW⟩ : ∃ W, w.alloc (.cells #[.int .i64 kind, .int .i64 id, .int .i64 rkind, .string rname, .string rtext, .int .i64 rparent, .slice ka rkids.length kc, .slice aa rattrs.length ac, .bool rgone, .int .i64 nkind, .string nname, .string ntext, .slice a1 nattrs.length c1, .slice a2 nkids.length c2] 106) = W := ⟨_, rfl⟩
  have hbW : Below w.heap.size w W := by rw [← hW]; exact (Below.refl _ _).alloc (Nat.le_refl _) _
  have hsW : W.heap.size = w.heap.size + 1 := by rw [← hW]; simp
  have hx0 : W.heap[w.heap.size]? = some (.cells #[.int .i64 kind, .int .i64 id, .int .i64 rkind, .string rname, .string rtext, .int .i64 rparent, .slice ka rkids.length kc, .slice aa rattrs.length ac, .bool rgone, .int .i64 nkind, .string nname, .string ntext, .slice a1 nattrs.length c1, .slice a2 nkids.length c2] 106 (0, 0)) := by rw [← hW]; exact Go.heap_alloc_new _ _
  obtain ⟨o, L2, gv, hd0, hown, hlen, hg0, hg1⟩ := hst
  have hlt := hd0.lt
  have hpl := (Array.getElem?_eq_some_iff.1 hp).1
  have hAW : Aside R Rd W v m v2 (fun k => F k ∨ k = p ∨ k = w.heap.size) := fun k hk => by
    rcases hk with hk | rfl | rfl
    · exact hA.later hbW.size k (.inl hk)
    · exact hA.later hbW.size k (.inr rfl)
    · exact ⟨by omega, by omega, by omega, by omega, fun h => by have := hlt.2.2.2.2.1 _ h; omega, fun h => by have := hlt.2.2.2.2.2.1 _ h; omega⟩
  have hKP := Lib.hid (show ∀ wz, Chg (Turns R Rd m v2) W wz → (wz.cell? ⟨p, 0, none⟩ = some (ptr v) ∧ wz.cell? ⟨p, 1, none⟩ = some (ptr v2)) ∧ (wz.cell? ⟨w.heap.size, 0, none⟩ = some (.int .i64 kind) ∧ wz.cell? ⟨w.heap.size, 1, none⟩ = some (.int .i64 id) ∧ wz.cell? ⟨w.heap.size, 2, none⟩ = some (.int .i64 rkind) ∧ wz.cell? ⟨w.heap.size, 3, none⟩ = some (.string rname) ∧ wz.cell? ⟨w.heap.size, 4, none⟩ = some (.string rtext) ∧ wz.cell? ⟨w.heap.size, 5, none⟩ = some (.int .i64 rparent) ∧ wz.cell? ⟨w.heap.size, 6, none⟩ = some (.slice ka rkids.length kc) ∧ wz.cell? ⟨w.heap.size, 7, none⟩ = some (.slice aa rattrs.length ac) ∧ wz.cell? ⟨w.heap.size, 8, none⟩ = some (.bool rgone) ∧
      wz.cell? ⟨w.heap.size, 9, none⟩ = some (.int .i64 nkind) ∧ wz.cell? ⟨w.heap.size, 10, none⟩ = some (.string nname) ∧ wz.cell? ⟨w.heap.size, 11, none⟩ = some (.string ntext) ∧ wz.cell? ⟨w.heap.size, 12, none⟩ = some (.slice a1 nattrs.length c1) ∧ wz.cell? ⟨w.heap.size, 13, none⟩ = some (.slice a2 nkids.length c2)) from fun wz hc => by
    have hk := hAW.keeps hc
    have e1 := (hk p (.inr (.inl rfl))).trans ((hbW.block p hpl).trans hp)
    have e2 := (hk w.heap.size (.inr (.inr rfl))).trans hx0
    refine ⟨⟨?_, ?_⟩, ?_, ?_, ?_, ?_, ?_, ?_, ?_, ?_, ?_, ?_, ?_, ?_, ?_, ?_⟩ <;> simp [World.cell?, e1, e2])
  have HKF := Lib.hid (show ∀ wz, Chg (Turns R Rd m v2) W wz → Keeps F w wz ∧ Aside R Rd wz v m v2 F from fun wz hc => by
    have hk := hAW.keeps hc
    refine ⟨fun k h9 => (hk k (.inl h9)).trans (hbW.block k (hA k (.inl h9)).1), fun k h9 => hAW.later hc.size k (.inl h9)⟩)
  have HW := Lib.hid hW
  have HB := Lib.hid hbW
  have HD := Lib.hid (hd0.below hbW)
  have HT := Lib.hid hT
  have HKV := Lib.hid hkv
  have HAV := Lib.hid hav
  have HOK := Lib.hid hok
  have HTT := Lib.hid ht
  have HOWN := Lib.hid hown
  have HN := Lib.hid hn
  clear hW hbW hx0 hd0 hp hA hAW hT hkv hav hok ht hown hlt
  show Calls Try.prog 57 #[ptr p, .agg #[.int .i64 kind, .int .i64 id, .int .i64 rkind, .string rname, .string rtext, .int .i64 rparent, .slice ka rkids.length kc, .slice aa rattrs.length ac, .bool rgone, .int .i64 nkind, .string nname, .string ntext, .slice a1 nattrs.length c1, .slice a2 nkids.length c2]] w _
  go_enter Try.func57, Try.ntmps57
  go_upto_region 1 with fail
  rw [HW.out]
  obtain ⟨-, b0, -⟩ := hKP.out W (Chg.refl _ _)
  by_cases hk0 : kind = 0
  · have hkb : (kind == 0) = true := beq_iff_eq.2 hk0
    clear hk0
    go_wp2_with fail
    clear b0
    have hcur : Chg (Turns R Rd m v2) W W.drew := chg_new (Below.refl _ _).drew
    obtain ⟨hkF, haF⟩ := HKF.out _ hcur
    have hp1 := (HD.out.below (Below.refl _ _).drew).put id HOK.out (x := recV ⟨rkind, rname, rtext, rparent, rkids, rattrs, rgone⟩ (.slice ka rkids.length kc) (.slice aa rattrs.length ac)) ⟨_, _, rfl, HKV.out.keep hkF, HAV.out.keep hkF⟩ haF
    obtain ⟨x1, hx1⟩ : ∃ x1 : Int, (if putOk id ⟨rkind, rname, rtext, rparent, rkids, rattrs, rgone⟩ then 0 else 2) = x1 := ⟨_, rfl⟩
    rw [hx1] at hp1
    have HP1 := Lib.hid hp1
    clear hp1 hkF haF
    go_region_held3 (fun wz => (wz.cell? ⟨p, 0, none⟩ = some (ptr v) ∧ wz.cell? ⟨p, 1, none⟩ = some (ptr v2)) ∧ (wz.cell? ⟨w.heap.size, 0, none⟩ = some (.int .i64 kind) ∧ wz.cell? ⟨w.heap.size, 1, none⟩ = some (.int .i64 id) ∧ wz.cell? ⟨w.heap.size, 2, none⟩ = some (.int .i64 rkind) ∧ wz.cell? ⟨w.heap.size, 3, none⟩ = some (.string rname) ∧ wz.cell? ⟨w.heap.size, 4, none⟩ = some (.string rtext) ∧ wz.cell? ⟨w.heap.size, 5, none⟩ = some (.int .i64 rparent) ∧ wz.cell? ⟨w.heap.size, 6, none⟩ = some (.slice ka rkids.length kc) ∧ wz.cell? ⟨w.heap.size, 7, none⟩ = some (.slice aa rattrs.length ac) ∧ wz.cell? ⟨w.heap.size, 8, none⟩ = some (.bool rgone) ∧
      wz.cell? ⟨w.heap.size, 9, none⟩ = some (.int .i64 nkind) ∧ wz.cell? ⟨w.heap.size, 10, none⟩ = some (.string nname) ∧ wz.cell? ⟨w.heap.size, 11, none⟩ = some (.string ntext) ∧ wz.cell? ⟨w.heap.size, 12, none⟩ = some (.slice a1 nattrs.length c1) ∧ wz.cell? ⟨w.heap.size, 13, none⟩ = some (.slice a2 nkids.length c2)))
      (exact hKP.out _ hcur)
      (first
        | ((go_at_call 66; (with_reducible refine HP1.out.mono ?_); rintro e w4 ⟨rfl, hd4, hc4⟩; have hcur := hcur.trans hc4; have HD4 := Lib.hid hd4; have hkf4 := HKF.out _ hcur; have HP2 := Lib.hid (hd4.rput id HOK.out (x := recV ⟨rkind, rname, rtext, rparent, rkids, rattrs, rgone⟩ (.slice ka rkids.length kc) (.slice aa rattrs.length ac)) ⟨_, _, rfl, HKV.out.keep hkf4.1, HAV.out.keep hkf4.1⟩ hkf4.2 (by show L2.length ≤ _; omega)); rw [hx1] at HP2; clear hd4 hc4 hkf4))
        | ((go_at_call 74; (with_reducible refine HP2.out.mono ?_); rintro e w5 ⟨rfl, hd5, hc5⟩; have hcur := hcur.trans hc5; have HD5 := Lib.hid hd5; clear hd5 hc5)))
    all_goals
      go_wp2_with fail
      go_ret
      refine ⟨⟨_, rfl⟩, ?_, (chg_new HB.out).trans hcur⟩
      have hd5 := HD5.out
      have h9 := hlen
      cases hpo : putOk id ⟨rkind, rname, rtext, rparent, rkids, rattrs, rgone⟩ with
      | true =>
        rw [hpo, if_pos rfl, if_pos rfl] at hd5
        exact ⟨_, _, gv, hd5, by rw [ownOf_layL, HOWN.out]; rfl, by have := layL_len id ⟨rkind, rname, rtext, rparent, rkids, rattrs, rgone⟩ L2; omega, hg0, by omega⟩
      | false =>
        rw [hpo, if_neg (by simp), if_neg (by simp)] at hd5
        exact ⟨_, _, gv, hd5, HOWN.out, by omega, hg0, by omega⟩
  · have hkb : (kind == 0) = false := beq_eq_false_iff_ne.2 hk0
    clear hk0
    have hTW : ∀ wz, Keeps F w wz → TrIn F wz t (.slice a1 nattrs.length c1) (.slice a2 nkids.length c2) := fun wz hk => by
      rw [← HTT.out]
      exact TrIn.keep hk (fun _ h => h) _ _ _ HT.out
    have hkW := HKF.out W (Chg.refl _ _)
    have htr : trV t (.slice a1 nattrs.length c1) (.slice a2 nkids.length c2) = .agg #[.int .i64 nkind, .string nname, .string ntext, .slice a1 nattrs.length c1, .slice a2 nkids.length c2] := by rw [← HTT.out]; rfl
    have hfew := few_any (hTW W hkW.1) (fun k hk => (hkW.2 k hk).1)
    rw [htr] at hfew
    have HFEW := Lib.hid hfew
    have HTW := Lib.hid hTW
    have HTR := Lib.hid htr
    obtain ⟨-, -, -, -, -, -, -, -, -, -, b9, b10, b11, b12, b13⟩ := hKP.out W (Chg.refl _ _)
    clear hTW hkW htr hfew
    go_wp2_with fail
    refine HFEW.out.mono ?_
    rintro e w3 ⟨⟨fb, rfl⟩, hb3⟩
    clear b0 b9 b10 b11 b12 b13
    have hc3 : Chg (Turns R Rd m v2) W w3 := chg_new hb3
    have HB3 := Lib.hid hb3
    clear hb3
    cases fb with
    | false =>
      go_wp2_with fail
      go_ret
      exact ⟨⟨_, rfl⟩, ⟨o, L2, gv, HD.out.below HB3.out, HOWN.out, by omega, hg0, by omega⟩, (chg_new HB.out).trans hc3⟩
    | true =>
      go_wp2_with fail
      have hcur : Chg (Turns R Rd m v2) W w3.drew := hc3.trans (chg_new (Below.refl _ _).drew)
      have hkf := HKF.out _ hcur
      have hnt : t.size ≤ 100000000 := by rw [← HTT.out]; exact HN.out
      have hp1 := (HD.out.below (HB3.out.drew)).plant id (HTW.out _ hkf.1) hkf.2 hg0 (by show gv + _ ≤ _; omega)
      rw [HTR.out] at hp1
      obtain ⟨x1, hx1⟩ : ∃ x1 : Int, (plantT putO t id (gv, o)).1 = x1 := ⟨_, rfl⟩
      have hp1' : Calls Try.prog 62 #[ptr v, .agg #[.int .i64 nkind, .string nname, .string ntext, .slice a1 nattrs.length c1, .slice a2 nkids.length c2], .int .i64 id] w3.drew (fun e w' => e = .returned (.int .i64 x1) ∧ Duo R Ds Rd Dd n1 w' v m s v2 s2 ⟨(plantT putO t id (gv, o)).2.2, 3⟩ { S with given := (plantT putO t id (gv, o)).2.1 } ⟨L2, 3⟩ { d with given := gv } ∧ Chg (Turns R Rd m v2) w3.drew w') := by rw [← hx1]; exact hp1
      have HP1 := Lib.hid hp1'
      clear hp1 hp1' hkf hx1
      go_region_held3 (fun wz => (wz.cell? ⟨p, 0, none⟩ = some (ptr v) ∧ wz.cell? ⟨p, 1, none⟩ = some (ptr v2)) ∧ (wz.cell? ⟨w.heap.size, 0, none⟩ = some (.int .i64 kind) ∧ wz.cell? ⟨w.heap.size, 1, none⟩ = some (.int .i64 id) ∧ wz.cell? ⟨w.heap.size, 2, none⟩ = some (.int .i64 rkind) ∧ wz.cell? ⟨w.heap.size, 3, none⟩ = some (.string rname) ∧ wz.cell? ⟨w.heap.size, 4, none⟩ = some (.string rtext) ∧ wz.cell? ⟨w.heap.size, 5, none⟩ = some (.int .i64 rparent) ∧ wz.cell? ⟨w.heap.size, 6, none⟩ = some (.slice ka rkids.length kc) ∧ wz.cell? ⟨w.heap.size, 7, none⟩ = some (.slice aa rattrs.length ac) ∧ wz.cell? ⟨w.heap.size, 8, none⟩ = some (.bool rgone) ∧
        wz.cell? ⟨w.heap.size, 9, none⟩ = some (.int .i64 nkind) ∧ wz.cell? ⟨w.heap.size, 10, none⟩ = some (.string nname) ∧ wz.cell? ⟨w.heap.size, 11, none⟩ = some (.string ntext) ∧ wz.cell? ⟨w.heap.size, 12, none⟩ = some (.slice a1 nattrs.length c1) ∧ wz.cell? ⟨w.heap.size, 13, none⟩ = some (.slice a2 nkids.length c2)))
        (exact hKP.out _ hcur)
        (first
          | ((go_at_call 62; (with_reducible refine HP1.out.mono ?_); rintro e w4 ⟨rfl, hd4, hc4⟩; have hcur := hcur.trans hc4; have hkf4 := HKF.out _ hcur; have hp2 := hd4.rplant id (HTW.out _ hkf4.1) hkf4.2 hg0 (by show gv + _ ≤ _; omega) (by show L2.length + _ ≤ _; omega); rw [HTR.out] at hp2; have HP2 := Lib.hid hp2; clear hd4 hc4 hkf4 hp2))
          | ((go_at_call 73; (with_reducible refine HP2.out.mono ?_); rintro e w5 ⟨rfl, hd5, hc5⟩; have hcur := hcur.trans hc5; have HD5 := Lib.hid hd5; clear hd5 hc5)))
      all_goals
        go_wp2_with fail
        go_ret
        obtain ⟨e1, e2, e3⟩ := plant_both t id gv L2
        rw [HOWN.out] at e1 e2 e3
        have hgg := plantT_g putO t id (gv, o)
        simp only at hgg
        have hln := plantT_mu layL (fun l => l.length) (fun id r a => layL_len id r a) t id (gv, L2)
        simp only at hln
        have hd5 := HD5.out
        simp only [e2] at hd5
        refine ⟨⟨_, rfl⟩, ⟨_, _, _, hd5, e3, ?_, by omega, ?_⟩, (chg_new HB.out).trans hcur⟩
        · rw [HTT.out]; omega
        · rw [HTT.out]; omega
end Go.Proofs.Ytinkjhkbaadbpaa
/- The calls in memory; what is sorted (plain). -/
namespace Go.Proofs.Ytinkjhkbaadbpaa
open Go.RowKit
set_option linter.unusedVariables false
set_option linter.unusedSimpArgs false

theorem mem_sort {g : Int → Option Rec} {n : Nat} {xs : List Int} (x : Int) : x ∈ sortF g n xs ↔ x ∈ allF g n ∧ x ∈ xs := by unfold sortF; rw [List.mem_filter]; simp
theorem sort_congr {g : Int → Option Rec} {n : Nat} {xs ys : List Int} (h : ∀ x, x ∈ xs ↔ x ∈ ys) : sortF g n xs = sortF g n ys := by
  unfold sortF
  refine List.filter_congr (fun x _ => ?_)
  rw [decide_eq_decide]; exact h x
theorem sort_sort (g : Int → Option Rec) (n : Nat) (xs : List Int) : sortF g n (sortF g n xs) = sortF g n xs := by
  conv => lhs; unfold sortF
  conv => rhs; unfold sortF
  refine List.filter_congr (fun x hx => ?_)
  rw [decide_eq_decide, List.mem_filter]
  simp [hx]
theorem sort_all (g : Int → Option Rec) (n : Nat) : sortF g n (allF g n) = allF g n := by
  unfold sortF
  rw [List.filter_eq_self]
  intro x hx
  simpa using hx
/-- the calls in memory -/
def SpsIn (F : Nat → Prop) (w : World) (v : Value) (xs : List Sp) : Prop :=
  ∃ a cap, v = .slice a xs.length cap ∧ xs.length ≤ 9223372036854775807 ∧ (xs = [] ∨ ∃ g off, a = some ⟨g, off, none⟩ ∧ F g ∧
    ∀ (k : Nat) (x : Sp), xs[k]? = some x → ∃ kv av tav tkv, IntsIn F w kv x.r.kids ∧ IntsIn F w av x.r.attrs ∧ TrIn F w x.n tav tkv ∧ ∀ j u, (spL x kv av tav tkv)[j]? = some u → w.cell? ⟨g, off + k * 14 + j, none⟩ = some u)
def SpOk (x : Sp) : Prop := RecOk x.r ∧ x.n.size ≤ 1048576
theorem spCells {w w' : World} {g off k : Nat} {x : Sp} {kv av tav tkv : Value} (hc : ∀ j u, (spL x kv av tav tkv)[j]? = some u → w.cell? ⟨g, off + k * 14 + j, none⟩ = some u) (hk : w'.heap[g]? = w.heap[g]?) :
    w'.cell? ⟨g, off + k * 14, none⟩ = some (.int .i64 x.kind) ∧ w'.cell? ⟨g, off + k * 14 + 1, none⟩ = some (.int .i64 x.id) ∧ w'.cell? ⟨g, off + k * 14 + 2, none⟩ = some (.int .i64 x.r.kind) ∧ w'.cell? ⟨g, off + k * 14 + 3, none⟩ = some (.string x.r.name) ∧ w'.cell? ⟨g, off + k * 14 + 4, none⟩ = some (.string x.r.text) ∧ w'.cell? ⟨g, off + k * 14 + 5, none⟩ = some (.int .i64 x.r.parent) ∧ w'.cell? ⟨g, off + k * 14 + 6, none⟩ = some kv ∧ w'.cell? ⟨g, off + k * 14 + 7, none⟩ = some av ∧ w'.cell? ⟨g, off + k * 14 + 8, none⟩ = some (.bool x.r.gone) ∧
      w'.cell? ⟨g, off + k * 14 + 9, none⟩ = some (.int .i64 x.n.kind) ∧ w'.cell? ⟨g, off + k * 14 + 10, none⟩ = some (.string x.n.name) ∧ w'.cell? ⟨g, off + k * 14 + 11, none⟩ = some (.string x.n.text) ∧ w'.cell? ⟨g, off + k * 14 + 12, none⟩ = some tav ∧ w'.cell? ⟨g, off + k * 14 + 13, none⟩ = some tkv := by
  have key : ∀ j u, (spL x kv av tav tkv)[j]? = some u → w'.cell? ⟨g, off + k * 14 + j, none⟩ = some u := fun j u hj => (World.cell?_of_block (a := ⟨g, off + k * 14 + j, none⟩) hk).trans (hc j u hj)
  exact ⟨key 0 _ rfl, key 1 _ rfl, key 2 _ rfl, key 3 _ rfl, key 4 _ rfl, key 5 _ rfl, key 6 _ rfl, key 7 _ rfl, key 8 _ rfl, key 9 _ rfl, key 10 _ rfl, key 11 _ rfl, key 12 _ rfl, key 13 _ rfl⟩
/-- the program's view reads, after the calls -/
theorem step_ax_of {R Ds Rd Dd : Nat → Prop} {n1 : Nat} {w : World} {v m s v2 s2 : Nat} {S : Store} {d d2 : Doc} {L : Nat} {gv : Int} {t : Tr} {o : Owns} {L2 : List Own} (hd : Duo R Ds Rd Dd n1 w v m s v2 s2 ⟨o, 3⟩ { S with given := gv } ⟨L2, 3⟩ d2) (hm : Mid t S d) (hown : ownOf L2 = o) (hlen : L2.length ≤ L) (hsz : t.size ≤ 100000000) (hL : L ≤ 500000000) (hwf : ({ S with given := gv } : Store).Wf) :
    ∃ (Rb : Nat → Prop) (keys : List Int), Ax Rb w v ((⟨o, 3⟩ : Vw).get { S with given := gv }) keys := by
  obtain ⟨Rb, hRl, hRk⟩ := hd.readsK hwf
  refine ⟨Rb, L2.map (·.1) ++ madeKeys t [], ⟨hd.readsN hwf, hRk, hRl, fun id hid => ?_, ?_, hd.gok hwf⟩⟩
  · rw [List.mem_append]
    unfold Vw.get at hid
    simp only at hid
    cases ho : o id with
    | some r =>
      left
      rw [← hown] at ho
      unfold ownOf at ho
      obtain ⟨e, he, -⟩ := Option.map_eq_some_iff.1 ho
      have h1 := List.mem_of_find?_eq_some he
      have h2 := List.find?_some he
      simp at h2
      exact List.mem_map.2 ⟨e, h1, h2⟩
    | none =>
      right
      rw [ho] at hid
      have h3 : S.at id 3 ≠ none := hid
      rw [hm.three id] at h3
      exact made_keys t [] id h3
  · have := made_len t []
    unfold madeKeys
    rw [List.length_append, List.length_map, List.length_cons, List.length_map]
    simp at this
    omega
theorem step_ax {R Ds Rd Dd : Nat → Prop} {n1 : Nat} {w : World} {v m s v2 s2 : Nat} {S : Store} {d : Doc} {L : Nat} {G : Int} {t : Tr} (h : StepSt R Ds Rd Dd n1 w v m s v2 s2 S d L G) (hm : Mid t S d) (hsz : t.size ≤ 100000000) (hL : L ≤ 500000000) :
    ∃ (Rb : Nat → Prop) (g : Int → Option Rec) (keys : List Int), Ax Rb w v g keys := by
  obtain ⟨o, L2, gv, hd, hown, hlen, hg0, hg1⟩ := h
  have hwf : ({ S with given := gv } : Store).Wf := ⟨hm.wf.rise, hm.wf.last, hm.wf.ok, hm.wf.len⟩
  obtain ⟨Rb, keys, hax⟩ := step_ax_of hd hm hown hlen hsz hL hwf
  exact ⟨Rb, _, keys, hax⟩

/-- what stands from k on, backwards, each twice -/
def twice (ys : List Int) (k : Nat) : List Int := (ys.drop k).reverse.flatMap (fun x => [x, x])
theorem twice_end (ys : List Int) : twice ys ys.length = [] := by simp [twice]
theorem twice_step {ys : List Int} {j : Nat} {x : Int} (h : ys[j]? = some x) : twice ys j = twice ys (j + 1) ++ [x, x] := by
  obtain ⟨h1, h2⟩ := List.getElem?_eq_some_iff.1 h
  unfold twice
  rw [List.drop_eq_getElem_cons h1, List.reverse_cons, List.flatMap_append, h2]
  simp
theorem mem_twice (ys : List Int) (x : Int) : x ∈ twice ys 0 ↔ x ∈ ys := by simp [twice]
theorem flat2_len : ∀ (l : List Int), (l.flatMap (fun x => [x, x])).length = 2 * l.length
  | [] => rfl
  | x :: l => by
    rw [List.flatMap_cons, List.length_append, flat2_len l]
    simp
    omega
theorem twice_len (ys : List Int) (k : Nat) : (twice ys k).length ≤ 2 * ys.length := by
  unfold twice
  rw [flat2_len, List.length_reverse, List.length_drop]
  omega
theorem two_in (w : World) (x : Int) : IntsIn (Old (w.alloc (.cells #[iv x, iv x] 3)).heap.size) (w.alloc (.cells #[iv x, iv x] 3)) (.slice (some ⟨w.heap.size, 0, none⟩) 2 2) [x, x] := by
  refine ⟨_, 2, rfl, by simp, by decide, .inr ⟨w.heap.size, 0, rfl, by simp [Old], fun j y hj => ?_⟩⟩
  match j, hj with
  | 0, hj => simp at hj; subst hj; simp [go_sem]
  | 1, hj => simp at hj; subst hj; simp [go_sem]

end Go.Proofs.Ytinkjhkbaadbpaa
/- The arguments of the statements on views, opened. -/
namespace Go.Proofs.Ytinkjhkbaadbpaa
open Go.Joins Go.ChangeShapes Go.WideShapes Go.RowKit Go.Deep
set_option linter.unusedVariables false

section
variable {H : Type} {enc : TypeId × Value → H} {W : World} {b0 : Nat}
theorem bulk_len : ∀ (l : List (DataW H)), l.length ≤ Rows.uptoBulkAll l
  | [] => by simp
  | d :: r => by
    have h1 := bulk_pos d
    have h2 := bulk_len r
    simp only [Rows.uptoBulkAll, List.length_cons]; omega
theorem bulk_mem : ∀ {l : List (DataW H)} {d : DataW H}, d ∈ l → Rows.uptoBulk d ≤ Rows.uptoBulkAll l
  | e :: r, d, h => by
    simp only [Rows.uptoBulkAll]
    rcases List.mem_cons.1 h with rfl | h
    · omega
    · have := bulk_mem h; omega
set_option maxRecDepth 100000 in
theorem ints_bulk {n : Nat} {v : Value} {x : DataW H × List MemPlace} (h : DataW.trod enc Try.prog W 0 (fun _ => true) true n 33 [v] = some x) :
    ∃ ks, IntsIn (Old W.heap.size) W v ks ∧ ks.length ≤ Rows.uptoBulk x.1 := by
  obtain ⟨ks, hk⟩ := ints_in Try.underlying33 Try.underlying3 Try.int_cells h
  obtain ⟨a, len, cap, el, rfl, l3, m3, n3, b3, -⟩ := slice_elems (C := 1) Try.underlying33 Try.int_cells (by omega) h
  have h9 := bulk_len (el.map (·.1))
  rw [List.length_map] at h9
  refine ⟨ks, hk, ?_⟩
  obtain ⟨a', c', e', -⟩ := hk
  cases e'
  omega
set_option maxRecDepth 100000 in
theorem rec_bulk {n : Nat} {cs : List Value} {x : DataW H × List MemPlace} (h : DataW.trod enc Try.prog W 0 (fun _ => true) true n 52 cs = some x) (hb : Rows.uptoBulk x.1 ≤ 1048576) :
    ∃ r kv av, cs = recL r kv av ∧ IntsIn (Old W.heap.size) W kv r.kids ∧ IntsIn (Old W.heap.size) W av r.attrs ∧ RecOk r := by
  obtain ⟨xs, m, hm, rfl, hl, hxl, hg⟩ := DataW.trod_struct Try.underlying52 h
  rw [Try.rec_cells] at hl
  obtain ⟨c0, c1, c2, c3, c4, c5, c6, rfl⟩ := list7 hl
  obtain ⟨y0, y1, y2, y3, y4, y5, y6, rfl⟩ := list7 (hxl.trans rfl)
  have q33 : Try.prog.cellsOf 33 = 1 := by kernel_rfl
  have q9 : Try.prog.cellsOf 9 = 1 := by kernel_rfl
  have q4 : Try.prog.cellsOf 4 = 1 := by kernel_rfl
  have h0 : DataW.trod enc Try.prog W 0 (fun _ => true) true m 3 [c0] = some y0 := by simpa [Try.int_cells] using hg 0 _ rfl
  have h1 : DataW.trod enc Try.prog W 0 (fun _ => true) true m 9 [c1] = some y1 := by simpa [Try.int_cells, q9] using hg 1 _ rfl
  have h2 : DataW.trod enc Try.prog W 0 (fun _ => true) true m 9 [c2] = some y2 := by simpa [Try.int_cells, q9] using hg 2 _ rfl
  have h3 : DataW.trod enc Try.prog W 0 (fun _ => true) true m 3 [c3] = some y3 := by simpa [Try.int_cells, q9] using hg 3 _ rfl
  have h4 : DataW.trod enc Try.prog W 0 (fun _ => true) true m 33 [c4] = some y4 := by simpa [Try.int_cells, q9, q33] using hg 4 _ rfl
  have h5 : DataW.trod enc Try.prog W 0 (fun _ => true) true m 33 [c5] = some y5 := by simpa [Try.int_cells, q9, q33] using hg 5 _ rfl
  have h6 : DataW.trod enc Try.prog W 0 (fun _ => true) true m 4 [c6] = some y6 := by simpa [Try.int_cells, q9, q33, q4] using hg 6 _ rfl
  obtain ⟨k, e0, -⟩ := DataW.trod_int Try.underlying3 h0
  obtain ⟨nm, e1, -⟩ := DataW.trod_string Try.underlying9 h1
  obtain ⟨tx, e2, -⟩ := DataW.trod_string Try.underlying9 h2
  obtain ⟨pa, e3, -⟩ := DataW.trod_int Try.underlying3 h3
  obtain ⟨ks, i4, b4⟩ := ints_bulk h4
  obtain ⟨ats, i5, b5⟩ := ints_bulk h5
  obtain ⟨g, e6, -⟩ := DataW.trod_bool Try.underlying4 h6
  simp at e0 e1 e2 e3 e6
  subst e0 e1 e2 e3 e6
  simp only [Rows.uptoBulk, List.map_cons, List.map_nil, Rows.uptoBulkAll] at hb
  exact ⟨⟨k, nm, tx, pa, ks, ats, g⟩, c4, c5, rfl, i4, i5, by show ks.length * 8 ≤ _; omega, by show ats.length * 8 ≤ _; omega⟩
theorem list14 {α : Type} {cs : List α} (h : cs.length = 14) : ∃ c0 c1 c2 c3 c4 c5 c6 c7 c8 c9 c10 c11 c12 c13, cs = [c0, c1, c2, c3, c4, c5, c6, c7, c8, c9, c10, c11, c12, c13] := by
  match cs, h with
  | [c0, c1, c2, c3, c4, c5, c6, c7, c8, c9, c10, c11, c12, c13], _ => exact ⟨c0, c1, c2, c3, c4, c5, c6, c7, c8, c9, c10, c11, c12, c13, rfl⟩
set_option maxRecDepth 100000 in
theorem sp_cells {n : Nat} {cs : List Value} {x : DataW H × List MemPlace} (h : DataW.trod enc Try.prog W 0 (fun _ => true) true n 106 cs = some x) (hb : Rows.uptoBulk x.1 ≤ 1048576) :
    ∃ (y : Sp) (kv av tav tkv : Value), cs = spL y kv av tav tkv ∧ IntsIn (Old W.heap.size) W kv y.r.kids ∧ IntsIn (Old W.heap.size) W av y.r.attrs ∧ TrIn (Old W.heap.size) W y.n tav tkv ∧ SpOk y := by
  obtain ⟨xs, m, hm, rfl, hl, hxl, hg⟩ := DataW.trod_struct Try.underlying106 h
  have q106 : Try.prog.cellsOf 106 = 14 := by kernel_rfl
  have q25 : Try.prog.cellsOf 25 = 5 := by kernel_rfl
  rw [q106] at hl
  obtain ⟨c0, c1, c2, c3, c4, c5, c6, c7, c8, c9, c10, c11, c12, c13, rfl⟩ := list14 hl
  match xs, hxl with
  | [y0, y1, y2, y3], _ =>
    have h0 : DataW.trod enc Try.prog W 0 (fun _ => true) true m 3 [c0] = some y0 := by simpa [Try.int_cells] using hg 0 _ rfl
    have h1 : DataW.trod enc Try.prog W 0 (fun _ => true) true m 3 [c1] = some y1 := by simpa [Try.int_cells] using hg 1 _ rfl
    have h2 : DataW.trod enc Try.prog W 0 (fun _ => true) true m 52 [c2, c3, c4, c5, c6, c7, c8] = some y2 := by simpa [Try.int_cells, Try.rec_cells] using hg 2 _ rfl
    have h3 : DataW.trod enc Try.prog W 0 (fun _ => true) true m 25 [c9, c10, c11, c12, c13] = some y3 := by simpa [Try.int_cells, Try.rec_cells, q25] using hg 3 _ rfl
    simp only [Rows.uptoBulk, List.map_cons, List.map_nil, Rows.uptoBulkAll] at hb
    obtain ⟨k, e0, -⟩ := DataW.trod_int Try.underlying3 h0
    obtain ⟨id, e1, -⟩ := DataW.trod_int Try.underlying3 h1
    obtain ⟨r, kv, av, e2, i1, i2, ok⟩ := rec_bulk h2 (by omega)
    obtain ⟨t, tav, tkv, e3, i3, b3⟩ := tree_in m h3
    simp at e0 e1
    subst e0 e1
    refine ⟨⟨k, id, r, t⟩, kv, av, tav, tkv, ?_, i1, i2, i3, ok, by show t.size ≤ _; omega⟩
    show [_, _, c2, c3, c4, c5, c6, c7, c8, c9, c10, c11, c12, c13] = _ :: _ :: (recL r kv av ++ trL t tav tkv)
    rw [← e2, ← e3]
    rfl
/-- a slice of calls that came in -/
theorem sps_in {n : Nat} {v : Value} {x : DataW H × List MemPlace} (h : DataW.trod enc Try.prog W 0 (fun _ => true) true n 101 [v] = some x) (hb : Rows.uptoBulk x.1 ≤ 1048576) :
    ∃ xs, SpsIn (Old W.heap.size) W v xs ∧ ∀ y ∈ xs, SpOk y := by
  obtain ⟨a, len, cap, el, rfl, l1, l2, l3, l4, h3⟩ := slice_elems (C := 14) Try.underlying101 (by kernel_rfl : Try.prog.cellsOf 106 = 14) (by omega) h
  rcases h3 with h3 | ⟨g, off, m, hm, rfl, hg, hk⟩
  · subst h3
    exact ⟨[], ⟨a, cap, rfl, by simp, .inl rfl⟩, by simp⟩
  · have key : ∀ k : Fin len, ∃ y : Sp, (∃ kv av tav tkv, IntsIn (Old W.heap.size) W kv y.r.kids ∧ IntsIn (Old W.heap.size) W av y.r.attrs ∧ TrIn (Old W.heap.size) W y.n tav tkv ∧ ∀ j u, (spL y kv av tav tkv)[j]? = some u → W.cell? ⟨g, off + k * 14 + j, none⟩ = some u) ∧ SpOk y := fun k => by
      have hkl : (k : Nat) < el.length := by have := k.2; omega
      obtain ⟨cs, ht, hl, hc⟩ := hk k el[(k : Nat)] (List.getElem?_eq_getElem hkl)
      have hbe : Rows.uptoBulk (el[(k : Nat)]).1 ≤ Rows.uptoBulkAll (el.map (·.1)) := bulk_mem (List.mem_map.2 ⟨_, List.getElem_mem hkl, rfl⟩)
      obtain ⟨y, kv, av, tav, tkv, rfl, i1, i2, i3, ok⟩ := sp_cells ht (by omega)
      refine ⟨y, ⟨kv, av, tav, tkv, i1, i2, i3, fun j u hj => ?_⟩, ok⟩
      rw [hc j (by have := (List.getElem?_eq_some_iff.1 hj).1; simpa using this), hj]
    refine ⟨List.ofFn (fun k => Classical.choose (key k)), ⟨_, cap, by rw [List.length_ofFn], by rw [List.length_ofFn]; unfold maxLen at l2; omega, .inr ⟨g, off, rfl, hg, fun k y hy => ?_⟩⟩, fun y hy => ?_⟩
    · rw [List.getElem?_ofFn] at hy
      split at hy
      · rename_i hlt
        cases hy
        exact (Classical.choose_spec (key ⟨k, hlt⟩)).1
      · cases hy
    · obtain ⟨k, hk⟩ := List.getElem?_of_mem hy
      rw [List.getElem?_ofFn] at hk
      split at hk
      · rename_i hlt
        cases hk
        exact (Classical.choose_spec (key ⟨k, hlt⟩)).2
      · cases hk
end
end Go.Proofs.Ytinkjhkbaadbpaa
