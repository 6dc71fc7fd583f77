/- Few (18), few (72): whatever they answer, they return. -/
import Derived.Test.YtinkjhkbaadbpaaTR
namespace Go.Proofs.Ytinkjhkbaadbpaa
open Go.RowKit
set_option linter.unusedVariables false

def FewPost (l : Nat) (w : World) (e : Ending) (w' : World) : Prop :=
  ∃ (b : Bool) (left : Int), e = .returned (.bool b) ∧ w'.heap[l]? = some (.cells #[.int .i64 left] 3 (0, 0)) ∧ left ≤ 2000 ∧ (b = true → 0 ≤ left) ∧ Chg (fun k => k = l) w w'
def FewUpto (n : Nat) : Prop := ∀ (t : Tr) (F : Nat → Prop) (w : World) (l : Nat) (left : Int) (av kv : Value), TrIn F w t av kv → (∀ k, F k → k < w.heap.size ∧ k ≠ l) →
  w.heap[l]? = some (.cells #[.int .i64 left] 3 (0, 0)) → 0 ≤ left → left ≤ 2000 → n ≤ 30 → Calls Try.prog 72 #[trV t av kv, .int .i64 n, .pointer (some ⟨l, 0, none⟩)] w (FewPost l w)

set_option maxRecDepth 100000 in
set_option maxHeartbeats 4000000 in
theorem few_step (n : Nat) (ih : ∀ m, m + 1 = n → FewUpto m) : FewUpto n := by
  intro t F w l left av kv hT hF hl h0 h2 hn
  obtain ⟨kind, name, text, attrs, kids⟩ := t
  simp only [TrIn] at hT
  obtain ⟨hA, zs, hK, hKs⟩ := hT
  obtain ⟨a1, c1, rfl, hal, hac⟩ := hA
  obtain ⟨a2, c2, rfl, hkl, hkc⟩ := hK
  have hll : l < w.heap.size := (Array.getElem?_eq_some_iff.1 hl).1
  obtain ⟨W, hW⟩ : ∃ W, w.alloc (.cells #[.int .i64 kind, .string name, .string text, .slice a1 attrs.length c1, .slice a2 kids.length c2] 25) = W := ⟨_, rfl⟩
  have hbW : Below w.heap.size w W := by rw [← hW]; exact (Below.refl _ _).alloc (Nat.le_refl _) _
  have hsW : W.heap.size = w.heap.size + 1 := by rw [← hW]; simp
  have hx0 : W.heap[w.heap.size]? = some (.cells #[.int .i64 kind, .string name, .string text, .slice a1 attrs.length c1, .slice a2 kids.length c2] 25 (0, 0)) := by rw [← hW]; exact Go.heap_alloc_new _ _
  have hlW := (hbW.block l hll).trans hl
  have c0 : W.cell? ⟨l, 0, none⟩ = some (.int .i64 left) := by simp [World.cell?, hlW]
  have fl := free_block hlW 0
  have hw1 : (W.setCell ⟨l, 0, none⟩ (.int .i64 (left - 1))).heap[l]? = some (.cells #[.int .i64 (left - 1)] 3 (0, 0)) := by
    have := heap_setCell_same W l 0 _ _ (.int .i64 (left - 1)) hlW
    simpa using this
  have hch1 : Chg (fun k => k = l) w (W.setCell ⟨l, 0, none⟩ (.int .i64 (left - 1))) := (chg_new hbW).trans (chg_set (M := fun k => k = l) rfl 0 _)
  have HKS := Lib.hid hKs
  have HKC := Lib.hid hkc
  have HF := Lib.hid hF
  have HW := Lib.hid hW
  have HX0 := Lib.hid hx0
  have HW1 := Lib.hid hw1
  have HCH1 := Lib.hid hch1
  have HIH := Lib.hid ih
  have HSW := Lib.hid hsW
  clear hKs hac hkc hF hW hx0 hw1 hch1 ih hl hlW hbW hsW
  show Calls Try.prog 72 #[.agg #[.int .i64 kind, .string name, .string text, .slice a1 attrs.length c1, .slice a2 kids.length c2], .int .i64 n, .pointer (some ⟨l, 0, none⟩)] w _
  cases n with
  | zero =>
    go_enter Try.func72, Try.ntmps72
    go_upto_region 1 with fail
    rw [HW.out]
    go_wp2
    go_ret
    exact ⟨false, left - 1, rfl, HW1.out, by omega, fun h => (by cases h), HCH1.out⟩
  | succ n =>
    by_cases hz : left - 1 < 0
    · have hn0 : ¬ ((n : Int) + 1 = 0) := by omega
      go_enter Try.func72, Try.ntmps72
      go_upto_region 1 with fail
      rw [HW.out]
      go_wp2
      go_ret
      exact ⟨false, left - 1, rfl, HW1.out, by omega, fun h => (by cases h), HCH1.out⟩
    · have hn0 : ¬ ((n : Int) + 1 = 0) := by omega
      go_enter Try.func72, Try.ntmps72
      go_upto_region 1 with fail
      rw [HW.out]
      go_wp2_with fail
      obtain ⟨w1, hw1e⟩ : ∃ w1, W.setCell ⟨l, 0, none⟩ (.int .i64 (left - 1)) = w1 := ⟨_, rfl⟩
      have hs1 : w1.heap.size = w.heap.size + 1 := by rw [← hw1e, ← HSW.out]; simp [World.setCell]
      have hx1 : w1.heap[w.heap.size]? = some (.cells #[.int .i64 kind, .string name, .string text, .slice a1 attrs.length c1, .slice a2 kids.length c2] 25 (0, 0)) := by
        rw [← hw1e]; exact (heap_setCell_other _ _ _ _ (show w.heap.size ≠ l by omega)).trans HX0.out
      rw [hw1e] at HW1 HCH1
      rw [hw1e]
      have HX1 := Lib.hid hx1
      have HS1 := Lib.hid hs1
      clear hx1 hw1e hs1 c0 fl
      go_loopw [7] (fun i wr => ∃ k : Nat, k ≤ kids.length ∧ i = .int .i64 k ∧ ∃ lf : Int, wr.heap[l]? = some (.cells #[.int .i64 lf] 3 (0, 0)) ∧ 0 ≤ lf ∧ lf ≤ 2000 ∧ Chg (fun k => k = l) w1 wr) (fun i _ => kids.length - (Lib.intOf i).toNat)
      case atStart => exact ⟨0, Nat.zero_le _, rfl, left - 1, HW1.out, by omega, by omega, Chg.refl _ _⟩
      case round =>
        obtain ⟨k, hk, rfl, lf, hlf, hlf0, hlf2, hcr⟩ := hrel
        have hsr := hcr.size
        have hxr := (hcr.block w.heap.size (by have := HS1.out; omega) (by omega)).trans HX1.out
        have g4 : wr.cell? ⟨w.heap.size, 4, none⟩ = some (.slice a2 kids.length c2) := by simp [World.cell?, hxr]
        have HLF := Lib.hid hlf
        have HCR := Lib.hid hcr
        have hslt : w.heap.size < wr.heap.size := by have := HS1.out; omega
        clear hxr
        by_cases hlt : k < kids.length
        · obtain ⟨tk, htk⟩ : ∃ tk, kids[k]? = some tk := ⟨_, List.getElem?_eq_getElem hlt⟩
          obtain ⟨gb, offb, rfl, hFb, hcb⟩ : ∃ g off, a2 = some ⟨g, off, none⟩ ∧ F g ∧ ∀ j u, zs[j]? = some u → w.cell? ⟨g, off + j, none⟩ = some u := by
            rcases HKC.out with h | h
            · omega
            · exact h
          obtain ⟨avk, kvk, hTk, hck⟩ := HKS.out.get k tk htk
          obtain ⟨tkind, tname, ttext, tattrs, tkids⟩ := tk
          have hTk2 := hTk
          simp only [TrIn] at hTk2
          obtain ⟨⟨ak, ck1, rfl, -, -⟩, zk, ⟨bk, ck2, rfl, -, -⟩, -⟩ := hTk2
          have hkF : Keeps F w wr := fun j hj => by
            have h9 := HF.out j hj
            rw [hcr.block j (by have := HS1.out; omega) h9.2, HCH1.out.block j h9.1 h9.2]
          have hcell : ∀ c u, c < 5 → (trL (Tr.mk tkind tname ttext tattrs tkids) (.slice ak tattrs.length ck1) (.slice bk tkids.length ck2))[c]? = some u → wr.cell? ⟨gb, offb + k * 5 + c, none⟩ = some u := fun c u hc hu => by
            rw [Nat.add_assoc]
            exact (World.cell?_of_block (a := ⟨gb, offb + (k * 5 + c), none⟩) (hkF gb hFb)).trans (hcb _ _ ((hck c hc).trans hu))
          have u0 : wr.cell? ⟨gb, offb + k * 5, none⟩ = some (.int .i64 tkind) := hcell 0 _ (by omega) rfl
          have u1 : wr.cell? ⟨gb, offb + k * 5 + 1, none⟩ = some (.string tname) := hcell 1 _ (by omega) rfl
          have u2 : wr.cell? ⟨gb, offb + k * 5 + 2, none⟩ = some (.string ttext) := hcell 2 _ (by omega) rfl
          have u3 : wr.cell? ⟨gb, offb + k * 5 + 3, none⟩ = some (.slice ak tattrs.length ck1) := hcell 3 _ (by omega) rfl
          have u4 : wr.cell? ⟨gb, offb + k * 5 + 4, none⟩ = some (.slice bk tkids.length ck2) := hcell 4 _ (by omega) rfl
          have HIK := Lib.hid (HIH.out n rfl (Tr.mk tkind tname ttext tattrs tkids) F wr l lf (.slice ak tattrs.length ck1) (.slice bk tkids.length ck2) (TrIn.keep hkF (fun _ h => h) _ _ _ hTk) (fun j hj => by have h9 := HF.out j hj; exact ⟨by omega, h9.2⟩) hlf hlf0 hlf2 (by omega))
          have hk0 : (0 : Int) ≤ k := by omega
          have hkl2 : (k : Int) < kids.length := by omega
          have hnn : (n : Int) + 1 - 1 = n := by omega
          clear hlf hcr hTk hck hcb hcell hkF htk
          go_wp2_with fail
          refine HIK.out.mono ?_
          rintro e w6 ⟨b, lf2, rfl, hl6, h26, h06, hc6⟩
          have HL6 := Lib.hid hl6
          have H06 := Lib.hid h06
          have HC6 := Lib.hid (HCR.out.trans hc6)
          clear hl6 h06 hc6 u0 u1 u2 u3 u4 g4
          cases b with
          | false =>
            go_wp2
            go_ret
            exact ⟨false, lf2, rfl, HL6.out, h26, fun h => (by cases h), HCH1.out.trans HC6.out⟩
          | true =>
            have h7 := H06.out rfl
            go_wp2_with fail
            go_roundw
            case rel => exact ⟨k + 1, by omega, by go_num, lf2, HL6.out, h7, h26, HC6.out⟩
            case measure => simp [Lib.intOf]; omega
        · clear hlf hcr
          go_wp2
          go_ret
          exact ⟨true, lf, rfl, HLF.out, hlf2, fun _ => hlf0, HCH1.out.trans HCR.out⟩
theorem few_upto : ∀ n, FewUpto n
  | 0 => few_step 0 (fun m h => by omega)
  | n + 1 => few_step (n + 1) (fun m h => by
    have e : m = n := by omega
    rw [e]; exact few_upto n)
set_option maxRecDepth 100000 in
theorem few_any {t : Tr} {F : Nat → Prop} {w : World} {av kv : Value} (hT : TrIn F w t av kv) (hF : ∀ k, F k → k < w.heap.size) :
    Calls Try.prog 18 #[trV t av kv] w fun e w' => (∃ b, e = .returned (.bool b)) ∧ Below w.heap.size w w' := by
  obtain ⟨kind, name, text, attrs, kids⟩ := t
  have hT2 := hT
  simp only [TrIn] at hT2
  obtain ⟨⟨a1, c1, rfl, -, -⟩, zs, ⟨a2, c2, rfl, -, -⟩, -⟩ := hT2
  obtain ⟨W, hW⟩ : ∃ W, w.alloc (.cells #[.int .i64 kind, .string name, .string text, .slice a1 attrs.length c1, .slice a2 kids.length c2] 25) = W := ⟨_, rfl⟩
  have hbW : Below w.heap.size w W := by rw [← hW]; exact (Below.refl _ _).alloc (Nat.le_refl _) _
  have hsW : W.heap.size = w.heap.size + 1 := by rw [← hW]; simp
  have hx0 : W.heap[w.heap.size]? = some (.cells #[.int .i64 kind, .string name, .string text, .slice a1 attrs.length c1, .slice a2 kids.length c2] 25 (0, 0)) := by rw [← hW]; exact Go.heap_alloc_new _ _
  obtain ⟨W2, hW2⟩ : ∃ W2, W.alloc (.cells #[.int .i64 2000] 3) = W2 := ⟨_, rfl⟩
  have hb2 : Below W.heap.size W W2 := by rw [← hW2]; exact (Below.refl _ _).alloc (Nat.le_refl _) _
  have hl2 : W2.heap[w.heap.size + 1]? = some (.cells #[.int .i64 2000] 3 (0, 0)) := by rw [← hsW, ← hW2]; exact Go.heap_alloc_new _ _
  have hx2 := (hb2.block w.heap.size (by omega)).trans hx0
  obtain ⟨x0, x1, x2, x3, x4⟩ : W2.cell? ⟨w.heap.size, 0, none⟩ = some (.int .i64 kind) ∧ W2.cell? ⟨w.heap.size, 1, none⟩ = some (.string name) ∧ W2.cell? ⟨w.heap.size, 2, none⟩ = some (.string text) ∧ W2.cell? ⟨w.heap.size, 3, none⟩ = some (.slice a1 attrs.length c1) ∧ W2.cell? ⟨w.heap.size, 4, none⟩ = some (.slice a2 kids.length c2) := by
    refine ⟨?_, ?_, ?_, ?_, ?_⟩ <;> simp [World.cell?, hx2]
  have hbB := hbW.trans (hb2.mono hbW.size)
  have HFW := Lib.hid (few_upto 30 (Tr.mk kind name text attrs kids) F W2 (w.heap.size + 1) 2000 (.slice a1 attrs.length c1) (.slice a2 kids.length c2) (TrIn.keep (fun k hk => hbB.block k (hF k hk)) (fun _ h => h) _ _ _ hT) (fun k hk => by have := hF k hk; have := hbB.size; exact ⟨by omega, by omega⟩) hl2 (by omega) (by omega) (by omega))
  have HW := Lib.hid hW
  have HW2 := Lib.hid hW2
  have HBB := Lib.hid hbB
  clear hT hF hW hbW hsW hx0 hW2 hb2 hl2 hx2 hbB
  show Calls Try.prog 18 #[.agg #[.int .i64 kind, .string name, .string text, .slice a1 attrs.length c1, .slice a2 kids.length c2]] w _
  go_enter Try.func18, Try.ntmps18
  go_upto_region 2 with fail
  rw [HW.out, HW2.out]
  go_wp2_with fail
  refine HFW.out.mono ?_
  rintro e w3 ⟨b, lf, rfl, -, -, -, hc⟩
  go_wp2
  go_ret
  have hc2 := (chg_new (M := New w.heap.size) HBB.out).trans (hc.mono (fun k hk => by rw [hk]; exact Nat.le_succ _))
  exact ⟨⟨_, rfl⟩, below_of_chg hc2⟩
end Go.Proofs.Ytinkjhkbaadbpaa
