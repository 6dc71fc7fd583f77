/- Queue (11). -/
import Derived.Test.YtamjopgpmeeheaaSE
namespace Go.Proofs.Ytamjopgpmeeheaa
open Go.RowKit
open Go.ChangeMaps (setBlock)
set_option linter.unusedVariables false

theorem field60_1 (x0 : Option Nat) (a : Option Addr) (n ca : Nat) (w : World) : (Instr.field 60 (.agg #[.map x0, .slice a n ca]) 1).run Try.prog w = .ok (.slice a n ca) w := by kernel_rfl
set_option maxRecDepth 100000 in
set_option maxHeartbeats 4000000 in
theorem queue_any {M R : Nat → Prop} {w : World} {s m : Nat} {f : Int → Option Value} {T : Tb} {c : Nat} (h : TabF M R w s m f T c) (hM : ∀ k, M k → k < w.heap.size) (hR : ∀ k, R k → k < w.heap.size) (nd : Int) (hq : (T nd).q.length ≤ 1000) :
    Calls Try.prog 11 #[.pointer (some ⟨s, 0, none⟩), iv nd] w fun e w' => (∃ v, e = .returned v ∧ TrisIn (fun k => w.heap.size ≤ k ∧ k < w'.heap.size) w' v ((T nd).q.map (fun x => (x.1, nd, x.2)))) ∧ Below w.heap.size w w' := by
  obtain ⟨i0, hi, hz0, hz1, hz2⟩ := info_parts Try.info34
  have hms := hM _ h.ms
  have hmm := hM _ h.mm
  have c0 : w.cell? ⟨s, 0, none⟩ = some (.map (some m)) := by simp [World.cell?, h.cell]
  have HNO := Lib.hid (none_any c0)
  have hlk := h.map.look key3 Try.underlying49 Try.zero60 nd false
  simp only [Bool.false_eq_true, if_false] at hlk
  obtain ⟨x0, a, ca, hx0, hqin⟩ : ∃ (x0 : Option Nat) (a : Option Addr) (ca : Nat), (f nd).getD (.agg #[.map none, .slice none 0 0]) = .agg #[.map x0, .slice a (T nd).q.length ca] ∧ PairsIn R w (.slice a (T nd).q.length ca) (T nd).q := by
    cases hf : f nd with
    | none =>
      have := h.none nd hf
      rw [this]
      exact ⟨none, none, 0, rfl, pairsIn_nil _ _⟩
    | some v =>
      obtain ⟨hb, qv, rfl, -, -, -, -, hqin⟩ := h.node nd v hf
      obtain ⟨a, ca, rfl, -, -, -⟩ := id hqin
      exact ⟨_, a, ca, rfl, hqin⟩
  rw [hx0] at hlk
  obtain ⟨Q, hQ⟩ : ∃ Q, (T nd).q = Q := ⟨_, rfl⟩
  rw [hQ] at hlk hqin hq ⊢
  have HQ := Lib.hid hqin
  clear h hx0 hqin hQ
  have hfld := field60_1
  go_enter Try.func11, Try.ntmps11
  go_wp2_with (go_at_call 27; refine HNO.out.mono ?_; rintro e w' ⟨rfl, rfl⟩)
  go_loopw [5, 18] (fun v i wr => ∃ k : Nat, k ≤ Q.length ∧ i = .int .i64 k ∧ wr.ownsRow w.heap.size 34 3 v k (flat3 ((Q.take k).map (fun x => (x.1, nd, x.2)))) ∧ Below w.heap.size w wr) (fun v i _ => Q.length - (Lib.intOf i).toNat)
  case atStart => exact ⟨0, Nat.zero_le _, rfl, World.ownsRow_nil _ _ _ _, Below.refl _ _⟩
  case round =>
    obtain ⟨k, hk, rfl, hown, hbr⟩ := hrel
    have HBR := Lib.hid hbr
    have hsr := hbr.size
    obtain ⟨av, cv, rfl⟩ := own_form hown
    have HOWN := Lib.hid hown
    clear hbr hown
    by_cases hlt : k < Q.length
    · obtain ⟨e, he⟩ : ∃ e, Q[k]? = some e := ⟨_, List.getElem?_eq_getElem hlt⟩
      obtain ⟨a', ca', e', hq1, hq2, hqc⟩ := HQ.out
      obtain ⟨rfl, rfl⟩ : a = a' ∧ ca = ca' := by simpa using e'
      rcases hqc with h | ⟨g, off, rfl, hgR, hqc⟩
      · rw [h] at hlt; simp at hlt
      obtain ⟨d0, d1⟩ := hqc k e he
      have hgl := hR g hgR
      have y0 := (HBR.out.cell (p := ⟨g, off + k * 2, none⟩) hgl).trans d0
      have y1 := (HBR.out.cell (p := ⟨g, off + k * 2 + 1, none⟩) hgl).trans d1
      have k0 : (0 : Int) ≤ (k : Int) := by omega
      have k1 : (k : Int) < (Q.length : Int) := by omega
      have HE := Lib.hid he
      obtain ⟨et, em⟩ := e
      simp only at y0 y1
      clear e' hq1 hq2 hqc d0 d1 he
      go_wp2_with (at_builtin; refine wpList_append_own_at _ rfl _ _ 31 rfl w.heap.size 34 i0 (.agg #[.int .i64 0, .int .i64 0, .int .i64 0]) 3 24 Try.underlying31 hi hz0 hz1 hz2 rfl (by decide) _ _ _ rfl (ownsRow_alloc (ownsRow_alloc HOWN.out _) _) ⟨wr.heap.size + 1, 0, none⟩ 1 1 [iv et, iv nd, iv em] rfl rfl (by have := cells_new2 (w := wr.alloc (.cells #[.int .i64 et, .int .i64 em] 63)) (xs := [iv et, iv nd, iv em]) (t := 34); rw [World.size_alloc] at this; exact this) (by simp [Value.oneCell']) (by unfold maxLen; omega) (by omega) (by simp; omega) ?_; intro v' w7 hown7 hgrow hnil hloc; obtain ⟨a7, n7, c7, rfl⟩ := slice_form hown7)
      go_roundw
      case rel =>
        refine ⟨k + 1, by omega, by simp, ?_, ?_⟩
        · rw [List.take_add_one, HE.out, List.map_append]
          show w7.ownsRow _ _ _ _ _ (flat3 (_ ++ [(et, nd, em)]))
          rw [flat3_snoc]
          exact hown7
        · exact ((HBR.out.alloc (by omega) _).alloc (by simp; omega) _).trans ⟨hgrow.os, hgrow.tape, hgrow.output, hgrow.size, fun j hj => hgrow.block j (by simp; omega) (fun e => by have := (ownsRow_base HOWN.out e.symm).1; omega)⟩
      case measure => simp [Lib.intOf]; omega
    · obtain rfl : k = Q.length := by omega
      go_wp2
      go_ret
      have h := HOWN.out
      rw [List.take_length] at h
      exact ⟨⟨_, rfl, trisIn_row (l := Q.map (fun x => (x.1, nd, x.2))) (by rw [List.length_map]; exact h)⟩, HBR.out⟩
end Go.Proofs.Ytamjopgpmeeheaa
