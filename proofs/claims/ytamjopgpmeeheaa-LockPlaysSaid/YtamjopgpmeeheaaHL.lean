/- Holders (15). -/
import Derived.Test.YtamjopgpmeeheaaQU
import Derived.Test.YtamjopgpmeeheaaAN
import Derived.Test.YtamjopgpmeeheaaAL
namespace Go.Proofs.Ytamjopgpmeeheaa
open Go.RowKit
open Go.ChangeMaps (setBlock)
set_option linter.unusedVariables false

/-- rising numbers that are just the holders' are the holders' -/
theorem rise_keys {hs : List W2} (hr : Rise hs) {zs : List Int} (h1 : zs.Pairwise (· < ·)) (h2 : ∀ x, x ∈ zs ↔ (hF hs x).isSome) : zs = hs.map (·.1) := by
  have hp : (hs.map (·.1)).Pairwise (· < ·) := List.pairwise_map.2 hr
  have hm : ∀ x, x ∈ zs ↔ x ∈ hs.map (·.1) := fun x => by
    rw [h2]
    refine ⟨hF_keys x, fun hx => ?_⟩
    obtain ⟨e, he, rfl⟩ := List.mem_map.1 hx
    unfold hF
    rw [mem_findH hr he]; rfl
  have key : ∀ {l m : List Int}, l.Pairwise (· < ·) → m.Pairwise (· < ·) → (∀ x, x ∈ l ↔ x ∈ m) → l = m := fun {l} => by
    induction l with
    | nil =>
      intro m _ _ h
      cases m with
      | nil => rfl
      | cons a r => have := (h a).2 (by simp); cases this
    | cons a l ih =>
      intro m hl hm h
      cases m with
      | nil => have := (h a).1 (by simp); cases this
      | cons b m =>
        obtain ⟨l1, l2⟩ := List.pairwise_cons.1 hl
        obtain ⟨m1, m2⟩ := List.pairwise_cons.1 hm
        have hab : a = b := by
          have ha := (h a).1 (by simp)
          have hb := (h b).2 (by simp)
          rcases List.mem_cons.1 ha with e | ha
          · exact e
          · rcases List.mem_cons.1 hb with e | hb
            · exact e.symm
            · have := m1 a ha; have := l1 b hb; omega
        subst hab
        rw [ih l2 m2 (fun x => ?_)]
        have hx := h x
        simp only [List.mem_cons] at hx
        constructor
        · intro hxl
          have := l1 x hxl
          exact (hx.1 (.inr hxl)).resolve_left (by omega)
        · intro hxm
          have := m1 x hxm
          exact (hx.2 (.inr hxm)).resolve_left (by omega)
  exact key h1 hp hm

set_option maxRecDepth 100000 in
set_option maxHeartbeats 4000000 in
theorem holders_core {w : World} {s m : Nat} {hv : Value} {x1 : Value} {hs : List W2} (nd : Int) (c0 : w.cell? ⟨s, 0, none⟩ = some (.map (some m))) (hsl : s < w.heap.size) {qa : Option Addr} {qn qc : Nat} {ho : Option Nat} (hhv : hv = .map ho)
    (hlk : (Instr.lookup 49 (.map (some m)) (iv nd) false).run Try.prog w = .ok (.agg #[hv, .slice qa qn qc]) w)
    (hsort : ∀ w1, Below w.heap.size w w1 → Calls Try.prog 41 #[hv] w1 fun e w' => ∃ fv, e = .returned fv ∧ Below w1.heap.size w1 w' ∧ Calls Try.prog 40 #[fv] w' fun e w2 => (∃ v, e = .returned v ∧ IntsIn (fun k => w.heap.size ≤ k ∧ k < w2.heap.size) w2 v (hs.map (·.1))) ∧ Below w'.heap.size w' w2)
    (hval : ∀ w1, Below w.heap.size w w1 → ∀ x ∈ hs, (Instr.lookup 57 hv (iv x.1) false).run Try.prog w1 = .ok (iv x.2) w1) (hlen : hs.length ≤ 1000) :
    Calls Try.prog 15 #[.pointer (some ⟨s, 0, none⟩), iv nd] w fun e w' => (∃ v, e = .returned v ∧ TrisIn (fun k => w.heap.size ≤ k ∧ k < w'.heap.size) w' v (hs.map (fun x => (x.1, nd, x.2)))) ∧ Below w.heap.size w w' := by
  subst hhv
  obtain ⟨i0, hi, hz0, hz1, hz2⟩ := info_parts Try.info34
  have HNO := Lib.hid (none_any c0)
  have HS := Lib.hid hsort
  have HV := Lib.hid hval
  clear hsort hval
  have hb1 : Below w.heap.size w (w.alloc (.cells #[.map ho, .slice qa qn qc] 60)) := (Below.refl _ _).alloc (Nat.le_refl _) _
  go_enter Try.func15, Try.ntmps15
  go_wp2_with (go_at_call 27; refine HNO.out.mono ?_; rintro e w' ⟨rfl, rfl⟩)
  have h1 := HS.out _ hb1
  refine h1.mono ?_
  rintro e w2 ⟨fv, rfl, hb2, h2⟩
  have H2 := Lib.hid h2
  clear h1 h2
  go_wp2_with fail
  refine H2.out.mono ?_
  rintro e w3 ⟨⟨vz, rfl, hin⟩, hb3⟩
  obtain ⟨az, cz, rfl, -, -, hzc⟩ := hin
  have hs1 := hb1.size
  have hs2 := hb2.size
  have hs3 := hb3.size
  have hl1 : w.heap.size < (w.alloc (.cells #[.map ho, .slice qa qn qc] 60)).heap.size := by simp
  have hbw : Below w.heap.size w w3 := (hb1.trans (hb2.mono hs1)).trans (hb3.mono (Nat.le_trans hs1 hs2))
  have hbx : w3.cell? ⟨w.heap.size, 0, none⟩ = some (.map ho) := (hb3.cell (p := ⟨w.heap.size, 0, none⟩) (Nat.lt_of_lt_of_le hl1 hs2)).trans ((hb2.cell (p := ⟨w.heap.size, 0, none⟩) hl1).trans (cells2_new w (.map ho) (.slice qa qn qc) 60).1)
  have HBW := Lib.hid hbw
  have HBXC := Lib.hid hbx
  have hw3 : w.heap.size < w3.heap.size := by omega
  have HZC := Lib.hid hzc
  obtain ⟨nz, hnz⟩ : ∃ nz, (hs.map (·.1)).length = nz := ⟨_, rfl⟩
  have hnz' : hs.length = nz := by rw [← hnz]; simp
  rw [hnz]
  have HNZ := Lib.hid hnz'
  have hnzb : nz ≤ 1000 := by rw [← hnz']; exact hlen
  clear hb1 hb2 hb3 hs1 hs2 hs3 hl1 hbw hbx hzc hnz hnz'
  go_wp2_with fail
  go_loopw [6, 22] (fun v i wr => ∃ k : Nat, k ≤ nz ∧ i = .int .i64 k ∧ wr.ownsRow w3.heap.size 34 3 v k (flat3 ((hs.take k).map (fun x => (x.1, nd, x.2)))) ∧ Below w3.heap.size w3 wr) (fun v i _ => nz - (Lib.intOf i).toNat)
  case atStart => exact ⟨0, Nat.zero_le _, rfl, World.ownsRow_nil _ _ _ _, Below.refl _ _⟩
  case round =>
    obtain ⟨k, hk, rfl, hown, hbr⟩ := hrel
    have HBR := Lib.hid hbr
    have hsr := hbr.size
    obtain ⟨av, cv, rfl⟩ := own_form hown
    have HOWN := Lib.hid hown
    have x9 := (hbr.cell (p := ⟨w.heap.size, 0, none⟩) hw3).trans HBXC.out
    clear hbr hown
    by_cases hlt : k < nz
    · obtain ⟨⟨et, em⟩, he⟩ : ∃ e, hs[k]? = some e := ⟨_, List.getElem?_eq_getElem (by rw [HNZ.out]; exact hlt)⟩
      rcases HZC.out with h | ⟨g, off, rfl, hg, hc⟩
      · have := congrArg List.length h; simp [HNZ.out] at this; omega
      have d0 := (HBR.out.cell (p := ⟨g, off + k, none⟩) hg.2).trans (hc k et (by rw [List.getElem?_map, he]; rfl))
      have hlk2 := HV.out wr (HBW.out.trans (HBR.out.mono (Nat.le_of_lt hw3))) (et, em) (List.mem_of_getElem? he)
      have k0 : (0 : Int) ≤ (k : Int) := by omega
      have k1 : (k : Int) < (nz : Int) := by omega
      have HE := Lib.hid he
      simp only at hlk2
      clear hc he
      go_wp2_with (at_builtin; refine wpList_append_own_at _ rfl _ _ 31 rfl w3.heap.size 34 i0 (.agg #[.int .i64 0, .int .i64 0, .int .i64 0]) 3 24 Try.underlying31 hi hz0 hz1 hz2 rfl (by decide) _ _ _ rfl (ownsRow_alloc HOWN.out _) ⟨wr.heap.size, 0, none⟩ 1 1 [iv et, iv nd, iv em] rfl rfl (cells_new2 (xs := [iv et, iv nd, iv em])) (by simp [Value.oneCell']) (by unfold maxLen; omega) (by omega) (by simp; omega) ?_; intro v' w7 hown7 hgrow hnil hloc; obtain ⟨a7, n7, c7, rfl⟩ := slice_form hown7)
      go_roundw
      case rel =>
        refine ⟨k + 1, by omega, by go_num, ?_, ?_⟩
        · rw [List.take_add_one, HE.out, List.map_append]
          show w7.ownsRow _ _ _ _ _ (flat3 (_ ++ [(et, nd, em)]))
          rw [flat3_snoc]
          exact hown7
        · exact (HBR.out.alloc (by omega) _).trans ⟨hgrow.os, hgrow.tape, hgrow.output, hgrow.size, fun j hj => hgrow.block j (by simp; omega) (fun e => by have := (ownsRow_base HOWN.out e.symm).1; omega)⟩
      case measure => simp [Lib.intOf]; omega
    · obtain rfl : k = nz := by omega
      go_wp2
      go_ret
      have h := HOWN.out
      rw [← HNZ.out, List.take_length] at h
      exact ⟨⟨_, rfl, (trisIn_row (l := hs.map (fun x => (x.1, nd, x.2))) (by rw [List.length_map, HNZ.out]; rw [HNZ.out] at h; exact h)).mono (fun j hj => (by have := hj.1; exact ⟨by omega, hj.2⟩))⟩, HBW.out.trans (HBR.out.mono (Nat.le_of_lt hw3))⟩
end Go.Proofs.Ytamjopgpmeeheaa
