/- The document's Ids. -/
import Derived.Test.YtinkjhkbaadbpaaPV
namespace Go.Proofs.Ytinkjhkbaadbpaa
open Go.RowKit
set_option linter.unusedVariables false

set_option maxRecDepth 100000 in
set_option maxHeartbeats 4000000 in
theorem docIds_any {R D : Nat → Prop} {w : World} {q : Value} {d : Doc} (h : DocIn R D w q d) (hR : ∀ k, R k → k < w.heap.size) (hD : ∀ k, D k → k < w.heap.size) (hl : d.L.length ≤ 1000000000) (hg0 : 0 ≤ d.given) (hg : d.given ≤ 1099511627776) :
    Calls Try.prog 44 #[q] w fun e w' => (∃ zs v, e = .returned v ∧ IntsIn (fun k => w.heap.size ≤ k ∧ k < w'.heap.size) w' v zs ∧ zs.Pairwise (· < ·) ∧ ∀ id, id ∈ zs ↔ (1 ≤ id ∧ id ≤ d.given) ∧ d.N id ≠ []) ∧ Below w.heap.size w w' := by
  have hkeep := fun (w' : World) (hb : Below w.heap.size w w') (id : Int) => docVersions_any (h.keep (w' := w') ((keeps_below hb).mono hR) ((keeps_below hb).mono hD)) (fun k hk => Nat.lt_of_lt_of_le (hD k hk) hb.size) id hl
  obtain ⟨s, a, cap, rfl, -, hb, -⟩ := h.read
  obtain ⟨i0, hi, hz0, hz1, hz2⟩ := info_parts Try.info3
  have hslt : s < w.heap.size := (Array.getElem?_eq_some_iff.1 hb).1
  have c1 : w.cell? ⟨s, 1, none⟩ = some (iv d.given) := by simp [World.cell?, hb]
  have HKP := Lib.hid hkeep
  clear h hb hR hD hkeep
  go_enter Try.func44, Try.ntmps44
  go_wp2
  go_loopw [3, 4] (fun v i wr => ∃ (id : Int) (zs : List Int), 1 ≤ id ∧ id ≤ d.given + 1 ∧ i = .int .i64 id ∧ wr.ownsRow w.heap.size 3 1 v zs.length (zs.map iv) ∧ zs.Pairwise (· < ·) ∧ (∀ x, x ∈ zs ↔ (1 ≤ x ∧ x < id) ∧ d.N x ≠ []) ∧ Below w.heap.size w wr) (fun _ i _ => (d.given + 1 - Lib.intOf i).toNat)
  case atStart => exact ⟨1, [], by omega, by omega, rfl, World.ownsRow_nil _ _ _ _, List.Pairwise.nil, fun x => by simp; intro h1 h2; omega, Below.refl _ _⟩
  case round =>
    obtain ⟨id, zs, h1, h2, rfl, hown, hpw, hmem, hbel⟩ := hrel
    have c1' : wr.cell? ⟨s, 1, none⟩ = some (iv d.given) := (hbel.cell (p := ⟨s, 1, none⟩) hslt).trans c1
    have hlen : (zs.length : Int) ≤ d.given := by
      have := rising_bound (a := 1) (b := d.given) hpw (fun x hx => by have := ((hmem x).1 hx).1; omega)
      omega
    have HOWN := Lib.hid hown
    have HPW := Lib.hid hpw
    have HMEM := Lib.hid hmem
    have HBEL := Lib.hid hbel
    clear hown hpw hmem hbel
    by_cases hlt : id ≤ d.given
    · by_cases hN : d.N id = []
      · have HV := Lib.hid (HKP.out wr HBEL.out id)
        have HN := Lib.hid hN
        rw [hN] at HV
        clear hN
        go_wp2_with ((go_at_call 47; refine HV.out.mono ?_; rintro e w2 ⟨⟨v, rfl, hvi⟩, hb2⟩; obtain ⟨va, vc, rfl, -, -⟩ := hvi; simp only [List.length_nil]))
        go_roundw
        case rel =>
          refine ⟨id + 1, zs, by omega, by omega, by go_num, ownsRow_keeps HOWN.out (fun g hg => hb2.block g (ownsRow_base HOWN.out hg).2), HPW.out, fun x => ?_, HBEL.out.trans (hb2.mono HBEL.out.size)⟩
          rw [HMEM.out x]
          refine ⟨fun ⟨h, h'⟩ => ⟨⟨h.1, by omega⟩, h'⟩, fun ⟨h, h'⟩ => ⟨⟨h.1, ?_⟩, h'⟩⟩
          have : x ≠ id := by rintro rfl; exact h' HN.out
          omega
        case measure => simp [Lib.intOf]; omega
      · have HV := Lib.hid (HKP.out wr HBEL.out id)
        have HN := Lib.hid hN
        have hpos : 0 < (d.N id).length := List.length_pos_iff.2 hN
        clear hN
        generalize d.N id = vs at HV hpos
        go_wp2_with (first
          | (go_at_call 47; refine HV.out.mono ?_; rintro e w2 ⟨⟨v, rfl, hvi⟩, hb2⟩; obtain ⟨va, vc, rfl, -, -⟩ := hvi; have hown2 := ownsRow_alloc (ownsRow_keeps HOWN.out (fun g hg => hb2.block g (ownsRow_base HOWN.out hg).2)) (.cells #[iv id] 3); have HOWN2 := Lib.hid hown2; clear hown2)
          | (at_builtin; refine wpList_append_own_at _ rfl _ _ 33 rfl w.heap.size 3 i0 (.int .i64 0) 1 8 Try.underlying33 hi hz0 hz1 hz2 rfl (by decide) _ _ _ rfl HOWN2.out ⟨w2.heap.size, 0, none⟩ 1 1 [iv id] rfl rfl (cell_one_new _ _ _) (by simp [Value.oneCell']) (by unfold maxLen; omega) (by omega) (by have h1 := HBEL.out.size; have h2 := hb2.size; simp; omega) ?_; intro v' w3 hown3 hgrow hnil hloc))
        go_roundw
        case rel =>
          obtain ⟨-, hb3⟩ := keeps_grown (D := fun _ => False) (wr := w2) (fun k h => h.elim) ((Below.refl _ _).alloc (Nat.le_refl _) _) (HBEL.out.trans (hb2.mono HBEL.out.size)) (fun k h => (ownsRow_base HOWN.out h).1) hgrow
          refine ⟨id + 1, zs ++ [id], by omega, by omega, by go_num, by simpa using hown3, ?_, fun x => ?_, hb3⟩
          · rw [List.pairwise_append]
            refine ⟨HPW.out, by simp, fun x hx y hy => ?_⟩
            simp at hy; subst hy
            exact ((HMEM.out x).1 hx).1.2
          · rw [List.mem_append, HMEM.out x]
            simp only [List.mem_singleton]
            constructor
            · rintro (⟨h, h'⟩ | rfl)
              · exact ⟨⟨h.1, by omega⟩, h'⟩
              · exact ⟨⟨h1, by omega⟩, HN.out⟩
            · rintro ⟨h, h'⟩
              by_cases e : x = id
              · exact .inr e
              · exact .inl ⟨⟨h.1, by omega⟩, h'⟩
        case measure => simp [Lib.intOf]; omega
    · obtain rfl : id = d.given + 1 := by omega
      go_wp2
      go_ret
      refine ⟨⟨zs, _, rfl, (intsIn_row HOWN.out).bound, HPW.out, fun x => ?_⟩, HBEL.out⟩
      rw [HMEM.out x]
      constructor
      · rintro ⟨h, h'⟩; exact ⟨⟨h.1, by omega⟩, h'⟩
      · rintro ⟨h, h'⟩; exact ⟨⟨h.1, by omega⟩, h'⟩
end Go.Proofs.Ytinkjhkbaadbpaa
