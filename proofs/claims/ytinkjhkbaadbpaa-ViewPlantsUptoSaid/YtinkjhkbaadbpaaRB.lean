/- The reference's All (58), Below (79). -/
import Derived.Test.YtinkjhkbaadbpaaGO
import Derived.Test.YtinkjhkbaadbpaaRD
namespace Go.Proofs.Ytinkjhkbaadbpaa
open Go.RowKit
set_option linter.unusedVariables false

def allF (g : Int → Option Rec) (K : Nat) : List Int := (goF g K 1).map (·.1)
def belowF (g : Int → Option Rec) (K : Nat) (id : Int) : List Int := ((goF g K id).filter (fun p => decide (p.1 ≠ id) && !p.2)).map (·.1)
theorem attrsOf_mem {acc : List (Int × Bool)} (hn : (acc.map (·.1)).Nodup) {x : Int} {b : Bool} (h : (x, b) ∈ acc) : x ∈ attrsOf acc ↔ b = true := by
  unfold attrsOf
  constructor
  · intro hx
    obtain ⟨⟨x', b'⟩, h1, h2⟩ := List.mem_map.1 hx
    obtain ⟨h3, h4⟩ := List.mem_filter.1 h1
    simp at h2 h4
    subst h2
    have : (x', b) = (x', b') := by
      obtain ⟨i, hi⟩ := List.mem_iff_getElem?.1 h
      obtain ⟨j, hj⟩ := List.mem_iff_getElem?.1 h3
      have hp : (acc.map (·.1)).Pairwise (· ≠ ·) := hn
      have hil := (List.getElem?_eq_some_iff.1 hi).1
      have hjl := (List.getElem?_eq_some_iff.1 hj).1
      rw [List.pairwise_iff_getElem] at hp
      rcases Nat.lt_trichotomy i j with hij | hij | hij
      · exfalso
        refine hp i j (by simpa using hil) (by simpa using hjl) hij ?_
        simp [(List.getElem?_eq_some_iff.1 hi).2, (List.getElem?_eq_some_iff.1 hj).2]
      · subst hij; rw [hi] at hj; cases hj; rfl
      · exfalso
        refine hp j i (by simpa using hjl) (by simpa using hil) hij ?_
        simp [(List.getElem?_eq_some_iff.1 hi).2, (List.getElem?_eq_some_iff.1 hj).2]
    cases this
    exact h4
  · rintro rfl
    exact List.mem_map.2 ⟨(x, true), List.mem_filter.2 ⟨h, rfl⟩, rfl⟩
/-- what Go leaves in a new Way -/
theorem rgo_new {w : World} {v : Nat} {g : Int → Option Rec} {keys : List Int} (hR : ReadsN 76 w v g) (hk : KeysOf g keys) (hkl : keys.length ≤ 1000000000) (id : Int) :
    Calls Try.prog 97 #[ptr v, iv id, .bool false, ptr w.heap.size] (w.alloc (.cells #[.slice none 0 0, .slice none 0 0] 158)) fun e w' => e = .returned (.tuple #[]) ∧ (∃ B', WayIn B' w' w.heap.size (goF g (keys.length + 1) id) ∧ ∀ k, B' k → w.heap.size < k ∧ k < w'.heap.size) ∧ Below w.heap.size w w' ∧ w.heap.size < w'.heap.size := by
  have hb : Below w.heap.size w (w.alloc (.cells #[.slice none 0 0, .slice none 0 0] 158)) := (Below.refl _ _).alloc (Nat.le_refl _) _
  refine (rgo_upto hR hk hkl (keys.length + 1) (fun _ => False) _ w.heap.size id false [] hb (Nat.le_refl _) (by simp) (fun k h => h.elim) ⟨.slice none 0 0, .slice none 0 0, Go.heap_alloc_new _ _, World.ownsRow_nil _ _ _ _, World.ownsRow_nil _ _ _ _, fun q h => (by cases h), fun q h => (by cases h), fun q h => (by cases h)⟩ (GoInv.nil _) (by simp)).mono ?_
  rintro e w' ⟨he, ⟨B', hw, hB⟩, hc⟩
  have hs := hc.size
  simp only [World.size_alloc] at hs
  refine ⟨he, ⟨B', hw, fun k hk => (hB k hk).elim (fun h => h.elim) (fun h => ⟨by have := h.1; simp at this; omega, h.2⟩)⟩, ?_, by omega⟩
  exact below_of_chg ((chg_new (M := New w.heap.size) hb).trans (hc.mono (fun k h => h.elim (fun e => by rw [e]; exact Nat.le_refl _) (fun h => h.elim))))
set_option maxRecDepth 100000 in
theorem rall_any {w : World} {v : Nat} {g : Int → Option Rec} {keys : List Int} (hR : ReadsN 76 w v g) (hk : KeysOf g keys) (hkl : keys.length ≤ 1000000000) :
    Calls Try.prog 58 #[ptr v] w (AxPost w (allF g (keys.length + 1))) := by
  have HG := Lib.hid (rgo_new hR hk hkl 1)
  obtain ⟨acc, hacc⟩ : ∃ acc, goF g (keys.length + 1) 1 = acc := ⟨_, rfl⟩
  have hall : allF g (keys.length + 1) = acc.map (·.1) := by unfold allF; rw [hacc]
  rw [hacc] at HG
  rw [hall]
  clear hR hk hacc hall
  go_enter Try.func58, Try.ntmps58
  go_wp2_with fail
  refine HG.out.mono ?_
  rintro e w2 ⟨rfl, ⟨B', ⟨sA, sT, hy, hA, hT, -, -, -⟩, -⟩, hb, hl⟩
  obtain ⟨aA, cA, rfl⟩ := ownsRow_shape hA
  obtain ⟨aT, cT, rfl⟩ := ownsRow_shape hT
  have q0 : w2.cell? ⟨w.heap.size, 0, none⟩ = some (.slice aA acc.length cA) := by simp [World.cell?, hy]
  have hA2 : w2.ownsRow 0 3 1 (.slice aA acc.length cA) (acc.map (·.1)).length ((acc.map (·.1)).map iv) := by
    rw [List.map_map, List.length_map]; exact hA
  have HI := Lib.hid (intsIn_row hA2).old
  have HB := Lib.hid hb
  clear hy hA hT hb hA2
  go_wp2
  go_ret
  exact ⟨⟨_, rfl, HI.out⟩, HB.out⟩
set_option maxRecDepth 100000 in
set_option maxHeartbeats 4000000 in
theorem rbelow_any {w : World} {v : Nat} {g : Int → Option Rec} {keys : List Int} (hR : ReadsN 76 w v g) (hk : KeysOf g keys) (hkl : keys.length ≤ 1000000000) (id : Int) :
    Calls Try.prog 79 #[ptr v, iv id] w (AxPost w (belowF g (keys.length + 1) id)) := by
  obtain ⟨i0, hi, hz0, hz1, hz2⟩ := info_parts Try.info3
  have HG := Lib.hid (rgo_new hR hk hkl id)
  have hinv := goS_inv hk (keys.length + 1) id false [] (GoInv.nil keys)
  obtain ⟨acc, hacc⟩ : ∃ acc, goF g (keys.length + 1) id = acc := ⟨_, rfl⟩
  have hbel : belowF g (keys.length + 1) id = (acc.filter (fun p => decide (p.1 ≠ id) && !p.2)).map (·.1) := by unfold belowF; rw [hacc]
  rw [hacc] at HG
  rw [show goS g (keys.length + 1) id false [] = acc from hacc] at hinv
  rw [hbel]
  have hlen := hinv.len
  have HINV := Lib.hid hinv
  clear hR hk hacc hbel hinv
  go_enter Try.func79, Try.ntmps79
  go_wp2_with fail
  refine HG.out.mono ?_
  rintro e w2 ⟨rfl, ⟨B', ⟨sA, sT, hy, hA, hT, -, -, -⟩, hB'⟩, hb, hl⟩
  obtain ⟨aA, cA, rfl⟩ := ownsRow_shape hA
  obtain ⟨aT, cT, rfl⟩ := ownsRow_shape hT
  have hA2 : w2.ownsRow 0 3 1 (.slice aA acc.length cA) (acc.map (·.1)).length ((acc.map (·.1)).map iv) := by
    rw [List.map_map, List.length_map]; exact hA
  have hIA := (intsIn_row hA2).old
  have hIT := (intsIn_row hT).old
  have HIA := Lib.hid hIA
  have HIT := Lib.hid hIT
  have HY := Lib.hid hy
  have HB := Lib.hid hb
  clear hy hA hT hb hA2 hB' hIA hIT
  go_wp2_with fail
  go_loopw [6, 7] (fun u i wr => ∃ k : Nat, k ≤ acc.length ∧ i = .int .i64 k ∧ wr.ownsRow w2.heap.size 3 1 u ((acc.take k).filter (fun p => decide (p.1 ≠ id) && !p.2)).length ((((acc.take k).filter (fun p => decide (p.1 ≠ id) && !p.2)).map (·.1)).map iv) ∧ Below w2.heap.size w2 wr) (fun _ i _ => acc.length - (intOf i).toNat)
  case atStart => exact ⟨0, Nat.zero_le _, rfl, World.ownsRow_nil _ _ _ _, Below.refl _ _⟩
  case round =>
    obtain ⟨k, hk, rfl, hown, hbr⟩ := hrel
    obtain ⟨au, cu, rfl⟩ := ownsRow_shape hown
    have hyr := (hbr.block w.heap.size hl).trans HY.out
    obtain ⟨q0, q1⟩ : wr.cell? ⟨w.heap.size, 0, none⟩ = some (.slice aA acc.length cA) ∧ wr.cell? ⟨w.heap.size, 1, none⟩ = some (.slice aT (attrsOf acc).length cT) := by constructor <;> simp [World.cell?, hyr]
    have hsr := hbr.size
    have HOWN := Lib.hid hown
    have HBR := Lib.hid hbr
    have hlu := List.length_filter_le (fun p : Int × Bool => decide (p.1 ≠ id) && !p.2) (acc.take k)
    rw [List.length_take, Nat.min_eq_left hk] at hlu
    by_cases hlt : k < acc.length
    · obtain ⟨⟨x, b⟩, hxk⟩ : ∃ x, acc[k]? = some x := ⟨_, List.getElem?_eq_getElem hlt⟩
      have hmem := List.mem_of_getElem? hxk
      have hxk2 : (acc.map (·.1))[k]? = some x := by simp [hxk]
      obtain ⟨a0, cp0, e0, -, -, hx0⟩ := HIA.out.keep (keeps_below hbr)
      rw [List.length_map] at e0
      cases e0
      obtain ⟨ga, offa, rfl, hga, hca⟩ : ∃ g off, aA = some ⟨g, off, none⟩ ∧ Old w2.heap.size g ∧ ∀ j x, (acc.map (·.1))[j]? = some x → wr.cell? ⟨g, off + j, none⟩ = some (.int .i64 x) := by
        rcases hx0 with h | h
        · have := congrArg List.length h; rw [List.length_map] at this; simp at this; rw [this] at hlt; simp at hlt
        · exact h
      have u0 := hca k x hxk2
      have hk0 : (0 : Int) ≤ k := by omega
      have hkl2 : (k : Int) < acc.length := by omega
      have htk : (acc.take (k + 1)).filter (fun p => decide (p.1 ≠ id) && !p.2) = (acc.take k).filter (fun p => decide (p.1 ≠ id) && !p.2) ++ (if (decide (x ≠ id) && !b) = true then [(x, b)] else []) := by
        rw [List.take_add_one, hxk, Option.toList_some, List.filter_append, List.filter_cons, List.filter_nil]
      obtain ⟨cur, hcur⟩ : ∃ cur, (acc.take k).filter (fun p => decide (p.1 ≠ id) && !p.2) = cur := ⟨_, rfl⟩
      rw [hcur] at htk hlu HOWN ⊢
      have HTK := Lib.hid htk
      have hhas : ∀ W, Below w2.heap.size w2 W → Calls Try.prog 30 #[.slice aT (attrsOf acc).length cT, .int .i64 x] W fun e w' => e = .returned (.bool b) ∧ W = w' := fun W hW => by
        have h9 := rhas_any (attrsOf acc) _ (.slice aT (attrsOf acc).length cT) x W (HIT.out.later hW)
        have hd : decide (x ∈ attrsOf acc) = b := by
          have := attrsOf_mem HINV.out.1 hmem
          cases b
          · exact decide_eq_false (fun h => by have := this.1 h; cases this)
          · exact decide_eq_true (this.2 rfl)
        rw [hd] at h9
        exact h9
      have HHAS := Lib.hid hhas
      clear hown hbr hyr hx0 hca hxk hxk2 hmem htk hcur hhas
      by_cases hxi : x = id
      · have hne : (x != id) = false := by simpa using hxi
        have HXI := Lib.hid hxi
        clear hxi
        go_wp2_with fail
        go_quiet (fail)
        go_wp2
        go_roundw
        case rel => exact ⟨k + 1, by omega, by go_num, by rw [HTK.out, if_neg (by simp [HXI.out]), List.append_nil]; exact ownsRow_keeps HOWN.out (fun _ _ => rfl), below_drewN HBR.out _⟩
        case measure => simp [intOf]; omega
      · have hne : (x != id) = true := by simpa using hxi
        have HXI := Lib.hid hxi
        clear hxi
        cases b with
        | true =>
          go_wp2_with fail
          go_quiet ((go_at_call 30; refine Calls.quiet_of_same ((HHAS.out _ (below_drewN HBR.out _)).mono (fun e w' h => ⟨h.1, h.2.symm⟩))))
          go_wp2
          go_roundw
          case rel => exact ⟨k + 1, by omega, by go_num, by rw [HTK.out, if_neg (by simp), List.append_nil]; exact ownsRow_keeps HOWN.out (fun _ _ => rfl), below_drewN HBR.out _⟩
          case measure => simp [intOf]; omega
        | false =>
          go_wp2_with fail
          go_quiet ((go_at_call 30; refine Calls.quiet_of_same ((HHAS.out _ (below_drewN HBR.out _)).mono (fun e w' h => ⟨h.1, h.2.symm⟩))))
          have HO2 := Lib.hid (ownsRow_keeps (w' := wr.drewN nq) HOWN.out (fun _ _ => rfl))
          have HBD := Lib.hid (below_drewN HBR.out nq)
          go_wp2_with (at_builtin; refine wpList_append_own_at _ rfl _ _ 33 rfl w2.heap.size 3 i0 (.int .i64 0) 1 8 Try.underlying33 hi hz0 hz1 hz2 rfl (by decide) _ _ _ rfl (ownsRow_alloc HO2.out _) ⟨wr.heap.size, 0, none⟩ 1 1 [iv x] rfl rfl (cell_one_new _ _ _) (by simp [Value.oneCell']) (by unfold maxLen; omega) (by omega) (by simp [World.drewN]; omega) ?_; intro v' w8 hown8 hgrow hnil hloc; have HO8 := Lib.hid hown8; have HB8 := Lib.hid (keeps_grown (D := fun _ => False) (fun _ h => h.elim) ((Below.refl _ _).alloc (Nat.le_refl _) _) HBD.out (fun k h => (ownsRow_base HOWN.out h).1) hgrow).2; obtain ⟨a8, c8, rfl⟩ := ownsRow_shape hown8; clear hown8 hgrow hloc)
          go_roundw
          case rel => exact ⟨k + 1, by omega, by go_num, by rw [HTK.out, if_pos (by simp [HXI.out])]; simpa using HO8.out, HB8.out⟩
          case measure => simp [intOf]; omega
    · obtain rfl : k = acc.length := by omega
      rw [List.take_length] at HOWN
      clear hown hbr hyr
      go_wp2
      go_ret
      have h9 := HOWN.out
      refine ⟨⟨_, rfl, ?_⟩, HB.out.trans (HBR.out.mono HB.out.size)⟩
      rw [List.take_length]
      have h8 : wr.ownsRow w2.heap.size 3 1 (.slice au (acc.filter (fun p => decide (p.1 ≠ id) && !p.2)).length cu) ((acc.filter (fun p => decide (p.1 ≠ id) && !p.2)).map (·.1)).length (((acc.filter (fun p => decide (p.1 ≠ id) && !p.2)).map (·.1)).map iv) := by rw [List.length_map]; exact h9
      exact (intsIn_row h8).old
end Go.Proofs.Ytinkjhkbaadbpaa
