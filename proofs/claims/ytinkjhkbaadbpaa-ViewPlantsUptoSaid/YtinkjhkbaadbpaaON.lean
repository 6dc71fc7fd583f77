/- axis.once (133) with each question; there (134), plain (139). -/
import Derived.Test.YtinkjhkbaadbpaaRD
namespace Go.Proofs.Ytinkjhkbaadbpaa
open Go.RowKit
set_option linter.unusedVariables false

abbrev nodeV (v : Nat) (id : Int) (r : Rec) (kv av : Value) : Value := .agg #[ptr v, iv id, .int .i64 r.kind, .string r.name, .string r.text, .int .i64 r.parent, kv, av, .bool r.gone]
theorem cells9 {w : World} {b t : Nat} {a0 a1 a2 a3 a4 a5 a6 a7 a8 : Value} (h : w.heap[b]? = some (.cells #[a0, a1, a2, a3, a4, a5, a6, a7, a8] t (0, 0))) :
    w.cell? ⟨b, 0, none⟩ = some a0 ∧ w.cell? ⟨b, 1, none⟩ = some a1 ∧ w.cell? ⟨b, 2, none⟩ = some a2 ∧ w.cell? ⟨b, 3, none⟩ = some a3 ∧ w.cell? ⟨b, 4, none⟩ = some a4 ∧ w.cell? ⟨b, 5, none⟩ = some a5 ∧ w.cell? ⟨b, 6, none⟩ = some a6 ∧ w.cell? ⟨b, 7, none⟩ = some a7 ∧ w.cell? ⟨b, 8, none⟩ = some a8 := by
  refine ⟨?_, ?_, ?_, ?_, ?_, ?_, ?_, ?_, ?_⟩ <;> simp [World.cell?, h]
/-- of a list what p says yes to, each once -/
def onceS (p : Int → Bool) (m : List Int) (x : Int) : List Int := if p x = true ∧ x ∉ m then m ++ [x] else m
def onceF (p : Int → Bool) (xs : List Int) : List Int := xs.foldl (onceS p) []
theorem onceS_len (p : Int → Bool) (m : List Int) (x : Int) : (onceS p m x).length ≤ m.length + 1 := by
  unfold onceS; split <;> simp
theorem onceF_len (p : Int → Bool) : ∀ (xs m : List Int), (xs.foldl (onceS p) m).length ≤ m.length + xs.length
  | [], m => by simp
  | x :: xs, m => by
    have h1 := onceF_len p xs (onceS p m x)
    have h2 := onceS_len p m x
    simp only [List.foldl_cons, List.length_cons]
    omega
theorem onceF_succ {p : Int → Bool} {xs : List Int} {k : Nat} {x : Int} (h : xs[k]? = some x) : onceF p (xs.take (k + 1)) = onceS p (onceF p (xs.take k)) x := by
  unfold onceF
  rw [List.take_add_one, h, Option.toList_some, List.foldl_append]
  rfl
def isThere (g : Int → Option Rec) (x : Int) : Bool := (g x).isSome
def isPlain (g : Int → Option Rec) (x : Int) : Bool := (g x).isSome && ((g x).getD Rec.zero).kind != 3

set_option maxRecDepth 100000 in
theorem there_any {w : World} {v : Nat} {g : Int → Option Rec} (h : Reads 29 w v g) (id : Int) (r : Rec) (kv av : Value) (x : Int) :
    Calls Try.prog 134 #[nodeV v id r kv av, iv x] w fun e w' => e = .returned (.bool (isThere g x)) ∧ Below w.heap.size w w' := by
  obtain ⟨W, hW⟩ : ∃ W, w.alloc (.cells #[ptr v, iv id, .int .i64 r.kind, .string r.name, .string r.text, .int .i64 r.parent, kv, av, .bool r.gone] 133) = W := ⟨_, rfl⟩
  have hbW : Below w.heap.size w W := by rw [← hW]; exact (Below.refl _ _).alloc (Nat.le_refl _) _
  have hx0 : W.heap[w.heap.size]? = some (.cells #[ptr v, iv id, .int .i64 r.kind, .string r.name, .string r.text, .int .i64 r.parent, kv, av, .bool r.gone] 133 (0, 0)) := by rw [← hW]; exact Go.heap_alloc_new _ _
  obtain ⟨c0, c1, c2, c3, c4, c5, c6, c7, c8⟩ := cells9 hx0
  have HC := Lib.hid (h W hbW x)
  have HW := Lib.hid hW
  have HB := Lib.hid hbW
  obtain ⟨o, ho⟩ : ∃ o, g x = o := ⟨_, rfl⟩
  rw [ho] at HC
  have hres : isThere g x = o.isSome := by unfold isThere; rw [ho]
  rw [hres]
  clear h hW hbW hx0 hres ho c1 c2 c3 c4 c5 c6 c7 c8
  go_enter Try.func134, Try.ntmps134
  go_wp2_with fail
  rw [HW.out]
  go_wp2_with fail
  refine HC.out.mono ?_
  rintro e w2 ⟨⟨kv2, av2, rfl, hk2, ha2⟩, hb2⟩
  obtain ⟨ka, kc, rfl, -, -, -⟩ := hk2
  obtain ⟨aa, ac, rfl, -, -, -⟩ := ha2
  go_wp2
  go_ret
  exact ⟨rfl, ((HB.out.trans (hb2.mono HB.out.size)).alloc (Nat.le_trans HB.out.size hb2.size) _)⟩

set_option maxRecDepth 100000 in
theorem plain_any {w : World} {v : Nat} {g : Int → Option Rec} (h : Reads 29 w v g) (id : Int) (r : Rec) (kv av : Value) (x : Int) :
    Calls Try.prog 139 #[nodeV v id r kv av, iv x] w fun e w' => e = .returned (.bool (isPlain g x)) ∧ Below w.heap.size w w' := by
  obtain ⟨W, hW⟩ : ∃ W, w.alloc (.cells #[ptr v, iv id, .int .i64 r.kind, .string r.name, .string r.text, .int .i64 r.parent, kv, av, .bool r.gone] 133) = W := ⟨_, rfl⟩
  have hbW : Below w.heap.size w W := by rw [← hW]; exact (Below.refl _ _).alloc (Nat.le_refl _) _
  have hx0 : W.heap[w.heap.size]? = some (.cells #[ptr v, iv id, .int .i64 r.kind, .string r.name, .string r.text, .int .i64 r.parent, kv, av, .bool r.gone] 133 (0, 0)) := by rw [← hW]; exact Go.heap_alloc_new _ _
  obtain ⟨c0, c1, c2, c3, c4, c5, c6, c7, c8⟩ := cells9 hx0
  have HC := Lib.hid (h W hbW x)
  have HW := Lib.hid hW
  have HB := Lib.hid hbW
  obtain ⟨o, ho⟩ : ∃ o, g x = o := ⟨_, rfl⟩
  rw [ho] at HC
  have hres : isPlain g x = (o.isSome && (o.getD Rec.zero).kind != 3) := by unfold isPlain; rw [ho]
  rw [hres]
  clear h hW hbW hx0 hres ho c1 c2 c3 c4 c5 c6 c7 c8
  go_enter Try.func139, Try.ntmps139
  go_wp2_with fail
  rw [HW.out]
  go_wp2_with fail
  refine HC.out.mono ?_
  rintro e w2 ⟨⟨kv2, av2, rfl, hk2, ha2⟩, hb2⟩
  have HB2 := Lib.hid ((HB.out.trans (hb2.mono HB.out.size)).alloc (Nat.le_trans HB.out.size hb2.size) (.cells #[.int .i64 (o.getD Rec.zero).kind, .string (o.getD Rec.zero).name, .string (o.getD Rec.zero).text, .int .i64 (o.getD Rec.zero).parent, kv2, av2, .bool (o.getD Rec.zero).gone] 52))
  clear hb2
  obtain ⟨ka, kc, rfl, -, -, -⟩ := hk2
  obtain ⟨aa, ac, rfl, -, -, -⟩ := ha2
  cases o with
  | none =>
    simp only [Option.getD_none, Option.isSome_none] at *
    go_wp2
    go_ret
    exact ⟨rfl, HB2.out⟩
  | some r2 =>
    simp only [Option.getD_some, Option.isSome_some] at *
    go_wp2
    go_ret
    exact ⟨rfl, HB2.out⟩

set_option maxRecDepth 100000 in
set_option maxHeartbeats 4000000 in
theorem once_134 {w : World} {p : Int → Bool} {F : Nat → Prop} {v : Value} {xs : List Int} {nd : Value} (hv : IntsIn F w v xs) (hF : ∀ k, F k → k < w.heap.size) (hlen : xs.length * 8 ≤ 140737488351232)
    (hy : ∀ W, Below w.heap.size w W → ∀ x, Calls Try.prog 134 #[nd, iv x] W fun e w' => e = .returned (.bool (p x)) ∧ Below W.heap.size W w') :
    Calls Try.prog 133 #[v, .func (.func 134) #[nd] #[]] w fun e w' => (∃ u, e = .returned u ∧ w'.ownsRow w.heap.size 3 1 u (onceF p xs).length ((onceF p xs).map iv)) ∧ Below w.heap.size w w' := by
  obtain ⟨i0, hi, hz0, hz1, hz2⟩ := info_parts Try.info3
  obtain ⟨a, cap, rfl, -, -, hx⟩ := hv
  have HX := Lib.hid hx
  have HF := Lib.hid hF
  have HY := Lib.hid hy
  clear hx hF hy
  go_enter Try.func133, Try.ntmps133
  go_wp2
  go_loopw [5, 10] (fun m i wr => ∃ k : Nat, k ≤ xs.length ∧ i = .int .i64 k ∧ wr.ownsRow w.heap.size 3 1 m (onceF p (xs.take k)).length ((onceF p (xs.take k)).map iv) ∧ Below w.heap.size w wr) (fun _ i _ => xs.length - (intOf i).toNat)
  case atStart => exact ⟨0, Nat.zero_le _, rfl, World.ownsRow_nil _ _ _ _, Below.refl _ _⟩
  case round =>
    obtain ⟨k, hk, rfl, hown, hbr⟩ := hrel
    obtain ⟨am, cm, rfl⟩ := ownsRow_shape hown
    have HOWN := Lib.hid hown
    have HBR := Lib.hid hbr
    have hlm := onceF_len p (xs.take k) []
    simp only [List.length_nil, List.length_take, Nat.min_eq_left hk] at hlm
    have hlm2 : (onceF p (xs.take k)).length ≤ k := by unfold onceF; omega
    clear hown hbr hlm
    by_cases hlt : k < xs.length
    · obtain ⟨x, hxk⟩ : ∃ x, xs[k]? = some x := ⟨_, List.getElem?_eq_getElem hlt⟩
      obtain ⟨g, off, rfl, hFg, hc⟩ : ∃ g off, a = some ⟨g, off, none⟩ ∧ F g ∧ ∀ j x, xs[j]? = some x → w.cell? ⟨g, off + j, none⟩ = some (.int .i64 x) := by
        rcases HX.out with h | h
        · rw [h] at hlt; simp at hlt
        · exact h
      have hck : wr.cell? ⟨g, off + k, none⟩ = some (.int .i64 x) := (HBR.out.cell (p := ⟨g, off + k, none⟩) (HF.out g hFg)).trans (hc k x hxk)
      have hsucc := onceF_succ (p := p) hxk
      have HS := Lib.hid hsucc
      have hk0 : (0 : Int) ≤ k := by omega
      have hkl : (k : Int) < xs.length := by omega
      have HCY := Lib.hid (HY.out wr HBR.out x)
      obtain ⟨out, hout⟩ : ∃ out, onceF p (xs.take k) = out := ⟨_, rfl⟩
      rw [hout] at HOWN HS hlm2 ⊢
      obtain ⟨b, hb⟩ : ∃ b, p x = b := ⟨_, rfl⟩
      rw [hb] at HCY
      have HB := Lib.hid hb
      clear hc hxk hsucc hout hb
      go_wp2_with fail
      refine HCY.out.mono ?_
      rintro e w2 ⟨rfl, hb2⟩
      have hown2 := ownsRow_keeps HOWN.out (fun g hg => hb2.block g (ownsRow_base HOWN.out hg).2 : ∀ g, (Value.slice am out.length cm).ownBlock = some g → w2.heap[g]? = wr.heap[g]?)
      have HBR2 := Lib.hid (HBR.out.trans (hb2.mono HBR.out.size))
      have HOWN2 := Lib.hid hown2
      have hct := contains_any out _ _ x w2 (intsIn_row hown2)
      have HCT := Lib.hid hct
      clear hb2 hown2 hct
      cases b with
      | false =>
        have hst : onceS p out x = out := by unfold onceS; rw [HB.out]; simp
        have HST := Lib.hid hst
        clear hst
        go_wp2
        go_roundw
        case rel => exact ⟨k + 1, by omega, by go_num, by rw [HS.out, HST.out]; exact HOWN2.out, HBR2.out⟩
        case measure => simp [intOf]; omega
      | true =>
        by_cases hm : x ∈ out
        · have hd : decide (x ∈ out) = true := decide_eq_true hm
          rw [hd] at HCT
          have hst : onceS p out x = out := by unfold onceS; rw [if_neg (fun h => h.2 hm)]
          have HST := Lib.hid hst
          clear hst hd hm
          go_wp2_with (go_at_call 140; refine HCT.out.mono ?_; rintro e w3 ⟨rfl, rfl⟩)
          go_roundw
          case rel => exact ⟨k + 1, by omega, by go_num, by rw [HS.out, HST.out]; exact HOWN2.out, HBR2.out⟩
          case measure => simp [intOf]; omega
        · have hd : decide (x ∈ out) = false := decide_eq_false hm
          rw [hd] at HCT
          have hst : onceS p out x = out ++ [x] := by unfold onceS; rw [HB.out, if_pos ⟨rfl, hm⟩]
          have HST := Lib.hid hst
          clear hst hd hm
          go_wp2_with (first
            | (at_builtin; refine wpList_append_own_at _ rfl _ _ 33 rfl w.heap.size 3 i0 (.int .i64 0) 1 8 Try.underlying33 hi hz0 hz1 hz2 rfl (by decide) _ _ _ rfl (ownsRow_alloc HOWN2.out _) ⟨w2.heap.size, 0, none⟩ 1 1 [iv x] rfl rfl (cell_one_new _ _ _) (by simp [Value.oneCell']) (by unfold maxLen; omega) (by omega) (by have := HBR2.out.size; simp; omega) ?_; intro v' w8 hown8 hgrow hnil hloc; have HO8 := Lib.hid hown8; have HB8 := Lib.hid (keeps_grown (D := fun _ => False) (fun _ h => h.elim) ((Below.refl _ _).alloc (Nat.le_refl _) _) HBR2.out (fun k h => (ownsRow_base HOWN2.out h).1) hgrow).2; obtain ⟨a8, c8, rfl⟩ := ownsRow_shape hown8; clear hown8 hgrow hloc)
            | (go_at_call 140; refine HCT.out.mono ?_; rintro e w3 ⟨rfl, rfl⟩))
          go_roundw
          case rel => exact ⟨k + 1, by omega, by go_num, by rw [HS.out, HST.out]; simpa using HO8.out, HB8.out⟩
          case measure => simp [intOf]; omega
    · obtain rfl : k = xs.length := by omega
      go_wp2
      go_ret
      rw [List.take_length] at HOWN
      exact ⟨⟨_, rfl, by rw [List.take_length]; exact HOWN.out⟩, HBR.out⟩

set_option maxRecDepth 100000 in
set_option maxHeartbeats 4000000 in
theorem once_138 {w : World} {p : Int → Bool} {F : Nat → Prop} {v : Value} {xs : List Int} {q1 q2 : Value} (hv : IntsIn F w v xs) (hF : ∀ k, F k → k < w.heap.size) (hlen : xs.length * 8 ≤ 140737488351232)
    (hy : ∀ W, Below w.heap.size w W → ∀ x, Calls Try.prog 138 #[iv x, q1, q2] W fun e w' => e = .returned (.bool (p x)) ∧ Below W.heap.size W w') :
    Calls Try.prog 133 #[v, .func (.func 138) #[] #[q1, q2]] w fun e w' => (∃ u, e = .returned u ∧ w'.ownsRow w.heap.size 3 1 u (onceF p xs).length ((onceF p xs).map iv)) ∧ Below w.heap.size w w' := by
  obtain ⟨i0, hi, hz0, hz1, hz2⟩ := info_parts Try.info3
  obtain ⟨a, cap, rfl, -, -, hx⟩ := hv
  have HX := Lib.hid hx
  have HF := Lib.hid hF
  have HY := Lib.hid hy
  clear hx hF hy
  go_enter Try.func133, Try.ntmps133
  go_wp2
  go_loopw [5, 10] (fun m i wr => ∃ k : Nat, k ≤ xs.length ∧ i = .int .i64 k ∧ wr.ownsRow w.heap.size 3 1 m (onceF p (xs.take k)).length ((onceF p (xs.take k)).map iv) ∧ Below w.heap.size w wr) (fun _ i _ => xs.length - (intOf i).toNat)
  case atStart => exact ⟨0, Nat.zero_le _, rfl, World.ownsRow_nil _ _ _ _, Below.refl _ _⟩
  case round =>
    obtain ⟨k, hk, rfl, hown, hbr⟩ := hrel
    obtain ⟨am, cm, rfl⟩ := ownsRow_shape hown
    have HOWN := Lib.hid hown
    have HBR := Lib.hid hbr
    have hlm := onceF_len p (xs.take k) []
    simp only [List.length_nil, List.length_take, Nat.min_eq_left hk] at hlm
    have hlm2 : (onceF p (xs.take k)).length ≤ k := by unfold onceF; omega
    clear hown hbr hlm
    by_cases hlt : k < xs.length
    · obtain ⟨x, hxk⟩ : ∃ x, xs[k]? = some x := ⟨_, List.getElem?_eq_getElem hlt⟩
      obtain ⟨g, off, rfl, hFg, hc⟩ : ∃ g off, a = some ⟨g, off, none⟩ ∧ F g ∧ ∀ j x, xs[j]? = some x → w.cell? ⟨g, off + j, none⟩ = some (.int .i64 x) := by
        rcases HX.out with h | h
        · rw [h] at hlt; simp at hlt
        · exact h
      have hck : wr.cell? ⟨g, off + k, none⟩ = some (.int .i64 x) := (HBR.out.cell (p := ⟨g, off + k, none⟩) (HF.out g hFg)).trans (hc k x hxk)
      have hsucc := onceF_succ (p := p) hxk
      have HS := Lib.hid hsucc
      have hk0 : (0 : Int) ≤ k := by omega
      have hkl : (k : Int) < xs.length := by omega
      have HCY := Lib.hid (HY.out wr HBR.out x)
      obtain ⟨out, hout⟩ : ∃ out, onceF p (xs.take k) = out := ⟨_, rfl⟩
      rw [hout] at HOWN HS hlm2 ⊢
      obtain ⟨b, hb⟩ : ∃ b, p x = b := ⟨_, rfl⟩
      rw [hb] at HCY
      have HB := Lib.hid hb
      clear hc hxk hsucc hout hb
      go_wp2_with fail
      refine HCY.out.mono ?_
      rintro e w2 ⟨rfl, hb2⟩
      have hown2 := ownsRow_keeps HOWN.out (fun g hg => hb2.block g (ownsRow_base HOWN.out hg).2 : ∀ g, (Value.slice am out.length cm).ownBlock = some g → w2.heap[g]? = wr.heap[g]?)
      have HBR2 := Lib.hid (HBR.out.trans (hb2.mono HBR.out.size))
      have HOWN2 := Lib.hid hown2
      have hct := contains_any out _ _ x w2 (intsIn_row hown2)
      have HCT := Lib.hid hct
      clear hb2 hown2 hct
      cases b with
      | false =>
        have hst : onceS p out x = out := by unfold onceS; rw [HB.out]; simp
        have HST := Lib.hid hst
        clear hst
        go_wp2
        go_roundw
        case rel => exact ⟨k + 1, by omega, by go_num, by rw [HS.out, HST.out]; exact HOWN2.out, HBR2.out⟩
        case measure => simp [intOf]; omega
      | true =>
        by_cases hm : x ∈ out
        · have hd : decide (x ∈ out) = true := decide_eq_true hm
          rw [hd] at HCT
          have hst : onceS p out x = out := by unfold onceS; rw [if_neg (fun h => h.2 hm)]
          have HST := Lib.hid hst
          clear hst hd hm
          go_wp2_with (go_at_call 140; refine HCT.out.mono ?_; rintro e w3 ⟨rfl, rfl⟩)
          go_roundw
          case rel => exact ⟨k + 1, by omega, by go_num, by rw [HS.out, HST.out]; exact HOWN2.out, HBR2.out⟩
          case measure => simp [intOf]; omega
        · have hd : decide (x ∈ out) = false := decide_eq_false hm
          rw [hd] at HCT
          have hst : onceS p out x = out ++ [x] := by unfold onceS; rw [HB.out, if_pos ⟨rfl, hm⟩]
          have HST := Lib.hid hst
          clear hst hd hm
          go_wp2_with (first
            | (at_builtin; refine wpList_append_own_at _ rfl _ _ 33 rfl w.heap.size 3 i0 (.int .i64 0) 1 8 Try.underlying33 hi hz0 hz1 hz2 rfl (by decide) _ _ _ rfl (ownsRow_alloc HOWN2.out _) ⟨w2.heap.size, 0, none⟩ 1 1 [iv x] rfl rfl (cell_one_new _ _ _) (by simp [Value.oneCell']) (by unfold maxLen; omega) (by omega) (by have := HBR2.out.size; simp; omega) ?_; intro v' w8 hown8 hgrow hnil hloc; have HO8 := Lib.hid hown8; have HB8 := Lib.hid (keeps_grown (D := fun _ => False) (fun _ h => h.elim) ((Below.refl _ _).alloc (Nat.le_refl _) _) HBR2.out (fun k h => (ownsRow_base HOWN2.out h).1) hgrow).2; obtain ⟨a8, c8, rfl⟩ := ownsRow_shape hown8; clear hown8 hgrow hloc)
            | (go_at_call 140; refine HCT.out.mono ?_; rintro e w3 ⟨rfl, rfl⟩))
          go_roundw
          case rel => exact ⟨k + 1, by omega, by go_num, by rw [HS.out, HST.out]; simpa using HO8.out, HB8.out⟩
          case measure => simp [intOf]; omega
    · obtain rfl : k = xs.length := by omega
      go_wp2
      go_ret
      rw [List.take_length] at HOWN
      exact ⟨⟨_, rfl, by rw [List.take_length]; exact HOWN.out⟩, HBR.out⟩

set_option maxRecDepth 100000 in
set_option maxHeartbeats 4000000 in
theorem once_141 {w : World} {p : Int → Bool} {F : Nat → Prop} {v : Value} {xs : List Int} {q1 q2 : Value} (hv : IntsIn F w v xs) (hF : ∀ k, F k → k < w.heap.size) (hlen : xs.length * 8 ≤ 140737488351232)
    (hy : ∀ W, Below w.heap.size w W → ∀ x, Calls Try.prog 141 #[iv x, q1, q2] W fun e w' => e = .returned (.bool (p x)) ∧ Below W.heap.size W w') :
    Calls Try.prog 133 #[v, .func (.func 141) #[] #[q1, q2]] w fun e w' => (∃ u, e = .returned u ∧ w'.ownsRow w.heap.size 3 1 u (onceF p xs).length ((onceF p xs).map iv)) ∧ Below w.heap.size w w' := by
  obtain ⟨i0, hi, hz0, hz1, hz2⟩ := info_parts Try.info3
  obtain ⟨a, cap, rfl, -, -, hx⟩ := hv
  have HX := Lib.hid hx
  have HF := Lib.hid hF
  have HY := Lib.hid hy
  clear hx hF hy
  go_enter Try.func133, Try.ntmps133
  go_wp2
  go_loopw [5, 10] (fun m i wr => ∃ k : Nat, k ≤ xs.length ∧ i = .int .i64 k ∧ wr.ownsRow w.heap.size 3 1 m (onceF p (xs.take k)).length ((onceF p (xs.take k)).map iv) ∧ Below w.heap.size w wr) (fun _ i _ => xs.length - (intOf i).toNat)
  case atStart => exact ⟨0, Nat.zero_le _, rfl, World.ownsRow_nil _ _ _ _, Below.refl _ _⟩
  case round =>
    obtain ⟨k, hk, rfl, hown, hbr⟩ := hrel
    obtain ⟨am, cm, rfl⟩ := ownsRow_shape hown
    have HOWN := Lib.hid hown
    have HBR := Lib.hid hbr
    have hlm := onceF_len p (xs.take k) []
    simp only [List.length_nil, List.length_take, Nat.min_eq_left hk] at hlm
    have hlm2 : (onceF p (xs.take k)).length ≤ k := by unfold onceF; omega
    clear hown hbr hlm
    by_cases hlt : k < xs.length
    · obtain ⟨x, hxk⟩ : ∃ x, xs[k]? = some x := ⟨_, List.getElem?_eq_getElem hlt⟩
      obtain ⟨g, off, rfl, hFg, hc⟩ : ∃ g off, a = some ⟨g, off, none⟩ ∧ F g ∧ ∀ j x, xs[j]? = some x → w.cell? ⟨g, off + j, none⟩ = some (.int .i64 x) := by
        rcases HX.out with h | h
        · rw [h] at hlt; simp at hlt
        · exact h
      have hck : wr.cell? ⟨g, off + k, none⟩ = some (.int .i64 x) := (HBR.out.cell (p := ⟨g, off + k, none⟩) (HF.out g hFg)).trans (hc k x hxk)
      have hsucc := onceF_succ (p := p) hxk
      have HS := Lib.hid hsucc
      have hk0 : (0 : Int) ≤ k := by omega
      have hkl : (k : Int) < xs.length := by omega
      have HCY := Lib.hid (HY.out wr HBR.out x)
      obtain ⟨out, hout⟩ : ∃ out, onceF p (xs.take k) = out := ⟨_, rfl⟩
      rw [hout] at HOWN HS hlm2 ⊢
      obtain ⟨b, hb⟩ : ∃ b, p x = b := ⟨_, rfl⟩
      rw [hb] at HCY
      have HB := Lib.hid hb
      clear hc hxk hsucc hout hb
      go_wp2_with fail
      refine HCY.out.mono ?_
      rintro e w2 ⟨rfl, hb2⟩
      have hown2 := ownsRow_keeps HOWN.out (fun g hg => hb2.block g (ownsRow_base HOWN.out hg).2 : ∀ g, (Value.slice am out.length cm).ownBlock = some g → w2.heap[g]? = wr.heap[g]?)
      have HBR2 := Lib.hid (HBR.out.trans (hb2.mono HBR.out.size))
      have HOWN2 := Lib.hid hown2
      have hct := contains_any out _ _ x w2 (intsIn_row hown2)
      have HCT := Lib.hid hct
      clear hb2 hown2 hct
      cases b with
      | false =>
        have hst : onceS p out x = out := by unfold onceS; rw [HB.out]; simp
        have HST := Lib.hid hst
        clear hst
        go_wp2
        go_roundw
        case rel => exact ⟨k + 1, by omega, by go_num, by rw [HS.out, HST.out]; exact HOWN2.out, HBR2.out⟩
        case measure => simp [intOf]; omega
      | true =>
        by_cases hm : x ∈ out
        · have hd : decide (x ∈ out) = true := decide_eq_true hm
          rw [hd] at HCT
          have hst : onceS p out x = out := by unfold onceS; rw [if_neg (fun h => h.2 hm)]
          have HST := Lib.hid hst
          clear hst hd hm
          go_wp2_with (go_at_call 140; refine HCT.out.mono ?_; rintro e w3 ⟨rfl, rfl⟩)
          go_roundw
          case rel => exact ⟨k + 1, by omega, by go_num, by rw [HS.out, HST.out]; exact HOWN2.out, HBR2.out⟩
          case measure => simp [intOf]; omega
        · have hd : decide (x ∈ out) = false := decide_eq_false hm
          rw [hd] at HCT
          have hst : onceS p out x = out ++ [x] := by unfold onceS; rw [HB.out, if_pos ⟨rfl, hm⟩]
          have HST := Lib.hid hst
          clear hst hd hm
          go_wp2_with (first
            | (at_builtin; refine wpList_append_own_at _ rfl _ _ 33 rfl w.heap.size 3 i0 (.int .i64 0) 1 8 Try.underlying33 hi hz0 hz1 hz2 rfl (by decide) _ _ _ rfl (ownsRow_alloc HOWN2.out _) ⟨w2.heap.size, 0, none⟩ 1 1 [iv x] rfl rfl (cell_one_new _ _ _) (by simp [Value.oneCell']) (by unfold maxLen; omega) (by omega) (by have := HBR2.out.size; simp; omega) ?_; intro v' w8 hown8 hgrow hnil hloc; have HO8 := Lib.hid hown8; have HB8 := Lib.hid (keeps_grown (D := fun _ => False) (fun _ h => h.elim) ((Below.refl _ _).alloc (Nat.le_refl _) _) HBR2.out (fun k h => (ownsRow_base HOWN2.out h).1) hgrow).2; obtain ⟨a8, c8, rfl⟩ := ownsRow_shape hown8; clear hown8 hgrow hloc)
            | (go_at_call 140; refine HCT.out.mono ?_; rintro e w3 ⟨rfl, rfl⟩))
          go_roundw
          case rel => exact ⟨k + 1, by omega, by go_num, by rw [HS.out, HST.out]; simpa using HO8.out, HB8.out⟩
          case measure => simp [intOf]; omega
    · obtain rfl : k = xs.length := by omega
      go_wp2
      go_ret
      rw [List.take_length] at HOWN
      exact ⟨⟨_, rfl, by rw [List.take_length]; exact HOWN.out⟩, HBR.out⟩
end Go.Proofs.Ytinkjhkbaadbpaa
