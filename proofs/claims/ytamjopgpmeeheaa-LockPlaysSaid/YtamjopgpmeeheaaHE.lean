/- Held (18); the reference's Wants (23). -/
import Derived.Test.YtamjopgpmeeheaaAL
import Derived.Test.YtamjopgpmeeheaaRH
namespace Go.Proofs.Ytamjopgpmeeheaa
open Go.RowKit
open Go.ChangeMaps (setBlock)
set_option linter.unusedVariables false

set_option maxRecDepth 100000 in
set_option maxHeartbeats 4000000 in
theorem held_any {M R : Nat → Prop} {w : World} {s m : Nat} {f : Int → Option Value} {T : Tb} {c : Nat} (h : TabF M R w s m f T c) (hM : ∀ k, M k → k < w.heap.size) (t nd : Int) :
    Calls Try.prog 18 #[.pointer (some ⟨s, 0, none⟩), iv t, iv nd] w fun e w' => e = .returned (.int .i64 (hasI (T nd).hs t)) ∧ Below w.heap.size w w' := by
  have hms := hM _ h.ms
  have c0 : w.cell? ⟨s, 0, none⟩ = some (.map (some m)) := by simp [World.cell?, h.cell]
  have HNO := Lib.hid (none_any c0)
  have hlk := h.map.look key3 Try.underlying49 Try.zero60 nd true
  cases hf : f nd with
  | none =>
    rw [hf] at hlk
    simp only [if_true, Option.getD_none, Option.isSome_none] at hlk
    have hT := h.none nd hf
    have hv : hasI (T nd).hs t = 0 := by rw [hT]; rfl
    have HV := Lib.hid hv
    clear h hf hT hv
    go_enter Try.func18, Try.ntmps18
    go_wp2_with (go_at_call 27; refine HNO.out.mono ?_; rintro e w' ⟨rfl, rfl⟩)
    go_ret
    exact ⟨by rw [HV.out]; rfl, (Below.refl _ _).alloc (Nat.le_refl _) _⟩
  | some v =>
    obtain ⟨hb, qv, rfl, hbM, -, -, hmap, hqin⟩ := h.node nd v hf
    obtain ⟨aq, cq, rfl, -, -, -⟩ := hqin
    rw [hf] at hlk
    simp only [if_true, Option.getD_some, Option.isSome_some] at hlk
    have hbl := hmap.lt
    obtain ⟨v, hv0, hv⟩ := look_has hmap t
    obtain ⟨ql, hql⟩ : ∃ ql, (T nd).q.length = ql := ⟨_, rfl⟩
    rw [hql] at hlk
    have hlk2 := (hmap.keep (w' := w.alloc (.cells #[.map (some hb), .slice aq ql cq] 60)) (Go.heap_alloc_old _ _ hbl)).look key3 Try.underlying57 Try.zero3 t false
    simp only [Bool.false_eq_true, if_false] at hlk2
    rw [show ((hF (T nd).hs t).getD (Value.int .i64 0)) = iv (hasI (T nd).hs t) from hv0.symm.trans hv] at hlk2
    clear h hf hmap hv0 hv hql
    go_enter Try.func18, Try.ntmps18
    go_wp2_with (go_at_call 27; refine HNO.out.mono ?_; rintro e w' ⟨rfl, rfl⟩)
    go_ret
    exact ⟨rfl, (Below.refl _ _).alloc (Nat.le_refl _) _⟩

theorem set3' {w : World} {b t : Nat} {v0 v1 v2 : Value} (h : w.heap[b]? = some (.cells #[v0, v1, v2] t)) (x0 x1 x2 : Value) :
    (((w.setCell ⟨b, 0, none⟩ x0).setCell ⟨b, 1, none⟩ x1).setCell ⟨b, 2, none⟩ x2).heap[b]? = some (.cells #[x0, x1, x2] t) := by
  have h0 := heap_setCell_same w b 0 _ _ x0 h
  have h1 := heap_setCell_same (w.setCell ⟨b, 0, none⟩ x0) b 1 _ _ x1 h0
  have h2 := heap_setCell_same ((w.setCell ⟨b, 0, none⟩ x0).setCell ⟨b, 1, none⟩ x1) b 2 _ _ x2 h1
  simpa using h2
/-- where one waits, by the reference -/
def wantG (wt : List G3) (t : Int) : Option G3 := wt.find? (fun g => g.1 == t)
set_option maxRecDepth 100000 in
set_option maxHeartbeats 4000000 in
theorem rwants_any {F : Nat → Prop} {w : World} {s : Nat} {hd wt : List G3} (h : RTab F w s hd wt) (hF : ∀ k, F k → k < w.heap.size) (t : Int) :
    Calls Try.prog 23 #[.pointer (some ⟨s, 0, none⟩), iv t] w fun e w' => ((∃ g, wantG wt t = some g ∧ e = .returned (.tuple #[.agg #[iv g.1, iv g.2.1, iv g.2.2], .bool true])) ∨
      (wantG wt t = none ∧ e = .returned (.tuple #[.agg #[iv 0, iv 0, iv 0], .bool false]))) ∧ Below w.heap.size w w' := by
  obtain ⟨v1, v2, hcell, ht1, ht2⟩ := h
  obtain ⟨a, c, rfl, hl1, hl2, hc⟩ := ht2
  obtain ⟨ao, co, rfl, -, -, -⟩ := ht1
  unfold maxLen at hl2
  have hsl : s < w.heap.size := (Array.getElem?_eq_some_iff.1 hcell).1
  have c0 : w.cell? ⟨s, 1, none⟩ = some (.slice a wt.length c) := by simp [World.cell?, hcell]
  have HC := Lib.hid hc
  have HC0 := Lib.hid c0
  clear hc hcell c0
  go_enter Try.func23, Try.ntmps23
  go_wp2_with fail
  have hn := Go.heap_alloc_new w (.cells #[.int .i64 0, .int .i64 0, .int .i64 0] 34)
  have HN := Lib.hid hn
  clear hn
  go_loopw [6] (fun i wr => ∃ k : Nat, k ≤ wt.length ∧ i = .int .i64 k ∧ (∀ g ∈ wt.take k, (g.1 == t) = false) ∧ wr.heap[w.heap.size]? = some (.cells #[.int .i64 0, .int .i64 0, .int .i64 0] 34) ∧ Below w.heap.size w wr) (fun i _ => wt.length - (Lib.intOf i).toNat)
  case atStart => exact ⟨0, Nat.zero_le _, rfl, by simp, HN.out, (Below.refl _ _).alloc (Nat.le_refl _) _⟩
  case round =>
    obtain ⟨k, hk, rfl, hno, hbx, hbr⟩ := hrel
    have HBR := Lib.hid hbr
    have HNO := Lib.hid hno
    have hsr := hbr.size
    have x9 := (hbr.cell (p := ⟨s, 1, none⟩) hsl).trans HC0.out
    have r0 : wr.cell? ⟨w.heap.size, 0, none⟩ = some (.int .i64 0) := by simp [World.cell?, hbx]
    have r1 : wr.cell? ⟨w.heap.size, 1, none⟩ = some (.int .i64 0) := by simp [World.cell?, hbx]
    have r2 : wr.cell? ⟨w.heap.size, 2, none⟩ = some (.int .i64 0) := by simp [World.cell?, hbx]
    have z0 := free_block hbx 0
    have z1 := free_block hbx 1
    have z2 := free_block hbx 2
    have HBX := Lib.hid hbx
    clear hbr hno hbx
    by_cases hlt : k < wt.length
    · obtain ⟨⟨x0, x1, x2⟩, hx⟩ : ∃ x, wt[k]? = some x := ⟨_, List.getElem?_eq_getElem hlt⟩
      rcases HC.out with h | ⟨g, off, rfl, hg, hcl⟩
      · rw [h] at hlt; simp at hlt
      have hgl := hF g hg
      obtain ⟨a0, a1, a2⟩ := hcl k _ hx
      have d0 := (HBR.out.cell (p := ⟨g, off + k * 3, none⟩) hgl).trans a0
      have d1 := (HBR.out.cell (p := ⟨g, off + k * 3 + 1, none⟩) hgl).trans a1
      have d2 := (HBR.out.cell (p := ⟨g, off + k * 3 + 2, none⟩) hgl).trans a2
      simp only at d0 d1 d2
      have k0 : (0 : Int) ≤ (k : Int) := by omega
      have k1 : (k : Int) < (wt.length : Int) := by omega
      have HX := Lib.hid hx
      clear a0 a1 a2 hcl hx
      obtain ⟨p, hp⟩ : ∃ p, (x0 == t) = p := ⟨_, rfl⟩
      cases p with
      | false =>
        have HNS := Lib.hid (no_snoc HNO.out HX.out (by simp only [hp]))
        go_wp2
        go_roundw
        case rel => exact ⟨k + 1, by omega, by go_num, HNS.out, HBX.out, HBR.out⟩
        case measure => simp [Lib.intOf]; omega
      | true =>
        have HV := Lib.hid (show wantG wt t = some (x0, x1, x2) by
          obtain ⟨hk', he'⟩ := List.getElem?_eq_some_iff.1 HX.out
          have hsp : wt = wt.take k ++ wt[k] :: wt.drop (k + 1) := by rw [List.getElem_cons_drop]; exact (List.take_append_drop k wt).symm
          unfold wantG
          conv => lhs; rw [hsp]
          rw [List.find?_append, List.find?_eq_none.2 (fun g hg => by rw [HNO.out g hg]; simp)]
          simp only [Option.none_or]
          rw [List.find?_cons, he']
          simp only [hp])
        go_wp2
        have hfin := set3' HBX.out (iv x0) (iv x1) (iv x2)
        have y0 : (((wr.setCell ⟨w.heap.size, 0, none⟩ (iv x0)).setCell ⟨w.heap.size, 1, none⟩ (iv x1)).setCell ⟨w.heap.size, 2, none⟩ (iv x2)).cell? ⟨w.heap.size, 0, none⟩ = some (iv x0) := by simp only [World.cell?, hfin]; rfl
        have y1 : (((wr.setCell ⟨w.heap.size, 0, none⟩ (iv x0)).setCell ⟨w.heap.size, 1, none⟩ (iv x1)).setCell ⟨w.heap.size, 2, none⟩ (iv x2)).cell? ⟨w.heap.size, 1, none⟩ = some (iv x1) := by simp only [World.cell?, hfin]; rfl
        have y2 : (((wr.setCell ⟨w.heap.size, 0, none⟩ (iv x0)).setCell ⟨w.heap.size, 1, none⟩ (iv x1)).setCell ⟨w.heap.size, 2, none⟩ (iv x2)).cell? ⟨w.heap.size, 2, none⟩ = some (iv x2) := by simp only [World.cell?, hfin]; rfl
        exact bodyPost_ret (v := .tuple #[.agg #[iv x0, iv x1, iv x2], .bool true]) (by simp [results, Try.results23, go_sem, y0, y1, y2]) rfl ⟨.inl ⟨(x0, x1, x2), HV.out, rfl⟩, below_setAt (below_setAt (below_setAt HBR.out (Nat.le_refl _) 0 _) (Nat.le_refl _) 1 _) (Nat.le_refl _) 2 _⟩
    · obtain rfl : k = wt.length := by omega
      have HV := Lib.hid (show wantG wt t = none by
        have := HNO.out
        rw [List.take_length] at this
        exact List.find?_eq_none.2 (fun g hg => by rw [this g hg]; simp))
      go_wp2
      have hfin := set3' HBX.out (iv 0) (iv 0) (iv 0)
      have y0 : (((wr.setCell ⟨w.heap.size, 0, none⟩ (iv 0)).setCell ⟨w.heap.size, 1, none⟩ (iv 0)).setCell ⟨w.heap.size, 2, none⟩ (iv 0)).cell? ⟨w.heap.size, 0, none⟩ = some (iv 0) := by simp only [World.cell?, hfin]; rfl
      have y1 : (((wr.setCell ⟨w.heap.size, 0, none⟩ (iv 0)).setCell ⟨w.heap.size, 1, none⟩ (iv 0)).setCell ⟨w.heap.size, 2, none⟩ (iv 0)).cell? ⟨w.heap.size, 1, none⟩ = some (iv 0) := by simp only [World.cell?, hfin]; rfl
      have y2 : (((wr.setCell ⟨w.heap.size, 0, none⟩ (iv 0)).setCell ⟨w.heap.size, 1, none⟩ (iv 0)).setCell ⟨w.heap.size, 2, none⟩ (iv 0)).cell? ⟨w.heap.size, 2, none⟩ = some (iv 0) := by simp only [World.cell?, hfin]; rfl
      exact bodyPost_ret (v := .tuple #[.agg #[iv 0, iv 0, iv 0], .bool false]) (by simp [results, Try.results23, go_sem, y0, y1, y2]) rfl ⟨.inr ⟨HV.out, rfl⟩, below_setAt (below_setAt (below_setAt HBR.out (Nat.le_refl _) 0 _) (Nat.le_refl _) 1 _) (Nat.le_refl _) 2 _⟩
end Go.Proofs.Ytamjopgpmeeheaa
