/- The document's All, of what is the same. -/
import Derived.Test.YtinkjhkbaadbpaaSM
namespace Go.Proofs.Ytinkjhkbaadbpaa
open Go.RowKit
set_option linter.unusedVariables false

theorem verCells {w w' : World} {g off k : Nat} {u : Ver} {kv av : Value} (hc : ∀ j x, (verL u kv av)[j]? = some x → w.cell? ⟨g, off + k * 8 + j, none⟩ = some x) (hk : w'.heap[g]? = w.heap[g]?) :
    w'.cell? ⟨g, off + k * 8, none⟩ = some (.int .u64 u.time) ∧ w'.cell? ⟨g, off + k * 8 + 1, none⟩ = some (.int .i64 u.r.kind) ∧ w'.cell? ⟨g, off + k * 8 + 1 + 1, none⟩ = some (.string u.r.name) ∧ w'.cell? ⟨g, off + k * 8 + 1 + 2, none⟩ = some (.string u.r.text) ∧
    w'.cell? ⟨g, off + k * 8 + 1 + 3, none⟩ = some (.int .i64 u.r.parent) ∧ w'.cell? ⟨g, off + k * 8 + 1 + 4, none⟩ = some kv ∧ w'.cell? ⟨g, off + k * 8 + 1 + 5, none⟩ = some av ∧ w'.cell? ⟨g, off + k * 8 + 1 + 6, none⟩ = some (.bool u.r.gone) := by
  have h := fun (j : Nat) (x : Value) (hx : (verL u kv av)[j]? = some x) => (World.cell?_of_block (w := w) (w' := w') (a := ⟨g, off + k * 8 + j, none⟩) hk).trans (hc j x hx)
  exact ⟨h 0 _ rfl, h 1 _ rfl, h 2 _ rfl, h 3 _ rfl, h 4 _ rfl, h 5 _ rfl, h 6 _ rfl, h 7 _ rfl⟩

set_option maxRecDepth 100000 in
set_option maxHeartbeats 4000000 in
theorem all_any {F G : Nat → Prop} {w : World} (vs : List Ver) (v u : Value) (h : VersIn F w v vs) (h' : VersIn G w u vs) (hF : ∀ k, F k → k < w.heap.size) (hG : ∀ k, G k → k < w.heap.size) :
    Calls Try.prog 45 #[v, u] w fun e w' => e = .returned (.bool true) ∧ Below w.heap.size w w' := by
  obtain ⟨a, cap, rfl, hl, hx⟩ := h
  obtain ⟨b, cap', rfl, -, hy⟩ := h'
  have hl2 : vs.length ≤ 9223372036854775807 := by unfold maxLen at hl; omega
  have HX := Lib.hid hx
  have HY := Lib.hid hy
  have HF := Lib.hid hF
  have HG := Lib.hid hG
  clear hx hy hF hG hl
  go_enter Try.func45, Try.ntmps45
  go_wp2
  go_loopw [5] (fun i wr => ∃ k : Nat, k ≤ vs.length ∧ i = .int .i64 k ∧ Below w.heap.size w wr) (fun i _ => vs.length - (intOf i).toNat)
  case atStart => exact ⟨0, Nat.zero_le _, rfl, Below.refl _ _⟩
  case round =>
    obtain ⟨k, hk, rfl, hbel⟩ := hrel
    have HBEL := Lib.hid hbel
    clear hbel
    by_cases hlt : k < vs.length
    · obtain ⟨x, hxk⟩ : ∃ x, vs[k]? = some x := ⟨_, List.getElem?_eq_getElem hlt⟩
      rcases HX.out with rfl | ⟨g, off, rfl, hgF, hc⟩
      · simp at hlt
      rcases HY.out with rfl | ⟨g', off', rfl, hgG, hc'⟩
      · simp at hlt
      obtain ⟨kv, av, i1, i2, hcx⟩ := hc k x hxk
      obtain ⟨kv', av', j1, j2, hcy⟩ := hc' k x hxk
      have h0 : (0 : Int) ≤ (k : Int) := by omega
      have h1 : (k : Int) < (vs.length : Int) := by omega
      have HSS := Lib.hid (fun (w' : World) (hb : Below wr.heap.size wr w') => verCells hcx (w' := w') ((hb.block g (Nat.lt_of_lt_of_le (HF.out g hgF) HBEL.out.size)).trans (HBEL.out.block g (HF.out g hgF))))
      have HST := Lib.hid (fun (w' : World) (hb : Below wr.heap.size wr w') => verCells hcy (w' := w') ((hb.block g' (Nat.lt_of_lt_of_le (HG.out g' hgG) HBEL.out.size)).trans (HBEL.out.block g' (HG.out g' hgG))))
      have HS := Lib.hid (fun (w' : World) (hb : Below wr.heap.size wr w') => same_any (w := w') x.r kv av kv' av' (i1.keep ((keeps_below (HBEL.out.trans (hb.mono HBEL.out.size))).mono HF.out)) (i2.keep ((keeps_below (HBEL.out.trans (hb.mono HBEL.out.size))).mono HF.out))
        (j1.keep ((keeps_below (HBEL.out.trans (hb.mono HBEL.out.size))).mono HG.out)) (j2.keep ((keeps_below (HBEL.out.trans (hb.mono HBEL.out.size))).mono HG.out)) (fun k hk => Nat.lt_of_lt_of_le (HF.out k hk) (Nat.le_trans HBEL.out.size hb.size)) (fun k hk => Nat.lt_of_lt_of_le (HG.out k hk) (Nat.le_trans HBEL.out.size hb.size)))
      obtain ⟨ka, kc, rfl, -, -, -⟩ := i1
      obtain ⟨aa, ac, rfl, -, -, -⟩ := i2
      obtain ⟨ka', kc', rfl, -, -, -⟩ := j1
      obtain ⟨aa', ac', rfl, -, -, -⟩ := j2
      obtain ⟨tm, kind, name, text, parent, kids, attrs, gone⟩ := x
      simp only at *
      clear hc hc' hcx hcy hxk
      have hcur : Below wr.heap.size wr wr.drew := (Below.refl _ wr).drew
      go_wp2_with fail
      go_region_held3 (fun w' => (w'.cell? ⟨g, off + k * 8, none⟩ = some (.int .u64 tm) ∧ w'.cell? ⟨g, off + k * 8 + 1, none⟩ = some (.int .i64 kind) ∧ w'.cell? ⟨g, off + k * 8 + 1 + 1, none⟩ = some (.string name) ∧ w'.cell? ⟨g, off + k * 8 + 1 + 2, none⟩ = some (.string text) ∧
          w'.cell? ⟨g, off + k * 8 + 1 + 3, none⟩ = some (.int .i64 parent) ∧ w'.cell? ⟨g, off + k * 8 + 1 + 4, none⟩ = some (.slice ka kids.length kc) ∧ w'.cell? ⟨g, off + k * 8 + 1 + 5, none⟩ = some (.slice aa attrs.length ac) ∧ w'.cell? ⟨g, off + k * 8 + 1 + 6, none⟩ = some (.bool gone)) ∧
          (w'.cell? ⟨g', off' + k * 8, none⟩ = some (.int .u64 tm) ∧ w'.cell? ⟨g', off' + k * 8 + 1, none⟩ = some (.int .i64 kind) ∧ w'.cell? ⟨g', off' + k * 8 + 1 + 1, none⟩ = some (.string name) ∧ w'.cell? ⟨g', off' + k * 8 + 1 + 2, none⟩ = some (.string text) ∧
          w'.cell? ⟨g', off' + k * 8 + 1 + 3, none⟩ = some (.int .i64 parent) ∧ w'.cell? ⟨g', off' + k * 8 + 1 + 4, none⟩ = some (.slice ka' kids.length kc') ∧ w'.cell? ⟨g', off' + k * 8 + 1 + 5, none⟩ = some (.slice aa' attrs.length ac') ∧ w'.cell? ⟨g', off' + k * 8 + 1 + 6, none⟩ = some (.bool gone)))
        (exact ⟨HSS.out _ hcur, HST.out _ hcur⟩)
        ((go_at_call 53; refine (HS.out _ hcur).mono ?_; rintro e w2 ⟨rfl, hb⟩; have hcur := hcur.trans (hb.mono hcur.size); clear hb))
      all_goals
        go_wp2_with fail
        go_roundw
        case rel => exact ⟨k + 1, by omega, by go_num, HBEL.out.trans (hcur.mono HBEL.out.size)⟩
        case measure => simp [intOf]; omega
    · go_wp2
      go_ret
      exact ⟨rfl, HBEL.out⟩
end Go.Proofs.Ytinkjhkbaadbpaa
