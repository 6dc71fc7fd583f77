/- The document's Install. -/
import Derived.Test.YtinkjhkbaadbpaaDP
import Derived.Deep.RegionLaw
namespace Go.Proofs.Ytinkjhkbaadbpaa
open Go.RowKit
set_option linter.unusedVariables false

theorem chnCells {w w' : World} {g off k : Nat} {c : Chn} {kv av : Value} (hc : ∀ j x, (chL c kv av)[j]? = some x → w.cell? ⟨g, off + k * 8 + j, none⟩ = some x) (hk : w'.heap[g]? = w.heap[g]?) :
    w'.cell? ⟨g, off + k * 8, none⟩ = some (.int .i64 c.id) ∧ w'.cell? ⟨g, off + k * 8 + 1, none⟩ = some (.int .i64 c.r.kind) ∧ w'.cell? ⟨g, off + k * 8 + 1 + 1, none⟩ = some (.string c.r.name) ∧ w'.cell? ⟨g, off + k * 8 + 1 + 2, none⟩ = some (.string c.r.text) ∧
    w'.cell? ⟨g, off + k * 8 + 1 + 3, none⟩ = some (.int .i64 c.r.parent) ∧ w'.cell? ⟨g, off + k * 8 + 1 + 4, none⟩ = some kv ∧ w'.cell? ⟨g, off + k * 8 + 1 + 5, none⟩ = some av ∧ w'.cell? ⟨g, off + k * 8 + 1 + 6, none⟩ = some (.bool c.r.gone) := by
  have h := fun (j : Nat) (x : Value) (hx : (chL c kv av)[j]? = some x) => (World.cell?_of_block (w := w) (w' := w') (a := ⟨g, off + k * 8 + j, none⟩) hk).trans (hc j x hx)
  exact ⟨h 0 _ rfl, h 1 _ rfl, h 2 _ rfl, h 3 _ rfl, h 4 _ rfl, h 5 _ rfl, h 6 _ rfl, h 7 _ rfl⟩

theorem docInstall_time {R D : Nat → Prop} {w : World} {q : Value} {d : Doc} (h : DocIn R D w q d) (T : Nat) (hT : T ≤ d.last) (v : Value) :
    Calls Try.prog 43 #[q, .int .u64 T, v] w fun e w' => e = .returned (.int .i64 43) ∧ w = w' := by
  obtain ⟨s, a, cap, rfl, -, hb, -⟩ := h.read
  have c2 : w.cell? ⟨s, 2, none⟩ = some (.int .u64 d.last) := by simp [World.cell?, hb]
  clear h hb
  go_enter Try.func43, Try.ntmps43
  go_wp2
  go_ret
  exact ⟨rfl, rfl⟩

set_option maxRecDepth 100000 in
set_option maxHeartbeats 8000000 in
theorem docInstall_any {R D F : Nat → Prop} {w : World} {q : Value} {d : Doc} (h : DocIn R D w q d) (T : Nat) (hT : d.last < T) (cs : List Chn) (v : Value) (hv : ChnsIn F w v cs) (hF : ∀ k, F k → D k)
    (hR : ∀ k, R k → k < w.heap.size) (hD : ∀ k, D k → k < w.heap.size) (hRD : ∀ k, R k → ¬ D k) (hl : d.L.length ≤ 500000000) (hg0 : 0 ≤ d.given) (hg : d.given ≤ 1000000) :
    Calls Try.prog 43 #[q, .int .u64 T, v] w fun e w' =>
      (okL d.given [] cs = false ∧ e = .returned (.int .i64 2) ∧ Below w.heap.size w w') ∨
      (okL d.given [] cs = true ∧ e = .returned (.int .i64 0) ∧ Chg R w w' ∧ ∃ R', DocIn R' D w' q (d.put T cs) ∧ (∀ k, R' k → R k ∨ w.heap.size ≤ k) ∧ (∀ k, R' k → k < w'.heap.size)) := by
  have HDI := Lib.hid h
  obtain ⟨s, a, cap, rfl, hsR, hb, -⟩ := h.read
  obtain ⟨va, vc, rfl, hlc, hcm, hx⟩ := hv
  have hmax : cs.length ≤ 9223372036854775807 := by unfold maxLen at hcm; omega
  obtain ⟨i0, hi, hz0, hz1, hz2⟩ := info_parts Try.info147
  have hslt : s < w.heap.size := (Array.getElem?_eq_some_iff.1 hb).1
  have c1 : w.cell? ⟨s, 1, none⟩ = some (iv d.given) := by simp [World.cell?, hb]
  have c2 : w.cell? ⟨s, 2, none⟩ = some (.int .u64 d.last) := by simp [World.cell?, hb]
  have hTn : ¬ (T ≤ d.last) := by omega
  have hTd : decide (T ≤ d.last) = false := decide_eq_false hTn
  have HX := Lib.hid hx
  have HF := Lib.hid hF
  have HR := Lib.hid hR
  have HD := Lib.hid hD
  have HRD := Lib.hid hRD
  clear h hb hx hF hR hD hRD hlc hcm
  go_enter Try.func43, Try.ntmps43
  go_wp2
  go_loopw [7] (fun i wr => ∃ k : Nat, k ≤ cs.length ∧ i = .int .i64 k ∧ okL d.given [] (cs.take k) = true ∧ Below w.heap.size w wr) (fun i _ => cs.length - (Lib.intOf i).toNat)
  case atStart => exact ⟨0, Nat.zero_le _, rfl, by simp [okL], Below.refl _ _⟩
  case round =>
    obtain ⟨k, hk, rfl, hok, hbel⟩ := hrel
    have HOK := Lib.hid hok
    have HBEL := Lib.hid hbel
    have c1' : wr.cell? ⟨s, 1, none⟩ = some (iv d.given) := (hbel.cell (p := ⟨s, 1, none⟩) hslt).trans c1
    clear hok hbel
    by_cases hlt : k < cs.length
    · obtain ⟨c, hck⟩ : ∃ c, cs[k]? = some c := ⟨_, List.getElem?_eq_getElem hlt⟩
      rcases HX.out with rfl | ⟨g, off, rfl, hgF, hc⟩
      · simp at hlt
      obtain ⟨kv, av, ik, ia, hcl⟩ := hc k c hck
      have hgl : g < w.heap.size := HD.out g (HF.out g hgF)
      have hFl : ∀ j, F j → j < w.heap.size := fun j hj => HD.out j (HF.out j hj)
      have HFL := Lib.hid hFl
      have HC := Lib.hid hc
      have HSS := Lib.hid (fun (w' : World) (hb : Below wr.heap.size wr w') => And.intro ((hb.cell (p := ⟨s, 1, none⟩) (Nat.lt_of_lt_of_le hslt HBEL.out.size)).trans c1') (chnCells hcl (w' := w') ((hb.block g (Nat.lt_of_lt_of_le hgl HBEL.out.size)).trans (HBEL.out.block g hgl))))
      have HRR := Lib.hid (fun (w' : World) (hb : Below wr.heap.size wr w') => refRight_any c.r kv av F w' (ik.keep ((keeps_below (HBEL.out.trans (hb.mono HBEL.out.size))).mono hFl)) (ia.keep ((keeps_below (HBEL.out.trans (hb.mono HBEL.out.size))).mono hFl)) (fun j hj => Nat.lt_of_lt_of_le (hFl j hj) (Nat.le_trans HBEL.out.size hb.size)))
      have hbad := okL_take (g := d.given) hck
      have HBAD := Lib.hid hbad
      have hk0 : (0 : Int) ≤ k := by omega
      have hkl : (k : Int) < cs.length := by omega
      have HCK := Lib.hid hck
      obtain ⟨ka, kc, rfl, -, -, -⟩ := ik
      obtain ⟨aa, ac, rfl, -, -, -⟩ := ia
      have hcur : Below wr.heap.size wr wr.drew := (Below.refl _ wr).drew
      clear hc hcl hck hbad hFl
      have hokfalse : ∀ (hh : bad1 d.given ((cs.take k).map (·.id)) c = true), okL d.given [] cs = false := fun hh => by
        cases e : okL d.given [] cs with
        | false => rfl
        | true =>
          have h1 := okL_mono d.given cs [] (k + 1) e
          rw [HBAD.out, hh] at h1
          simp at h1
      have HOF := Lib.hid hokfalse
      clear hokfalse
      have hfound : ∀ j : Nat, j < k → ∀ c', cs[j]? = some c' → c'.id = c.id → okL d.given [] cs = false := fun j hj c' hc' he => HOF.out (by
        have : c.id ∈ (cs.take k).map (·.id) := List.mem_map.2 ⟨c', List.mem_of_getElem? (i := j) (by rw [List.getElem?_take_of_lt hj]; exact hc'), he⟩
        unfold bad1
        rw [decide_eq_true this]
        simp)
      have HFD := Lib.hid hfound
      clear hfound
      obtain ⟨b, hbb⟩ : ∃ b, rightR c.r = b := ⟨_, rfl⟩
      simp only [hbb] at HRR
      have HBB := Lib.hid hbb
      clear hbb
      obtain ⟨cid, kind, name, text, parent, kids, attrs, gone⟩ := c
      simp only at *
      by_cases hlow : cid < 1
      · have fin := Lib.hid (HOF.out (by simp [bad1, hlow]))
        have hd1 : decide (cid < 1) = true := decide_eq_true hlow
        obtain ⟨e9, e0, e1, e2, e3, e4, e5, e6, e7⟩ := HSS.out wr (Below.refl _ _)
        go_wp2_with fail
        go_quiet (fail)
        go_wp2
        go_ret
        exact .inl ⟨fin.out, rfl, below_drewN HBEL.out _⟩
      · have hd1 : decide (cid < 1) = false := decide_eq_false hlow
        by_cases hhigh : d.given < cid
        · have fin := Lib.hid (HOF.out (by simp [bad1, hhigh]))
          have hd2 : decide (d.given < cid) = true := decide_eq_true hhigh
          obtain ⟨e9, e0, e1, e2, e3, e4, e5, e6, e7⟩ := HSS.out wr (Below.refl _ _)
          go_wp2_with fail
          go_quiet (fail)
          go_wp2
          go_ret
          exact .inl ⟨fin.out, rfl, below_drewN HBEL.out _⟩
        · have hd2 : decide (d.given < cid) = false := decide_eq_false hhigh
          cases b
          · have fin := Lib.hid (HOF.out (by simp [bad1, HBB.out]))
            go_wp2_with fail
            go_region_held3 (fun w' => w'.cell? ⟨s, 1, none⟩ = some (iv d.given) ∧ w'.cell? ⟨g, off + k * 8, none⟩ = some (.int .i64 cid) ∧ w'.cell? ⟨g, off + k * 8 + 1, none⟩ = some (.int .i64 kind) ∧ w'.cell? ⟨g, off + k * 8 + 1 + 1, none⟩ = some (.string name) ∧ w'.cell? ⟨g, off + k * 8 + 1 + 2, none⟩ = some (.string text) ∧ w'.cell? ⟨g, off + k * 8 + 1 + 3, none⟩ = some (.int .i64 parent) ∧ w'.cell? ⟨g, off + k * 8 + 1 + 4, none⟩ = some (.slice ka kids.length kc) ∧ w'.cell? ⟨g, off + k * 8 + 1 + 5, none⟩ = some (.slice aa attrs.length ac) ∧ w'.cell? ⟨g, off + k * 8 + 1 + 6, none⟩ = some (.bool gone))
              (exact HSS.out _ hcur)
              ((go_at_call 37; refine (HRR.out _ hcur).mono ?_; rintro e w2 ⟨rfl, hb⟩; have hcur := hcur.trans (hb.mono hcur.size); clear hb))
            all_goals
              go_wp2_with fail
              go_ret
              exact .inl ⟨fin.out, rfl, HBEL.out.trans (hcur.mono HBEL.out.size)⟩
          · 
            go_wp2_with fail
            go_region_held3 (fun w' => w'.cell? ⟨s, 1, none⟩ = some (iv d.given) ∧ w'.cell? ⟨g, off + k * 8, none⟩ = some (.int .i64 cid) ∧ w'.cell? ⟨g, off + k * 8 + 1, none⟩ = some (.int .i64 kind) ∧ w'.cell? ⟨g, off + k * 8 + 1 + 1, none⟩ = some (.string name) ∧ w'.cell? ⟨g, off + k * 8 + 1 + 2, none⟩ = some (.string text) ∧ w'.cell? ⟨g, off + k * 8 + 1 + 3, none⟩ = some (.int .i64 parent) ∧ w'.cell? ⟨g, off + k * 8 + 1 + 4, none⟩ = some (.slice ka kids.length kc) ∧ w'.cell? ⟨g, off + k * 8 + 1 + 5, none⟩ = some (.slice aa attrs.length ac) ∧ w'.cell? ⟨g, off + k * 8 + 1 + 6, none⟩ = some (.bool gone))
              (exact HSS.out _ hcur)
              ((go_at_call 37; refine (HRR.out _ hcur).mono ?_; rintro e w2 ⟨rfl, hb⟩; have hcur := hcur.trans (hb.mono hcur.size); clear hb))
            all_goals
              go_wp2_with fail
              go_loopw [8] (fun i wx => ∃ j : Nat, j ≤ k ∧ i = .int .i64 j ∧ (∀ j' c', j' < j → cs[j']? = some c' → c'.id ≠ cid) ∧ Below w.heap.size w wx) (fun i _ => k - (Lib.intOf i).toNat)
              case atStart => exact ⟨0, Nat.zero_le _, rfl, fun j' c' h => by omega, HBEL.out.trans (hcur.mono HBEL.out.size)⟩
              case round =>
                obtain ⟨j, hj, rfl, hno, hbx⟩ := hrel
                have HNO := Lib.hid hno
                have HBX := Lib.hid hbx
                by_cases hjk : j < k
                · obtain ⟨c', hcj⟩ : ∃ c', cs[j]? = some c' := ⟨_, List.getElem?_eq_getElem (by omega)⟩
                  obtain ⟨kv', av', -, -, hcl'⟩ := HC.out j c' hcj
                  have q0 := (chnCells hcl' (w' := wr) (hbx.block g hgl)).1
                  obtain ⟨kv2, av2, -, -, hcl2⟩ := HC.out k _ HCK.out
                  have q1 := (chnCells hcl2 (w' := wr) (hbx.block g hgl)).1
                  simp only at q1
                  have hj0 : (0 : Int) ≤ j := by omega
                  have hjl : (j : Int) < cs.length := by omega
                  have hjk' : (j : Int) < k := by omega
                  have HCJ := Lib.hid hcj
                  clear hcl' hcl2 hno hbx hcj
                  obtain ⟨cid', r'⟩ := c'
                  simp only at *
                  by_cases he : cid' = cid
                  · have fin := Lib.hid (HFD.out j hjk _ HCJ.out he)
                    subst he
                    go_wp2_with fail
                    go_quiet (fail)
                    go_wp2
                    go_ret
                    exact .inl ⟨fin.out, rfl, below_drewN HBX.out _⟩
                  · go_wp2_with fail
                    go_quiet (fail)
                    go_wp2
                    go_roundw
                    case rel => exact ⟨j + 1, by omega, by go_num, fun j' c' h1 h2 => by
                      by_cases e : j' = j
                      · subst e; rw [HCJ.out] at h2; cases h2; exact he
                      · exact HNO.out j' c' (by omega) h2, below_drewN HBX.out _⟩
                    case measure => simp [Lib.intOf]; omega
                · obtain rfl : j = k := by omega
                  go_wp2
                  go_roundw
                  case rel => 
                    refine ⟨j + 1, by omega, by go_num, ?_, HBX.out⟩
                    rw [HBAD.out, HOK.out]
                    have hnm : cid ∉ (cs.take j).map (·.id) := fun hm => by
                      obtain ⟨c', hc', he⟩ := List.mem_map.1 hm
                      obtain ⟨j', hj'⟩ := List.getElem?_of_mem hc'
                      have hj'' : j' < j := by have := (List.getElem?_eq_some_iff.1 hj').1; simp at this; omega
                      rw [List.getElem?_take_of_lt hj''] at hj'
                      exact HNO.out j' c' hj'' hj' he
                    have := HBB.out
                    unfold bad1
                    rw [decide_eq_false hnm, decide_eq_false (show ¬ cid < 1 by omega), decide_eq_false (show ¬ d.given < cid by omega), this]
                    rfl
                  case measure => simp [Lib.intOf]; omega
    · obtain rfl : k = cs.length := by omega
      rw [List.take_length] at HOK
      have hcl := okL_length hg0 HOK.out
      have hdi0 : DocIn R D wr (.pointer (some ⟨s, 0, none⟩)) ⟨d.L ++ (cs.take 0).map (entOf T), d.given, d.last⟩ := by
        have := HDI.out.keep (w' := wr) ((keeps_below HBEL.out).mono HR.out) ((keeps_below HBEL.out).mono HD.out)
        simpa using this
      have HDI0 := Lib.hid hdi0
      clear hdi0
      go_wp2
      go_loopw [9] (fun i wx => ∃ k : Nat, k ≤ cs.length ∧ i = .int .i64 k ∧ ∃ R', DocIn R' D wx (.pointer (some ⟨s, 0, none⟩)) ⟨d.L ++ (cs.take k).map (entOf T), d.given, d.last⟩ ∧ (∀ k, R' k → R k ∨ w.heap.size ≤ k) ∧ (∀ k, R' k → k < wx.heap.size) ∧ Chg R w wx) (fun i _ => cs.length - (Lib.intOf i).toNat)
      case atStart => exact ⟨0, Nat.zero_le _, rfl, R, HDI0.out, fun k h => .inl h, fun k h => Nat.lt_of_lt_of_le (HR.out k h) HBEL.out.size, chg_new HBEL.out⟩
      case round =>
        obtain ⟨k, hk, rfl, R', hdi, hR', hRl, hchg⟩ := hrel
        have HDK := Lib.hid hdi
        obtain ⟨s', vv, xs, he, hs', hb', hown, hents, hvR⟩ := hdi
        obtain rfl : s = s' := by cases he; rfl
        clear he
        simp only at hb'
        have HR' := Lib.hid hR'
        have HRL := Lib.hid hRl
        have HCH := Lib.hid hchg
        by_cases hlt : k < cs.length
        · obtain ⟨c, hck⟩ : ∃ c, cs[k]? = some c := ⟨_, List.getElem?_eq_getElem hlt⟩
          rcases HX.out with rfl | ⟨g, off, rfl, hgF, hc⟩
          · simp at hlt
          obtain ⟨kv, av, ik, ia, hcl'⟩ := hc k c hck
          obtain ⟨a', cap', rfl⟩ : ∃ a' cap', vv = .slice a' (d.L.length + k) cap' := by
            have e : (d.L ++ (cs.take k).map (entOf T)).length = d.L.length + k := by simp; omega
            rcases hown.2 with ⟨rfl, h0⟩ | ⟨g', cap', cur, rfl, _⟩
            · simp only at h0; rw [e] at h0; rw [h0]; exact ⟨none, 0, rfl⟩
            · simp only; rw [e]; exact ⟨_, cap', rfl⟩
          have hown2 : wr.ownsRow 0 147 9 (.slice a' (d.L.length + k) cap') (d.L.length + k) xs := by
            have e : (d.L ++ (cs.take k).map (entOf T)).length = d.L.length + k := by simp; omega
            simp only at hown; rw [e] at hown; exact hown
          have hgD : D g := HF.out g hgF
          have hgl : g < w.heap.size := HD.out g hgD
          have hDk : Keeps D w wr := hchg.keeps (fun j hj => ⟨HD.out j hj, fun h => HRD.out j h hj⟩)
          have hRD' : ∀ j, R' j → ¬ D j := fun j h h' => by
            rcases hR' j h with h2 | h2
            · exact HRD.out j h2 h'
            · have := HD.out j h'; omega
          have hgs : g ≠ s := by rintro rfl; exact HRD.out g hsR hgD
          have hneg : ¬ (some g = Value.ownBlock (.slice a' (d.L.length + k) cap')) := fun e => hRD' g (hvR g e.symm) hgD
          have hnes : ¬ (some s = Value.ownBlock (.slice a' (d.L.length + k) cap')) := by
            intro e
            rcases hown2.2 with ⟨e2, _⟩ | ⟨g2, cap2, cur, e2, _, hgg, _⟩
            · rw [e2] at e; cases e
            · rw [e2] at e; cases e; rw [hb'] at hgg; cases hgg
          have hslt' : s < wr.heap.size := hRl s hs'
          have hglt' : g < wr.heap.size := Nat.lt_of_lt_of_le hgl hchg.size
          have HSS := Lib.hid (fun (w' : World) (hb : w'.heap[g]? = wr.heap[g]?) => chnCells hcl' (w' := w') (hb.trans (hchg.block g hgl (fun h => HRD.out g h hgD))))
          have c0 : wr.cell? ⟨s, 0, none⟩ = some (.slice a' (d.L.length + k) cap') := by simp [World.cell?, hb']
          have c0d : wr.drew.cell? ⟨s, 0, none⟩ = some (.slice a' (d.L.length + k) cap') := c0
          have c0a : ∀ o, (wr.drew.alloc o).cell? ⟨s, 0, none⟩ = some (.slice a' (d.L.length + k) cap') := fun o => (World.cell?_of_block (w := wr.drew) (a := ⟨s, 0, none⟩) (Go.heap_alloc_old wr.drew o hslt')).trans c0d
          have f0 := free_block hb' 0
          have hk0 : (0 : Int) ≤ k := by omega
          have hkl : (k : Int) < cs.length := by omega
          have HB' := Lib.hid hb'
          have HOWN := Lib.hid hown2
          have HENTS := Lib.hid hents
          have HVR := Lib.hid hvR
          have HRD' := Lib.hid hRD'
          have IK := Lib.hid ((ik.mono HF.out).keep hDk)
          have IA := Lib.hid ((ia.mono HF.out).keep hDk)
          have HCK := Lib.hid hck
          obtain ⟨ka, kc, rfl, -, -, -⟩ := ik
          obtain ⟨aa, ac, rfl, -, -, -⟩ := ia
          clear hb' hown hown2 hents hvR hR' hRl hchg hDk hRD' hcl' hc hck
          obtain ⟨cid, kind, name, text, parent, kids, attrs, gone⟩ := c
          simp only at *
          go_wp2_with fail
          obtain ⟨e0, e1, e2, e3, e4, e5, e6, e7⟩ := HSS.out wr rfl
          go_region_law ((refine step_append_lies _ (by rfl) _ _ 82 (by rfl) 0 147 i0 _ 9 120 Try.underlying82 hi hz0 hz1 hz2 rfl (by decide) (.slice a' (d.L.length + k) cap') (d.L.length + k) xs (by rfl) (ownsRow_keeps HOWN.out (fun j hj => Go.heap_alloc_old wr.drew _ (ownsRow_base HOWN.out hj).2)) ⟨wr.heap.size, 0, none⟩ 1 1 (entL ⟨cid, ⟨T, ⟨kind, name, text, parent, kids, attrs, gone⟩⟩⟩ (.slice ka kids.length kc) (.slice aa attrs.length ac)) (by rfl) (by rfl) (cells_new (w := wr.drew) (xs := entL ⟨cid, ⟨T, ⟨kind, name, text, parent, kids, attrs, gone⟩⟩⟩ (.slice ka kids.length kc) (.slice aa attrs.length ac))) (by simp [Value.oneCell']) (by omega) (by unfold maxLen; omega) (by omega) (Nat.zero_le _) (wr.heap.size + 1) (by simp) ?_; intro g2 cap2 w3 hown3 hgrow hloc hlt3; have q3 : w3.cell? ⟨s, 0, none⟩ = some (.slice a' (d.L.length + k) cap') := (World.cell?_of_block (a := ⟨s, 0, none⟩) (hgrow.block s (by simp; omega) hnes)).trans (c0a _); have f3 : w3.frozen? ⟨s, 0, none⟩ = false := (hgrow.frozen_far ⟨s, 0, none⟩ (by simp; omega) hnes).trans (free_block ((Go.heap_alloc_old wr.drew _ hslt').trans HB'.out) 0)))
          all_goals
            go_wp2_with fail
            go_roundw
            case measure => simp [Lib.intOf]; omega
            case rel =>
              have hps := doc_push (e := ⟨cid, ⟨T, ⟨kind, name, text, parent, kids, attrs, gone⟩⟩⟩) (v' := .slice (some ⟨g2, 0, none⟩) (d.L.length + k + 1) cap2) HRL.out (fun j hj => Nat.lt_of_lt_of_le (HD.out j hj) HCH.out.size) HRD'.out hs' HB'.out HOWN.out HENTS.out (by simp; omega) HVR.out ((chg_drewN wr 1).trans (chg_alloc _ _)) hown3 hgrow (hloc.elim .inl (fun h => .inr ⟨g2, rfl, by omega⟩)) IK.out IA.out
              have htk : (cs.take (k + 1)).map (entOf T) = (cs.take k).map (entOf T) ++ [⟨cid, ⟨T, ⟨kind, name, text, parent, kids, attrs, gone⟩⟩⟩] := by rw [List.take_add_one, HCK.out]; simp [entOf]
              refine ⟨k + 1, by omega, by go_num, _, ?_, ?_, hps.2.2.2, HCH.out.andThen hps.2.1 ?_⟩
              · rw [htk, ← List.append_assoc]; exact hps.1
              · rintro j (h | h)
                · exact HR'.out j h
                · rcases hps.2.2.1 j h with h | h
                  · exact HR'.out j h
                  · exact .inr (Nat.le_trans HCH.out.size h)
              · intro j hj h
                rcases HR'.out j h with h | h
                · exact h
                · omega
        · obtain rfl : k = cs.length := by omega
          have q2 : wr.cell? ⟨s, 2, none⟩ = some (.int .u64 d.last) := by simp [World.cell?, hb']
          have qf := free_block hb' 2
          have HFIN := Lib.hid (doc_last HDK.out (fun j h h' => by
            rcases HR'.out j h with h2 | h2
            · exact HRD.out j h2 h'
            · have := HD.out j h'; omega) T)
          clear hb' hown hents hvR hR' hRl hchg
          go_wp2
          go_ret
          have hfd := HFIN.out
          simp only [List.take_length] at hfd
          refine .inr ⟨HOK.out, rfl, HCH.out.andThen hfd.2 ?_, R', hfd.1, HR'.out, fun j h => by have := HRL.out j h; simpa [World.setCell] using this⟩
          intro j hj h
          rcases HR'.out j h with h | h
          · exact h
          · omega
end Go.Proofs.Ytinkjhkbaadbpaa
