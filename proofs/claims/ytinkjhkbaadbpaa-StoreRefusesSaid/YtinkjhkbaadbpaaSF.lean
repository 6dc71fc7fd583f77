/- StoreRefuses: the walk. -/
import Derived.Test.YtinkjhkbaadbpaaSB
namespace Go.Proofs.Ytinkjhkbaadbpaa
open Go.RowKit
set_option linter.unusedVariables false

/-- What may be is laid into both. -/
theorem pair_put {n0 j : Nat} {R D Rd : Nat → Prop} {w : World} {p q : Value} {S : Store} {d : Doc} (h : Both n0 R D Rd w p q S d) (hf : Few S d j) (hj : j + 1 ≤ 90) (T : Nat) (v : Value) (cs : List Chn) (hv : ChnsIn (Old n0) w v cs) (hok : ∀ c ∈ cs, RecOk c.r)
    (hT' : S.last < T) (hb : okL S.given [] cs = true) :
    ∃ P1 : World → Prop, Calls Try.prog 42 #[p, .int .u64 T, v] w (fun e w' => e = .returned (.int .i64 0) ∧ P1 w') ∧ ∀ w', P1 w' → Chg (fun k => R k ∨ Rd k) w w' ∧ Calls Try.prog 43 #[q, .int .u64 T, v] w' (fun e w'' => e = .returned (.int .i64 0) ∧ Done n0 (fun k => R k ∨ Rd k) w p q (j + 1) w'') := by
  have hg := hf.g
  have hg0 := hf.g0
  have hsm := hf.small
  have hF : ∀ k, Old n0 k → k < w.heap.size ∧ ¬ R k := fun k hk => ⟨Nat.lt_of_lt_of_le hk h.le, fun hr => by have := h.rn k hr; have : k < n0 := hk; omega⟩
  have hlenN : ∀ id, (S.N id).length ≤ 1000000 := fun id => by have := hf.N id; omega
  have hin := install_any h.st.is h.wf T hT' cs v hv hF h.st.rlt h.st.dlt h.st.rd hlenN hok
  have hgd : d.given = S.given := h.says.given.symm
  have hcl := okL_length (by omega) hb
  refine ⟨fun w' => Chg R w w' ∧ ∃ R' D', StoreAt R' D' w' p (S.put T cs) ∧ (∀ k, R' k → R k ∨ w.heap.size ≤ k) ∧ (∀ k, D' k → D k ∨ w.heap.size ≤ k), hin.mono (fun e w' hr => ?_), ?_⟩
  · rcases hr with ⟨ht, _⟩ | ⟨_, he, hc, hr⟩
    · rw [hb] at ht; cases ht
    · exact ⟨he, hc, hr⟩
  · rintro w' ⟨hc, R', D', hs, hR', hD'⟩
    refine ⟨hc.mono (fun k hk => .inl hk), ?_⟩
    have hkO : Keeps (Old n0) w w' := fun k hk => hc.block k (hF k hk).1 (hF k hk).2
    have hd : DocIn Rd (Old n0) w' q d := h.dc.keep (fun k hk => hc.block k (h.rdn k hk).2 (h.apart k hk).1) hkO
    refine (docInstall_any hd T (by rw [← h.says.last]; exact hT') cs v (hv.keep hkO) (fun k hk => hk) (fun k hk => Nat.lt_of_lt_of_le (h.rdn k hk).2 hc.size) (fun k hk => Nat.lt_of_lt_of_le hk (Nat.le_trans h.le hc.size)) h.rold (by have := hf.L; omega) (by rw [hgd]; omega) (by rw [hgd]; omega)).mono ?_
    rintro e w'' (⟨ht, _⟩ | ⟨_, rfl, hc2, Rd', hd2, hRd', hRdl⟩)
    · rw [hgd, hb] at ht; cases ht
    · have hap : ∀ k, Rd' k → ¬ R' k ∧ ¬ D' k := fun k hk => by
        rcases hRd' k hk with h1 | h1
        · have hl := (h.rdn k h1).2
          refine ⟨fun hr => ?_, fun hr => ?_⟩
          · rcases hR' k hr with h2 | h2
            · exact (h.apart k h1).1 h2
            · omega
          · rcases hD' k hr with h2 | h2
            · exact (h.apart k h1).2 h2
            · omega
        · exact ⟨fun hr => by have := hs.rlt k hr; omega, fun hd => by have := hs.dlt k hd; omega⟩
      have hap2 : ∀ k, Rd k → ¬ R' k ∧ ¬ D' k := fun k h1 => by
        have hl := (h.rdn k h1).2
        refine ⟨fun hr => ?_, fun hr => ?_⟩
        · rcases hR' k hr with h2 | h2
          · exact (h.apart k h1).1 h2
          · omega
        · rcases hD' k hr with h2 | h2
          · exact (h.apart k h1).2 h2
          · omega
      refine ⟨rfl, (hc.mono (fun k hk => .inl hk)).trans (hc2.mono (fun k hk => .inr hk)), R', D', Rd', _, _, ⟨⟨?_, ?_, ?_, hs.rd⟩, hd2, ?_, ?_, ?_, hap, ?_, h.says.put T cs, put_wf h.wf hT' hb hok hlenN, put_keys h.keys hb⟩, ?_⟩
      · exact hs.is.keep (fun k hk => hc2.block k (hs.rlt k hk) (fun hr => (hap2 k hr).1 hk)) (fun k hk => hc2.block k (hs.dlt k hk) (fun hr => (hap2 k hr).2 hk))
      · intro k hk; exact Nat.lt_of_lt_of_le (hs.rlt k hk) hc2.size
      · intro k hk; exact Nat.lt_of_lt_of_le (hs.dlt k hk) hc2.size
      · intro k hk
        rcases hR' k hk with h2 | h2
        · exact h.rn k h2
        · exact Nat.le_trans h.le h2
      · intro k hk
        rcases hD' k hk with h2 | h2
        · exact h.dn k h2
        · exact Nat.le_trans h.le h2
      · intro k hk
        refine ⟨?_, hRdl k hk⟩
        rcases hRd' k hk with h2 | h2
        · exact (h.rdn k h2).1
        · exact Nat.le_trans h.le (Nat.le_trans hc.size h2)
      · exact Nat.le_trans h.le (Nat.le_trans hc.size hc2.size)
      · refine ⟨hj, hg0, by show S.given ≤ _; push_cast; omega, fun id => ?_, ?_⟩
        · show (cs.foldl (putN T) S.N id).length ≤ _
          have := hf.N id
          rcases put_N (T := T) (N := S.N) id hb with ⟨h2, _⟩ | ⟨c, _, _, h2⟩
          · rw [h2]; omega
          · rw [h2]; simp; omega
        · have := hf.L
          show (d.L ++ cs.map (entOf T)).length ≤ _
          simp only [List.length_append, List.length_map]
          omega

/-- What may not be laid turns nothing. -/
theorem install_not {n0 j : Nat} {R D Rd : Nat → Prop} {w : World} {p q : Value} {S : Store} {d : Doc} (h : Both n0 R D Rd w p q S d) (hf : Few S d j) (T : Nat) (v : Value) (cs : List Chn) (hv : ChnsIn (Old n0) w v cs) (hok : ∀ c ∈ cs, RecOk c.r)
    (hno : ¬ (S.last < T ∧ okL S.given [] cs = true)) : ∃ r : Int, r ≠ 0 ∧ Calls Try.prog 42 #[p, .int .u64 T, v] w (fun e w' => e = .returned (.int .i64 r) ∧ Below w.heap.size w w') := by
  have hsm := hf.small
  by_cases hT : T ≤ S.last
  · exact ⟨43, by omega, (install_time h.st.is T hT v).mono (fun e w' ⟨h1, h2⟩ => ⟨h1, h2 ▸ Below.refl _ _⟩)⟩
  · have hF : ∀ k, Old n0 k → k < w.heap.size ∧ ¬ R k := fun k hk => ⟨Nat.lt_of_lt_of_le hk h.le, fun hr => by have := h.rn k hr; have : k < n0 := hk; omega⟩
    have hlenN : ∀ id, (S.N id).length ≤ 1000000 := fun id => by have := hf.N id; omega
    refine ⟨2, by omega, (install_any h.st.is h.wf T (by omega) cs v hv hF h.st.rlt h.st.dlt h.st.rd hlenN hok).mono ?_⟩
    rintro e w' (⟨_, he, hb⟩ | ⟨ht, _⟩)
    · exact ⟨he, hb⟩
    · exact absurd ⟨by omega, ht⟩ hno

set_option maxRecDepth 100000 in
set_option maxHeartbeats 8000000 in
theorem storeRefuses_walk (v cv : Value) (xs : List Stp) (T : Nat) (cs : List Chn) (w : World) (hv : StepsIn (Old w.heap.size) w v xs) (hcv : ChnsIn (Old w.heap.size) w cv cs) (hok : ∀ c ∈ cs, RecOk c.r) :
    Calls Try.prog 9 #[v, .int .u64 T, cv] w fun e w' => e = .returned (.bool true) ∧ Below w.heap.size w w' := by
  obtain ⟨a, cap, rfl, hl, hx⟩ := hv
  have hl2 : xs.length ≤ 9223372036854775807 := by unfold maxLen at hl; omega
  have HX := Lib.hid hx
  have HCV := Lib.hid hcv
  have HOK := Lib.hid hok
  obtain ⟨ca, cc, rfl, -⟩ := hcv
  clear hx hl hok
  go_enter Try.func9, Try.ntmps9
  go_upto_region 3 with (first
    | (go_at_call 39; refine (new_any (fun _ => False) _).mono ?_; rintro e w1 ⟨⟨p, rfl, hp⟩, hb1⟩)
    | (go_at_call 40; refine (docNew_any (Old w.heap.size) _).mono ?_; rintro e w2 ⟨⟨q, rfl, hq⟩, hb2⟩))
  obtain ⟨R0, D0, Rd0, hboth⟩ := both_fresh (Nat.le_refl _) hp hb1 hq hb2
  obtain ⟨sd, vv, xx, rfl, -⟩ := hq
  have HB0 := Lib.hid hboth
  have HBL := Lib.hid (hb1.trans (hb2.mono hb1.size))
  clear hp hb1 hb2 hboth
  go_wp2
  go_loopw [9] (fun i wr => ∃ k : Nat, k ≤ xs.length ∧ k ≤ 50 ∧ i = .int .i64 k ∧ (∃ R D Rd S d, Both w.heap.size R D Rd wr p (.pointer (some ⟨sd, 0, none⟩)) S d ∧ Few S d k) ∧ Below w.heap.size w wr) (fun i _ => 50 - (Lib.intOf i).toNat)
  case atStart => exact ⟨0, Nat.zero_le _, by omega, rfl, ⟨_, _, _, _, _, HB0.out, few_fresh⟩, HBL.out⟩
  case round =>
    obtain ⟨k, hk, hk60, rfl, ⟨R, D, Rd, S, d, hB, hF⟩, hbel⟩ := hrel
    have HBEL := Lib.hid hbel
    by_cases hgo : k < xs.length ∧ k < 50
    · obtain ⟨hlt, h60⟩ := hgo
      obtain ⟨x, hxk⟩ : ∃ x, xs[k]? = some x := ⟨_, List.getElem?_eq_getElem hlt⟩
      rcases HX.out with rfl | ⟨g, off, rfl, hgF, hc⟩
      · simp at hlt
      obtain ⟨u, hu, hokx, hcl⟩ := hc k x hxk
      have hgl : g < w.heap.size := hgF
      obtain ⟨e0, e1, e2, e3⟩ := stepCells hcl (hbel.block g hgl)
      have hstep := step_any hB hF (by omega) x u (hu.keep (fun k hk => hbel.block k hk)) hokx
      have HST := Lib.hid hstep
      have hk0 : (0 : Int) ≤ k := by omega
      have hkl : (k : Int) < xs.length := by omega
      have hk6 : (k : Int) < 50 := by omega
      obtain ⟨ua, uc, rfl, -⟩ := hu
      clear hstep hc hcl hxk hB hF hbel
      obtain ⟨kd, id, Tx, csx⟩ := x
      simp only at *
      go_wp2_with (go_at_call 41; refine HST.out.mono ?_; rintro e w2 ⟨rfl, hb2, R', D', Rd', S', d', hB', hF'⟩; have HB' := Lib.hid hB'; have HF' := Lib.hid hF'; have HBL2 := Lib.hid hb2; clear hb2 hB' hF')
      go_roundw
      case rel => exact ⟨k + 1, by omega, by omega, by go_num, ⟨R', D', Rd', S', d', HB'.out, HF'.out⟩, HBEL.out.trans (HBL2.out.mono (Nat.le_refl _))⟩
      case measure => simp [Lib.intOf]; omega
    · have hnot : ¬ ((k : Int) < xs.length) ∨ (((k : Int) < xs.length) ∧ ¬ ((k : Int) < 50)) := by
        by_cases h1 : k < xs.length
        · right; exact ⟨by omega, fun h2 => hgo ⟨h1, by omega⟩⟩
        · left; omega
      have HB := Lib.hid hB
      have HF := Lib.hid hF
      clear hB hF hbel hgo
      have hcv := HCV.out.keep (w' := wr) (fun j hj => HBEL.out.block j hj)
      by_cases hyes : S.last < T ∧ okL S.given [] cs = true
      · obtain ⟨P1, H1, H2⟩ := pair_put HB.out HF.out (by omega) T _ cs hcv HOK.out hyes.1 hyes.2
        have G1 := Lib.hid H1
        have G2 := Lib.hid H2
        clear H1 H2 hcv hyes
        rcases hnot with hn | ⟨hn0, hn⟩
        all_goals
          go_wp2_with (first
            | (go_at_call 42; refine G1.out.mono ?_; rintro e w3 ⟨rfl, hp1⟩; have HP1 := Lib.hid hp1; clear hp1)
            | (go_at_call 43; refine (G2.out _ HP1.out).2.mono ?_; rintro e w4 ⟨rfl, hdone⟩; have HD := Lib.hid hdone; clear hdone)
            | (go_at_call 38; refine (works_any _).mono ?_; rintro e w5 ⟨rfl, hb5⟩))
          go_ret
          have hb4 := HB.out.chgBelow HD.out.1
          exact ⟨rfl, HBEL.out.trans (hb4.trans (hb5.mono (Nat.le_trans HB.out.le hb4.size)))⟩
      · obtain ⟨r, hr, H1⟩ := install_not HB.out HF.out T _ cs hcv HOK.out hyes
        have G1 := Lib.hid H1
        clear H1 hcv hyes
        have hrb : (r == 0) = false := by simpa using hr
        rcases hnot with hn | ⟨hn0, hn⟩
        all_goals
          go_upto_region 10 with (first
            | (go_at_call 42; refine G1.out.mono ?_; rintro e w3 ⟨rfl, hb3⟩; have hB3 := HB.out.below hb3; have HB3 := Lib.hid hB3; have HBW3 := Lib.hid hb3; clear hB3 hb3)
            | (go_at_call 44; refine (docIds_any HB3.out.dc (fun k hk => (HB3.out.rdn k hk).2) (fun k hk => Nat.lt_of_lt_of_le hk HB3.out.le) (by have := HF.out.L; omega) (by rw [← HB3.out.says.given]; have := HF.out.g0; omega) (by rw [← HB3.out.says.given]; have := HF.out.g; omega)).mono ?_; rintro e w6 ⟨⟨ys, v6, rfl, hi6, -, -⟩, hb6⟩; have HI6 := Lib.hid hi6; obtain ⟨ya, yc, rfl, -, -, hyx⟩ := hi6; have HYX := Lib.hid hyx; have HB6 := Lib.hid (HB3.out.below hb6); have HBW6 := Lib.hid (HBW3.out.trans (hb6.mono HBW3.out.size)); have hyl := HI6.out.len; clear hyx hb6))
          go_wp2
          go_loopw [11] (fun i wx => ∃ k' : Nat, k' ≤ ys.length ∧ i = .int .i64 k' ∧ Below w6.heap.size w6 wx) (fun i _ => ys.length - (Lib.intOf i).toNat)
          case atStart => exact ⟨0, Nat.zero_le _, rfl, Below.refl _ _⟩
          case round =>
            obtain ⟨k', hk', rfl, hbx⟩ := hrel
            have HBX := Lib.hid hbx
            have HBB := Lib.hid (HB6.out.below hbx)
            by_cases hlt : k' < ys.length
            · rcases HYX.out with rfl | ⟨gi, oi, rfl, hgi, hci⟩
              · simp at hlt
              obtain ⟨y, hyk⟩ : ∃ y, ys[k']? = some y := ⟨_, List.getElem?_eq_getElem hlt⟩
              have hcy := hci k' y hyk
              have HSS := Lib.hid (fun (w' : World) (hb : Below wr.heap.size wr w') => (hb.cell (p := ⟨gi, oi + k', none⟩) (Nat.lt_of_lt_of_le hgi.2 hbx.size)).trans ((hbx.cell (p := ⟨gi, oi + k', none⟩) hgi.2).trans hcy))
              have hNd : d.N y = S.N y := (HB.out.says.N y).symm
              have hNl := HF.out.N y
              have hsm := HF.out.small
              have hLl := HF.out.L
              have HV := Lib.hid (fun (w' : World) (hb : Below wr.heap.size wr w') => versions_any (HBB.out.below hb).st.is HBB.out.wf (HBB.out.below hb).st.rlt (HBB.out.below hb).st.dlt y (by omega))
              have HW := Lib.hid (fun (w' : World) (hb : Below wr.heap.size wr w') => docVersions_any (HBB.out.below hb).dc (fun k hk => Nat.lt_of_lt_of_le hk (HBB.out.below hb).le) y (by omega))
              rw [hNd] at HW
              have h0 : (0 : Int) ≤ (k' : Int) := by omega
              have h1 : (k' : Int) < (ys.length : Int) := by omega
              clear hbx hci hyk hcy hNd hNl
              generalize S.N y = vs at *
              have hcur : Below wr.heap.size wr wr.drew := (Below.refl _ _).drew
              go_wp2_with fail
              go_region_held3 (fun w' => w'.cell? ⟨gi, oi + k', none⟩ = some (.int .i64 y))
                (exact HSS.out _ hcur)
                (first
                  | (go_at_call 46; refine (HV.out _ hcur).mono ?_; rintro e w7 ⟨⟨v1, rfl, hv1⟩, hb7⟩; have HV1 := Lib.hid hv1; clear hv1; have hcur := hcur.trans (hb7.mono hcur.size))
                  | (go_at_call 47; refine (HW.out _ hcur).mono ?_; rintro e w8 ⟨⟨v2, rfl, hv2⟩, hb8⟩; have HV2 := Lib.hid hv2; clear hv2; have hcur := hcur.trans (hb8.mono hcur.size))
                  | (go_at_call 45; refine (all_any vs v1 v2 (F := fun k => k < w7.heap.size) (G := fun k => k < w8.heap.size) ((HV1.out.mono (fun k hk => hk.2)).keep (keeps_below hb8)) (HV2.out.mono (fun k hk => hk.2)) (fun k hk => Nat.lt_of_lt_of_le hk hb8.size) (fun k hk => hk)).mono ?_; rintro e w9 ⟨rfl, hb9⟩; have hcur := hcur.trans (hb9.mono hcur.size)))
              all_goals
                go_wp2_with fail
                go_roundw
                case rel => exact ⟨k' + 1, by omega, by go_num, HBX.out.trans (hcur.mono HBX.out.size)⟩
                case measure => simp [Lib.intOf]; omega
            · obtain rfl : k' = ys.length := by omega
              obtain ⟨sd', aL, cL, eL, -, hbk, -⟩ := HBB.out.dc.read
              obtain rfl : sd = sd' := by cases eL; rfl
              have hsd := (Array.getElem?_eq_some_iff.1 hbk).1
              have HSS := Lib.hid (fun (w' : World) (hb : Below wr.heap.size wr w') => And.intro ((hb.cell (p := ⟨sd, 0, none⟩) hsd).trans (show wr.cell? ⟨sd, 0, none⟩ = some (.slice aL d.L.length cL) by simp [World.cell?, hbk])) ((hb.cell (p := ⟨sd, 2, none⟩) hsd).trans (show wr.cell? ⟨sd, 2, none⟩ = some (.int .u64 S.last) by rw [HB.out.says.last]; simp [World.cell?, hbk])))
              have hcur : Below wr.heap.size wr wr.drew := (Below.refl _ _).drew
              clear eL hbk hbx
              go_wp2_with fail
              go_region_held3 (fun w' => w'.cell? ⟨sd, 0, none⟩ = some (.slice aL d.L.length cL) ∧ w'.cell? ⟨sd, 2, none⟩ = some (.int .u64 S.last))
                (exact HSS.out _ hcur)
                (first
                  | (go_at_call 48; refine (last_any (HBB.out.below hcur).st.is).mono ?_; rintro e w7 ⟨rfl, rfl⟩)
                  | (go_at_call 49; refine (count_any (HBB.out.below hcur).st.is HBB.out.keys (HBB.out.below hcur).st.rlt (HBB.out.below hcur).st.dlt (by have := HF.out.g0; omega) (by have := HF.out.g; omega) (fun id => by have := HF.out.N id; have := HF.out.small; omega)).mono ?_; rintro e w8 ⟨⟨zs, hz, rfl⟩, hb8⟩; rw [HB.out.says.count hz]; have hcur := hcur.trans (hb8.mono hcur.size))
                  | (go_at_call 38; refine (works_any _).mono ?_; rintro e w9 ⟨rfl, hb9⟩; have hcur := hcur.trans (hb9.mono hcur.size)))
              all_goals
                go_wp2_with fail
                go_ret
                exact ⟨rfl, HBEL.out.trans ((HBW6.out.trans ((HBX.out.trans (hcur.mono HBX.out.size)).mono HBW6.out.size)).mono HBEL.out.size)⟩
end Go.Proofs.Ytinkjhkbaadbpaa
