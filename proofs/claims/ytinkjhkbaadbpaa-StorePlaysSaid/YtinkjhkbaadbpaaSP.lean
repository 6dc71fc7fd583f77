/- StorePlays: the walk. -/
import Derived.Test.YtinkjhkbaadbpaaSB
import Derived.Deep.RegionWith
namespace Go.Proofs.Ytinkjhkbaadbpaa
open Go.RowKit
set_option linter.unusedVariables false

set_option maxRecDepth 100000 in
set_option maxHeartbeats 8000000 in
theorem storePlays_walk (v : Value) (xs : List Stp) (w : World) (hv : StepsIn (Old w.heap.size) w v xs) :
    Calls Try.prog 11 #[v] w fun e w' => e = .returned (.bool true) ∧ Below w.heap.size w w' := by
  obtain ⟨a, cap, rfl, hl, hx⟩ := hv
  have hl2 : xs.length ≤ 9223372036854775807 := by unfold maxLen at hl; omega
  have HX := Lib.hid hx
  clear hx hl
  go_enter Try.func11, Try.ntmps11
  go_upto_region 3 with (first
    | (go_at_call 39; refine (new_any (fun _ => False) _).mono ?_; rintro e w1 ⟨⟨p, rfl, hp⟩, hb1⟩)
    | (go_at_call 40; refine (docNew_any (Old w.heap.size) _).mono ?_; rintro e w2 ⟨⟨q, rfl, hq⟩, hb2⟩))
  obtain ⟨R0, D0, Rd0, hboth⟩ := both_fresh (Nat.le_refl _) hp hb1 hq hb2
  obtain ⟨sd, vv, xx, rfl, -⟩ := hq
  have HB0 := Lib.hid hboth
  have HBL := Lib.hid (hb1.trans (hb2.mono hb1.size))
  clear hp hb1 hb2 hboth
  go_wp2
  go_loopw [5] (fun i wr => ∃ k : Nat, k ≤ xs.length ∧ k ≤ 60 ∧ i = .int .i64 k ∧ (∃ R D Rd S d, Both w.heap.size R D Rd wr p (.pointer (some ⟨sd, 0, none⟩)) S d ∧ Few S d k) ∧ Below w.heap.size w wr) (fun i _ => 60 - (Lib.intOf i).toNat)
  case atStart => exact ⟨0, Nat.zero_le _, by omega, rfl, ⟨_, _, _, _, _, HB0.out, few_fresh⟩, HBL.out⟩
  case round =>
    obtain ⟨k, hk, hk60, rfl, ⟨R, D, Rd, S, d, hB, hF⟩, hbel⟩ := hrel
    have HBEL := Lib.hid hbel
    by_cases hlt : k < xs.length
    · by_cases h60 : k < 60
      · obtain ⟨x, hxk⟩ : ∃ x, xs[k]? = some x := ⟨_, List.getElem?_eq_getElem hlt⟩
        rcases HX.out with rfl | ⟨g, off, rfl, hgF, hc⟩
        · simp at hlt
        obtain ⟨u, hu, hok, hcl⟩ := hc k x hxk
        have hgl : g < w.heap.size := hgF
        obtain ⟨e0, e1, e2, e3⟩ := stepCells hcl (hbel.block g hgl)
        have hstep := step_any (w := wr.drew) (hB.below (Below.refl _ _).drew) hF (by omega) x u (hu.keep (fun k hk => hbel.block k hk)) hok
        have HST := Lib.hid hstep
        have hk0 : (0 : Int) ≤ k := by omega
        have hkl : (k : Int) < xs.length := by omega
        have hk6 : (k : Int) < 60 := by omega
        obtain ⟨ua, uc, rfl, -⟩ := hu
        clear hstep hc hcl hxk hB hF hbel
        obtain ⟨kd, id, T, cs⟩ := x
        simp only at *
        go_wp2_with fail
        go_region_with (first
          | (go_at_call 41; refine HST.out.mono ?_; rintro e w2 ⟨rfl, hb2, R', D', Rd', S', d', hB', hF'⟩; have HB' := Lib.hid hB'; have HF' := Lib.hid hF'; have HBL2 := Lib.hid hb2; obtain ⟨sd', aL, cL, eL, -, hbk, -⟩ := hB'.dc.read; obtain rfl : sd = sd' := (by cases eL; rfl); have f0 : w2.cell? ⟨sd, 0, none⟩ = some (.slice aL d'.L.length cL) := (by simp [World.cell?, hbk]); have f2 : w2.cell? ⟨sd, 2, none⟩ = some (.int .u64 S'.last) := (by rw [hB'.says.last]; simp [World.cell?, hbk]); have hsd := (Array.getElem?_eq_some_iff.1 hbk).1; have hcur := Below.refl w2.heap.size w2; clear eL hbk hB' hF' hb2)
          | (go_at_call 48; refine (last_any (HB'.out.below hcur).st.is).mono ?_; rintro e w3 ⟨rfl, rfl⟩)
          | (go_at_call 49; refine (count_any (HB'.out.below hcur).st.is HB'.out.keys (HB'.out.below hcur).st.rlt (HB'.out.below hcur).st.dlt (by have := HF'.out.g0; omega) (by have := HF'.out.g; omega) (fun id => by have := HF'.out.N id; omega)).mono ?_; rintro e w4 ⟨⟨zs, hz, rfl⟩, hb4⟩; rw [HB'.out.says.count hz]; have f0 := (hb4.cell (p := ⟨sd, 0, none⟩) (Nat.lt_of_lt_of_le hsd hcur.size)).trans f0; have hcur := hcur.trans (hb4.mono hcur.size); clear hb4 hz)
          | (go_at_call 50; refine (ids_any (HB'.out.below hcur).st.is HB'.out.keys (by have := HF'.out.g0; omega) (by have := HF'.out.g; omega)).mono ?_; rintro e w5 ⟨⟨zs5, v5, rfl, hi5, hz5⟩, hb5⟩; have HI5 := Lib.hid hi5; have HZ5 := Lib.hid hz5; have hcur := hcur.trans (hb5.mono hcur.size); clear hi5 hz5)
          | (go_at_call 44; refine (docIds_any (HB'.out.below hcur).dc (fun k hk => ((HB'.out.below hcur).rdn k hk).2) (fun k hk => Nat.lt_of_lt_of_le hk (HB'.out.below hcur).le) (by have := HF'.out.L; omega) (by rw [← HB'.out.says.given]; have := HF'.out.g0; omega) (by rw [← HB'.out.says.given]; have := HF'.out.g; omega)).mono ?_; rintro e w6 ⟨⟨ys, v6, rfl, hi6, hp6, hm6⟩, hb6⟩; have hys : zs5 = ys := HB'.out.says.ids HB'.out.keys HZ5.out hp6 hm6; rw [← hys] at hi6; have HI6 := Lib.hid hi6; have hcur := hcur.trans (hb6.mono hcur.size); clear hi6 hp6 hm6 hys)
          | (go_at_call 21; refine (ints_same zs5 _ _ v5 v6 _ (HI5.out.keep (fun k hk => hb6.block k hk.2)) HI6.out).mono ?_; rintro e w7 ⟨rfl, hn7⟩; have hcur := hcur.trans (below_of_drewN hn7)))
        all_goals
          go_wp2_with fail
          go_roundw
          case rel => exact ⟨k + 1, by omega, by omega, by go_num, ⟨R', D', Rd', S', d', HB'.out.below hcur, HF'.out⟩, HBEL.out.drew.trans (HBL2.out.trans (hcur.mono (Nat.le_trans HBEL.out.drew.size HBL2.out.size)))⟩
          case measure => simp [Lib.intOf]; omega
      · have hk6 : ¬ ((k : Int) < 60) := by omega
        have hkl : (k : Int) < xs.length := by omega
        go_wp2_with (go_at_call 38; refine (works_any _).mono ?_; rintro e w8 ⟨rfl, hb8⟩)
        go_ret
        exact ⟨rfl, HBEL.out.trans (hb8.mono HBEL.out.size)⟩
    · have hkl : ¬ ((k : Int) < xs.length) := by omega
      go_wp2_with (go_at_call 38; refine (works_any _).mono ?_; rintro e w8 ⟨rfl, hb8⟩)
      go_ret
      exact ⟨rfl, HBEL.out.trans (hb8.mono HBEL.out.size)⟩
end Go.Proofs.Ytinkjhkbaadbpaa
