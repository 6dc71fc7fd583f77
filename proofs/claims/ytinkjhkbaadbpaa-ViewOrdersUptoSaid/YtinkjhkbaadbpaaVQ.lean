/- ViewOrders (13): the walk. -/
import Derived.Test.YtinkjhkbaadbpaaRZ
import Derived.Deep.RegionHeld3
namespace Go.Proofs.Ytinkjhkbaadbpaa
open Go.RowKit
set_option linter.unusedVariables false
set_option linter.unusedSimpArgs false

set_option maxRecDepth 100000 in
set_option maxHeartbeats 8000000 in
theorem viewOrders_walk {w : World} {t : Tr} {av kv lv sv : Value} {xs : List Sp} {zs : List Int} (hT : TrIn (Old w.heap.size) w t av kv) (hsz : t.size ≤ 1048576) (hX : SpsIn (Old w.heap.size) w lv xs) (hXok : ∀ x ∈ xs, SpOk x) (hZ : IntsIn (Old w.heap.size) w sv zs) :
    Calls Try.prog 13 #[trV t av kv, lv, sv] w fun e w' => e = .returned (.bool true) ∧ Below w.heap.size w w' := by
  have hT2 := hT
  obtain ⟨kind, name, text, attrs, kids⟩ := t
  simp only [TrIn] at hT2
  obtain ⟨⟨a1, c1, rfl, -, -⟩, tzs, ⟨a2, c2, rfl, -, -⟩, -⟩ := hT2
  obtain ⟨t, ht⟩ : ∃ t, Tr.mk kind name text attrs kids = t := ⟨_, rfl⟩
  have htr : trV t (.slice a1 attrs.length c1) (.slice a2 kids.length c2) = .agg #[.int .i64 kind, .string name, .string text, .slice a1 attrs.length c1, .slice a2 kids.length c2] := by rw [← ht]; rfl
  rw [ht] at hT hsz
  obtain ⟨a3, c3, rfl, hxl, hx⟩ := hX
  have hzl := hZ.len
  have hZ2 := hZ
  obtain ⟨a4, c4, rfl, hz4, hz5, -⟩ := hZ2
  obtain ⟨W, hW⟩ : ∃ W, w.alloc (.cells #[.int .i64 kind, .string name, .string text, .slice a1 attrs.length c1, .slice a2 kids.length c2] 25) = W := ⟨_, rfl⟩
  have hbB : Below w.heap.size w W := by rw [← hW]; exact (Below.refl _ _).alloc (Nat.le_refl _) _
  have hs1 : W.heap.size = w.heap.size + 1 := by rw [← hW]; simp
  have hx0 : W.heap[w.heap.size]? = some (.cells #[.int .i64 kind, .string name, .string text, .slice a1 attrs.length c1, .slice a2 kids.length c2] 25 (0, 0)) := by rw [← hW]; exact Go.heap_alloc_new _ _
  obtain ⟨x0, x1, x2, x3, x4⟩ : W.cell? ⟨w.heap.size, 0, none⟩ = some (.int .i64 kind) ∧ W.cell? ⟨w.heap.size, 1, none⟩ = some (.string name) ∧ W.cell? ⟨w.heap.size, 2, none⟩ = some (.string text) ∧ W.cell? ⟨w.heap.size, 3, none⟩ = some (.slice a1 attrs.length c1) ∧ W.cell? ⟨w.heap.size, 4, none⟩ = some (.slice a2 kids.length c2) := by
    refine ⟨?_, ?_, ?_, ?_, ?_⟩ <;> simp [World.cell?, hx0]
  have hTW : ∀ W2, Below w.heap.size w W2 → TrIn (Old w.heap.size) W2 t (.slice a1 attrs.length c1) (.slice a2 kids.length c2) := fun W2 h2 => TrIn.keep (keeps_below h2) (fun _ h => h) _ _ _ hT
  have hfew := few_any (hTW W hbB) (fun k hk => by have : k < w.heap.size := hk; omega)
  rw [htr] at hfew
  have HFEW := Lib.hid hfew
  have HTW := Lib.hid hTW
  have HTR := Lib.hid htr
  have HW := Lib.hid hW
  have HX0 := Lib.hid hx0
  have HBB := Lib.hid hbB
  have HS1 := Lib.hid hs1
  have HSZ := Lib.hid hsz
  have HX := Lib.hid hx
  have HXK := Lib.hid hXok
  have HZ := Lib.hid hZ
  clear hT hW hs1 hx0 hbB hTW hfew htr ht hsz hx hXok hZ
  show Calls Try.prog 13 #[.agg #[.int .i64 kind, .string name, .string text, .slice a1 attrs.length c1, .slice a2 kids.length c2], .slice a3 xs.length c3, .slice a4 zs.length c4] w _
  go_enter Try.func13, Try.ntmps13
  go_upto_region 1 with fail
  rw [HW.out]
  go_wp2_with fail
  refine HFEW.out.mono ?_
  rintro e w1 ⟨⟨b, rfl⟩, hbf⟩
  have HB1 := Lib.hid (HBB.out.trans (hbf.mono HBB.out.size))
  have hx01 := (hbf.block w.heap.size (by have := HS1.out; omega)).trans HX0.out
  clear hbf x0 x1 x2 x3 x4
  cases b with
  | false =>
    clear hx01
    go_wp2_with (go_at_call 55; refine (vworks_any _).mono ?_; rintro e w5 ⟨rfl, hb5⟩)
    go_ret
    exact ⟨rfl, HB1.out.trans (hb5.mono HB1.out.size)⟩
  | true =>
    obtain ⟨x0, x1, x2, x3, x4⟩ : w1.cell? ⟨w.heap.size, 0, none⟩ = some (.int .i64 kind) ∧ w1.cell? ⟨w.heap.size, 1, none⟩ = some (.string name) ∧ w1.cell? ⟨w.heap.size, 2, none⟩ = some (.string text) ∧ w1.cell? ⟨w.heap.size, 3, none⟩ = some (.slice a1 attrs.length c1) ∧ w1.cell? ⟨w.heap.size, 4, none⟩ = some (.slice a2 kids.length c2) := by
      refine ⟨?_, ?_, ?_, ?_, ?_⟩ <;> simp [World.cell?, hx01]
    have hmd := made2_any (HTW.out w1 HB1.out) (fun k hk => Nat.lt_of_lt_of_le hk HB1.out.size) (by have := HSZ.out; omega)
    rw [HTR.out] at hmd
    have HMD := Lib.hid hmd
    clear hmd hx01
    go_wp2_with fail
    refine HMD.out.mono ?_
    rintro e w2 ⟨R, Ds, Rd, Dd, p, v, m, s, v2, s2, S, d, rfl, hdu, hpc, hnp, hb2, hmid, hpas⟩
    have hpl : p < w2.heap.size := (Array.getElem?_eq_some_iff.1 hpc).1
    have hgvn := plantT_g putO t 1 (1, fun _ => none)
    simp only at hgvn
    have hst0 : StepSt R Ds Rd Dd (w1.heap.size + 1) w2 v m s v2 s2 S d 0 1048577 := ⟨fun _ => none, [], S.given, by
      have hd := hdu
      have e : ({ d with given := S.given } : Doc) = d := by rw [← hmid.given.2]
      rw [e]
      exact hd, rfl, Nat.le_refl _, by rw [hmid.given.1]; have h9 : 1 ≤ (ownV t).2.1 := hgvn.1; omega, by rw [hmid.given.1]; have h9 : (ownV t).2.1 ≤ 1 + t.size := hgvn.2; have := HSZ.out; omega⟩
    have hlt2 := hdu.lt
    -- what came in, and the pair, stand aside
    have haF : Aside R Rd w2 v m v2 (fun k => Old w.heap.size k ∨ k = p) := fun k hk => by
      rcases hk with hk | rfl
      · exact hdu.aside (F := fun k => k < w1.heap.size + 1) (fun k h => h) k (by have h9 : k < w.heap.size := hk; have := HB1.out.size; omega)
      · exact hpas k rfl
    have HST0 := Lib.hid hst0
    have HMID := Lib.hid hmid
    have HAF := Lib.hid haF
    have HPC := Lib.hid hpc
    have HB2 := Lib.hid (HB1.out.trans (hb2.mono HB1.out.size))
    clear hdu hpc hb2 hmid hpas hgvn hst0 haF x0 x1 x2 x3 x4 hlt2
    go_upto_block 0 with fail
    go_cut [8] from 17 to 32 (fun i wx => StepSt R Ds Rd Dd (w1.heap.size + 1) wx v m s v2 s2 S d 22000000 22100000 ∧ Chg (Turns R Rd m v2) w2 wx)
    case first =>
      go_wp2_with fail
      go_loopw [8] (fun i wr => ∃ k : Nat, k ≤ xs.length ∧ k ≤ 20 ∧ i = .int .i64 k ∧ StepSt R Ds Rd Dd (w1.heap.size + 1) wr v m s v2 s2 S d (k * 1048577) (1048577 + (k : Int) * 1048576) ∧ Chg (Turns R Rd m v2) w2 wr) (fun i _ => 20 - (Lib.intOf i).toNat)
      case atStart => exact ⟨0, Nat.zero_le _, by omega, rfl, HST0.out.mono (by omega) (by omega), Chg.refl _ _⟩
      case round =>
        obtain ⟨k, hk, hk20, rfl, hst, hcr⟩ := hrel
        by_cases hgo : k < xs.length ∧ k < 20
        · obtain ⟨hlt, h20⟩ := hgo
          obtain ⟨x, hxk⟩ : ∃ x, xs[k]? = some x := ⟨_, List.getElem?_eq_getElem hlt⟩
          obtain ⟨g, off, rfl, hFg, hcc⟩ : ∃ g off, a3 = some ⟨g, off, none⟩ ∧ Old w.heap.size g ∧ ∀ (k : Nat) (x : Sp), xs[k]? = some x → ∃ kv av tav tkv, IntsIn (Old w.heap.size) w kv x.r.kids ∧ IntsIn (Old w.heap.size) w av x.r.attrs ∧ TrIn (Old w.heap.size) w x.n tav tkv ∧ ∀ j u, (spL x kv av tav tkv)[j]? = some u → w.cell? ⟨g, off + k * 14 + j, none⟩ = some u := by
            rcases HX.out with h | h
            · rw [h] at hlt; simp at hlt
            · exact h
          obtain ⟨xkv, xav, xtav, xtkv, i1, i2, i3, hce⟩ := hcc k x hxk
          have hokx := HXK.out x (List.mem_of_getElem? hxk)
          have hkO : Keeps (Old w.heap.size) w wr := fun q hq => ((HAF.out.keeps hcr) q (.inl hq)).trans (HB2.out.block q hq)
          have hpr := ((HAF.out.keeps hcr) p (.inr rfl)).trans HPC.out
          have hstep := step_any2 hst hpr x (i1.keep hkO) (i2.keep hkO) hokx.1 (TrIn.keep hkO (fun _ h => h) _ _ _ i3) (HAF.out.later hcr.size) (by omega) (by omega) (by have := hokx.2; omega)
          obtain ⟨e0, e1, e2, e3, e4, e5, e6, e7, e8, e9, e10, e11, e12, e13⟩ := spCells hce (hkO g hFg)
          have hxs := hokx.2
          unfold spV at hstep
          have HST := Lib.hid hstep
          have HCR := Lib.hid hcr
          have HXS := Lib.hid hxs
          have hk0 : (0 : Int) ≤ k := by omega
          have hkl : (k : Int) < xs.length := by omega
          have hk6 : (k : Int) < 20 := by omega
          obtain ⟨b1, d1, rfl, -, -, -⟩ := i1
          obtain ⟨b2, d2, rfl, -, -, -⟩ := i2
          have hnk := i3
          obtain ⟨xkind, xid, ⟨rkind, rname, rtext, rparent, rkids, rattrs, rgone⟩, ⟨nkind, nname, ntext, nattrs, nkids⟩⟩ := x
          simp only [TrIn] at hnk
          obtain ⟨⟨b3, d3, rfl, -, -⟩, xzs, ⟨b4, d4, rfl, -, -⟩, -⟩ := hnk
          simp only at *
          clear hstep hcc hce hxk hst hcr hokx hkO hpr hxs i3
          go_wp2_with (go_at_call 57; refine HST.out.mono ?_; rintro e w5 ⟨⟨bb, rfl⟩, hst5, hc5⟩; have HST5 := Lib.hid hst5; have HC5 := Lib.hid hc5; clear hst5 hc5)
          go_roundw
          case rel => exact ⟨k + 1, by omega, by omega, by go_num, HST5.out.mono (by have := HXS.out; omega) (by have := HXS.out; omega), HCR.out.trans HC5.out⟩
          case measure => simp [Lib.intOf]; omega
        · have hnot : ¬ ((k : Int) < xs.length) ∨ (((k : Int) < xs.length) ∧ ¬ ((k : Int) < 20)) := by
            by_cases h1 : k < xs.length
            · right; exact ⟨by omega, fun h2 => hgo ⟨h1, by omega⟩⟩
            · left; omega
          have HST := Lib.hid hst
          have HCR := Lib.hid hcr
          clear hgo hst hcr
          rcases hnot with hn9 | ⟨hn0, hn9⟩
          all_goals
            go_wp2_with fail
            go_meet
            exact ⟨HST.out.mono (by omega) (by omega), HCR.out⟩
    case rest =>
      obtain ⟨hst, hcr⟩ := hcut
      obtain ⟨Rb, g, keys, hax, hrd⟩ := step_both hst HMID.out (by have := HSZ.out; omega) (by omega)
      have hkO : Keeps (Old w.heap.size) w wc := fun q hq => ((HAF.out.keeps hcr) q (.inl hq)).trans (HB2.out.block q hq)
      have hpr := ((HAF.out.keeps hcr) p (.inr rfl)).trans HPC.out
      have hpc9 : p < wc.heap.size := (Array.getElem?_eq_some_iff.1 hpr).1
      have hbc : Below w.heap.size w wc := by
        obtain ⟨o9, L9, g9, hd9, -⟩ := hst
        refine below_of_chg ((chg_new HB2.out).trans (hcr.mono (fun q hq => ?_)))
        have h9 := hd9.turns q hq
        have h8 := HB1.out.size
        show w.heap.size ≤ q
        omega
      have hzw : IntsIn (Old wc.heap.size) wc (.slice a4 zs.length c4) zs := (HZ.out.keep hkO).mono (fun q hq => Nat.lt_of_lt_of_le hq hbc.size)
      have HPP := Lib.hid (show ∀ W2, Below wc.heap.size wc W2 → W2.cell? ⟨p, 0, none⟩ = some (ptr v) ∧ W2.cell? ⟨p, 1, none⟩ = some (ptr v2) from fun W2 h2 => by
        have e1 := (h2.block p hpc9).trans hpr
        constructor <;> simp [World.cell?, e1])
      have HAX := Lib.hid hax
      have HRD := Lib.hid hrd
      have HBC := Lib.hid hbc
      have HZW := Lib.hid hzw
      clear hst hcr hax hrd hkO hpr hbc hzw
      go_upto_if 35 with fail
      go_cut [2] (fun u wx => IntsIn (Old wc.heap.size) wc u (zs.take 200) ∧ wx = wc)
      case first =>
        by_cases h100 : 200 < zs.length
        · go_wp2_with fail
          go_meet
          exact ⟨HZW.out.head 200 (by omega), rfl⟩
        · go_wp2_with fail
          go_meet
          rw [List.take_of_length_le (by omega)]
          exact ⟨HZW.out, rfl⟩
      case rest =>
      obtain ⟨hz, rfl⟩ := hcut
      obtain ⟨ys, hys⟩ : ∃ ys, zs.take 200 = ys := ⟨_, rfl⟩
      rw [hys] at hz
      have hyl : ys.length ≤ 200 := by rw [← hys, List.length_take]; omega
      have HY := Lib.hid hz
      obtain ⟨a5, c5, rfl, -, -, hxy⟩ := hz
      have HXY := Lib.hid hxy
      have hyi : (ys.length : Int) ≤ 200 := by omega
      clear hys hxy
      obtain ⟨K, hK⟩ : ∃ K, keys.length + 1 = K := ⟨_, rfl⟩
      have HA1 := Lib.hid (show ∀ W, Below wc.heap.size wc W → Calls Try.prog 28 #[ptr v] W (AxPost W (allF g K)) from fun W hb => by
        have h9 := HAX.out.later hb
        rw [← hK]
        exact all_any h9.k h9.rl h9.ko h9.kl)
      have HA2 := Lib.hid (show ∀ W, Below wc.heap.size wc W → Calls Try.prog 58 #[ptr v2] W (AxPost W (allF g K)) from fun W hb => by
        rw [← hK]
        exact rall_any (HRD.out.later hb) HAX.out.ko HAX.out.kl)
      have HS1 := Lib.hid (show ∀ W, Below wc.heap.size wc W → Calls Try.prog 35 #[ptr v, .slice a5 ys.length c5] W (AxPost W (sortF g K ys)) from fun W hb => by
        have h9 := HAX.out.later hb
        rw [← hK]
        exact sort_view h9.k h9.rl h9.ko h9.kl (HY.out.later hb) (fun _ h => h))
      have HS2 := Lib.hid (show ∀ W, Below wc.heap.size wc W → Calls Try.prog 59 #[ptr v2, .slice a5 ys.length c5] W (AxPost W (sortF g K ys)) from fun W hb => by
        rw [← hK]
        exact rsort_any (HRD.out.later hb) HAX.out.ko HAX.out.kl (HY.out.later hb))
      obtain ⟨all, hal⟩ : ∃ all, allF g K = all := ⟨_, rfl⟩
      obtain ⟨A, hA⟩ : ∃ A, sortF g K ys = A := ⟨_, rfl⟩
      rw [hal] at HA1 HA2
      rw [hA] at HS1 HS2
      have hcur : Below wc.heap.size wc wc.drew := (Below.refl _ _).drew
      clear hK hal hA
      go_wp2_with fail
      go_region_held3 (fun wz => wz.cell? ⟨p, 0, none⟩ = some (ptr v) ∧ wz.cell? ⟨p, 1, none⟩ = some (ptr v2))
        (exact HPP.out _ hcur)
        (first
          | ((go_at_call 28; (with_reducible refine (HA1.out _ hcur).mono ?_); rintro e w3 ⟨⟨u3, rfl, ho3⟩, hb3⟩; have hcur := hcur.trans (hb3.mono hcur.size); have HO3 := Lib.hid ho3; obtain ⟨d3, e3, rfl, -, -, -⟩ := ho3; clear hb3))
          | ((go_at_call 58; (with_reducible refine (HA2.out _ hcur).mono ?_); rintro e w4 ⟨⟨u4, rfl, ho4⟩, hb4⟩; have hcur := hcur.trans (hb4.mono hcur.size); have HI4 := Lib.hid (ints_same all _ _ _ _ _ (HO3.out.later hb4) ho4); obtain ⟨d4, e4, rfl, -, -, -⟩ := ho4; clear hb4))
          | ((go_at_call 21; (with_reducible refine HI4.out.mono ?_); rintro e w5 ⟨rfl, n5, rfl⟩; have hcur := below_drewN hcur n5))
          | ((go_at_call 35; (with_reducible refine (HS1.out _ hcur).mono ?_); rintro e w6 ⟨⟨u6, rfl, ho6⟩, hb6⟩; have hcur := hcur.trans (hb6.mono hcur.size); have HO6 := Lib.hid ho6; obtain ⟨d6, e6, rfl, -, -, -⟩ := ho6; clear hb6))
          | ((go_at_call 59; (with_reducible refine (HS2.out _ hcur).mono ?_); rintro e w7 ⟨⟨u7, rfl, ho7⟩, hb7⟩; have hcur := hcur.trans (hb7.mono hcur.size); have HI7 := Lib.hid (ints_same A _ _ _ _ _ (HO6.out.later hb7) ho7); obtain ⟨d7, e7, rfl, -, -, -⟩ := ho7; clear hb7))
          | ((go_at_call 21; (with_reducible refine HI7.out.mono ?_); rintro e w8 ⟨rfl, n8, rfl⟩; have hcur := below_drewN hcur n8))
          | ((go_at_call 55; (with_reducible refine (vworks_any _).mono ?_); rintro e w9 ⟨rfl, hb9⟩; have hcur := hcur.trans (hb9.mono hcur.size); clear hb9)))
      all_goals
        go_wp2_with fail
        go_ret
        exact ⟨rfl, HBC.out.trans (hcur.mono HBC.out.size)⟩
end Go.Proofs.Ytinkjhkbaadbpaa
