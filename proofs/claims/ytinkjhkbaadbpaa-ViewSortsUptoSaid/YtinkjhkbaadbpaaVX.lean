/- ViewSorts (14): the walk. -/
import Derived.Test.YtinkjhkbaadbpaaV3
namespace Go.Proofs.Ytinkjhkbaadbpaa
open Go.RowKit
set_option linter.unusedVariables false
set_option linter.unusedSimpArgs false

set_option maxRecDepth 100000 in
set_option maxHeartbeats 8000000 in
theorem viewSorts_walk {w : World} {t : Tr} {av kv lv sv : Value} {xs : List Sp} {zs : List Int} (hT : TrIn (Old w.heap.size) w t av kv) (hsz : t.size ≤ 1048576) (hX : SpsIn (Old w.heap.size) w lv xs) (hXok : ∀ x ∈ xs, SpOk x) (hZ : IntsIn (Old w.heap.size) w sv zs) :
    Calls Try.prog 14 #[trV t av kv, lv, sv] w fun e w' => e = .returned (.bool true) ∧ Below w.heap.size w w' := by
  have hT2 := hT
  obtain ⟨kind, name, text, attrs, kids⟩ := t
  simp only [TrIn] at hT2
  obtain ⟨⟨a1, c1, rfl, -, -⟩, tzs, ⟨a2, c2, rfl, -, -⟩, -⟩ := hT2
  obtain ⟨t, ht⟩ : ∃ t, Tr.mk kind name text attrs kids = t := ⟨_, rfl⟩
  have htr : trV t (.slice a1 attrs.length c1) (.slice a2 kids.length c2) = .agg #[.int .i64 kind, .string name, .string text, .slice a1 attrs.length c1, .slice a2 kids.length c2] := by rw [← ht]; rfl
  rw [ht] at hT hsz
  obtain ⟨a3, c3, rfl, hxl, hx⟩ := hX
  have hzl := hZ.len
  have hZ2 := hZ
  obtain ⟨a4, c4, rfl, hz4, hz5, -⟩ := hZ2
  obtain ⟨W, hW⟩ : ∃ W, w.alloc (.cells #[.int .i64 kind, .string name, .string text, .slice a1 attrs.length c1, .slice a2 kids.length c2] 25) = W := ⟨_, rfl⟩
  have hbB : Below w.heap.size w W := by rw [← hW]; exact (Below.refl _ _).alloc (Nat.le_refl _) _
  have hs1 : W.heap.size = w.heap.size + 1 := by rw [← hW]; simp
  have hx0 : W.heap[w.heap.size]? = some (.cells #[.int .i64 kind, .string name, .string text, .slice a1 attrs.length c1, .slice a2 kids.length c2] 25 (0, 0)) := by rw [← hW]; exact Go.heap_alloc_new _ _
  obtain ⟨x0, x1, x2, x3, x4⟩ : W.cell? ⟨w.heap.size, 0, none⟩ = some (.int .i64 kind) ∧ W.cell? ⟨w.heap.size, 1, none⟩ = some (.string name) ∧ W.cell? ⟨w.heap.size, 2, none⟩ = some (.string text) ∧ W.cell? ⟨w.heap.size, 3, none⟩ = some (.slice a1 attrs.length c1) ∧ W.cell? ⟨w.heap.size, 4, none⟩ = some (.slice a2 kids.length c2) := by
    refine ⟨?_, ?_, ?_, ?_, ?_⟩ <;> simp [World.cell?, hx0]
  have hTW : ∀ W2, Below w.heap.size w W2 → TrIn (Old w.heap.size) W2 t (.slice a1 attrs.length c1) (.slice a2 kids.length c2) := fun W2 h2 => TrIn.keep (keeps_below h2) (fun _ h => h) _ _ _ hT
  have hfew := few_any (hTW W hbB) (fun k hk => by have : k < w.heap.size := hk; omega)
  rw [htr] at hfew
  have HFEW := Lib.hid hfew
  have HTW := Lib.hid hTW
  have HTR := Lib.hid htr
  have HW := Lib.hid hW
  have HX0 := Lib.hid hx0
  have HBB := Lib.hid hbB
  have HS1 := Lib.hid hs1
  have HSZ := Lib.hid hsz
  have HX := Lib.hid hx
  have HXK := Lib.hid hXok
  have HZ := Lib.hid hZ
  clear hT hW hs1 hx0 hbB hTW hfew htr ht hsz hx hXok hZ
  show Calls Try.prog 14 #[.agg #[.int .i64 kind, .string name, .string text, .slice a1 attrs.length c1, .slice a2 kids.length c2], .slice a3 xs.length c3, .slice a4 zs.length c4] w _
  go_enter Try.func14, Try.ntmps14
  go_upto_region 1 with fail
  rw [HW.out]
  go_wp2_with fail
  refine HFEW.out.mono ?_
  rintro e w1 ⟨⟨b, rfl⟩, hbf⟩
  have HB1 := Lib.hid (HBB.out.trans (hbf.mono HBB.out.size))
  have hx01 := (hbf.block w.heap.size (by have := HS1.out; omega)).trans HX0.out
  clear hbf x0 x1 x2 x3 x4
  cases b with
  | false =>
    clear hx01
    go_wp2_with (go_at_call 55; refine (vworks_any _).mono ?_; rintro e w5 ⟨rfl, hb5⟩)
    go_ret
    exact ⟨rfl, HB1.out.trans (hb5.mono HB1.out.size)⟩
  | true =>
    obtain ⟨x0, x1, x2, x3, x4⟩ : w1.cell? ⟨w.heap.size, 0, none⟩ = some (.int .i64 kind) ∧ w1.cell? ⟨w.heap.size, 1, none⟩ = some (.string name) ∧ w1.cell? ⟨w.heap.size, 2, none⟩ = some (.string text) ∧ w1.cell? ⟨w.heap.size, 3, none⟩ = some (.slice a1 attrs.length c1) ∧ w1.cell? ⟨w.heap.size, 4, none⟩ = some (.slice a2 kids.length c2) := by
      refine ⟨?_, ?_, ?_, ?_, ?_⟩ <;> simp [World.cell?, hx01]
    have hmd := made2_any (HTW.out w1 HB1.out) (fun k hk => Nat.lt_of_lt_of_le hk HB1.out.size) (by have := HSZ.out; omega)
    rw [HTR.out] at hmd
    have HMD := Lib.hid hmd
    clear hmd hx01
    go_wp2_with fail
    refine HMD.out.mono ?_
    rintro e w2 ⟨R, Ds, Rd, Dd, p, v, m, s, v2, s2, S, d, rfl, hdu, hpc, hnp, hb2, hmid, hpas⟩
    have hpl : p < w2.heap.size := (Array.getElem?_eq_some_iff.1 hpc).1
    have hgvn := plantT_g putO t 1 (1, fun _ => none)
    simp only at hgvn
    have hst0 : StepSt R Ds Rd Dd (w1.heap.size + 1) w2 v m s v2 s2 S d 0 1048577 := ⟨fun _ => none, [], S.given, by
      have hd := hdu
      have e : ({ d with given := S.given } : Doc) = d := by rw [← hmid.given.2]
      rw [e]
      exact hd, rfl, Nat.le_refl _, by rw [hmid.given.1]; have h9 : 1 ≤ (ownV t).2.1 := hgvn.1; omega, by rw [hmid.given.1]; have h9 : (ownV t).2.1 ≤ 1 + t.size := hgvn.2; have := HSZ.out; omega⟩
    have hlt2 := hdu.lt
    -- what came in, and the pair, stand aside
    have haF : Aside R Rd w2 v m v2 (fun k => Old w.heap.size k ∨ k = p) := fun k hk => by
      rcases hk with hk | rfl
      · exact hdu.aside (F := fun k => k < w1.heap.size + 1) (fun k h => h) k (by have h9 : k < w.heap.size := hk; have := HB1.out.size; omega)
      · exact hpas k rfl
    have HST0 := Lib.hid hst0
    have HMID := Lib.hid hmid
    have HAF := Lib.hid haF
    have HPC := Lib.hid hpc
    have HB2 := Lib.hid (HB1.out.trans (hb2.mono HB1.out.size))
    clear hdu hpc hb2 hmid hpas hgvn hst0 haF x0 x1 x2 x3 x4 hlt2
    go_upto_block 0 with fail
    go_cut [8] from 22 to 37 (fun i wx => StepSt R Ds Rd Dd (w1.heap.size + 1) wx v m s v2 s2 S d 22000000 22100000 ∧ Chg (Turns R Rd m v2) w2 wx)
    case first =>
      go_wp2_with fail
      go_loopw [8] (fun i wr => ∃ k : Nat, k ≤ xs.length ∧ k ≤ 20 ∧ i = .int .i64 k ∧ StepSt R Ds Rd Dd (w1.heap.size + 1) wr v m s v2 s2 S d (k * 1048577) (1048577 + (k : Int) * 1048576) ∧ Chg (Turns R Rd m v2) w2 wr) (fun i _ => 20 - (Lib.intOf i).toNat)
      case atStart => exact ⟨0, Nat.zero_le _, by omega, rfl, HST0.out.mono (by omega) (by omega), Chg.refl _ _⟩
      case round =>
        obtain ⟨k, hk, hk20, rfl, hst, hcr⟩ := hrel
        by_cases hgo : k < xs.length ∧ k < 20
        · obtain ⟨hlt, h20⟩ := hgo
          obtain ⟨x, hxk⟩ : ∃ x, xs[k]? = some x := ⟨_, List.getElem?_eq_getElem hlt⟩
          obtain ⟨g, off, rfl, hFg, hcc⟩ : ∃ g off, a3 = some ⟨g, off, none⟩ ∧ Old w.heap.size g ∧ ∀ (k : Nat) (x : Sp), xs[k]? = some x → ∃ kv av tav tkv, IntsIn (Old w.heap.size) w kv x.r.kids ∧ IntsIn (Old w.heap.size) w av x.r.attrs ∧ TrIn (Old w.heap.size) w x.n tav tkv ∧ ∀ j u, (spL x kv av tav tkv)[j]? = some u → w.cell? ⟨g, off + k * 14 + j, none⟩ = some u := by
            rcases HX.out with h | h
            · rw [h] at hlt; simp at hlt
            · exact h
          obtain ⟨xkv, xav, xtav, xtkv, i1, i2, i3, hce⟩ := hcc k x hxk
          have hokx := HXK.out x (List.mem_of_getElem? hxk)
          have hkO : Keeps (Old w.heap.size) w wr := fun q hq => ((HAF.out.keeps hcr) q (.inl hq)).trans (HB2.out.block q hq)
          have hpr := ((HAF.out.keeps hcr) p (.inr rfl)).trans HPC.out
          have hstep := step_any2 hst hpr x (i1.keep hkO) (i2.keep hkO) hokx.1 (TrIn.keep hkO (fun _ h => h) _ _ _ i3) (HAF.out.later hcr.size) (by omega) (by omega) (by have := hokx.2; omega)
          obtain ⟨e0, e1, e2, e3, e4, e5, e6, e7, e8, e9, e10, e11, e12, e13⟩ := spCells hce (hkO g hFg)
          have hxs := hokx.2
          unfold spV at hstep
          have HST := Lib.hid hstep
          have HCR := Lib.hid hcr
          have HXS := Lib.hid hxs
          have hk0 : (0 : Int) ≤ k := by omega
          have hkl : (k : Int) < xs.length := by omega
          have hk6 : (k : Int) < 20 := by omega
          obtain ⟨b1, d1, rfl, -, -, -⟩ := i1
          obtain ⟨b2, d2, rfl, -, -, -⟩ := i2
          have hnk := i3
          obtain ⟨xkind, xid, ⟨rkind, rname, rtext, rparent, rkids, rattrs, rgone⟩, ⟨nkind, nname, ntext, nattrs, nkids⟩⟩ := x
          simp only [TrIn] at hnk
          obtain ⟨⟨b3, d3, rfl, -, -⟩, xzs, ⟨b4, d4, rfl, -, -⟩, -⟩ := hnk
          simp only at *
          clear hstep hcc hce hxk hst hcr hokx hkO hpr hxs i3
          go_wp2_with (go_at_call 57; refine HST.out.mono ?_; rintro e w5 ⟨⟨bb, rfl⟩, hst5, hc5⟩; have HST5 := Lib.hid hst5; have HC5 := Lib.hid hc5; clear hst5 hc5)
          go_roundw
          case rel => exact ⟨k + 1, by omega, by omega, by go_num, HST5.out.mono (by have := HXS.out; omega) (by have := HXS.out; omega), HCR.out.trans HC5.out⟩
          case measure => simp [Lib.intOf]; omega
        · have hnot : ¬ ((k : Int) < xs.length) ∨ (((k : Int) < xs.length) ∧ ¬ ((k : Int) < 20)) := by
            by_cases h1 : k < xs.length
            · right; exact ⟨by omega, fun h2 => hgo ⟨h1, by omega⟩⟩
            · left; omega
          have HST := Lib.hid hst
          have HCR := Lib.hid hcr
          clear hgo hst hcr
          rcases hnot with hn9 | ⟨hn0, hn9⟩
          all_goals
            go_wp2_with fail
            go_meet
            exact ⟨HST.out.mono (by omega) (by omega), HCR.out⟩
    case rest =>
      obtain ⟨hst, hcr⟩ := hcut
      obtain ⟨Rb, g, keys, hax⟩ := step_ax hst HMID.out (by have := HSZ.out; omega) (by omega)
      have hkO : Keeps (Old w.heap.size) w wc := fun q hq => ((HAF.out.keeps hcr) q (.inl hq)).trans (HB2.out.block q hq)
      have hpr := ((HAF.out.keeps hcr) p (.inr rfl)).trans HPC.out
      have hpc9 : p < wc.heap.size := (Array.getElem?_eq_some_iff.1 hpr).1
      have hbc : Below w.heap.size w wc := by
        obtain ⟨o9, L9, g9, hd9, -⟩ := hst
        refine below_of_chg ((chg_new HB2.out).trans (hcr.mono (fun q hq => ?_)))
        have h9 := hd9.turns q hq
        have h8 := HB1.out.size
        show w.heap.size ≤ q
        omega
      have hzw : IntsIn (Old wc.heap.size) wc (.slice a4 zs.length c4) zs := (HZ.out.keep hkO).mono (fun q hq => Nat.lt_of_lt_of_le hq hbc.size)
      have HPP := Lib.hid (show ∀ W2, Below wc.heap.size wc W2 → W2.cell? ⟨p, 0, none⟩ = some (ptr v) from fun W2 h2 => by
        have e1 := (h2.block p hpc9).trans hpr
        simp [World.cell?, e1])
      have HAX := Lib.hid hax
      have HBC := Lib.hid hbc
      have HZW := Lib.hid hzw
      clear hst hcr hax hkO hpr hbc hzw
      go_upto_if 40 with fail
      go_cut [2] (fun u wx => IntsIn (Old wc.heap.size) wc u (zs.take 100) ∧ wx = wc)
      case first =>
        by_cases h100 : 100 < zs.length
        · go_wp2_with fail
          go_meet
          exact ⟨HZW.out.head 100 (by omega), rfl⟩
        · go_wp2_with fail
          go_meet
          rw [List.take_of_length_le (by omega)]
          exact ⟨HZW.out, rfl⟩
      case rest =>
      obtain ⟨hz, rfl⟩ := hcut
      obtain ⟨ys, hys⟩ : ∃ ys, zs.take 100 = ys := ⟨_, rfl⟩
      rw [hys] at hz
      have hyl : ys.length ≤ 100 := by rw [← hys, List.length_take]; omega
      have HY := Lib.hid hz
      obtain ⟨a5, c5, rfl, -, -, hxy⟩ := hz
      have HXY := Lib.hid hxy
      have hyi : (ys.length : Int) ≤ 100 := by omega
      clear hys hxy
      go_wp2_with fail
      go_loopw [9, 10] (fun u i wr => ∃ k : Nat, k ≤ ys.length ∧ i = .int .i64 ((k : Int) - 1) ∧ wr.ownsRow wc.heap.size 3 1 u (twice ys k).length ((twice ys k).map iv) ∧ Below wc.heap.size wc wr) (fun _ i _ => (Lib.intOf i + 1).toNat)
      case atStart => exact ⟨ys.length, Nat.le_refl _, rfl, by rw [twice_end]; exact World.ownsRow_nil _ _ _ _, Below.refl _ _⟩
      case round =>
        obtain ⟨k, hk, rfl, hown, hbr⟩ := hrel
        have hlm := twice_len ys k
        obtain ⟨outl, hout⟩ : ∃ outl, twice ys k = outl := ⟨_, rfl⟩
        rw [hout] at hown hlm
        obtain ⟨am, cm, rfl⟩ := shape3 hown
        have HOWN := Lib.hid hown
        have HBR := Lib.hid hbr
        have HOUT := Lib.hid hout
        clear hown hbr hout
        by_cases hlt : 0 < k
        · obtain ⟨j, rfl⟩ : ∃ j, k = j + 1 := ⟨k - 1, by omega⟩
          obtain ⟨x, hxk⟩ : ∃ x, ys[j]? = some x := ⟨_, List.getElem?_eq_getElem (by omega)⟩
          obtain ⟨gb, off, rfl, hFg, hc⟩ : ∃ g off, a5 = some ⟨g, off, none⟩ ∧ Old wc.heap.size g ∧ ∀ j x, ys[j]? = some x → wc.cell? ⟨g, off + j, none⟩ = some (.int .i64 x) := by
            rcases HXY.out with h | h
            · rw [h] at hk; simp at hk
            · exact h
          have HQ := Lib.hid (show ∀ W, Below wc.heap.size wc W → W.cell? ⟨gb, off + j, none⟩ = some (.int .i64 x) from fun W hb => (hb.cell (p := ⟨gb, off + j, none⟩) hFg).trans (hc j x hxk))
          have HS := Lib.hid (show twice ys j = outl ++ [x, x] by rw [← HOUT.out]; exact twice_step hxk)
          have hee : ((j + 1 : Nat) : Int) - 1 = j := by omega
          rw [hee]
          have hk0 : (0 : Int) ≤ j := by omega
          have hkl : (j : Int) < ys.length := by omega
          have hcur : Below wc.heap.size wc wr.drew := HBR.out.drew
          have hsz : wc.heap.size ≤ wr.heap.size := HBR.out.size
          clear hc hxk
          go_wp2_with fail
          go_region_held3 (fun w' => w'.cell? ⟨gb, off + j, none⟩ = some (.int .i64 x))
            (first
              | exact HQ.out _ hcur
              | exact HQ.out _ (hcur.alloc hcur.size _)
              | exact HQ.out _ ((HBR.out.alloc hsz _).drew))
            ((refine step_append_ints rfl _ _ rfl (zs := outl) (ys := [x, x]) rfl rfl (ownsRow_alloc (w := wr.drew) HOWN.out _) (two_in wr.drew x) (by simp only [List.length_cons, List.length_nil]; omega) (by simp; omega) ?_; intro u9 w9 ho9 hg9 hl9; have hcur := (HBR.out.drew.alloc (o := .cells #[iv x, iv x] 3) hsz).grown hg9 (by simp; omega) (fun q hq => (ownsRow_base HOWN.out hq).1)))
          all_goals
            go_wp2_with fail
            go_roundw
            case rel => exact ⟨j, by omega, rfl, by rw [HS.out]; exact ho9, hcur⟩
            case measure => simp [Lib.intOf]
        · obtain rfl : k = 0 := by omega
          have hbw := HBC.out.trans (HBR.out.mono HBC.out.size)
          have haxr := HAX.out.later HBR.out
          obtain ⟨K, hK⟩ : ∃ K, keys.length + 1 = K := ⟨_, rfl⟩
          have HSRT := Lib.hid (show ∀ W, Below wr.heap.size wr W → ∀ (lv : Value) (l : List Int), IntsIn (Old W.heap.size) W lv l → Calls Try.prog 35 #[ptr v, lv] W (AxPost W (sortF g K l)) from fun W hb lv l hl => by
            have h9 := haxr.later hb
            rw [← hK]
            exact sort_view h9.k h9.rl h9.ko h9.kl hl (fun _ h => h))
          have HALL := Lib.hid (show ∀ W, Below wr.heap.size wr W → Calls Try.prog 28 #[ptr v] W (AxPost W (allF g K)) from fun W hb => by
            have h9 := haxr.later hb
            rw [← hK]
            exact all_any h9.k h9.rl h9.ko h9.kl)
          have HPR := Lib.hid (show ∀ W2, Below wr.heap.size wr W2 → W2.cell? ⟨p, 0, none⟩ = some (ptr v) from fun W2 h2 => HPP.out W2 (HBR.out.trans (h2.mono HBR.out.size)))
          have HYR := Lib.hid (HY.out.later HBR.out)
          have HTL := Lib.hid ((intsIn_row HOWN.out).old)
          have hmt : ∀ x, x ∈ outl ↔ x ∈ ys := fun x => by rw [← HOUT.out]; exact mem_twice ys x
          have HSE := Lib.hid (sort_congr (g := g) (n := K) hmt)
          have HBW := Lib.hid hbw
          have hpr := HPR.out wr (Below.refl _ _)
          clear hbw haxr hK hmt
          go_wp2_with fail
          refine (HSRT.out wr (Below.refl _ _) _ ys HYR.out).mono ?_
          rintro e w3 ⟨⟨ua, rfl, hoa⟩, hb3⟩
          clear hpr
          have hpr := HPR.out w3 hb3
          have HB3 := Lib.hid hb3
          have HOA := Lib.hid hoa
          obtain ⟨aa, ca, rfl, -, -, -⟩ := hoa
          clear hb3
          go_wp2_with fail
          refine (HALL.out w3 HB3.out).mono ?_
          rintro e w4 ⟨⟨ub, rfl, hob⟩, hb4⟩
          clear hpr
          obtain ⟨A, hA⟩ : ∃ A, sortF g K ys = A := ⟨_, rfl⟩
          obtain ⟨all, hal⟩ : ∃ all, allF g K = all := ⟨_, rfl⟩
          have hss := sort_sort g K ys
          have hsa := sort_all g K
          have hme : ∀ x, x ∈ ys → (x ∈ allF g K ↔ x ∈ sortF g K ys) := fun x hx => by rw [mem_sort]; exact ⟨fun h => ⟨h, hx⟩, fun h => h.1⟩
          rw [hA] at HOA HSE hss hme ⊢
          rw [hal] at hob hsa hme
          have hb34 := HB3.out.trans (hb4.mono HB3.out.size)
          have HLA := Lib.hid (show ∀ W, Below w4.heap.size w4 W → IntsIn (Old W.heap.size) W (.slice aa A.length ca) A from fun W hb => (HOA.out.later hb4).later hb)
          have HLB := Lib.hid (show ∀ W, Below w4.heap.size w4 W → IntsIn (Old W.heap.size) W ub all from fun W hb => hob.later hb)
          have HLT := Lib.hid (show ∀ W, Below w4.heap.size w4 W → IntsIn (Old W.heap.size) W (.slice am outl.length cm) outl from fun W hb => (HTL.out.later hb34).later hb)
          have HLY := Lib.hid (show ∀ W, Below w4.heap.size w4 W → IntsIn (Old W.heap.size) W (.slice a5 ys.length c5) ys from fun W hb => (HYR.out.later hb34).later hb)
          obtain ⟨ab, cb, rfl, -, -, -⟩ := hob
          have HB4 := Lib.hid hb34
          have HSS := Lib.hid hss
          have HSA := Lib.hid hsa
          have HME := Lib.hid hme
          clear hss hsa hme hb34 hb4 hA hal
          have hpr := HPR.out w4 HB4.out
          go_wp2_with fail
          refine (HSRT.out w4 HB4.out _ A (HLA.out w4 (Below.refl _ _))).mono ?_
          rintro e w5 ⟨⟨u5, rfl, ho5⟩, hb5⟩
          rw [HSS.out] at ho5
          have HI5 := Lib.hid (ints_same A _ _ u5 _ _ ho5 (HLA.out w5 hb5))
          have HB45 := Lib.hid hb5
          obtain ⟨a5', c5', rfl, -, -, -⟩ := ho5
          clear hpr hb5
          go_wp2_with fail
          refine HI5.out.mono ?_
          rintro e w6 ⟨rfl, n6, hn6⟩
          have hb46 : Below w4.heap.size w4 w6 := by rw [← hn6]; exact below_drewN HB45.out _
          have hb6 := HB4.out.trans (hb46.mono HB4.out.size)
          have hpr := HPR.out w6 hb6
          have HB46 := Lib.hid hb46
          have HB6 := Lib.hid hb6
          clear hb46 hb6 hn6
          go_wp2_with fail
          refine (HSRT.out w6 HB6.out _ outl (HLT.out w6 HB46.out)).mono ?_
          rintro e w7 ⟨⟨u7, rfl, ho7⟩, hb7⟩
          rw [HSE.out] at ho7
          have hb47 := HB46.out.trans (hb7.mono HB46.out.size)
          have HI7 := Lib.hid (ints_same A _ _ u7 _ _ ho7 (HLA.out w7 hb47))
          have HB47 := Lib.hid hb47
          obtain ⟨a7, c7, rfl, -, -, -⟩ := ho7
          clear hpr hb7 hb47
          go_wp2_with fail
          refine HI7.out.mono ?_
          rintro e w8 ⟨rfl, n8, hn8⟩
          have hb48 : Below w4.heap.size w4 w8 := by rw [← hn8]; exact below_drewN HB47.out _
          have hb8 := HB4.out.trans (hb48.mono HB4.out.size)
          have hpr := HPR.out w8 hb8
          have HB48 := Lib.hid hb48
          have HB8 := Lib.hid hb8
          clear hb48 hb8 hn8
          go_wp2_with fail
          refine (HSRT.out w8 HB8.out _ all (HLB.out w8 HB48.out)).mono ?_
          rintro e w9 ⟨⟨u9, rfl, ho9⟩, hb9⟩
          rw [HSA.out] at ho9
          have hb49 := HB48.out.trans (hb9.mono HB48.out.size)
          have HI9 := Lib.hid (ints_same all _ _ u9 _ _ ho9 (HLB.out w9 hb49))
          have HB49 := Lib.hid hb49
          obtain ⟨a9, c9, rfl, -, -, -⟩ := ho9
          clear hpr hb9 hb49
          go_wp2_with fail
          refine HI9.out.mono ?_
          rintro e w10 ⟨rfl, n10, hn10⟩
          have hb410 : Below w4.heap.size w4 w10 := by rw [← hn10]; exact below_drewN HB49.out _
          have HB410 := Lib.hid hb410
          clear hb410 hn10
          go_wp2_with fail
          go_loopw [13] (fun i wx => ∃ k : Nat, k ≤ ys.length ∧ i = .int .i64 k ∧ Below w4.heap.size w4 wx) (fun i _ => ys.length - (Lib.intOf i).toNat)
          case atStart => exact ⟨0, Nat.zero_le _, rfl, HB410.out⟩
          case round =>
            obtain ⟨k, hk, rfl, hbx⟩ := hrel
            by_cases hlk : k < ys.length
            · obtain ⟨x, hx⟩ : ∃ x, ys[k]? = some x := ⟨_, List.getElem?_eq_getElem hlk⟩
              obtain ⟨gy, oy, rfl, hgy, hcy⟩ : ∃ g off, a5 = some ⟨g, off, none⟩ ∧ Old w4.heap.size g ∧ ∀ j x, ys[j]? = some x → w4.cell? ⟨g, off + j, none⟩ = some (.int .i64 x) := by
                obtain ⟨a', c', e', -, -, h⟩ := HLY.out w4 (Below.refl _ _)
                cases e'
                rcases h with h | h
                · rw [h] at hlk; simp at hlk
                · exact h
              have HQ := Lib.hid (show ∀ W, Below w4.heap.size w4 W → W.cell? ⟨gy, oy + k, none⟩ = some (.int .i64 x) from fun W hb => (hb.cell (p := ⟨gy, oy + k, none⟩) hgy).trans (hcy k x hx))
              have hmx := HME.out x (List.mem_of_getElem? hx)
              obtain ⟨tb, htb, htb2⟩ : ∃ tb : Bool, decide (x ∈ all) = tb ∧ decide (x ∈ A) = tb := ⟨_, rfl, by rw [decide_eq_decide]; exact hmx.symm⟩
              have H1 := Lib.hid (show ∀ W, Below w4.heap.size w4 W → Calls Try.prog 30 #[.slice ab all.length cb, .int .i64 x] W (fun e w' => e = .returned (.bool tb) ∧ W = w') from fun W hb => by
                rw [← htb]; exact rhas_any all _ _ x W (HLB.out W hb))
              have H2 := Lib.hid (show ∀ W, Below w4.heap.size w4 W → Calls Try.prog 30 #[.slice aa A.length ca, .int .i64 x] W (fun e w' => e = .returned (.bool tb) ∧ W = w') from fun W hb => by
                rw [← htb2]; exact rhas_any A _ _ x W (HLA.out W hb))
              have HBX := Lib.hid hbx
              have hk0 : (0 : Int) ≤ k := by omega
              have hki : (k : Int) < ys.length := by omega
              have hcur : Below w4.heap.size w4 wr.drew := hbx.drew
              clear hcy hx hmx htb htb2 hbx
              cases tb
              all_goals
                go_wp2_with fail
                go_region_held3 (fun w' => w'.cell? ⟨gy, oy + k, none⟩ = some (.int .i64 x))
                  (exact HQ.out _ hcur)
                  (first
                    | ((go_at_call 30; (with_reducible refine (H1.out _ hcur).mono ?_); rintro e w11 ⟨rfl, rfl⟩))
                    | ((go_at_call 30; (with_reducible refine (H2.out _ hcur).mono ?_); rintro e w12 ⟨rfl, rfl⟩)))
                all_goals
                  go_wp2_with fail
                  go_roundw
                  case rel => exact ⟨k + 1, by omega, by go_num, hcur⟩
                  case measure => simp [Lib.intOf]; omega
            · obtain rfl : k = ys.length := by omega
              have HBX := Lib.hid (HB4.out.trans (hbx.mono HB4.out.size))
              clear hbx
              go_wp2_with (go_at_call 55; refine (vworks_any _).mono ?_; rintro e w13 ⟨rfl, hb13⟩)
              go_ret
              exact ⟨rfl, HBW.out.trans ((HBX.out.trans (hb13.mono HBX.out.size)).mono HBW.out.size)⟩
end Go.Proofs.Ytinkjhkbaadbpaa
