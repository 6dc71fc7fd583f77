/- The walk of AxisTurns (5). -/
import Derived.Test.YtinkjhkbaadbpaaTZ
namespace Go.Proofs.Ytinkjhkbaadbpaa
open Go.RowKit
set_option linter.unusedVariables false
set_option linter.unusedSimpArgs false

set_option maxRecDepth 100000 in
set_option maxHeartbeats 4000000 in
theorem axisTurns_walk {w : World} {t : Tr} {av kv : Value} (one two : Int) (h1 : 0 ≤ one) (h1' : one < 65536) (h2 : 0 ≤ two) (h2' : two < 65536) (hT : TrIn (Old w.heap.size) w t av kv) (hsz : t.size ≤ 100000000) :
    Calls Try.prog 5 #[trV t av kv, .int .u16 one, .int .u16 two] w fun e w' => e = .returned (.bool true) ∧ Below w.heap.size w w' := by
  have hT2 := hT
  obtain ⟨kind, name, text, attrs, kids⟩ := t
  simp only [TrIn] at hT2
  obtain ⟨⟨a1, c1, rfl, -, -⟩, zs, ⟨a2, c2, rfl, -, -⟩, -⟩ := hT2
  obtain ⟨t, ht⟩ : ∃ t, Tr.mk kind name text attrs kids = t := ⟨_, rfl⟩
  have htr : trV t (.slice a1 attrs.length c1) (.slice a2 kids.length c2) = .agg #[.int .i64 kind, .string name, .string text, .slice a1 attrs.length c1, .slice a2 kids.length c2] := by rw [← ht]; rfl
  rw [ht] at hT hsz
  obtain ⟨W, hW⟩ : ∃ W, w.alloc (.cells #[.int .i64 kind, .string name, .string text, .slice a1 attrs.length c1, .slice a2 kids.length c2] 25) = W := ⟨_, rfl⟩
  have hbB : Below w.heap.size w W := by rw [← hW]; exact (Below.refl _ _).alloc (Nat.le_refl _) _
  have hs1 : W.heap.size = w.heap.size + 1 := by rw [← hW]; simp
  have hx0 : W.heap[w.heap.size]? = some (.cells #[.int .i64 kind, .string name, .string text, .slice a1 attrs.length c1, .slice a2 kids.length c2] 25 (0, 0)) := by rw [← hW]; exact Go.heap_alloc_new _ _
  obtain ⟨x0, x1, x2, x3, x4⟩ : W.cell? ⟨w.heap.size, 0, none⟩ = some (.int .i64 kind) ∧ W.cell? ⟨w.heap.size, 1, none⟩ = some (.string name) ∧ W.cell? ⟨w.heap.size, 2, none⟩ = some (.string text) ∧ W.cell? ⟨w.heap.size, 3, none⟩ = some (.slice a1 attrs.length c1) ∧ W.cell? ⟨w.heap.size, 4, none⟩ = some (.slice a2 kids.length c2) := by
    refine ⟨?_, ?_, ?_, ?_, ?_⟩ <;> simp [World.cell?, hx0]
  have hTW : ∀ W2, Below w.heap.size w W2 → TrIn (Old w.heap.size) W2 t (.slice a1 attrs.length c1) (.slice a2 kids.length c2) := fun W2 h2 => TrIn.keep (keeps_below h2) (fun _ h => h) _ _ _ hT
  have hfew := few_any (hTW W hbB) (fun k hk => by have : k < w.heap.size := hk; omega)
  rw [htr] at hfew
  have HFEW := Lib.hid hfew
  have HTW := Lib.hid hTW
  have HTR := Lib.hid htr
  have HW := Lib.hid hW
  have HX0 := Lib.hid hx0
  have HBB := Lib.hid hbB
  have HS1 := Lib.hid hs1
  have HSZ := Lib.hid hsz
  clear hT hW hs1 hx0 hbB hTW hfew htr ht hsz
  show Calls Try.prog 5 #[.agg #[.int .i64 kind, .string name, .string text, .slice a1 attrs.length c1, .slice a2 kids.length c2], .int .u16 one, .int .u16 two] w _
  go_enter Try.func5, Try.ntmps5
  go_upto_region 1 with fail
  rw [HW.out]
  go_wp2_with fail
  refine HFEW.out.mono ?_
  rintro e w1 ⟨⟨b, rfl⟩, hbf⟩
  have HB1 := Lib.hid (HBB.out.trans (hbf.mono HBB.out.size))
  have hs1 := hbf.size
  have hx01 := (hbf.block w.heap.size (by have := HS1.out; omega)).trans HX0.out
  clear hbf x0 x1 x2 x3 x4
  cases b with
  | false =>
    clear hx01
    go_wp2_with (go_at_call 19; refine (aworks_any _).mono ?_; rintro e w5 ⟨rfl, hb5⟩)
    go_ret
    exact ⟨rfl, HB1.out.trans (hb5.mono HB1.out.size)⟩
  | true =>
    obtain ⟨x0, x1, x2, x3, x4⟩ : w1.cell? ⟨w.heap.size, 0, none⟩ = some (.int .i64 kind) ∧ w1.cell? ⟨w.heap.size, 1, none⟩ = some (.string name) ∧ w1.cell? ⟨w.heap.size, 2, none⟩ = some (.string text) ∧ w1.cell? ⟨w.heap.size, 3, none⟩ = some (.slice a1 attrs.length c1) ∧ w1.cell? ⟨w.heap.size, 4, none⟩ = some (.slice a2 kids.length c2) := by
      refine ⟨?_, ?_, ?_, ?_, ?_⟩ <;> simp [World.cell?, hx01]
    have hmd := made_any (cs := []) (HTW.out w1 HB1.out) (chnsIn_nil _ _) (by simp) (fun k hk => Nat.lt_of_lt_of_le hk HB1.out.size) HSZ.out
    rw [HTR.out] at hmd
    have HMD := Lib.hid hmd
    clear hmd hx01
    go_wp2_with fail
    refine HMD.out.mono ?_
    rintro e w2 ⟨R, Rd, p, vv, m, s, v2, s2, rfl, hdu, hpc, hnp, hb2⟩
    obtain ⟨Rb, g, keys, ee, N, hax, htree, hK⟩ := made_ax hdu HSZ.out
    have hpl : p < w2.heap.size := (Array.getElem?_eq_some_iff.1 hpc).1
    have HAX := Lib.hid hax
    have HTREE := Lib.hid htree
    have HK := Lib.hid hK
    have HPP := Lib.hid (show ∀ W2, Below w2.heap.size w2 W2 → W2.cell? ⟨p, 0, none⟩ = some (ptr vv) from fun W2 h2 => by
      have e1 := (h2.block p hpl).trans hpc
      simp [World.cell?, e1])
    have HB2 := Lib.hid (HB1.out.trans (hb2.mono HB1.out.size))
    have hpv := HPP.out w2 (Below.refl _ _)
    have HALL := Lib.hid (all_any hax.k hax.rl hax.ko hax.kl)
    have hallm := htree.mem_all (K := keys.length + 1) hK
    obtain ⟨all, hal⟩ : ∃ all, allF g (keys.length + 1) = all := ⟨_, rfl⟩
    rw [hal] at HALL hallm
    have hal1 : 1 ∈ all := (hallm 1).2 ⟨by omega, htree.one⟩
    have hpos : 0 < all.length := List.length_pos_of_mem hal1
    have HAM := Lib.hid hallm
    clear hdu hpc hnp hb2 hax htree hK hallm hal hal1 x0 x1 x2 x3 x4
    go_wp2_with fail
    refine HALL.out.mono ?_
    rintro e w3 ⟨⟨u3, rfl, hu3⟩, hb3⟩
    have HU3 := Lib.hid hu3
    have hln := hu3.len
    obtain ⟨a3, c3, rfl, -, -, hx3⟩ := hu3
    obtain ⟨gb, off, rfl, hgb, hc3⟩ : ∃ g off, a3 = some ⟨g, off, none⟩ ∧ Old w3.heap.size g ∧ ∀ j x, all[j]? = some x → w3.cell? ⟨g, off + j, none⟩ = some (.int .i64 x) := by
      rcases hx3 with h | h
      · rw [h] at hpos; simp at hpos
      · exact h
    obtain ⟨i1, hi1, hi1l⟩ : ∃ i : Nat, one.tmod (all.length : Int) = i ∧ i < all.length := ⟨(one.tmod all.length).toNat, by rw [Int.toNat_of_nonneg]; exact Int.tmod_nonneg _ h1, by
      have := Int.tmod_lt_of_pos one (show (0 : Int) < all.length by omega)
      have := Int.tmod_nonneg (all.length : Int) h1
      omega⟩
    obtain ⟨i2, hi2, hi2l⟩ : ∃ i : Nat, two.tmod (all.length : Int) = i ∧ i < all.length := ⟨(two.tmod all.length).toNat, by rw [Int.toNat_of_nonneg]; exact Int.tmod_nonneg _ h2, by
      have := Int.tmod_lt_of_pos two (show (0 : Int) < all.length by omega)
      have := Int.tmod_nonneg (all.length : Int) h2
      omega⟩
    obtain ⟨a, ha⟩ : ∃ a, all[i1]? = some a := ⟨_, List.getElem?_eq_getElem hi1l⟩
    obtain ⟨b, hb⟩ : ∃ b, all[i2]? = some b := ⟨_, List.getElem?_eq_getElem hi2l⟩
    have q1 := hc3 i1 a ha
    have q2 := hc3 i2 b hb
    have hne : all.length ≠ 0 := by omega
    have hneb : ((all.length : Int) == 0) = false := beq_eq_false_iff_ne.2 (by omega)
    have ham := (HAM.out a).1 (List.mem_of_getElem? ha)
    have hbm := (HAM.out b).1 (List.mem_of_getElem? hb)
    obtain ⟨ra, hra, -⟩ := HTREE.out.node ham.1 ham.2
    obtain ⟨rb, hrb, -⟩ := HTREE.out.node hbm.1 hbm.2
    have HRA := Lib.hid hra
    have HRB := Lib.hid hrb
    have hcur : Below w2.heap.size w2 w3.drew := hb3.drew
    have hga := HAX.out.n.reads w3.drew hcur a
    rw [hra] at hga
    have HGA := Lib.hid hga
    have hpd := HPP.out _ hcur
    have HCUR := Lib.hid hcur
    clear ha hb ham hbm hra hrb hga hb3 hcur hc3 hx3
    go_wp2_with fail
    go_region
    clear q1 q2
    go_wp2_with fail
    refine HGA.out.mono ?_
    rintro e w4 ⟨⟨kv4, av4, rfl, hk4, ha4⟩, hb4⟩
    simp only [Option.getD_some, Option.isSome_some] at *
    obtain ⟨ka4, kc4, rfl, -, -, -⟩ := hk4
    obtain ⟨aa4, ac4, rfl, -, -, -⟩ := ha4
    go_upto_region 9 with fail
    obtain ⟨W5, hW5⟩ : ∃ W5, w4.alloc (.cells #[.int .i64 ra.kind, .string ra.name, .string ra.text, .int .i64 ra.parent, .slice ka4 ra.kids.length kc4, .slice aa4 ra.attrs.length ac4, .bool ra.gone] 52) = W5 := ⟨_, rfl⟩
    have hr5 : W5.heap[w4.heap.size]? = some (.cells #[.int .i64 ra.kind, .string ra.name, .string ra.text, .int .i64 ra.parent, .slice ka4 ra.kids.length kc4, .slice aa4 ra.attrs.length ac4, .bool ra.gone] 52 (0, 0)) := by rw [← hW5]; exact Go.heap_alloc_new _ _
    have hl5 : w4.heap.size < W5.heap.size := by rw [← hW5]; simp
    rw [hW5]
    have hb5 : Below w2.heap.size w2 W5 := by rw [← hW5]; exact (HCUR.out.trans (hb4.mono HCUR.out.size)).alloc (Nat.le_trans HCUR.out.size hb4.size) _
    have hgb := HAX.out.n.reads W5 hb5 b
    rw [HRB.out] at hgb
    have HGB := Lib.hid hgb
    have HB5 := Lib.hid hb5
    clear hpd hpv
    have hpd := HPP.out _ hb5
    clear hgb hb5 hb4 hW5
    go_wp2_with fail
    refine HGB.out.mono ?_
    rintro e w6 ⟨⟨kv6, av6, rfl, hk6, ha6⟩, hb6⟩
    simp only [Option.getD_some, Option.isSome_some] at *
    obtain ⟨ka6, kc6, rfl, -, -, -⟩ := hk6
    obtain ⟨aa6, ac6, rfl, -, -, -⟩ := ha6
    go_upto_region 10 with fail
    obtain ⟨W7, hW7⟩ : ∃ W7, w6.alloc (.cells #[.int .i64 rb.kind, .string rb.name, .string rb.text, .int .i64 rb.parent, .slice ka6 rb.kids.length kc6, .slice aa6 rb.attrs.length ac6, .bool rb.gone] 52) = W7 := ⟨_, rfl⟩
    have hr7 : W7.heap[w6.heap.size]? = some (.cells #[.int .i64 rb.kind, .string rb.name, .string rb.text, .int .i64 rb.parent, .slice ka6 rb.kids.length kc6, .slice aa6 rb.attrs.length ac6, .bool rb.gone] 52 (0, 0)) := by rw [← hW7]; exact Go.heap_alloc_new _ _
    rw [hW7]
    have hb57 : Below W5.heap.size W5 W7 := by rw [← hW7]; exact hb6.alloc hb6.size _
    have HB7 := Lib.hid (HB5.out.trans (hb57.mono HB5.out.size))
    have k1 : W7.cell? ⟨w4.heap.size, 0, none⟩ = some (.int .i64 ra.kind) := by
      have := (hb57.block _ hl5).trans hr5
      simp [World.cell?, this]
    have k2 : W7.cell? ⟨w6.heap.size, 0, none⟩ = some (.int .i64 rb.kind) := by simp [World.cell?, hr7]
    clear hpd hb57 hb6 hW7 hr7 hr5
    by_cases hka : ra.kind = 3
    · have hkab : (ra.kind == 3) = true := by simpa using hka
      clear hka
      go_wp2_with (go_at_call 19; refine (aworks_any _).mono ?_; rintro e w8 ⟨rfl, hb8⟩)
      go_ret
      exact ⟨rfl, HB2.out.trans ((HB7.out.trans (hb8.mono HB7.out.size)).mono HB2.out.size)⟩
    · have hkab : (ra.kind == 3) = false := by simpa using hka
      have HKA := Lib.hid hka
      clear hka
      by_cases hkb : rb.kind = 3
      · have hkbb : (rb.kind == 3) = true := by simpa using hkb
        clear hkb
        go_wp2_with (go_at_call 19; refine (aworks_any _).mono ?_; rintro e w8 ⟨rfl, hb8⟩)
        go_ret
        exact ⟨rfl, HB2.out.trans ((HB7.out.trans (hb8.mono HB7.out.size)).mono HB2.out.size)⟩
      · have hkbb : (rb.kind == 3) = false := by simpa using hkb
        have HKB := Lib.hid hkb
        clear hkb
        go_upto_region 13 with fail
        obtain ⟨W8, hW8⟩ : ∃ W8, W7.alloc (.cells #[iv 7, iv 8, iv 2, iv 4, iv 1, iv 3, iv 5, iv 6, iv 11, iv 12, iv 10, iv 10] 27) = W8 := ⟨_, rfl⟩
        have hr8 : W8.heap[W7.heap.size]? = some (.cells #[iv 7, iv 8, iv 2, iv 4, iv 1, iv 3, iv 5, iv 6, iv 11, iv 12, iv 10, iv 10] 27 (0, 0)) := by rw [← hW8]; exact Go.heap_alloc_new _ _
        have hl8 : W7.heap.size < W8.heap.size := by rw [← hW8]; simp
        have hb8 : Below w2.heap.size w2 W8 := by rw [← hW8]; exact HB7.out.alloc HB7.out.size _
        rw [hW8]
        have HR8 := Lib.hid (fun (W : World) (hb : Below W8.heap.size W8 W) => (hb.block _ hl8).trans hr8)
        have HB8 := Lib.hid hb8
        clear hr8 hl8 hb8 hW8 k1 k2
        go_wp2_with fail
        go_loopw [16] (fun i wr => ∃ k : Nat, k ≤ 6 ∧ i = .int .i64 k ∧ Below W8.heap.size W8 wr) (fun i _ => 6 - (Lib.intOf i).toNat)
        case atStart => exact ⟨0, Nat.zero_le _, rfl, Below.refl _ _⟩
        case round =>
          obtain ⟨k, hk, rfl, hbr⟩ := hrel
          by_cases hlt : k < 6
          · obtain ⟨pp, qq, hpq, hpc, hqc⟩ : ∃ pp qq, turnOk pp qq ∧ wr.cell? ⟨W7.heap.size, k * 2, none⟩ = some (iv pp) ∧ wr.cell? ⟨W7.heap.size, k * 2 + 1, none⟩ = some (iv qq) := by
              have hr := HR8.out wr hbr
              have h6 : k = 0 ∨ k = 1 ∨ k = 2 ∨ k = 3 ∨ k = 4 ∨ k = 5 := by omega
              rcases h6 with rfl | rfl | rfl | rfl | rfl | rfl
              · exact ⟨7, 8, by simp [turnOk], by simp [World.cell?, hr], by simp [World.cell?, hr]⟩
              · exact ⟨2, 4, by simp [turnOk], by simp [World.cell?, hr], by simp [World.cell?, hr]⟩
              · exact ⟨1, 3, by simp [turnOk], by simp [World.cell?, hr], by simp [World.cell?, hr]⟩
              · exact ⟨5, 6, by simp [turnOk], by simp [World.cell?, hr], by simp [World.cell?, hr]⟩
              · exact ⟨11, 12, by simp [turnOk], by simp [World.cell?, hr], by simp [World.cell?, hr]⟩
              · exact ⟨10, 10, by simp [turnOk], by simp [World.cell?, hr], by simp [World.cell?, hr]⟩
            have hbl : W7.heap.size < W8.heap.size := by
              have := HR8.out W8 (Below.refl _ _)
              exact (Array.getElem?_eq_some_iff.1 this).1
            have hbr2 := HB8.out.trans (hbr.mono HB8.out.size)
            have hbl2 : W7.heap.size < wr.heap.size := Nat.lt_of_lt_of_le hbl hbr.size
            have HSS := Lib.hid (show ∀ W2, Below wr.heap.size wr W2 → W2.cell? ⟨p, 0, none⟩ = some (ptr vv) ∧ W2.cell? ⟨W7.heap.size, k * 2, none⟩ = some (iv pp) ∧ W2.cell? ⟨W7.heap.size, k * 2 + 1, none⟩ = some (iv qq) from fun W2 h2 => ⟨HPP.out W2 (hbr2.trans (h2.mono hbr2.size)), (h2.cell (p := ⟨W7.heap.size, k * 2, none⟩) hbl2).trans hpc, (h2.cell (p := ⟨W7.heap.size, k * 2 + 1, none⟩) hbl2).trans hqc⟩)
            have hturn := HTREE.out.turns (K := keys.length + 1) HK.out HRA.out HRB.out HKA.out HKB.out hpq
            obtain ⟨xs, hxs⟩ : ∃ xs, nodesO g (keys.length + 1) a pp (g a) = xs := ⟨_, rfl⟩
            obtain ⟨ys, hys⟩ : ∃ ys, nodesO g (keys.length + 1) b qq (g b) = ys := ⟨_, rfl⟩
            have H1 := Lib.hid (show ∀ W2, Below wr.heap.size wr W2 → Calls Try.prog 22 #[ptr vv, iv a, iv pp] W2 (AxPost W2 xs) from fun W2 h2 => hxs ▸ nodes_any (HAX.out.later (hbr2.trans (h2.mono hbr2.size))) a pp)
            have H2 := Lib.hid (show ∀ W2, Below wr.heap.size wr W2 → Calls Try.prog 22 #[ptr vv, iv b, iv qq] W2 (AxPost W2 ys) from fun W2 h2 => hys ▸ nodes_any (HAX.out.later (hbr2.trans (h2.mono hbr2.size))) b qq)
            rw [hxs, hys] at hturn
            obtain ⟨tb, htb, htb2⟩ : ∃ tb : Bool, decide (b ∈ xs) = tb ∧ decide (a ∈ ys) = tb := ⟨_, rfl, by rw [decide_eq_decide]; exact hturn.symm⟩
            have HTB := Lib.hid htb
            have HTB2 := Lib.hid htb2
            have HBR := Lib.hid hbr
            have hki : (k : Int) < 6 := by omega
            have hk0 : (0 : Int) ≤ k := by omega
            clear hpc hqc hpq hbr hbr2 hxs hys hturn htb htb2 hbl hbl2
            have hcur : Below wr.heap.size wr wr.drew := (Below.refl _ _).drew
            go_wp2_with fail
            go_region_held3 (fun w' => w'.cell? ⟨p, 0, none⟩ = some (ptr vv) ∧ w'.cell? ⟨W7.heap.size, k * 2, none⟩ = some (iv pp) ∧ w'.cell? ⟨W7.heap.size, k * 2 + 1, none⟩ = some (iv qq))
              (exact HSS.out _ hcur)
              (first
                | (go_at_call 22; (with_reducible refine (H1.out _ hcur).mono ?_); rintro e w4 ⟨⟨u4, rfl, ho4⟩, hb4⟩; have HO4 := Lib.hid ho4; obtain ⟨a4, c4, rfl, -, -, -⟩ := ho4; have hcur := hcur.trans (hb4.mono hcur.size); clear hb4)
                | (go_at_call 22; (with_reducible refine (H2.out _ hcur).mono ?_); rintro e w5 ⟨⟨u5, rfl, ho5⟩, hb5⟩; have HO5 := Lib.hid ho5; obtain ⟨a5, c5, rfl, -, -, -⟩ := ho5; have hcur := hcur.trans (hb5.mono hcur.size); clear hb5)
                | (go_at_call 30; (with_reducible refine (rhas_any xs _ _ b _ HO4.out).mono ?_); rintro e w6 ⟨rfl, rfl⟩; rw [HTB.out])
                | (go_at_call 30; (with_reducible refine (rhas_any ys _ _ a _ HO5.out).mono ?_); rintro e w6 ⟨rfl, rfl⟩; rw [HTB2.out]))
            all_goals
              go_wp2_with fail
              go_roundw
              case rel => exact ⟨k + 1, by omega, by go_num, HBR.out.trans (hcur.mono HBR.out.size)⟩
              case measure => simp [Lib.intOf]; omega
          · obtain rfl : k = 6 := by omega
            have HBR := Lib.hid (HB8.out.trans (hbr.mono HB8.out.size))
            clear hbr
            go_wp2_with (go_at_call 19; refine (aworks_any _).mono ?_; rintro e w9 ⟨rfl, hb9⟩)
            go_ret
            exact ⟨rfl, HB2.out.trans ((HBR.out.trans (hb9.mono HBR.out.size)).mono HB2.out.size)⟩
end Go.Proofs.Ytinkjhkbaadbpaa
