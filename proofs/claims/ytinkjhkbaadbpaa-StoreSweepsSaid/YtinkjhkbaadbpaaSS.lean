/- StoreSweeps: the walk. -/
import Derived.Test.YtinkjhkbaadbpaaSB
import Derived.Test.YtinkjhkbaadbpaaSX
import Derived.Deep.CutBlock
import Derived.Deep.CutRange
import Derived.Deep.DeepCutAuto
namespace Go.Proofs.Ytinkjhkbaadbpaa
open Go.RowKit
set_option linter.unusedVariables false

def RecsAre (D : Nat → Prop) (w : World) : List Rec → List Value → Prop
  | [], xs => xs = []
  | r :: rs, xs => ∃ kv av rest, xs = recL r kv av ++ rest ∧ IntsIn D w kv r.kids ∧ IntsIn D w av r.attrs ∧ RecsAre D w rs rest
theorem RecsAre.keep {D D' : Nat → Prop} {w w' : World} (hk : Keeps D w w') (hD : ∀ k, D k → D' k) : ∀ {es : List Rec} {xs : List Value}, RecsAre D w es xs → RecsAre D' w' es xs
  | [], _, h => h
  | _ :: _, _, ⟨kv, av, rest, e, h1, h2, h3⟩ => ⟨kv, av, rest, e, (h1.keep hk).mono hD, (h2.keep hk).mono hD, RecsAre.keep hk hD h3⟩
theorem RecsAre.snoc {D : Nat → Prop} {w : World} {v : Rec} {kv av : Value} (h1 : IntsIn D w kv v.kids) (h2 : IntsIn D w av v.attrs) : ∀ {vs : List Rec} {xs : List Value}, RecsAre D w vs xs → RecsAre D w (vs ++ [v]) (xs ++ recL v kv av)
  | [], _, h => by cases h; exact ⟨kv, av, [], by simp, h1, h2, rfl⟩
  | _ :: _, _, ⟨kv', av', rest, e, h1', h2', h3'⟩ => ⟨kv', av', rest ++ recL v kv av, by rw [e, List.append_assoc], h1', h2', RecsAre.snoc h1 h2 h3'⟩
theorem RecsAre.get {D : Nat → Prop} {w : World} : ∀ {vs : List Rec} {xs : List Value}, RecsAre D w vs xs → ∀ (k : Nat) (v : Rec), vs[k]? = some v →
    ∃ kv av, IntsIn D w kv v.kids ∧ IntsIn D w av v.attrs ∧ ∀ c, c < 7 → xs[k * 7 + c]? = (recL v kv av)[c]?
  | [], _, _, k, v, hv => by simp at hv
  | v0 :: vs, _, ⟨kv, av, rest, e, h1, h2, h3⟩, 0, v, hv => by
    simp at hv; subst hv; subst e
    exact ⟨kv, av, h1, h2, fun c hc => by rw [List.getElem?_append_left (by simpa using hc)]; simp⟩
  | v0 :: vs, _, ⟨kv, av, rest, e, h1, h2, h3⟩, k + 1, v, hv => by
    obtain ⟨kv', av', i1, i2, hc⟩ := RecsAre.get h3 k v (by simpa using hv)
    subst e
    refine ⟨kv', av', i1, i2, fun c hcc => ?_⟩
    rw [← hc c hcc]
    have e : (k + 1) * 7 + c = (k * 7 + c) + 7 := by omega
    rw [e]
    simp
theorem row_cell {w : World} {B e size n : Nat} {v : Value} {xs : List Value} (h : w.ownsRow B e size v n xs) (hn : 0 < n) : ∃ g cap, v = .slice (some ⟨g, 0, none⟩) n cap ∧ B ≤ g ∧ g < w.heap.size ∧ n ≤ cap ∧ ∀ j x, xs[j]? = some x → w.cell? ⟨g, j, none⟩ = some x := by
  rcases h.2 with ⟨_, h0⟩ | ⟨g, cap, cur, rfl, hb, hg, h1, h2, h3, h4⟩
  · omega
  · refine ⟨g, cap, rfl, hb, (Array.getElem?_eq_some_iff.1 hg).1, h1, fun j x hx => ?_⟩
    have hj := (List.getElem?_eq_some_iff.1 hx).1
    rw [h.1] at hj
    rw [← h4, List.getElem?_take_of_lt hj] at hx
    simpa [World.cell?, hg] using hx
theorem Try.info52 : (Try.prog.info? 52).map (fun i => (i.zero, i.size, i.bytes)) = some (some (.agg #[.int .i64 0, .string ⟨#[]⟩, .string ⟨#[]⟩, .int .i64 0, .slice none 0 0, .slice none 0 0, .bool false]), 7, 104) := by kernel_rfl
theorem Try.info4 : (Try.prog.info? 4).map (fun i => (i.zero, i.size, i.bytes)) = some (some (.bool false), 1, 1) := by kernel_rfl

theorem own_form {w : World} {B e size n : Nat} {v : Value} {xs : List Value} (h : w.ownsRow B e size v n xs) : ∃ a c, v = .slice a n c := by
  rcases h.2 with ⟨rfl, h0⟩ | ⟨g, cp, cur, rfl, _⟩
  · exact ⟨none, 0, by rw [h0]⟩
  · exact ⟨_, _, rfl⟩
theorem StoreAt.below {R D : Nat → Prop} {w w' : World} {p : Value} {S : Store} (h : StoreAt R D w p S) (hb : Below w.heap.size w w') : StoreAt R D w' p S :=
  ⟨h.is.keep ((keeps_below hb).mono h.rlt) ((keeps_below hb).mono h.dlt), fun k hk => Nat.lt_of_lt_of_le (h.rlt k hk) hb.size, fun k hk => Nat.lt_of_lt_of_le (h.dlt k hk) hb.size, h.rd⟩
theorem Few.more {S : Store} {d : Doc} {j j' : Nat} (h : Few S d j) (hj : j ≤ j') (h9 : j' ≤ 90 := by omega) : Few S d j' := ⟨h9, h.g0, by have := h.g; omega, fun id => by have := h.N id; omega, by have := h.L; omega⟩
set_option maxRecDepth 100000 in
set_option maxHeartbeats 8000000 in
theorem storeSweeps_walk (v : Value) (xs : List Stp) (T M : Nat) (w : World) (hv : StepsIn (Old w.heap.size) w v xs) (hT : T < 18446744073709551616) (hM : M < 18446744073709551616) :
    Calls Try.prog 10 #[v, .int .u64 T, .int .u64 M] w fun e w' => e = .returned (.bool true) ∧ Below w.heap.size w w' := by
  obtain ⟨a, cap, rfl, hl, hx⟩ := hv
  have hl2 : xs.length ≤ 9223372036854775807 := by unfold maxLen at hl; omega
  have HX := Lib.hid hx
  clear hx hl
  go_enter Try.func10, Try.ntmps10
  go_upto_region 3 with (first
    | (go_at_call 39; refine (new_any (fun _ => False) _).mono ?_; rintro e w1 ⟨⟨p, rfl, hp⟩, hb1⟩)
    | (go_at_call 40; refine (docNew_any (Old w.heap.size) _).mono ?_; rintro e w2 ⟨⟨q, rfl, hq⟩, hb2⟩))
  obtain ⟨R0, D0, Rd0, hboth⟩ := both_fresh (Nat.le_refl _) hp hb1 hq hb2
  obtain ⟨sd, vv, xx, rfl, -⟩ := hq
  have HB0 := Lib.hid hboth
  have HBL := Lib.hid (hb1.trans (hb2.mono hb1.size))
  clear hp hb1 hb2 hboth
  go_upto_block 0 with fail
  go_cut [9] from 25 to 41 (fun i wx => (∃ R D Rd S d, Both w.heap.size R D Rd wx p (.pointer (some ⟨sd, 0, none⟩)) S d ∧ Few S d 50) ∧ Below w.heap.size w wx)
  case first =>
    go_wp2
    go_loopw [9] (fun i wr => ∃ k : Nat, k ≤ xs.length ∧ k ≤ 50 ∧ i = .int .i64 k ∧ (∃ R D Rd S d, Both w.heap.size R D Rd wr p (.pointer (some ⟨sd, 0, none⟩)) S d ∧ Few S d k) ∧ Below w.heap.size w wr) (fun i _ => 50 - (Lib.intOf i).toNat)
    case atStart => exact ⟨0, Nat.zero_le _, by omega, rfl, ⟨_, _, _, _, _, HB0.out, few_fresh⟩, HBL.out⟩
    case round =>
      obtain ⟨k, hk, hk60, rfl, ⟨R, D, Rd, S, d, hB, hF⟩, hbel⟩ := hrel
      have HBEL := Lib.hid hbel
      by_cases hgo : k < xs.length ∧ k < 50
      · obtain ⟨hlt, h60⟩ := hgo
        obtain ⟨x, hxk⟩ : ∃ x, xs[k]? = some x := ⟨_, List.getElem?_eq_getElem hlt⟩
        rcases HX.out with rfl | ⟨g, off, rfl, hgF, hc⟩
        · simp at hlt
        obtain ⟨u, hu, hokx, hcl⟩ := hc k x hxk
        have hgl : g < w.heap.size := hgF
        obtain ⟨e0, e1, e2, e3⟩ := stepCells hcl (hbel.block g hgl)
        have hstep := step_any hB hF (by omega) x u (hu.keep (fun k hk => hbel.block k hk)) hokx
        have HST := Lib.hid hstep
        have hk0 : (0 : Int) ≤ k := by omega
        have hkl : (k : Int) < xs.length := by omega
        have hk6 : (k : Int) < 50 := by omega
        obtain ⟨ua, uc, rfl, -⟩ := hu
        clear hstep hc hcl hxk hB hF hbel
        obtain ⟨kd, id, Tx, csx⟩ := x
        simp only at *
        go_wp2_with (go_at_call 41; refine HST.out.mono ?_; rintro e w2 ⟨rfl, hb2, R', D', Rd', S', d', hB', hF'⟩; have HB' := Lib.hid hB'; have HF' := Lib.hid hF'; have HBL2 := Lib.hid hb2; clear hb2 hB' hF')
        go_roundw
        case rel => exact ⟨k + 1, by omega, by omega, by go_num, ⟨R', D', Rd', S', d', HB'.out, HF'.out⟩, HBEL.out.trans (HBL2.out.mono (Nat.le_refl _))⟩
        case measure => simp [Lib.intOf]; omega
      · have hnot : ¬ ((k : Int) < xs.length) ∨ (((k : Int) < xs.length) ∧ ¬ ((k : Int) < 50)) := by
          by_cases h1 : k < xs.length
          · right; exact ⟨by omega, fun h2 => hgo ⟨h1, by omega⟩⟩
          · left; omega
        have HB := Lib.hid hB
        have HF := Lib.hid hF
        clear hB hF hbel hgo
        rcases hnot with hn | ⟨hn0, hn⟩
        all_goals
          go_wp2
          go_meet
          case rel => exact ⟨⟨R, D, Rd, S, d, HB.out, HF.out.more hk60⟩, HBEL.out⟩
  case rest =>
    obtain ⟨⟨R, D, Rd, S, d, hB, hF⟩, hbel⟩ := hcut
    have HB := Lib.hid hB
    have HF := Lib.hid hF
    have HBEL := Lib.hid hbel
    clear hB hF hbel
    go_upto_if 48 with fail
    go_cut [10] (fun t wx => ∃ tm : Nat, t = .int .u64 tm ∧ T ≤ tm ∧ wx = wc)
    case first =>
      have hw : IntKind.u64.wrap ((T : Int) + (M : Int) % 100) = (((T + M % 100) % 18446744073709551616 : Nat) : Int) := by
        rw [IntKind.wrap_u64]
        omega
      by_cases hlow : (T + M % 100) % 18446744073709551616 < T
      · have hlz : IntKind.u64.wrap ((T : Int) + (M : Int) % 100) < (T : Int) := by rw [hw]; omega
        have HW := Lib.hid hw
        clear hw
        go_wp2
        go_meet
        case rel => exact ⟨T, rfl, Nat.le_refl _, rfl⟩
      · have hlz : ¬ (IntKind.u64.wrap ((T : Int) + (M : Int) % 100) < (T : Int)) := by rw [hw]; omega
        have HW := Lib.hid hw
        clear hw
        go_wp2
        go_meet
        case rel => exact ⟨(T + M % 100) % 18446744073709551616, by rw [HW.out], by omega, rfl⟩
    case rest =>
      obtain ⟨tm, rfl, htm, rfl⟩ := hcut
      go_upto_region 13 with (first
        | (go_at_call 50; refine (ids_any HB.out.st.is HB.out.keys (by have := HF.out.g0; omega) (by have := HF.out.g; omega)).mono ?_; rintro e w3 ⟨⟨zs, v3, rfl, hi3, hz3⟩, hb3⟩; have HI3 := Lib.hid hi3; obtain ⟨za, zc, rfl, -, -, hzx⟩ := hi3; have HZX := Lib.hid hzx; have HZ3 := Lib.hid hz3; have HB3 := Lib.hid (HB.out.below hb3); have HBW3 := Lib.hid hb3; have hzl := HI3.out.len; clear hzx hz3 hb3))
      obtain ⟨i0, hi, hz0, hz1, hz2⟩ := info_parts Try.info52
      obtain ⟨i4, hi4, hy0, hy1, hy2⟩ := info_parts Try.info4
      have hzn : (zs.length : Int) ≤ S.given := idsOf_length HZ3.out HB.out.keys (by have := HF.out.g0; omega)
      have hzn2 : zs.length ≤ 60 := by have := HF.out.g; omega
      go_wp2
      go_loopw [12, 13, 14] (fun v12 v13 i wx => ∃ k : Nat, k ≤ zs.length ∧ i = .int .i64 k ∧ ∃ ys bs D', wx.ownsRow w3.heap.size 52 7 v12 k ys ∧ RecsAre D' wx ((zs.take k).map (fun id => (S.at id tm).getD Rec.zero)) ys ∧ wx.ownsRow w3.heap.size 4 1 v13 k bs ∧ bs = (zs.take k).map (fun id => Value.bool (S.at id tm).isSome) ∧ (∀ j, D' j → w3.heap.size ≤ j ∧ j < wx.heap.size ∧ v12.ownBlock ≠ some j ∧ v13.ownBlock ≠ some j) ∧ (∀ g, v12.ownBlock = some g → v13.ownBlock ≠ some g) ∧ Below w3.heap.size w3 wx) (fun _ _ i _ => zs.length - (Lib.intOf i).toNat)
      case atStart => exact ⟨0, Nat.zero_le _, rfl, [], [], fun _ => False, World.ownsRow_nil _ _ _ _, rfl, World.ownsRow_nil _ _ _ _, rfl, fun _ h => h.elim, (fun g h => by cases h), Below.refl _ _⟩
      case round =>
        obtain ⟨k, hk, rfl, ys, bs, D', ho12, hrec, ho13, hbs, hdl, hap, hbx⟩ := hrel
        by_cases hlt : k < zs.length
        · rcases HZX.out with rfl | ⟨gz, oz, rfl, hgz, hcz⟩
          · simp at hlt
          obtain ⟨y, hyk⟩ : ∃ y, zs[k]? = some y := ⟨_, List.getElem?_eq_getElem hlt⟩
          have hcy := (hbx.cell (p := ⟨gz, oz + k, none⟩) hgz.2).trans (hcz k y hyk)
          have hBx := HB3.out.below hbx
          have hat := at_any hBx.st.is hBx.wf hBx.st.dlt y tm
          unfold RecOut at hat
          have htk : zs.take (k + 1) = zs.take k ++ [y] := by rw [List.take_add_one, hyk]; simp
          have h0 : (0 : Int) ≤ (k : Int) := by omega
          have h1 : (k : Int) < (zs.length : Int) := by omega
          obtain ⟨bo, hbo⟩ : ∃ bo, (S.at y tm).isSome = bo := ⟨_, rfl⟩
          obtain ⟨r, hr⟩ : ∃ r, (S.at y tm).getD Rec.zero = r := ⟨_, rfl⟩
          rw [hbo, hr] at hat
          have HTK := Lib.hid (And.intro htk (And.intro hbo hr))
          clear htk hbo hr hyk hBx hcz
          obtain ⟨kind, name, text, parent, kids, attrs, gone⟩ := r
          simp only [recV] at hat
          have HAT := Lib.hid hat
          have HO12 := Lib.hid ho12
          have HREC := Lib.hid hrec
          have HO13 := Lib.hid ho13
          have HBS := Lib.hid hbs
          have HDL := Lib.hid hdl
          have HAP := Lib.hid hap
          have HBX := Lib.hid hbx
          clear hat ho12 hrec ho13 hbs hdl hap hbx
          go_upto_region 17 with ((go_at_call 51; refine HAT.out.mono ?_; rintro e w4 ⟨⟨kv, av, rfl, ik, ia⟩, hb4⟩; have IK := Lib.hid ik; have IA := Lib.hid ia; obtain ⟨ka, kc, rfl, -, -, -⟩ := ik; obtain ⟨aa, ac, rfl, -, -, -⟩ := ia))
          obtain ⟨W5, hW5⟩ : ∃ W5, w4.alloc (.cells #[.int .i64 kind, .string name, .string text, .int .i64 parent, .slice ka kids.length kc, .slice aa attrs.length ac, .bool gone] 52) = W5 := ⟨_, rfl⟩
          have g5 := Go.heap_alloc_new w4 (.cells #[.int .i64 kind, .string name, .string text, .int .i64 parent, .slice ka kids.length kc, .slice aa attrs.length ac, .bool gone] 52)
          have hb5 : Below wr.heap.size wr (w4.alloc (.cells #[.int .i64 kind, .string name, .string text, .int .i64 parent, .slice ka kids.length kc, .slice aa attrs.length ac, .bool gone] 52)) := hb4.alloc hb4.size _
          have hk5 : ∀ j, j < w4.heap.size → (w4.alloc (.cells #[.int .i64 kind, .string name, .string text, .int .i64 parent, .slice ka kids.length kc, .slice aa attrs.length ac, .bool gone] 52)).heap[j]? = w4.heap[j]? := fun j hj => Go.heap_alloc_old w4 _ hj
          have hs5 : (w4.alloc (.cells #[.int .i64 kind, .string name, .string text, .int .i64 parent, .slice ka kids.length kc, .slice aa attrs.length ac, .bool gone] 52)).heap.size = w4.heap.size + 1 := by simp
          rw [hW5] at g5 hb5 hk5 hs5 ⊢
          clear hW5
          obtain ⟨p0, p1, p2, p3, p4, p5, p6⟩ := cells7 g5
          have hs4 := hb4.size
          have hsx := HBX.out.size
          have HK5 := Lib.hid hk5
          have HB5 := Lib.hid hb5
          have HS5 := Lib.hid hs5
          have hs45 : w4.heap.size ≤ W5.heap.size := by omega
          clear hs5
          have hown12 : (W5.alloc (.cells #[.int .i64 kind, .string name, .string text, .int .i64 parent, .slice ka kids.length kc, .slice aa attrs.length ac, .bool gone] 52)).ownsRow w3.heap.size 52 7 u12 k ys := ownsRow_keeps HO12.out (fun j hj => (Go.heap_alloc_old W5 _ (by have := (ownsRow_base HO12.out hj).2; omega)).trans (hb5.block j (ownsRow_base HO12.out hj).2))
          have hown13 : (W5.alloc (.cells #[.int .i64 kind, .string name, .string text, .int .i64 parent, .slice ka kids.length kc, .slice aa attrs.length ac, .bool gone] 52)).ownsRow w3.heap.size 4 1 u13 k bs := ownsRow_keeps HO13.out (fun j hj => (Go.heap_alloc_old W5 _ (by have := (ownsRow_base HO13.out hj).2; omega)).trans (hb5.block j (ownsRow_base HO13.out hj).2))
          have HOW12 := Lib.hid hown12
          have HOW13 := Lib.hid hown13
          clear g5 hk5 hb5 hown12 hown13
          go_wp2_with (first
            | (at_builtin; refine wpList_append_own_at _ rfl _ _ 87 rfl w3.heap.size 52 i0 (.agg #[.int .i64 0, .string ⟨#[]⟩, .string ⟨#[]⟩, .int .i64 0, .slice none 0 0, .slice none 0 0, .bool false]) 7 104 Try.underlying87 hi hz0 hz1 hz2 rfl (by decide) _ _ _ rfl HOW12.out ⟨W5.heap.size, 0, none⟩ 1 1 (recL ⟨kind, name, text, parent, kids, attrs, gone⟩ (.slice ka kids.length kc) (.slice aa attrs.length ac)) rfl rfl cells_new (by simp [Value.oneCell']) (by unfold maxLen; omega) (by omega) (by simp; omega) ?_; intro v12' w7 hown7 hgrow7 hnil7 hloc7; have HO7 := Lib.hid hown7; have HG7 := Lib.hid hgrow7; have HL7 := Lib.hid hloc7; have hs7 : W5.heap.size + 1 ≤ w7.heap.size := (by have := hgrow7.size; simpa using this); have hown13b : (w7.alloc (.cells #[.bool bo] 4)).ownsRow w3.heap.size 4 1 u13 k bs := ownsRow_keeps HOW13.out (fun j hj => (Go.heap_alloc_old w7 _ (by have := (ownsRow_base HO13.out hj).2; omega)).trans (hgrow7.block j (by have := (ownsRow_base HO13.out hj).2; simp; omega) (fun e => HAP.out j e.symm hj))); have HOW13b := Lib.hid hown13b; clear hown7 hgrow7 hnil7 hloc7 hown13b)
            | (at_builtin; refine wpList_append_own_at _ rfl _ _ 88 rfl w3.heap.size 4 i4 (.bool false) 1 1 Try.underlying88 hi4 hy0 hy1 hy2 rfl (by decide) _ _ _ rfl HOW13b.out ⟨w7.heap.size, 0, none⟩ 1 1 [.bool bo] rfl rfl (cell_one_new _ _ _) (by simp [Value.oneCell']) (by unfold maxLen; omega) (by omega) (by simp; omega) ?_; intro v13' w9 hown9 hgrow9 hnil9 hloc9; have HO9 := Lib.hid hown9; have HG9 := Lib.hid hgrow9; have HL9 := Lib.hid hloc9; clear hown9 hgrow9 hnil9 hloc9))
          go_roundw
          case measure => simp [Lib.intOf]; omega
          case rel =>
            have hs9 : w7.heap.size + 1 ≤ w9.heap.size := by have := HG9.out.size; simpa using this
            obtain ⟨htk, hbo, hr⟩ := HTK.out
            have b12 := fun g hg => ownsRow_base HO12.out (g := g) hg
            have b13 := fun g hg => ownsRow_base HO13.out (g := g) hg
            have hk7 : ∀ j, j < W5.heap.size → u12.ownBlock ≠ some j → w7.heap[j]? = W5.heap[j]? := fun j hj hn => (HG7.out.block j (by simp; omega) (fun e => hn e.symm)).trans (Go.heap_alloc_old W5 _ hj)
            have hk9 : ∀ j, j < w7.heap.size → u13.ownBlock ≠ some j → w9.heap[j]? = w7.heap[j]? := fun j hj hn => (HG9.out.block j (by simp; omega) (fun e => hn e.symm)).trans (Go.heap_alloc_old w7 _ hj)
            have hold : ∀ j, j < wr.heap.size → u12.ownBlock ≠ some j → u13.ownBlock ≠ some j → w9.heap[j]? = wr.heap[j]? := fun j hj h12 h13 => (hk9 j (by omega) h13).trans ((hk7 j (by omega) h12).trans (HB5.out.block j hj))
            have hmid : ∀ j, wr.heap.size ≤ j → j < w4.heap.size → w9.heap[j]? = w4.heap[j]? := fun j h1 h2 => (hk9 j (by omega) (fun e => by have := (b13 j e).2; omega)).trans ((hk7 j (by omega) (fun e => by have := (b12 j e).2; omega)).trans (HK5.out j h2))
            have kk : Keeps (fun j => wr.heap.size ≤ j ∧ j < w4.heap.size) w4 w9 := fun j hj => hmid j hj.1 hj.2
            have h12' : ∀ g, v12'.ownBlock = some g → w3.heap.size ≤ g ∧ g < w7.heap.size := fun g hg => ownsRow_base HO7.out hg
            have h13' : ∀ g, v13'.ownBlock = some g → w3.heap.size ≤ g ∧ g < w9.heap.size := fun g hg => ownsRow_base HO9.out hg
            have c12 : ∀ g, v12'.ownBlock = some g → u12.ownBlock = some g ∨ W5.heap.size ≤ g := fun g hg => by
              rcases HL7.out with h | h
              · exact .inl (h.symm.trans hg)
              · rw [h] at hg; cases hg; exact .inr (by simp)
            have c13 : ∀ g, v13'.ownBlock = some g → u13.ownBlock = some g ∨ w7.heap.size ≤ g := fun g hg => by
              rcases HL9.out with h | h
              · exact .inl (h.symm.trans hg)
              · rw [h] at hg; cases hg; exact .inr (by simp)
            have hx13 : ∀ g, v12'.ownBlock = some g → u13.ownBlock ≠ some g := fun g hg e => by
              rcases c12 g hg with h | h
              · exact HAP.out g h e
              · have := (b13 g e).2; omega
            refine ⟨k + 1, by omega, by go_num, ys ++ recL ⟨kind, name, text, parent, kids, attrs, gone⟩ (.slice ka kids.length kc) (.slice aa attrs.length ac), bs ++ [.bool bo], fun j => D' j ∨ (wr.heap.size ≤ j ∧ j < w4.heap.size), ?_, ?_, HO9.out, ?_, ?_, ?_, ?_⟩
            · exact ownsRow_keeps HO7.out (fun g hg => hk9 g (h12' g hg).2 (hx13 g hg))
            · rw [htk, List.map_append, List.map_singleton, hr]
              exact RecsAre.snoc (v := ⟨kind, name, text, parent, kids, attrs, gone⟩) ((IK.out.bound.keep kk).mono (fun j hj => .inr hj)) ((IA.out.bound.keep kk).mono (fun j hj => .inr hj)) (HREC.out.keep (fun j hj => hold j (HDL.out j hj).2.1 (HDL.out j hj).2.2.1 (HDL.out j hj).2.2.2) (fun j hj => .inl hj))
            · rw [htk, List.map_append, List.map_singleton, hbo, HBS.out]
            · rintro j (hj | hj)
              · obtain ⟨q1, q2, q3, q4⟩ := HDL.out j hj
                refine ⟨q1, by omega, fun e => ?_, fun e => ?_⟩
                · rcases c12 j e with h | h
                  · exact q3 h
                  · omega
                · rcases c13 j e with h | h
                  · exact q4 h
                  · omega
              · refine ⟨by omega, by omega, fun e => ?_, fun e => ?_⟩
                · rcases c12 j e with h | h
                  · have := (b12 j h).2; omega
                  · omega
                · rcases c13 j e with h | h
                  · have := (b13 j h).2; omega
                  · omega
            · intro g hg e
              rcases c13 g e with h | h
              · exact hx13 g hg h
              · have := (h12' g hg).2; omega
            · have hch : Below w3.heap.size wr w9 := ⟨HG9.out.os.trans (HG7.out.os.trans HB5.out.os), HG9.out.tape.trans (HG7.out.tape.trans HB5.out.tape), HG9.out.output.trans (HG7.out.output.trans HB5.out.output), by omega, fun j hj => hold j (by omega) (fun e => by have := (b12 j e).1; omega) (fun e => by have := (b13 j e).1; omega)⟩
              exact HBX.out.trans hch
        · obtain rfl : k = zs.length := by omega
          rw [List.take_length] at hrec hbs
          obtain ⟨a12, c12, rfl⟩ := own_form ho12
          obtain ⟨a13, c13, rfl⟩ := own_form ho13
          have hBx := HB3.out.below hbx
          have hsw := sweep_any hBx.st.is hBx.wf T hBx.keys hBx.st.rlt hBx.st.dlt hBx.st.rd (by have := HF.out.g0; omega) (by have := HF.out.g; omega) (fun id => by have := HF.out.N id; omega)
          have HSW := Lib.hid hsw
          have hRl : ∀ j, R j → j < wc.heap.size := HB.out.st.rlt
          have HRL := Lib.hid hRl
          have HO12 := Lib.hid ho12
          have HREC := Lib.hid hrec
          have HO13 := Lib.hid ho13
          have HBS := Lib.hid hbs
          have HDL := Lib.hid hdl
          have HBX := Lib.hid hbx
          have HBXB := Lib.hid hBx
          clear hsw hRl ho12 hrec ho13 hbs hdl hap hbx hBx
          go_upto_region 20 with ((go_at_call 52; refine HSW.out.mono ?_; rintro e w7 ⟨⟨zs7, -, rfl⟩, hch7, R', hst7, hR7⟩))
          have hs3 : wc.heap.size ≤ w3.heap.size := HBW3.out.size
          have hsr : w3.heap.size ≤ wr.heap.size := HBX.out.size
          have hs7 : wr.heap.size ≤ w7.heap.size := hch7.size
          have hkeep7 : ∀ j, wc.heap.size ≤ j → j < wr.heap.size → w7.heap[j]? = wr.heap[j]? := fun j h1 h2 => hch7.block j h2 (fun hr => by have := HRL.out j hr; omega)
          have ho12 := ownsRow_keeps HO12.out (w' := w7) (fun g hg => hkeep7 g (by have := (ownsRow_base HO12.out hg).1; omega) (ownsRow_base HO12.out hg).2)
          have ho13 := ownsRow_keeps HO13.out (w' := w7) (fun g hg => hkeep7 g (by have := (ownsRow_base HO13.out hg).1; omega) (ownsRow_base HO13.out hg).2)
          have hrec := HREC.out.keep (w' := w7) (fun j hj => hkeep7 j (by have := (HDL.out j hj).1; omega) (HDL.out j hj).2.1) (fun j hj => hj)
          have hid7 : ∀ j, wc.heap.size ≤ j → j < w3.heap.size → w7.heap[j]? = w3.heap[j]? := fun j h1 h2 => (hkeep7 j h1 (by omega)).trans (HBX.out.block j h2)
          have hDl7 : ∀ j, D' j → j < w7.heap.size := fun j hj => by have := (HDL.out j hj).2.1; omega
          have hch37 : Below w.heap.size wr w7 := HBXB.out.chgBelow (hch7.mono (fun j hj => .inl hj))
          have H12 := Lib.hid ho12
          have H13 := Lib.hid ho13
          have HRC := Lib.hid hrec
          have HID := Lib.hid hid7
          have HDL7 := Lib.hid hDl7
          have HST7 := Lib.hid hst7
          have HBW7 := Lib.hid (((HBEL.out.trans (HBW3.out.mono HBEL.out.size)).trans (HBX.out.mono (Nat.le_trans HBEL.out.size hs3))).trans hch37)
          have hwf7 := sweep_wf HB.out.wf T
          have HWF7 := Lib.hid hwf7
          have HR7N := Lib.hid (show ∀ j, R' j → w.heap.size ≤ j from fun j hj => (hR7 j hj).elim (HB.out.rn j) (fun h => by have := HBEL.out.size; omega))
          clear ho12 ho13 hrec hid7 hDl7 hst7 hch7 hR7 hch37 hwf7 hkeep7
          go_wp2
          go_loopw [17] (fun i wx => ∃ k : Nat, k ≤ zs.length ∧ i = .int .i64 k ∧ Below w7.heap.size w7 wx) (fun i _ => zs.length - (Lib.intOf i).toNat)
          case atStart => exact ⟨0, Nat.zero_le _, rfl, Below.refl _ _⟩
          case round =>
            obtain ⟨k, hk, rfl, hbx⟩ := hrel
            have HBY := Lib.hid hbx
            have HSTX := Lib.hid (HST7.out.below hbx)
            by_cases hlt : k < zs.length
            · rcases HZX.out with rfl | ⟨gz, oz, rfl, hgz, hcz⟩
              · simp at hlt
              obtain ⟨y, hyk⟩ : ∃ y, zs[k]? = some y := ⟨_, List.getElem?_eq_getElem hlt⟩
              have hcy : wr.cell? ⟨gz, oz + k, none⟩ = some (.int .i64 y) := (hbx.cell (p := ⟨gz, oz + k, none⟩) (by have := hgz.2; show gz < _; omega)).trans ((World.cell?_of_block (a := ⟨gz, oz + k, none⟩) (HID.out gz hgz.1 hgz.2)).trans (hcz k y hyk))
              obtain ⟨g12, q12, e12, -, hg12, -, hc12⟩ := row_cell H12.out (by omega)
              obtain ⟨g13, q13, e13, -, hg13, -, hc13⟩ := row_cell H13.out (by omega)
              cases e12
              cases e13
              have hmy : (zs.map (fun id => (S.at id tm).getD Rec.zero))[k]? = some ((S.at y tm).getD Rec.zero) := by rw [List.getElem?_map, hyk]; rfl
              obtain ⟨kv2, av2, j1, j2, hcr⟩ := HRC.out.get k _ hmy
              have hthere := hc13 k (.bool (S.at y tm).isSome) (by rw [HBS.out, List.getElem?_map, hyk]; rfl)
              have hat := at_any HSTX.out.is HWF7.out HSTX.out.dlt y tm
              rw [sweep_at HB.out.wf htm y] at hat
              unfold RecOut at hat
              have h0 : (0 : Int) ≤ (k : Int) := by omega
              have h1 : (k : Int) < (zs.length : Int) := by omega
              obtain ⟨bo, hbo⟩ : ∃ bo, (S.at y tm).isSome = bo := ⟨_, rfl⟩
              obtain ⟨r, hr⟩ : ∃ r, (S.at y tm).getD Rec.zero = r := ⟨_, rfl⟩
              rw [hbo, hr] at hat
              rw [hbo] at hthere
              rw [hr] at j1 j2 hcr
              have hbc : ∀ c x, (recL r kv2 av2)[c]? = some x → w7.cell? ⟨g12, k * 7 + c, none⟩ = some x := fun c x hx => hc12 (k * 7 + c) x (by rw [hcr c (by have := (List.getElem?_eq_some_iff.1 hx).1; simpa using this)]; exact hx)
              clear hbo hr hyk hcz hmy hcr hc12 hc13
              obtain ⟨kind, name, text, parent, kids, attrs, gone⟩ := r
              simp only [recV] at hat
              have HAT := Lib.hid hat
              have HTH := Lib.hid hthere
              have HBC := Lib.hid hbc
              have J1 := Lib.hid j1
              have J2 := Lib.hid j2
              obtain ⟨ka2, kc2, rfl, -, -, -⟩ := j1
              obtain ⟨aa2, ac2, rfl, -, -, -⟩ := j2
              have hNl : ((S.sweep T).N y).length ≤ 1000000 := by
                have := HF.out.N y
                show ((S.N y).drop _).length ≤ _
                rw [List.length_drop]; omega
              have HNL := Lib.hid hNl
              have hlow := sweepV_low (T := T) (HB.out.wf.rise y)
              have HLOW := Lib.hid (show (((S.sweep T).N y).filter (fun v => decide (v.time ≤ T))).length ≤ 1 from hlow)
              clear hat hthere hbc hbx hNl hlow
              go_upto_region 24 with ((go_at_call 51; refine HAT.out.mono ?_; rintro e w8 ⟨⟨kv, av, rfl, ik, ia⟩, hb8⟩; have IK := Lib.hid ik; have IA := Lib.hid ia; obtain ⟨ka, kc, rfl, -, -, -⟩ := ik; obtain ⟨aa, ac, rfl, -, -, -⟩ := ia))
              obtain ⟨W9, hW9⟩ : ∃ W9, w8.alloc (.cells #[.int .i64 kind, .string name, .string text, .int .i64 parent, .slice ka kids.length kc, .slice aa attrs.length ac, .bool gone] 52) = W9 := ⟨_, rfl⟩
              have g9 := Go.heap_alloc_new w8 (.cells #[.int .i64 kind, .string name, .string text, .int .i64 parent, .slice ka kids.length kc, .slice aa attrs.length ac, .bool gone] 52)
              have hb9 : Below wr.heap.size wr (w8.alloc (.cells #[.int .i64 kind, .string name, .string text, .int .i64 parent, .slice ka kids.length kc, .slice aa attrs.length ac, .bool gone] 52)) := hb8.alloc hb8.size _
              have hk9 : ∀ j, j < w8.heap.size → (w8.alloc (.cells #[.int .i64 kind, .string name, .string text, .int .i64 parent, .slice ka kids.length kc, .slice aa attrs.length ac, .bool gone] 52)).heap[j]? = w8.heap[j]? := fun j hj => Go.heap_alloc_old w8 _ hj
              have hs9 : w8.heap.size < (w8.alloc (.cells #[.int .i64 kind, .string name, .string text, .int .i64 parent, .slice ka kids.length kc, .slice aa attrs.length ac, .bool gone] 52)).heap.size := by simp
              rw [hW9] at g9 hb9 hk9 hs9 ⊢
              clear hW9
              have hsry : w7.heap.size ≤ wr.heap.size := HBY.out.size
              have hs8 : wr.heap.size ≤ w8.heap.size := hb8.size
              have hk79 : ∀ j, j < w7.heap.size → W9.heap[j]? = w7.heap[j]? := fun j hj => (hb9.block j (by omega)).trans (HBY.out.block j hj)
              have M1 := Lib.hid (IK.out.bound.keep (w' := W9) (fun j hj => hk9 j hj.2))
              have M2 := Lib.hid (IA.out.bound.keep (w' := W9) (fun j hj => hk9 j hj.2))
              have M3 := Lib.hid (J1.out.keep (w' := W9) (fun j hj => hk79 j (HDL7.out j hj)))
              have M4 := Lib.hid (J2.out.keep (w' := W9) (fun j hj => hk79 j (HDL7.out j hj)))
              have HSTY := Lib.hid (HSTX.out.below hb9)
              have hss : ∀ w' : World, Below W9.heap.size W9 w' → (w'.cell? ⟨g13, k, none⟩ = some (.bool bo)) ∧ (w'.cell? ⟨w8.heap.size, 0, none⟩ = some (.int .i64 kind) ∧ w'.cell? ⟨w8.heap.size, 1, none⟩ = some (.string name) ∧ w'.cell? ⟨w8.heap.size, 2, none⟩ = some (.string text) ∧ w'.cell? ⟨w8.heap.size, 3, none⟩ = some (.int .i64 parent) ∧ w'.cell? ⟨w8.heap.size, 4, none⟩ = some (.slice ka kids.length kc) ∧ w'.cell? ⟨w8.heap.size, 5, none⟩ = some (.slice aa attrs.length ac) ∧ w'.cell? ⟨w8.heap.size, 6, none⟩ = some (.bool gone)) ∧ (w'.cell? ⟨g12, k * 7, none⟩ = some (.int .i64 kind) ∧ w'.cell? ⟨g12, k * 7 + 1, none⟩ = some (.string name) ∧ w'.cell? ⟨g12, k * 7 + 2, none⟩ = some (.string text) ∧ w'.cell? ⟨g12, k * 7 + 3, none⟩ = some (.int .i64 parent) ∧ w'.cell? ⟨g12, k * 7 + 4, none⟩ = some (.slice ka2 kids.length kc2) ∧ w'.cell? ⟨g12, k * 7 + 5, none⟩ = some (.slice aa2 attrs.length ac2) ∧ w'.cell? ⟨g12, k * 7 + 6, none⟩ = some (.bool gone)) := fun w' hb => by
                have e9 := (hb.block w8.heap.size hs9).trans g9
                have hb12 : w'.heap[g12]? = w7.heap[g12]? := (hb.block g12 (by omega)).trans (hk79 g12 hg12)
                have hb13 : w'.heap[g13]? = w7.heap[g13]? := (hb.block g13 (by omega)).trans (hk79 g13 hg13)
                have q := fun (c : Nat) (x : Value) (hx : (recL ⟨kind, name, text, parent, kids, attrs, gone⟩ (.slice ka2 kids.length kc2) (.slice aa2 attrs.length ac2))[c]? = some x) => (World.cell?_of_block (a := ⟨g12, k * 7 + c, none⟩) hb12).trans (HBC.out c x hx)
                exact ⟨(World.cell?_of_block (a := ⟨g13, k, none⟩) hb13).trans HTH.out, cells7 e9, q 0 _ rfl, q 1 _ rfl, q 2 _ rfl, q 3 _ rfl, q 4 _ rfl, q 5 _ rfl, q 6 _ rfl⟩
              have HSS := Lib.hid hss
              have HSM := Lib.hid (fun (w' : World) (hb : Below W9.heap.size W9 w') => same_any (w := w') ⟨kind, name, text, parent, kids, attrs, gone⟩ (.slice ka kids.length kc) (.slice aa attrs.length ac) (.slice ka2 kids.length kc2) (.slice aa2 attrs.length ac2) (F := fun k => k < W9.heap.size) (G := fun k => k < W9.heap.size)
                ((M1.out.bound.mono (fun k hk => hk.2)).keep (fun k hk => hb.block k hk)) ((M2.out.bound.mono (fun k hk => hk.2)).keep (fun k hk => hb.block k hk)) ((M3.out.bound.mono (fun k hk => hk.2)).keep (fun k hk => hb.block k hk)) ((M4.out.bound.mono (fun k hk => hk.2)).keep (fun k hk => hb.block k hk)) (fun k hk => Nat.lt_of_lt_of_le hk hb.size) (fun k hk => Nat.lt_of_lt_of_le hk hb.size))
              have HB9 := Lib.hid hb9
              have hcur : Below W9.heap.size W9 W9.drew := (Below.refl _ _).drew
              have hcy9 : ∀ w' : World, Below W9.heap.size W9 w' → w'.cell? ⟨gz, oz + k, none⟩ = some (.int .i64 y) := fun w' hb => (hb.cell (p := ⟨gz, oz + k, none⟩) (by have := hgz.2; show gz < _; omega)).trans ((hb9.cell (p := ⟨gz, oz + k, none⟩) (by have := hgz.2; show gz < _; omega)).trans hcy)
              have HCY := Lib.hid hcy9
              clear hss g9 hk9 hk79 hcy hcy9 hb8 hb9
              go_region_held3 (fun w' => (w'.cell? ⟨g13, k, none⟩ = some (.bool bo)) ∧ (w'.cell? ⟨w8.heap.size, 0, none⟩ = some (.int .i64 kind) ∧ w'.cell? ⟨w8.heap.size, 1, none⟩ = some (.string name) ∧ w'.cell? ⟨w8.heap.size, 2, none⟩ = some (.string text) ∧ w'.cell? ⟨w8.heap.size, 3, none⟩ = some (.int .i64 parent) ∧ w'.cell? ⟨w8.heap.size, 4, none⟩ = some (.slice ka kids.length kc) ∧ w'.cell? ⟨w8.heap.size, 5, none⟩ = some (.slice aa attrs.length ac) ∧ w'.cell? ⟨w8.heap.size, 6, none⟩ = some (.bool gone)) ∧ (w'.cell? ⟨g12, k * 7, none⟩ = some (.int .i64 kind) ∧ w'.cell? ⟨g12, k * 7 + 1, none⟩ = some (.string name) ∧ w'.cell? ⟨g12, k * 7 + 2, none⟩ = some (.string text) ∧ w'.cell? ⟨g12, k * 7 + 3, none⟩ = some (.int .i64 parent) ∧ w'.cell? ⟨g12, k * 7 + 4, none⟩ = some (.slice ka2 kids.length kc2) ∧ w'.cell? ⟨g12, k * 7 + 5, none⟩ = some (.slice aa2 attrs.length ac2) ∧ w'.cell? ⟨g12, k * 7 + 6, none⟩ = some (.bool gone)))
                (exact HSS.out _ hcur)
                ((go_at_call 53; refine (HSM.out _ hcur).mono ?_; rintro e w10 ⟨rfl, hb10⟩; have hcur := hcur.trans (hb10.mono hcur.size); clear hb10))
              all_goals
                have hcy := HCY.out _ hcur
                go_upto_region 28 with ((go_at_call 46; refine (versions_any (HSTY.out.below hcur).is HWF7.out (HSTY.out.below hcur).rlt (HSTY.out.below hcur).dlt y HNL.out).mono ?_; rintro e w11 ⟨⟨v21, rfl, hv21⟩, hb11⟩))
                obtain ⟨va, vc, rfl, hvl, hvx⟩ := hv21
                have HVX := Lib.hid hvx
                have HB11 := Lib.hid (hcur.trans (hb11.mono hcur.size))
                clear hvx hb11 hvl
                have hnl := HNL.out
                generalize (S.sweep T).N y = vs at *
                go_wp2
                go_loopw [20, 22] (fun lo i wy => ∃ j : Nat, j ≤ vs.length ∧ i = .int .i64 j ∧ lo = .int .i64 (((vs.take j).filter (fun v => decide (v.time ≤ T))).length : Int) ∧ wy = w11) (fun _ i _ => vs.length - (Lib.intOf i).toNat)
                case atStart => exact ⟨0, Nat.zero_le _, rfl, rfl, rfl⟩
                case round =>
                  obtain ⟨j, hj, rfl, rfl, hwr⟩ := hrel
                  have HWR := Lib.hid hwr
                  clear hwr
                  by_cases hjl : j < vs.length
                  · obtain ⟨u, hu⟩ : ∃ u, vs[j]? = some u := ⟨_, List.getElem?_eq_getElem hjl⟩
                    rcases HVX.out with rfl | ⟨gv, ov, rfl, -, hcv⟩
                    · simp at hjl
                    obtain ⟨kvx, avx, -, -, hcu⟩ := hcv j u hu
                    have hcu0 : wr.cell? ⟨gv, ov + j * 8, none⟩ = some (.int .u64 u.time) := by rw [HWR.out]; exact hcu 0 _ rfl
                    have hfl : ((vs.take j).filter (fun v => decide (v.time ≤ T))).length ≤ j := Nat.le_trans (List.length_filter_le _ _) (by rw [List.length_take]; omega)
                    have htk : (vs.take (j + 1)).filter (fun v => decide (v.time ≤ T)) = (vs.take j).filter (fun v => decide (v.time ≤ T)) ++ (if u.time ≤ T then [u] else []) := by
                      rw [List.take_add_one, hu, List.filter_append]
                      congr 1
                      by_cases h : u.time ≤ T <;> simp [h]
                    have HTK := Lib.hid htk
                    have q0 : (0 : Int) ≤ (j : Int) := by omega
                    have q1 : (j : Int) < (vs.length : Int) := by omega
                    clear htk hcu hcv hu
                    by_cases ht : u.time ≤ T
                    · have hd : decide (u.time ≤ T) = true := decide_eq_true ht
                      go_wp2
                      go_roundw
                      case rel => exact ⟨j + 1, by omega, by go_num, by rw [HTK.out, if_pos ht, List.length_append]; go_num, HWR.out⟩
                      case measure => simp [Lib.intOf]; omega
                    · have hd : decide (u.time ≤ T) = false := decide_eq_false ht
                      go_wp2
                      go_roundw
                      case rel => exact ⟨j + 1, by omega, by go_num, by rw [HTK.out, if_neg ht, List.append_nil], HWR.out⟩
                      case measure => simp [Lib.intOf]; omega
                  · obtain rfl : j = vs.length := by omega
                    rw [List.take_length]
                    have hlo := HLOW.out
                    have hlo2 : ¬ ((1 : Int) < ((vs.filter (fun v => decide (v.time ≤ T))).length : Int)) := by omega
                    generalize (vs.filter (fun v => decide (v.time ≤ T))).length = lo at *
                    go_wp2
                    go_roundw
                    case rel => exact ⟨k + 1, by omega, by go_num, by rw [HWR.out]; exact HBY.out.trans ((HB9.out.trans (HB11.out.mono HB9.out.size)).mono HBY.out.size)⟩
                    case measure => simp [Lib.intOf]; omega
            · obtain rfl : k = zs.length := by omega
              have hsw := sweep_any HSTX.out.is HWF7.out T (sweep_keys HB.out.keys T) HSTX.out.rlt HSTX.out.dlt HSTX.out.rd (by have := HF.out.g0; show 0 ≤ S.given; omega) (by have := HF.out.g; show S.given ≤ _; omega) (fun id => by have := HF.out.N id; show ((S.N id).drop _).length ≤ _; rw [List.length_drop]; omega)
              have HSW2 := Lib.hid hsw
              clear hsw hbx
              go_wp2_with (first
                | (go_at_call 52; refine HSW2.out.mono ?_; rintro e w12 ⟨⟨zs8, -, rfl⟩, hch8, -⟩; rw [sweep_sum_again HB.out.wf T zs8]; have HC8 := Lib.hid hch8; clear hch8)
                | (go_at_call 38; refine (works_any _).mono ?_; rintro e w13 ⟨rfl, hb13⟩))
              go_ret
              have hsy := HBY.out.size
              have hb12 : Below w.heap.size wr w12 := ⟨HC8.out.os, HC8.out.tape, HC8.out.output, HC8.out.size, fun j hj => HC8.out.block j (by have := HBW7.out.size; omega) (fun hr => by have := HR7N.out j hr; omega)⟩
              have hb712 := (HBW7.out.trans (HBY.out.mono HBW7.out.size)).trans hb12
              exact ⟨rfl, hb712.trans (hb13.mono hb712.size)⟩
end Go.Proofs.Ytinkjhkbaadbpaa
