import Derived.Shelf.SlSortCmp.WholeK
import Derived.Test.YtinkjhkbaadbpaaDU
import Derived.Test.YtinkjhkbaadbpaaIN
import Derived.Test.YtinkjhkbaadbpaaWS
import Derived.Test.YtinkjhkbaadbpaaDV
import Derived.Test.YtinkjhkbaadbpaaRR
import Derived.Test.YtinkjhkbaadbpaaMA
import Derived.Deep.AppendLies
import Derived.Deep.RegionLaw
/- slices.SortFunc (99) at the changes of a view. -/
namespace Go.Proofs.Ytinkjhkbaadbpaa
open Go.Shelf Go.RowKit Go.Sort
set_option linter.unusedVariables false

def Try.laysF6_ren : Go.Shelf.Ren := ⟨fun | 6 => 99 | 15 => 131 | 14 => 130 | 28 => 157 | 29 => 158 | 20 => 149 | 21 => 150 | 22 => 151 | 23 => 152 | 24 => 153 | 25 => 154 | 26 => 155 | 27 => 156 | 46 => 175 | 47 => 176 | 48 => 177 | 49 => 178 | 50 => 179 | 57 => 186 | n => n, fun | 22 => 67 | 24 => 125 | 25 => 162 | 3 => 3 | 39 => 184 | 0 => 0 | 53 => 203 | 55 => 66 | 4 => 4 | 46 => 196 | 45 => 195 | 50 => 200 | 5 => 5 | 9 => 9 | 66 => 215 | 70 => 127 | 76 => 224 | 77 => 221 | n => n, fun | n => n⟩
theorem Try.laysF6 : Go.Proofs.SlLaysF0.n6 Try.prog Try.laysF6_ren := {
  mixed := by kernel_rfl
  f6 := ⟨Try.f99.name, by decide, Try.func99.trans (congrArg some (by kernel_rfl))⟩
  f14 := ⟨Try.f130.name, by decide, Try.func130.trans (congrArg some (by kernel_rfl))⟩
  f15 := Try.func131.trans (congrArg some (by kernel_rfl))
  f20 := ⟨Try.f149.name, by decide, Try.func149.trans (congrArg some (by kernel_rfl))⟩
  f21 := ⟨Try.f150.name, by decide, Try.func150.trans (congrArg some (by kernel_rfl))⟩
  f22 := ⟨Try.f151.name, by decide, Try.func151.trans (congrArg some (by kernel_rfl))⟩
  f23 := ⟨Try.f152.name, by decide, Try.func152.trans (congrArg some (by kernel_rfl))⟩
  f24 := ⟨Try.f153.name, by decide, Try.func153.trans (congrArg some (by kernel_rfl))⟩
  f25 := ⟨Try.f154.name, by decide, Try.func154.trans (congrArg some (by kernel_rfl))⟩
  f26 := ⟨Try.f155.name, by decide, Try.func155.trans (congrArg some (by kernel_rfl))⟩
  f27 := ⟨Try.f156.name, by decide, Try.func156.trans (congrArg some (by kernel_rfl))⟩
  f28 := Try.func157.trans (congrArg some (by kernel_rfl))
  f29 := Try.func158.trans (congrArg some (by kernel_rfl))
  f46 := ⟨Try.f175.name, by decide, Try.func175.trans (congrArg some (by kernel_rfl))⟩
  f47 := Try.func176.trans (congrArg some (by kernel_rfl))
  f48 := Try.func177.trans (congrArg some (by kernel_rfl))
  f49 := ⟨Try.f178.name, by decide, Try.func178.trans (congrArg some (by kernel_rfl))⟩
  f50 := ⟨Try.f179.name, by decide, Try.func179.trans (congrArg some (by kernel_rfl))⟩
  f57 := ⟨Try.f186.name, by decide, Try.func186.trans (congrArg some (by kernel_rfl))⟩
  t0 := Try.underlying0
  a0 := Try.isAgg0
  z0 := Try.sizeOf0
  v0 := Try.zeroValue0
  t3 := Try.underlying3
  a3 := Try.isAgg3
  z3 := Try.sizeOf3
  v3 := Try.zeroValue3
  t4 := Try.underlying4
  a4 := Try.isAgg4
  z4 := Try.sizeOf4
  v4 := Try.zeroValue4
  t5 := Try.underlying5
  a5 := Try.isAgg5
  z5 := Try.sizeOf5
  v5 := Try.zeroValue5
  t9 := Try.underlying9
  a9 := Try.isAgg9
  z9 := Try.sizeOf9
  v9 := Try.zeroValue9
  t22 := Try.underlying67
  a22 := Try.isAgg67
  z22 := Try.sizeOf67
  v22 := Try.zeroValue67
  t25 := Try.underlying162
  a25 := Try.isAgg162
  z25 := Try.sizeOf162
  v25 := Try.zeroValue162
  t39 := Try.underlying184
  a39 := Try.isAgg184
  z39 := Try.sizeOf184
  v39 := Try.zeroValue184
  t45 := Try.underlying195
  a45 := Try.isAgg195
  z45 := Try.sizeOf195
  v45 := Try.zeroValue195
  t46 := Try.underlying196
  a46 := Try.isAgg196
  z46 := Try.sizeOf196
  v46 := Try.zeroValue196
  t50 := Try.underlying200
  a50 := Try.isAgg200
  z50 := Try.sizeOf200
  v50 := Try.zeroValue200
  t53 := Try.underlying203
  a53 := Try.isAgg203
  z53 := Try.sizeOf203
  v53 := Try.zeroValue203
  t55 := Try.underlying66
  a55 := Try.isAgg66
  z55 := Try.sizeOf66
  v55 := Try.zeroValue66
  t66 := Try.underlying215
  a66 := Try.isAgg215
  z66 := Try.sizeOf215
  v66 := Try.zeroValue215
  t70 := Try.underlying127
  a70 := Try.isAgg127
  z70 := Try.sizeOf127
  v70 := Try.zeroValue127
  t76 := Try.underlying224
  a76 := Try.isAgg224
  z76 := Try.sizeOf224
  v76 := Try.zeroValue224
  t77 := Try.underlying221
  a77 := Try.isAgg221
  z77 := Try.sizeOf221
  v77 := Try.zeroValue221 }

/-- a change, and where its lists lie -/
abbrev Chv := { e : Own × Value × Value // (0 ≤ e.1.1 ∧ e.1.1 ≤ 9223372036854775807) ∧ e.2.1.oneCell' = true ∧ e.2.2.oneCell' = true }
instance : Inhabited Chv := ⟨⟨((0, Rec.zero), .slice none 0 0, .slice none 0 0), ⟨⟨Int.le_refl _, by decide⟩, rfl, rfl⟩⟩⟩
def chvL (x : Chv) : List Value := ownL x.1.1 x.1.2.1 x.1.2.2
def chvCf (x y : Chv) : Int := x.1.1.1 - y.1.1.1
theorem chv_lt (x y : Chv) : ltOf chvCf x y = decide (x.1.1.1 < y.1.1.1) := by
  unfold ltOf chvCf
  by_cases h : x.1.1.1 < y.1.1.1
  · rw [decide_eq_true h, decide_eq_true (by omega)]
  · rw [decide_eq_false h, decide_eq_false (by omega)]
theorem chv_swo : SWO (ltOf chvCf) where
  irrefl x := by rw [chv_lt]; simp
  trans x y z h1 h2 := by rw [chv_lt] at *; simp at *; omega
  ntrans x y z h1 h2 := by rw [chv_lt] at *; simp at *; omega
set_option maxHeartbeats 1000000 in
set_option maxRecDepth 100000 in
theorem cmp_any (x y : Chv) (W : World) : Calls Try.prog 100 #[.agg (chvL x).toArray, .agg (chvL y).toArray] W fun e w' => e = .returned (.int .i64 (chvCf x y)) ∧ ∃ q os', w' = grow (W.drewN q) os' := by
  obtain ⟨⟨⟨id, ⟨kind, name, text, parent, kids, attrs, gone⟩⟩, kv, av⟩, ⟨h1, h2⟩, -, -⟩ := x
  obtain ⟨⟨⟨id2, ⟨kind2, name2, text2, parent2, kids2, attrs2, gone2⟩⟩, kv2, av2⟩, ⟨h3, h4⟩, -, -⟩ := y
  simp only at h1 h2 h3 h4
  show Calls Try.prog 100 #[.agg #[.int .i64 id, .int .i64 kind, .string name, .string text, .int .i64 parent, kv, av, .bool gone], .agg #[.int .i64 id2, .int .i64 kind2, .string name2, .string text2, .int .i64 parent2, kv2, av2, .bool gone2]] W fun e w' => e = .returned (.int .i64 (id - id2)) ∧ ∃ q os', w' = grow (W.drewN q) os'
  have hd1 : -9223372036854775808 ≤ id - id2 := by omega
  have hd2 : id - id2 ≤ 9223372036854775807 := by omega
  go_enter Try.func100, Try.ntmps100
  go_wp2
  go_ret
  exact ⟨rfl, 0, _, by rw [alloc_eq_grow, alloc_eq_grow, grow_grow]; rfl⟩
theorem flat_get : ∀ (cs : List Chv) (i c : Nat), i < cs.length → c < 8 → ((cs.map chvL).flatten)[i * 8 + c]? = (chvL cs[i]!)[c]?
  | [], i, c, h, _ => by simp at h
  | x :: cs, 0, c, _, hc => by
    rw [List.map_cons, List.flatten_cons, List.getElem?_append_left (by simp [chvL]; omega)]
    simp
  | x :: cs, i + 1, c, h, hc => by
    rw [List.map_cons, List.flatten_cons, List.getElem?_append_right (by simp [chvL]; omega)]
    have e : (i + 1) * 8 + c - (chvL x).length = i * 8 + c := by simp [chvL]; omega
    rw [e, flat_get cs i c (by simpa using h) hc]
    simp
theorem chvL_len (x : Chv) : (chvL x).length = 8 := rfl
set_option maxHeartbeats 1000000 in
theorem sortc_any (g cap : Nat) (cs : List Chv) (cur : Array Value) (w : World) (hg : w.heap[g]? = some (.cells cur 125 (0, 0))) (hlen : cs.length < 4611686018427387904) (hcur : cur.toList.take (cs.length * 8) = (cs.map chvL).flatten) :
    Calls Try.prog 99 #[.slice (some ⟨g, 0, none⟩) cs.length cap, .func (.func 100) #[] #[]] w fun e w' => e = .returned (.tuple #[]) ∧ Chg (fun k => k = g) w w' ∧ ∃ ds : List Chv, ds.Perm cs ∧
      ∀ k x, ds[k]? = some x → ∀ c v, (chvL x)[c]? = some v → w'.cell? ⟨g, k * 8 + c, none⟩ = some v := by
  have hlt : g < w.heap.size := (Array.getElem?_eq_some_iff.1 hg).1
  have hH : HoldsK chvL 8 w g 0 cs.toArray := by
    intro j hj
    have hj' : j < cs.length * 8 := by simpa using hj
    refine ⟨?_, free_block hg _⟩
    rw [get_flatK _ _ _ _ (by simpa using hj')]
    have h1 : (cur.toList.take (cs.length * 8))[j]? = (chvL cs[j / 8]!)[j % 8]? := by
      rw [hcur]
      have := flat_get cs (j / 8) (j % 8) (by omega) (by omega)
      rw [show j / 8 * 8 + j % 8 = j by omega] at this
      exact this
    rw [List.getElem?_take_of_lt hj'] at h1
    simp only [World.cell?, hg, Nat.zero_add]
    rw [Array.getElem?_toList] at h1
    have h8 : j % 8 < (chvL cs[j / 8]!).length := by rw [chvL_len]; omega
    have e1 : (cs.toArray[j / 8]! : Chv) = cs[j / 8]! := by simp
    rw [e1, h1, List.getElem?_eq_getElem h8, getElem!_pos (chvL cs[j / 8]!) (j % 8) h8]
    rfl
  have eg : ∀ args w, (callFunc 100 args).run Try.prog w = .ok (.enter 100 args) w := enters_of Try.func100 (by kernel_rfl) rfl
  have hcon := AnyQ.slices_SortFunc Try.laysF6 8 Try.isAgg125 Try.sizeOf125 chvL chvL_len (fun x v hv => by
    have hv' : v ∈ ownL x.1.1 x.1.2.1 x.1.2.2 := hv
    have ho1 := x.2.2.1
    have ho2 := x.2.2.2
    simp only [ownL, recL, List.mem_cons, List.not_mem_nil, or_false] at hv'
    rcases hv' with rfl | rfl | rfl | rfl | rfl | rfl | rfl | rfl
    all_goals first | rfl | exact ho1 | exact ho2) chvCf chv_swo 100 #[] g 0 cap cs.toArray w eg (fun _ _ _ _ x y => cmp_any x y _) hH hlt (by simpa using hlen)
  change Calls Try.prog 99 #[.slice (some ⟨g, 0, none⟩) cs.length cap, .func (.func 100) #[] #[]] _ _ at hcon
  refine hcon.mono ?_
  rintro e w' ⟨rfl, d', n, os, ⟨hsz, -, hperm⟩, -, rfl⟩
  have hsz' : d'.size = cs.length := by simpa using hsz
  refine ⟨rfl, ⟨rfl, rfl, rfl, by simp [sortWorldK, putRowK], fun k hk hn => ?_⟩, d'.toList, ?_, fun k x hk c v hv => ?_⟩
  · unfold sortWorldK
    rw [heap_grow_old _ _ (by simpa [putRowK] using hk)]
    simp only [putRowK, putRow, mapBlock]
    rw [Array.getElem?_modify, if_neg (fun e => hn e.symm)]
    rfl
  · have e1 : d'.extract 0 cs.toArray.size = d' := by rw [← hsz]; simp
    have e2 : cs.toArray.extract 0 cs.toArray.size = cs.toArray := by simp
    rw [e1, e2] at hperm
    simpa using hperm
  · have hk' : k < d'.size := by have := (List.getElem?_eq_some_iff.1 hk).1; simpa using this
    have hc : c < 8 := by have := (List.getElem?_eq_some_iff.1 hv).1; rwa [chvL_len] at this
    have h1 : HoldsK chvL 8 (sortWorldK chvL 8 w g 0 n d' os) g 0 d' := by
      unfold sortWorldK
      exact holdsK_grow _ _ _ _ _ _ _ (by simp [putRowK]; exact hlt) (holdsK_putRowK _ _ _ _ _ cs.toArray _ (holdsK_ahead _ _ _ n _ _ _ hH) hsz)
    have h2 := (h1.cell hk' hc).1
    rw [Nat.zero_add] at h2
    rw [h2]
    have e3 : d'[k]! = x := by
      rw [Array.getElem?_toList] at hk
      simp [getElem!_def, hk]
    rw [e3]
    have h8 : c < (chvL x).length := by rw [chvL_len]; exact hc
    rw [List.getElem?_eq_getElem h8] at hv
    cases hv
    rw [getElem!_pos (chvL x) c h8]
end Go.Proofs.Ytinkjhkbaadbpaa
/- Changes (61): what a view was told, in a list. -/
namespace Go.Proofs.Ytinkjhkbaadbpaa
open Go.RowKit
set_option linter.unusedVariables false
set_option linter.unusedSimpArgs false

/-- the changes cs are what o holds -/
def ChnsOf (o : Owns) (cs : List Chn) : Prop := (cs.map (·.id)).Nodup ∧ ∀ id r, (⟨id, r⟩ : Chn) ∈ cs ↔ o id = some r
theorem intsIn_one {D : Nat → Prop} {w : World} {v : Value} {xs : List Int} (h : IntsIn D w v xs) : v.oneCell' = true := by
  obtain ⟨a, c, rfl, -⟩ := h; rfl
/-- the changes with their lists, as the sort takes them -/
theorem chv_of {D : Nat → Prop} {w : World} : ∀ {L : List Own} {xs : List Value}, OwnsAre D w L xs → (∀ e ∈ L, 0 ≤ e.1 ∧ e.1 ≤ 9223372036854775807) →
    ∃ cs : List Chv, cs.map (fun c => c.1.1) = L ∧ xs = (cs.map chvL).flatten ∧ ∀ c ∈ cs, IntsIn D w c.1.2.1 c.1.1.2.kids ∧ IntsIn D w c.1.2.2 c.1.1.2.attrs
  | [], xs, h, _ => ⟨[], rfl, h, by simp⟩
  | e :: es, xs, ⟨kv, av, rest, hx, h1, h2, h3⟩, hb => by
    obtain ⟨cs, e1, e2, e3⟩ := chv_of h3 (fun x hx => hb x (by simp [hx]))
    refine ⟨⟨(e, kv, av), hb e (by simp), intsIn_one h1, intsIn_one h2⟩ :: cs, by simp [e1], by rw [hx, e2]; rfl, fun c hc => ?_⟩
    rcases List.mem_cons.1 hc with rfl | hc
    · exact ⟨h1, h2⟩
    · exact e3 c hc

set_option maxRecDepth 100000 in
set_option maxHeartbeats 4000000 in
theorem changes_any {D : Nat → Prop} {w : World} {v m : Nat} {sp : Value} {V : Vw} (h : VIn D w v m sp V) (hD : ∀ k, D k → k < w.heap.size) (hid : ∀ id r, V.own id = some r → 0 ≤ id ∧ id ≤ 9223372036854775807)
    {ks : List Int} (hks : ∀ id r, V.own id = some r → id ∈ ks) (hkl : ks.length ≤ 1000000000) (hne : ∃ id r, V.own id = some r) :
    Calls Try.prog 61 #[ptr v] w fun e w' => (∃ u cs, e = .returned u ∧ ChnsIn (fun k => w.heap.size ≤ k ∧ k < w'.heap.size) w' u cs ∧ ChnsOf V.own cs) ∧ Below w.heap.size w w' := by
  obtain ⟨f, hf, hf1, hf2⟩ := h.map
  have hvl := h.lt
  have c2 : w.cell? ⟨v, 2, none⟩ = some (.map (some m)) := by simp [World.cell?, h.cell]
  have hno := vnone_any h.cell
  have HV := Lib.hid h
  have HF := Lib.hid hf
  have HF1 := Lib.hid hf1
  have HF2 := Lib.hid hf2
  have HOKK := Lib.hid h.ok
  have HID := Lib.hid hid
  have HKS := Lib.hid hks
  have HNE := Lib.hid hne
  have HD := Lib.hid hD
  have HNONE := Lib.hid hno
  have HVL := Lib.hid hvl
  obtain ⟨i0, hi, hz0, hz1, hz2⟩ := info_parts Try.info125
  clear h hf hf1 hf2 hid hks hne hD hno hvl
  go_enter Try.func61, Try.ntmps61
  go_wp2_with ((first
    | (go_at_call 84; refine HNONE.out.mono ?_; rintro e w0 ⟨rfl, rfl⟩)
    | (refine wpList_mapRange rfl _ 117 rfl Try.underlying117 rfl HF.out ?_; intro ob n0 hit)))
  have hB0 : Below w.heap.size w (w.alloc ob) := (Below.refl _ w).alloc (Nat.le_refl _) _
  have hmr : m ≠ w.heap.size := hit.ne.symm
  have HIT := Lib.hid hit
  have hBm : m < w.heap.size := HF.out.lt
  clear hit
  go_simp
  go_loopw [3] (fun u wr => ∃ (L : List Own) (xs : List Value) (n : Nat) (Dl : Nat → Prop), wr.ownsRow (w.heap.size + 1) 125 8 u L.length xs ∧ OwnsAre Dl wr L xs ∧ (∀ k, Dl k → w.heap.size < k ∧ k < wr.heap.size ∧ u.ownBlock ≠ some k) ∧ (L.map (·.1)).Nodup ∧ (∀ e ∈ L, V.own e.1 = some e.2) ∧
      Iter iv wr w.heap.size m f (fun x => (f x).isSome ∧ x ∉ L.map (·.1)) n ∧ Below w.heap.size w wr) (fun _ wr => iterLeft w.heap.size m wr)
  case atStart => exact ⟨[], [], n0, fun _ => False, World.ownsRow_nil _ _ _ _, rfl, fun k h => h.elim, List.nodup_nil, by simp, by simpa using HIT.out, hB0⟩
  case round =>
    obtain ⟨L, xs, n, Dl, hown, hare, hDl, hnd, hin, hit, hbel⟩ := hrel
    have hleft := hit.left
    have hlen : L.length ≤ 1000000000 := by
      have := nodup_len hnd (m := ks) (fun x hx => by
        obtain ⟨e, he, rfl⟩ := List.mem_map.1 hx
        exact HKS.out _ _ (hin e he))
      rw [List.length_map] at this
      omega
    have HOWN := Lib.hid hown
    have HARE := Lib.hid hare
    have HDL := Lib.hid hDl
    have HND := Lib.hid hnd
    have HIN := Lib.hid hin
    have HIT2 := Lib.hid hit
    have HBEL := Lib.hid hbel
    clear hown hare hDl hnd hin hit hbel
    go_wp2_with ((refine wpList_mapNext rfl _ rfl key3 rfl HIT2.out (fun hno => ?_) (fun x vx w1 ob' n' hLx hfx hst hob hi' hlt hen => ?_); rotate_left; (obtain ⟨r, hrx, kv, av, rfl, hk, ha⟩ := HF1.out x vx hfx; have hen1 := hen w1 (hst.2.2.2.2 m hmr) hob; have hbel1 := HBEL.out.trans (below_stepped hst (Nat.le_refl _)); have HOWN1 := Lib.hid (ownsRow_stepped HOWN.out hst (Nat.lt_succ_self _)); have HBEL1 := Lib.hid hbel1; have HST := Lib.hid hst; have HI2 := Lib.hid hi'; have HLX := Lib.hid hLx; have HRX := Lib.hid hrx; have hok := HOKK.out x r hrx; have HCP := Lib.hid (show ∀ W, Below w.heap.size w W → Calls Try.prog 85 #[recV r kv av] W fun e w' => (∃ kv' av', e = .returned (recV r kv' av') ∧ IntsIn (New W.heap.size) w' kv' r.kids ∧ IntsIn (New W.heap.size) w' av' r.attrs) ∧ Below W.heap.size W w' from fun W hb => vcopied_any r kv av D W (hk.keep (fun k hk => hb.block k (HD.out k hk))) (ha.keep (fun k hk => hb.block k (HD.out k hk))) (fun k hk => Nat.lt_of_lt_of_le (HD.out k hk) hb.size) hok.1 hok.2); obtain ⟨ka, kc, rfl, -, -, -⟩ := hk; obtain ⟨aa, ac, rfl, -, -, -⟩ := ha; clear hfx hst hi' hLx hen hrx hbel1); rotate_left; (have HNO := Lib.hid hno; clear hno)))
    rotate_left
    · refine (HCP.out _ (HBEL1.out.alloc HBEL1.out.size _)).mono ?_
      rintro e w3 ⟨⟨kv3, av3, rfl, hk3, ha3⟩, hb3⟩
      have hs3 := hb3.size
      have hw1 := HBEL1.out.size
      have HOWN3 := Lib.hid (ownsRow_keeps (ownsRow_alloc HOWN1.out _) (fun g hg => hb3.block g (ownsRow_base (ownsRow_alloc HOWN1.out _) hg).2))
      have hsz3 : w.heap.size + 1 ≤ w3.heap.size := by simp at hs3; omega
      have HK3 := Lib.hid hk3.bound
      have HA3 := Lib.hid ha3.bound
      have HB3 := Lib.hid hb3
      obtain ⟨ka3, kc3, rfl, -, -, -⟩ := hk3
      obtain ⟨aa3, ac3, rfl, -, -, -⟩ := ha3
      clear hb3
      go_wp2_with ((at_builtin; refine wpList_append_own_at _ rfl _ _ 67 rfl (w.heap.size + 1) 125 i0 (.agg #[.int .i64 0, .int .i64 0, .string ⟨#[]⟩, .string ⟨#[]⟩, .int .i64 0, .slice none 0 0, .slice none 0 0, .bool false]) 8 112 Try.underlying67 hi hz0 hz1 hz2 rfl (by decide) _ _ _ rfl (ownsRow_alloc HOWN3.out _) ⟨w3.heap.size, 0, none⟩ 1 1 (ownL (x, r) (.slice ka3 r.kids.length kc3) (.slice aa3 r.attrs.length ac3)) rfl rfl cells_new (by simp [Value.oneCell']) (by unfold maxLen; omega) (by omega) (by simp; omega) ?_; intro v' w4 hown4 hgrow hnil hloc))
      have hown1 := fun g hg => (ownsRow_base HOWN.out (g := g) hg)
      have hst := HST.out
      have hmk : ∀ k, k < w1.heap.size → u3.ownBlock ≠ some k → w4.heap[k]? = w1.heap[k]? := fun k hk hn => by
        have h1 : k < w3.heap.size := by have h9 := hs3; simp at h9; omega
        have h2 := hgrow.block k (by simp; omega) (fun e => hn e.symm)
        rw [h2, Go.heap_alloc_old _ _ h1, HB3.out.block k (by simp; omega), Go.heap_alloc_old _ _ hk]
      have hs1 : w1.heap.size = wr.heap.size := hst.2.2.2.1
      have hwr := HIT2.out.lt.2
      have hs3' : w1.heap.size + 1 ≤ w3.heap.size := by simpa using hs3
      have hs4 : w3.heap.size + 1 ≤ w4.heap.size := by have := hgrow.size; simpa using this
      have hown0 : ∀ k, u3.ownBlock = some k → w.heap.size + 1 ≤ k ∧ k < wr.heap.size := fun k hk => hown1 k hk
      have hmo : ∀ k, k ≤ w.heap.size → w4.heap[k]? = w1.heap[k]? := fun k hk => hmk k (by omega) (fun e => by have := (hown0 k e).1; omega)
      have hi3 := HI2.out.keep (hmo m (by omega)) (hmo _ (Nat.le_refl _))
      have hkd : Keeps Dl wr w4 := fun k hk => by
        have h1 := HDL.out k hk
        rw [hmk k (by omega) h1.2.2, hst.2.2.2.2 k (by omega)]
      have hkn : Keeps (fun k => (w1.alloc (.cells #[.int .i64 r.kind, .string r.name, .string r.text, .int .i64 r.parent, .slice ka r.kids.length kc, .slice aa r.attrs.length ac, .bool r.gone] 52)).heap.size ≤ k ∧ k < w3.heap.size) w3 w4 := fun k hk => by
        have h1 := hk.1
        rw [World.size_alloc] at h1
        rw [hgrow.block k (by simp; have := hk.2; omega) (fun e => by have := (hown0 k e.symm).2; omega), Go.heap_alloc_old _ _ hk.2]
      refine ⟨⟨L ++ [(x, r)], _, n', fun k => Dl k ∨ (w1.heap.size + 1 ≤ k ∧ k < w3.heap.size), by simpa using hown4, OwnsAre.snoc (v := (x, r)) ((HK3.out.keep hkn).mono (fun k hk => .inr ⟨by have h1 : _ ≤ k := hk.1; simpa using h1, hk.2⟩)) ((HA3.out.keep hkn).mono (fun k hk => .inr ⟨by have h1 : _ ≤ k := hk.1; simpa using h1, hk.2⟩)) (HARE.out.keep hkd (fun k hk => .inl hk)), fun k hk => ⟨?_, ?_, ?_⟩, ?_, ?_, ?_, ?_⟩, ?_⟩
      · rcases hk with h | h
        · exact (HDL.out k h).1
        · omega
      · rcases hk with h | h
        · have := (HDL.out k h).2.1; omega
        · omega
      · intro e
        rcases hloc with h9 | h9
        · rw [h9] at e
          rcases hk with h | h
          · exact (HDL.out k h).2.2 e
          · have := (hown0 k e).2; omega
        · rw [h9] at e
          cases e
          rcases hk with h | h
          · have := (HDL.out _ h).2.1; simp at this; omega
          · have := h.2; simp at this; omega
      · rw [List.map_append]
        exact List.nodup_append.2 ⟨HND.out, by simp, by rintro a ha b hb rfl; simp at hb; subst hb; exact HLX.out.2 ha⟩
      · intro e he
        rcases List.mem_append.1 he with h | h
        · exact HIN.out e h
        · simp at h; subst h; exact HRX.out
      · have e : (fun y => ((f y).isSome = true ∧ ¬y ∈ L.map (·.1)) ∧ y ≠ x) = (fun y => (f y).isSome = true ∧ ¬ y ∈ (L ++ [(x, r)]).map (·.1)) := by
          funext y
          simp [and_assoc, not_or, and_imp]
        rw [← e]
        exact hi3
      · refine HBEL1.out.trans ⟨?_, ?_, ?_, by omega, fun k hk => hmo k (by omega)⟩
        · exact (hgrow.os.trans (HB3.out.os.trans rfl))
        · exact (hgrow.tape.trans (HB3.out.tape.trans rfl))
        · exact (hgrow.output.trans (HB3.out.output.trans rfl))
      · rw [hi3.left, hleft]
        exact hlt
    · have hall : ∀ id r, V.own id = some r ↔ (id, r) ∈ L := fun id r => by
        constructor
        · intro ho
          have hfs : (f id).isSome = true := by
            cases e : f id with
            | none => rw [HF2.out id e] at ho; cases ho
            | some v => rfl
          have hm : id ∈ L.map (·.1) := Classical.byContradiction fun hn => HNO.out id ⟨hfs, hn⟩
          obtain ⟨e, he, rfl⟩ := List.mem_map.1 hm
          have := HIN.out e he
          rw [ho] at this
          cases this
          exact he
        · intro h
          exact HIN.out _ h
      have hLne : 0 < L.length := by
        obtain ⟨id, r, h⟩ := HNE.out
        exact List.length_pos_of_mem ((hall id r).1 h)
      obtain ⟨cs, hcs, hxs, hcl⟩ := chv_of HARE.out (fun e he => HID.out _ _ (HIN.out e he))
      have hcsl : cs.length = L.length := by rw [← hcs, List.length_map]
      obtain ⟨hll, ⟨rfl, hl0⟩ | ⟨g, cap, cur, rfl, hbg, hgg, hlc, hcm, hcs2, htake⟩⟩ := HOWN.out
      · omega
      · have hgl := (Array.getElem?_eq_some_iff.1 hgg).1
        have hsrt := sortc_any g cap cs cur wr hgg (by omega) (by rw [hcsl, htake, hxs])
        rw [hcsl] at hsrt
        refine hsrt.mono ?_
        rintro e w2 ⟨rfl, hch, ds, hperm, hcell⟩
        have hdl : ds.length = L.length := hperm.length_eq.trans hcsl
        go_wp2
        go_ret
        have hkd : Keeps Dl wr w2 := hch.keeps (fun k hk => ⟨(HDL.out k hk).2.1, fun e => (HDL.out k hk).2.2 (by rw [e]; rfl)⟩)
        have hsz := hch.size
        have hsw := HBEL.out.size
        refine ⟨⟨.slice (some ⟨g, 0, none⟩) L.length cap, ds.map (fun c => (⟨c.1.1.1, c.1.1.2⟩ : Chn)), rfl, ⟨_, cap, by rw [List.length_map, hdl], by rw [List.length_map, hdl]; exact hlc, hcm, .inr ⟨g, 0, rfl, ⟨by omega, by omega⟩, fun k c hk => ?_⟩⟩, ?_, fun id r => ?_⟩, HBEL.out.trans ⟨hch.os, hch.tape, hch.output, hch.size, fun k hk => hch.block k (by omega) (by omega)⟩⟩
        · rw [List.getElem?_map] at hk
          obtain ⟨c', hc', rfl⟩ := Option.map_eq_some_iff.1 hk
          have hm := hcl c' (hperm.mem_iff.1 (List.mem_of_getElem? hc'))
          refine ⟨c'.1.2.1, c'.1.2.2, (hm.1.keep hkd).mono (fun k hk => ?_), (hm.2.keep hkd).mono (fun k hk => ?_), fun j x hj => ?_⟩
          · have := HDL.out k hk; omega
          · have := HDL.out k hk; omega
          · rw [Nat.zero_add]
            exact hcell k c' hc' j x hj
        · have : (ds.map (fun c => (⟨c.1.1.1, c.1.1.2⟩ : Chn))).map (·.id) = (ds.map (fun c => c.1.1)).map (·.1) := by rw [List.map_map, List.map_map]; rfl
          rw [this]
          have hp2 : ((ds.map (fun c => c.1.1)).map (·.1)).Perm ((cs.map (fun c => c.1.1)).map (·.1)) := (hperm.map _).map _
          rw [hcs] at hp2
          exact hp2.nodup_iff.2 HND.out
        · rw [hall id r, ← hcs]
          constructor
          · intro h
            obtain ⟨c, hc, e⟩ := List.mem_map.1 h
            cases e
            exact List.mem_map.2 ⟨c, hperm.mem_iff.1 hc, rfl⟩
          · intro h
            obtain ⟨c, hc, e⟩ := List.mem_map.1 h
            refine List.mem_map.2 ⟨c, hperm.mem_iff.2 hc, ?_⟩
            have e' : c.1.1 = (id, r) := e
            rw [e']
end Go.Proofs.Ytinkjhkbaadbpaa
/- An entry is laid into the document's store. -/
namespace Go.Proofs.Ytinkjhkbaadbpaa
open Go.RowKit
set_option linter.unusedVariables false

theorem Try.info147 : (Try.prog.info? 147).map (fun i => (i.zero, i.size, i.bytes)) = some (some (.agg #[.int .i64 0, .int .u64 0, .int .i64 0, .string ⟨#[]⟩, .string ⟨#[]⟩, .int .i64 0, .slice none 0 0, .slice none 0 0, .bool false]), 9, 120) := by kernel_rfl

theorem doc_push {R D : Nat → Prop} {W W2 w3 : World} {s n : Nat} {v v' : Value} {xs : List Value} {l : List Ent} {e : Ent} {kv av : Value} {g : Int} {last : Nat}
    (hR : ∀ k, R k → k < W.heap.size) (hD : ∀ k, D k → k < W.heap.size) (hRD : ∀ k, R k → ¬ D k) (hs : R s) (hb : W.heap[s]? = some (.cells #[v, iv g, .int .u64 last] 84)) (ho : W.ownsRow 0 147 9 v n xs) (he : EntsAre D W l xs) (hn : l.length = n)
    (hv : ∀ k, v.ownBlock = some k → R k) (hc2 : Chg (fun _ => False) W W2) (hown : w3.ownsRow 0 147 9 v' (n + 1) (xs ++ entL e kv av)) (hg : W2.grownBy w3 v.ownBlock) (hloc : v.ownBlock = v'.ownBlock ∨ ∃ j, v'.ownBlock = some j ∧ W.heap.size ≤ j)
    (hk : IntsIn D W kv e.v.r.kids) (ha : IntsIn D W av e.v.r.attrs) :
    DocIn (fun k => R k ∨ v'.ownBlock = some k) D (w3.setCell ⟨s, 0, none⟩ v') (.pointer (some ⟨s, 0, none⟩)) ⟨l ++ [e], g, last⟩ ∧ Chg R W (w3.setCell ⟨s, 0, none⟩ v') ∧ (∀ k, v'.ownBlock = some k → R k ∨ W.heap.size ≤ k) ∧ (∀ k, (R k ∨ v'.ownBlock = some k) → k < (w3.setCell ⟨s, 0, none⟩ v').heap.size) := by
  have hch : Chg R W w3 := (hc2.mono (fun k h => h.elim)).trans (chg_grown hg hv)
  have hsV : v.ownBlock ≠ some s := by
    intro h
    rcases ho.2 with ⟨rfl, _⟩ | ⟨g', cap', cur, rfl, _, hgg, _⟩
    · cases h
    · cases h; rw [hb] at hgg; cases hgg
  have hs3 : w3.heap[s]? = W.heap[s]? := by
    have h1 := hR s hs
    exact (hg.block s (Nat.lt_of_lt_of_le h1 hc2.size) (fun h => hsV h.symm)).trans (hc2.block s h1 (fun h => h))
  have hsz : (w3.setCell ⟨s, 0, none⟩ v').heap.size = w3.heap.size := by simp [World.setCell]
  have hv' : ∀ k, v'.ownBlock = some k → R k ∨ W.heap.size ≤ k := by
    intro k h
    rcases hloc with h2 | ⟨j, h2, h3⟩
    · exact .inl (hv k (by rw [h2]; exact h))
    · rw [h2] at h; cases h; exact .inr h3
  have hs' : v'.ownBlock ≠ some s := by
    intro h
    rcases hloc with h2 | ⟨j, h2, h3⟩
    · exact hsV (by rw [h2]; exact h)
    · rw [h2] at h; cases h; have := hR _ hs; omega
  have hch2 : Chg R W (w3.setCell ⟨s, 0, none⟩ v') := hch.trans (chg_set hs 0 _)
  have hKD : Keeps D W (w3.setCell ⟨s, 0, none⟩ v') := hch2.keeps (fun k hk => ⟨hD k hk, fun h => hRD k h hk⟩)
  refine ⟨⟨s, v', xs ++ entL e kv av, rfl, .inl hs, ?_, ?_, ?_, fun k h => .inr h⟩, hch2, hv', ?_⟩
  · have := heap_setCell_same w3 s 0 _ _ v' (hs3.trans hb)
    simpa using this
  · show World.ownsRow _ 0 147 9 v' (l ++ [e]).length _
    rw [show (l ++ [e]).length = n + 1 by simp [hn]]
    exact ownsRow_keeps hown (fun k h => heap_setCell_other _ _ _ _ (by rintro rfl; exact hs' h))
  · exact EntsAre.snoc (v := e) (hk.keep hKD) (ha.keep hKD) (he.keep hKD (fun _ h => h))
  · rintro k (h | h)
    · rw [hsz]; exact Nat.lt_of_lt_of_le (hR k h) hch.size
    · rw [hsz]
      exact (ownsRow_base hown h).2

def entOf (T : Nat) (c : Chn) : Ent := ⟨c.id, ⟨T, c.r⟩⟩
def Doc.put (d : Doc) (T : Nat) (cs : List Chn) : Doc := ⟨d.L ++ cs.map (entOf T), d.given, T⟩
theorem doc_last {R D : Nat → Prop} {w : World} {s : Nat} {d : Doc} (h : DocIn R D w (.pointer (some ⟨s, 0, none⟩)) d) (hRD : ∀ k, R k → ¬ D k) (T : Nat) :
    DocIn R D (w.setCell ⟨s, 2, none⟩ (.int .u64 T)) (.pointer (some ⟨s, 0, none⟩)) ⟨d.L, d.given, T⟩ ∧ Chg R w (w.setCell ⟨s, 2, none⟩ (.int .u64 T)) := by
  obtain ⟨s', v, xs, e, hs, hb, ho, he, hr⟩ := h
  obtain rfl : s = s' := by cases e; rfl
  refine ⟨⟨s, v, xs, rfl, hs, ?_, ownsRow_keeps ho (fun g hg => heap_setCell_other _ _ _ _ ?_), he.keep (fun k hk => heap_setCell_other _ _ _ _ (by rintro rfl; exact hRD _ hs hk)) (fun _ h => h), hr⟩, chg_set hs 2 _⟩
  · have := heap_setCell_same w s 2 _ _ (.int .u64 T) hb
    simpa using this
  · rintro rfl
    rcases ho.2 with ⟨rfl, _⟩ | ⟨g', cap', cur, rfl, _, hgg, _⟩
    · cases hg
    · cases hg; rw [hb] at hgg; cases hgg
theorem okL_length {g : Int} {cs : List Chn} (hg : 0 ≤ g) (h : okL g [] cs = true) : (cs.length : Int) ≤ g := by
  have key : ∀ (cs : List Chn) (seen : List Int), okL g seen cs = true → (cs.map (·.id)).Nodup := by
    intro cs
    induction cs with
    | nil => intro seen _; simp
    | cons c cs ih =>
      intro seen h
      simp only [okL, Bool.and_eq_true] at h
      simp only [List.map_cons, List.nodup_cons]
      refine ⟨?_, ih _ h.2⟩
      intro hm
      obtain ⟨d, hd, e⟩ := List.mem_map.1 hm
      obtain ⟨k, hk⟩ := List.getElem?_of_mem hd
      exact (okL_id h.2 hk).2 (by rw [e]; simp)
  have h2 := nodup_bound (key cs [] h) hg (fun x hx => by
    obtain ⟨c, hc, rfl⟩ := List.mem_map.1 hx
    obtain ⟨k, hk⟩ := List.getElem?_of_mem hc
    have h3 := okL_mono g cs [] (k + 1) h
    rw [okL_take hk] at h3
    simp [bad1] at h3
    omega)
  simpa using h2
end Go.Proofs.Ytinkjhkbaadbpaa
/- What a planted tree puts may be installed, and what is then told of a node (plain). -/
namespace Go.Proofs.Ytinkjhkbaadbpaa
open Go.RowKit
set_option linter.unusedVariables false
set_option linter.unusedSimpArgs false

def RightO (g : Int) (o : Owns) : Prop := ∀ id r, o id = some r → rightR r = true ∧ 1 ≤ id ∧ id ≤ g
theorem RightO.mono {g g' : Int} {o : Owns} (h : RightO g o) (hg : g ≤ g') : RightO g' o := fun id r hr => by
  have := h id r hr
  exact ⟨this.1, this.2.1, by omega⟩
theorem RightO.put {g id : Int} {o : Owns} {r : Rec} (h : RightO g o) (hr : rightR r = true) (h1 : 1 ≤ id) (h2 : id ≤ g) : RightO g (putO id r o) := fun j s hs => by
  unfold putO at hs
  split at hs
  · rename_i e; subst e; cases hs; exact ⟨hr, h1, h2⟩
  · exact h j s hs
theorem plantAs_right (id : Int) (hid : 0 ≤ id) : ∀ (al : List (ByteArray × ByteArray)) (g : Int) (o : Owns) (ns : List Int), 0 ≤ g → RightO g o → (∀ x ∈ ns, 1 ≤ x) →
    RightO (plantAs putO id al (g, o, ns)).1 (plantAs putO id al (g, o, ns)).2.1 ∧ ∀ x ∈ (plantAs putO id al (g, o, ns)).2.2, 1 ≤ x
  | [], g, o, ns, hg, h, hn => ⟨h, hn⟩
  | p :: ps, g, o, ns, hg, h, hn => by
    simp only [plantAs]
    refine plantAs_right id hid ps _ _ _ (by omega) ((h.mono (by omega : g ≤ g + 1)).put ?_ (by omega) (Int.le_refl _)) (fun x hx => ?_)
    · simp [rightR, allPos, hid]
    · rcases List.mem_append.1 hx with h9 | h9
      · exact hn x h9
      · simp at h9; omega
mutual
theorem plantT_right : ∀ (t : Tr) (parent g : Int) (o : Owns), 0 ≤ g → RightO g o →
    RightO (plantT putO t parent (g, o)).2.1 (plantT putO t parent (g, o)).2.2
  | .mk kind name text attrs kids, parent, g, o, hg, h => by
    rw [plantT_eq]
    split
    · rename_i hp
      obtain ⟨a1, a2⟩ := plantAs_right (g + 1) (by omega) attrs (g + 1) o [] (by omega) (h.mono (by omega)) (by simp)
      have ag := (plantAs_g putO (g + 1) attrs (g + 1, o, [])).1
      simp only at ag
      obtain ⟨k1, k2⟩ := plantKs_right kids (g + 1) (plantAs putO (g + 1) attrs (g + 1, o, [])).1 (plantAs putO (g + 1) attrs (g + 1, o, [])).2.1 [] (by omega) a1 (by simp)
      have kg := (plantKs_g putO kids (g + 1) ((plantAs putO (g + 1) attrs (g + 1, o, [])).1, (plantAs putO (g + 1) attrs (g + 1, o, [])).2.1, [])).1
      simp only at kg
      simp only [plK, plA]
      refine RightO.put k1 ?_ (by omega) (by omega)
      have hk : 1 ≤ kind ∧ kind ≤ 6 := by
        unfold plants at hp
        simp at hp
        omega
      have e1 : allPos (plantKs putO kids (g + 1) ((plantAs putO (g + 1) attrs (g + 1, o, [])).1, (plantAs putO (g + 1) attrs (g + 1, o, [])).2.1, [])).2.2 = true := by
        unfold allPos; rw [List.all_eq_true]; intro x hx; simpa using k2 x hx
      have e2 : allPos (plantAs putO (g + 1) attrs (g + 1, o, [])).2.2 = true := by
        unfold allPos; rw [List.all_eq_true]; intro x hx; simpa using a2 x hx
      simp only [rightR, Bool.false_eq_true, if_false]
      rw [e1, e2]
      simp [hk.1, hk.2]
      omega
    · exact h
theorem plantKs_right : ∀ (ts : List Tr) (id g : Int) (o : Owns) (ns : List Int), 0 ≤ g → RightO g o → (∀ x ∈ ns, 1 ≤ x) →
    RightO (plantKs putO ts id (g, o, ns)).1 (plantKs putO ts id (g, o, ns)).2.1 ∧ ∀ x ∈ (plantKs putO ts id (g, o, ns)).2.2, 1 ≤ x
  | [], id, g, o, ns, hg, h, hn => by simp only [plantKs]; exact ⟨h, hn⟩
  | t :: ts, id, g, o, ns, hg, h, hn => by
    rw [plantKs_cons]
    simp only [plantK]
    have h1 := plantT_right t id g o hg h
    have hgg := (plantT_g putO t id (g, o)).1
    simp only at hgg
    refine plantKs_right ts id _ _ _ (by omega) h1 (fun x hx => ?_)
    split at hx
    · rcases List.mem_append.1 hx with h9 | h9
      · exact hn x h9
      · simp at h9; omega
    · exact hn x hx
end
theorem own_right (t : Tr) : RightO (ownV t).2.1 (madeO t []) ∧ 1 ≤ (ownV t).2.1 := by
  have h1 := plantT_right t 1 1 (fun _ => none) (by omega) (fun id r h => by cases h)
  have h2 := (plantT_g putO t 1 (1, fun _ => none)).1
  simp only at h2
  refine ⟨?_, h2⟩
  show RightO _ (putO 1 _ _)
  have hr := root_ok t
  unfold putOk at hr
  simp at hr
  exact RightO.put h1 hr (Int.le_refl _) h2
/-- the list rises in its numbers -/
def RiseL (L : List Own) : Prop := L.Pairwise (fun a b => a.1 < b.1)
theorem insL_rise (id : Int) (r : Rec) : ∀ (L : List Own), RiseL L → RiseL (insL id r L) ∧ ∀ e ∈ insL id r L, e.1 = id ∨ e ∈ L
  | [], h => by simp [insL, RiseL]
  | e :: es, h => by
    obtain ⟨h1, h2⟩ := List.pairwise_cons.1 h
    rw [insL]
    split
    · rename_i hle
      refine ⟨List.pairwise_cons.2 ⟨fun x hx => ?_, h.sublist List.filter_sublist⟩, fun x hx => ?_⟩
      · rw [List.mem_filter] at hx
        have hne : x.1 ≠ id := by simpa using hx.2
        show id < x.1
        rcases List.mem_cons.1 hx.1 with rfl | h9
        · omega
        · have := h1 x h9; omega
      · rcases List.mem_cons.1 hx with rfl | h9
        · exact .inl rfl
        · exact .inr (List.mem_filter.1 h9).1
    · rename_i hle
      obtain ⟨i1, i2⟩ := insL_rise id r es h2
      refine ⟨List.pairwise_cons.2 ⟨fun x hx => ?_, i1⟩, fun x hx => ?_⟩
      · rcases i2 x hx with h9 | h9
        · omega
        · exact h1 x h9
      · rcases List.mem_cons.1 hx with rfl | h9
        · exact .inr (by simp)
        · rcases i2 x h9 with h8 | h8
          · exact .inl h8
          · exact .inr (by simp [h8])
theorem layL_rise (id : Int) (r : Rec) (L : List Own) (h : RiseL L) : RiseL (layL id r L) := by rw [layL_eq]; exact (insL_rise id r L h).1
theorem made_rise (t : Tr) : RiseL (madeL t []) := by
  have h := (plantT_sim layL layL (fun a b => RiseL a) (fun id r a b h => layL_rise id r a h) t 1 1 [] [] List.Pairwise.nil).2.2
  exact layL_rise _ _ _ h
theorem ownOf_mem {L : List Own} (h : RiseL L) (id : Int) (r : Rec) : (id, r) ∈ L ↔ ownOf L id = some r := by
  induction L with
  | nil => simp [ownOf]
  | cons e es ih =>
    obtain ⟨h1, h2⟩ := List.pairwise_cons.1 h
    rw [ownOf_cons, List.mem_cons]
    by_cases he : e.1 = id
    · rw [if_pos he]
      constructor
      · rintro (h9 | h9)
        · rw [← h9]
        · have := h1 _ h9; simp only at this; omega
      · intro h9
        cases h9
        left
        rw [← he]
    · rw [if_neg he, ← ih h2]
      constructor
      · rintro (h9 | h9)
        · exact absurd (by rw [← h9]) he
        · exact h9
      · exact .inr
/-- the reference's changes, as they are installed -/
def chnsL (t : Tr) : List Chn := (madeL t []).map (fun e => ⟨e.1, e.2⟩)
theorem chnsL_of (t : Tr) : ChnsOf (madeO t []) (chnsL t) := by
  refine ⟨?_, fun id r => ?_⟩
  · have h := made_rise t
    unfold chnsL
    rw [List.map_map, List.nodup_iff_pairwise_ne, List.pairwise_map]
    exact h.imp (fun hab hc => by simp only [Function.comp] at hc; omega)
  · unfold chnsL
    rw [← made_own t [], ← ownOf_mem (made_rise t)]
    constructor
    · intro h
      obtain ⟨e, he, e'⟩ := List.mem_map.1 h
      cases e'
      exact he
    · intro h
      exact List.mem_map.2 ⟨_, h, rfl⟩
theorem okL_yes {g : Int} : ∀ {cs : List Chn} {seen : List Int}, (cs.map (·.id)).Nodup → (∀ c ∈ cs, c.id ∉ seen) → (∀ c ∈ cs, rightR c.r = true ∧ 1 ≤ c.id ∧ c.id ≤ g) → okL g seen cs = true
  | [], seen, _, _, _ => by simp [okL]
  | c :: cs, seen, h1, h2, h3 => by
    rw [List.map_cons] at h1
    obtain ⟨n1, n2⟩ := List.nodup_cons.1 h1
    have hc := h3 c (by simp)
    have hb : bad1 g seen c = false := by
      have h9 := h2 c (by simp)
      unfold bad1
      rw [decide_eq_false (by omega), decide_eq_false (by omega), decide_eq_false h9, hc.1]
      rfl
    rw [okL, hb]
    simp only [Bool.not_false, Bool.true_and]
    refine okL_yes n2 (fun x hx => ?_) (fun x hx => h3 x (by simp [hx]))
    intro hm
    rcases List.mem_cons.1 hm with h9 | h9
    · exact n1 (by rw [← h9]; exact List.mem_map.2 ⟨x, hx, rfl⟩)
    · exact h2 x (by simp [hx]) h9
theorem chns_okL {t : Tr} {cs : List Chn} (h : ChnsOf (madeO t []) cs) : okL (ownV t).2.1 [] cs = true :=
  okL_yes h.1 (by simp) (fun c hc => (own_right t).1 c.id c.r ((h.2 c.id c.r).1 hc))
theorem putN_fold {T : Nat} (id : Int) : ∀ (cs : List Chn) (N : Int → List Ver), cs.foldl (putN T) N id = N id ++ versOf id (cs.map (entOf T))
  | [], N => by simp [versOf]
  | c :: cs, N => by
    rw [List.foldl_cons, putN_fold id cs]
    by_cases h : id = c.id
    · subst h; simp [putN, versOf, entOf]
    · have : ¬ (c.id = id) := fun e => h e.symm
      simp [putN, versOf, entOf, h, this]
def verO (T : Nat) : Option Rec → List Ver
  | none => []
  | some r => [⟨T, r⟩]
theorem vers_none {T : Nat} {id : Int} : ∀ {cs : List Chn}, id ∉ cs.map (·.id) → versOf id (cs.map (entOf T)) = []
  | [], _ => rfl
  | c :: cs, h => by
    have h1 : ¬ c.id = id := fun e => h (by simp [e])
    have h2 := vers_none (T := T) (cs := cs) (fun hm => h (by simp only [List.map_cons, List.mem_cons]; exact .inr hm))
    simp only [versOf, List.map_cons, List.filter_cons] at h2 ⊢
    have h3 : ¬ (decide ((entOf T c).id = id) = true) := fun hh => h1 (of_decide_eq_true hh)
    rw [if_neg h3]
    exact h2
theorem vers_of {T : Nat} {o : Owns} (id : Int) : ∀ {cs : List Chn}, ChnsOf o cs → versOf id (cs.map (entOf T)) = verO T (o id)
  | cs, h => by
    cases ho : o id with
    | none =>
      refine vers_none (fun hm => ?_)
      obtain ⟨c, hc, rfl⟩ := List.mem_map.1 hm
      have := (h.2 c.id c.r).1 hc
      rw [ho] at this; cases this
    | some r =>
      have hm := (h.2 id r).2 ho
      obtain ⟨a, b, e⟩ := List.append_of_mem hm
      have hn := h.1
      rw [e, List.map_append, List.map_cons] at hn
      obtain ⟨n1, n2, n3⟩ := List.nodup_append.1 hn
      obtain ⟨n4, n5⟩ := List.nodup_cons.1 n2
      have ha : versOf id (a.map (entOf T)) = [] := vers_none (fun hx => n3 _ hx id (by simp) rfl)
      have hb : versOf id (b.map (entOf T)) = [] := vers_none n4
      rw [e]
      unfold versOf at ha hb ⊢
      simp only [List.map_append, List.map_cons, List.filter_append, List.filter_cons] at ha hb ⊢
      rw [ha]
      simp only [entOf, decide_true, if_true, List.map_cons]
      rw [show ((b.map (entOf T)).filter (fun e => decide (e.id = id))).map (·.v) = [] from hb]
      rfl
/-- the document after a tree was installed at 3 -/
structure Mid (t : Tr) (S : Store) (d : Doc) : Prop where
  wf : S.Wf
  given : S.given = (ownV t).2.1 ∧ d.given = S.given
  last : S.last = 3 ∧ d.last = 3
  N : ∀ id, S.N id = versOf id d.L
  three : ∀ id, S.at id 3 = (⟨madeO t [], 0⟩ : Vw).get (madeS t) id
  len : d.L.length ≤ t.size + 2 ∧ ∀ id, (S.N id).length ≤ 2
theorem mid_of {t : Tr} {cs : List Chn} (h : ChnsOf (madeO t []) cs) (hok : ∀ id r, madeO t [] id = some r → RecOk r) : Mid t ((madeS t).put 3 cs) ((madeD t).put 3 (chnsL t)) := by
  have hN : ∀ id, ((madeS t).put 3 cs).N id = Store.fresh.N id ++ verO 3 (madeO t [] id) := fun id => by
    show cs.foldl (putN 3) (madeS t).N id = _
    rw [putN_fold, vers_of id h]; rfl
  have hF : ∀ id v, v ∈ Store.fresh.N id → v = ⟨0, Rec.root⟩ ∧ id = 1 := fun id v hv => by
    unfold Store.fresh at hv
    simp only at hv
    split at hv
    · simp at hv; exact ⟨hv, by assumption⟩
    · simp at hv
  refine ⟨⟨fun id => ?_, fun id v hv => ?_, fun id v hv => ?_, fun id => ?_⟩, ⟨rfl, rfl⟩, ⟨rfl, rfl⟩, fun id => ?_, fun id => ?_, ?_, fun id => ?_⟩
  · rw [hN]
    unfold Store.fresh
    simp only
    cases madeO t [] id <;> by_cases h1 : id = 1 <;> simp [verO, h1]
  · rw [hN] at hv
    show v.time ≤ 3
    rcases List.mem_append.1 hv with h9 | h9
    · rw [(hF id v h9).1]; simp
    · cases ho : madeO t [] id with
      | none => rw [ho] at h9; simp [verO] at h9
      | some r => rw [ho] at h9; simp [verO] at h9; rw [h9]; exact Nat.le_refl _
  · rw [hN] at hv
    rcases List.mem_append.1 hv with h9 | h9
    · rw [(hF id v h9).1]; exact ⟨by simp [Rec.root], by simp [Rec.root]⟩
    · cases ho : madeO t [] id with
      | none => rw [ho] at h9; simp [verO] at h9
      | some r => rw [ho] at h9; simp [verO] at h9; rw [h9]; exact hok id r ho
  · rw [hN]
    unfold Store.fresh
    simp only
    cases madeO t [] id <;> by_cases h1 : id = 1 <;> simp [verO, h1]
  · rw [hN]
    show _ = versOf id ((madeD t).L ++ (chnsL t).map (entOf 3))
    have e : versOf id ((madeD t).L ++ (chnsL t).map (entOf 3)) = versOf id (madeD t).L ++ versOf id ((chnsL t).map (entOf 3)) := by
      unfold versOf; rw [List.filter_append, List.map_append]
    rw [e, vers_of id (chnsL_of t)]
    show _ = versOf id Doc.fresh.L ++ _
    rw [← fresh_N id]
  · unfold Store.at Vw.get
    rw [hN]
    simp only
    cases ho : madeO t [] id with
    | some r =>
      have e : (Store.fresh.N id ++ verO 3 (some r)).filter (fun v => decide (v.time ≤ 3)) = (Store.fresh.N id).filter (fun v => decide (v.time ≤ 3)) ++ [⟨3, r⟩] := by
        rw [List.filter_append]; simp [verO]
      rw [e, List.getLast?_append]
      simp
    | none =>
      have h1 : id ≠ 1 := fun h1 => by
        subst h1
        have : madeO t [] 1 = some (rootR (ownV t).1) := by show putO 1 (rootR (ownV t).1) (ownV t).2.2 1 = _; simp [putO]
        rw [this] at ho; cases ho
      have e : Store.fresh.N id = [] := by unfold Store.fresh; simp [h1]
      have e2 : (madeS t).N id = [] := e
      unfold Store.at
      rw [e, e2]
      simp [verO]
  · show ((madeD t).L ++ (chnsL t).map (entOf 3)).length ≤ _
    have := made_len t []
    simp [chnsL] at this ⊢
    show Doc.fresh.L.length + _ ≤ _
    simp [Doc.fresh]
    omega
  · rw [hN]
    unfold Store.fresh
    simp only
    cases madeO t [] id <;> by_cases h1 : id = 1 <;> simp [verO, h1]
end Go.Proofs.Ytinkjhkbaadbpaa
/- The document's Install. -/
namespace Go.Proofs.Ytinkjhkbaadbpaa
open Go.RowKit
set_option linter.unusedVariables false

theorem chnCells {w w' : World} {g off k : Nat} {c : Chn} {kv av : Value} (hc : ∀ j x, (chL c kv av)[j]? = some x → w.cell? ⟨g, off + k * 8 + j, none⟩ = some x) (hk : w'.heap[g]? = w.heap[g]?) :
    w'.cell? ⟨g, off + k * 8, none⟩ = some (.int .i64 c.id) ∧ w'.cell? ⟨g, off + k * 8 + 1, none⟩ = some (.int .i64 c.r.kind) ∧ w'.cell? ⟨g, off + k * 8 + 1 + 1, none⟩ = some (.string c.r.name) ∧ w'.cell? ⟨g, off + k * 8 + 1 + 2, none⟩ = some (.string c.r.text) ∧
    w'.cell? ⟨g, off + k * 8 + 1 + 3, none⟩ = some (.int .i64 c.r.parent) ∧ w'.cell? ⟨g, off + k * 8 + 1 + 4, none⟩ = some kv ∧ w'.cell? ⟨g, off + k * 8 + 1 + 5, none⟩ = some av ∧ w'.cell? ⟨g, off + k * 8 + 1 + 6, none⟩ = some (.bool c.r.gone) := by
  have h := fun (j : Nat) (x : Value) (hx : (chL c kv av)[j]? = some x) => (World.cell?_of_block (w := w) (w' := w') (a := ⟨g, off + k * 8 + j, none⟩) hk).trans (hc j x hx)
  exact ⟨h 0 _ rfl, h 1 _ rfl, h 2 _ rfl, h 3 _ rfl, h 4 _ rfl, h 5 _ rfl, h 6 _ rfl, h 7 _ rfl⟩

theorem docInstall_time {R D : Nat → Prop} {w : World} {q : Value} {d : Doc} (h : DocIn R D w q d) (T : Nat) (hT : T ≤ d.last) (v : Value) :
    Calls Try.prog 43 #[q, .int .u64 T, v] w fun e w' => e = .returned (.int .i64 43) ∧ w = w' := by
  obtain ⟨s, a, cap, rfl, -, hb, -⟩ := h.read
  have c2 : w.cell? ⟨s, 2, none⟩ = some (.int .u64 d.last) := by simp [World.cell?, hb]
  clear h hb
  go_enter Try.func43, Try.ntmps43
  go_wp2
  go_ret
  exact ⟨rfl, rfl⟩

set_option maxRecDepth 100000 in
set_option maxHeartbeats 8000000 in
theorem docInstall_any {R D F : Nat → Prop} {w : World} {q : Value} {d : Doc} (h : DocIn R D w q d) (T : Nat) (hT : d.last < T) (cs : List Chn) (v : Value) (hv : ChnsIn F w v cs) (hF : ∀ k, F k → D k)
    (hR : ∀ k, R k → k < w.heap.size) (hD : ∀ k, D k → k < w.heap.size) (hRD : ∀ k, R k → ¬ D k) (hl : d.L.length ≤ 500000000) (hg0 : 0 ≤ d.given) (hg : d.given ≤ 100000000) :
    Calls Try.prog 43 #[q, .int .u64 T, v] w fun e w' =>
      (okL d.given [] cs = false ∧ e = .returned (.int .i64 2) ∧ Below w.heap.size w w') ∨
      (okL d.given [] cs = true ∧ e = .returned (.int .i64 0) ∧ Chg R w w' ∧ ∃ R', DocIn R' D w' q (d.put T cs) ∧ (∀ k, R' k → R k ∨ w.heap.size ≤ k) ∧ (∀ k, R' k → k < w'.heap.size)) := by
  have HDI := Lib.hid h
  obtain ⟨s, a, cap, rfl, hsR, hb, -⟩ := h.read
  obtain ⟨va, vc, rfl, hlc, hcm, hx⟩ := hv
  have hmax : cs.length ≤ 9223372036854775807 := by unfold maxLen at hcm; omega
  obtain ⟨i0, hi, hz0, hz1, hz2⟩ := info_parts Try.info147
  have hslt : s < w.heap.size := (Array.getElem?_eq_some_iff.1 hb).1
  have c1 : w.cell? ⟨s, 1, none⟩ = some (iv d.given) := by simp [World.cell?, hb]
  have c2 : w.cell? ⟨s, 2, none⟩ = some (.int .u64 d.last) := by simp [World.cell?, hb]
  have hTn : ¬ (T ≤ d.last) := by omega
  have hTd : decide (T ≤ d.last) = false := decide_eq_false hTn
  have HX := Lib.hid hx
  have HF := Lib.hid hF
  have HR := Lib.hid hR
  have HD := Lib.hid hD
  have HRD := Lib.hid hRD
  clear h hb hx hF hR hD hRD hlc hcm
  go_enter Try.func43, Try.ntmps43
  go_wp2
  go_loopw [7] (fun i wr => ∃ k : Nat, k ≤ cs.length ∧ i = .int .i64 k ∧ okL d.given [] (cs.take k) = true ∧ Below w.heap.size w wr) (fun i _ => cs.length - (Lib.intOf i).toNat)
  case atStart => exact ⟨0, Nat.zero_le _, rfl, by simp [okL], Below.refl _ _⟩
  case round =>
    obtain ⟨k, hk, rfl, hok, hbel⟩ := hrel
    have HOK := Lib.hid hok
    have HBEL := Lib.hid hbel
    have c1' : wr.cell? ⟨s, 1, none⟩ = some (iv d.given) := (hbel.cell (p := ⟨s, 1, none⟩) hslt).trans c1
    clear hok hbel
    by_cases hlt : k < cs.length
    · obtain ⟨c, hck⟩ : ∃ c, cs[k]? = some c := ⟨_, List.getElem?_eq_getElem hlt⟩
      rcases HX.out with rfl | ⟨g, off, rfl, hgF, hc⟩
      · simp at hlt
      obtain ⟨kv, av, ik, ia, hcl⟩ := hc k c hck
      have hgl : g < w.heap.size := HD.out g (HF.out g hgF)
      have hFl : ∀ j, F j → j < w.heap.size := fun j hj => HD.out j (HF.out j hj)
      have HFL := Lib.hid hFl
      have HC := Lib.hid hc
      have HSS := Lib.hid (fun (w' : World) (hb : Below wr.heap.size wr w') => And.intro ((hb.cell (p := ⟨s, 1, none⟩) (Nat.lt_of_lt_of_le hslt HBEL.out.size)).trans c1') (chnCells hcl (w' := w') ((hb.block g (Nat.lt_of_lt_of_le hgl HBEL.out.size)).trans (HBEL.out.block g hgl))))
      have HRR := Lib.hid (fun (w' : World) (hb : Below wr.heap.size wr w') => refRight_any c.r kv av F w' (ik.keep ((keeps_below (HBEL.out.trans (hb.mono HBEL.out.size))).mono hFl)) (ia.keep ((keeps_below (HBEL.out.trans (hb.mono HBEL.out.size))).mono hFl)) (fun j hj => Nat.lt_of_lt_of_le (hFl j hj) (Nat.le_trans HBEL.out.size hb.size)))
      have hbad := okL_take (g := d.given) hck
      have HBAD := Lib.hid hbad
      have hk0 : (0 : Int) ≤ k := by omega
      have hkl : (k : Int) < cs.length := by omega
      have HCK := Lib.hid hck
      obtain ⟨ka, kc, rfl, -, -, -⟩ := ik
      obtain ⟨aa, ac, rfl, -, -, -⟩ := ia
      have hcur : Below wr.heap.size wr wr.drew := (Below.refl _ wr).drew
      clear hc hcl hck hbad hFl
      have hokfalse : ∀ (hh : bad1 d.given ((cs.take k).map (·.id)) c = true), okL d.given [] cs = false := fun hh => by
        cases e : okL d.given [] cs with
        | false => rfl
        | true =>
          have h1 := okL_mono d.given cs [] (k + 1) e
          rw [HBAD.out, hh] at h1
          simp at h1
      have HOF := Lib.hid hokfalse
      clear hokfalse
      have hfound : ∀ j : Nat, j < k → ∀ c', cs[j]? = some c' → c'.id = c.id → okL d.given [] cs = false := fun j hj c' hc' he => HOF.out (by
        have : c.id ∈ (cs.take k).map (·.id) := List.mem_map.2 ⟨c', List.mem_of_getElem? (i := j) (by rw [List.getElem?_take_of_lt hj]; exact hc'), he⟩
        unfold bad1
        rw [decide_eq_true this]
        simp)
      have HFD := Lib.hid hfound
      clear hfound
      obtain ⟨b, hbb⟩ : ∃ b, rightR c.r = b := ⟨_, rfl⟩
      simp only [hbb] at HRR
      have HBB := Lib.hid hbb
      clear hbb
      obtain ⟨cid, kind, name, text, parent, kids, attrs, gone⟩ := c
      simp only at *
      by_cases hlow : cid < 1
      · have fin := Lib.hid (HOF.out (by simp [bad1, hlow]))
        have hd1 : decide (cid < 1) = true := decide_eq_true hlow
        obtain ⟨e9, e0, e1, e2, e3, e4, e5, e6, e7⟩ := HSS.out wr (Below.refl _ _)
        go_wp2_with fail
        go_quiet (fail)
        go_wp2
        go_ret
        exact .inl ⟨fin.out, rfl, below_drewN HBEL.out _⟩
      · have hd1 : decide (cid < 1) = false := decide_eq_false hlow
        by_cases hhigh : d.given < cid
        · have fin := Lib.hid (HOF.out (by simp [bad1, hhigh]))
          have hd2 : decide (d.given < cid) = true := decide_eq_true hhigh
          obtain ⟨e9, e0, e1, e2, e3, e4, e5, e6, e7⟩ := HSS.out wr (Below.refl _ _)
          go_wp2_with fail
          go_quiet (fail)
          go_wp2
          go_ret
          exact .inl ⟨fin.out, rfl, below_drewN HBEL.out _⟩
        · have hd2 : decide (d.given < cid) = false := decide_eq_false hhigh
          cases b
          · have fin := Lib.hid (HOF.out (by simp [bad1, HBB.out]))
            go_wp2_with fail
            go_region_held3 (fun w' => w'.cell? ⟨s, 1, none⟩ = some (iv d.given) ∧ w'.cell? ⟨g, off + k * 8, none⟩ = some (.int .i64 cid) ∧ w'.cell? ⟨g, off + k * 8 + 1, none⟩ = some (.int .i64 kind) ∧ w'.cell? ⟨g, off + k * 8 + 1 + 1, none⟩ = some (.string name) ∧ w'.cell? ⟨g, off + k * 8 + 1 + 2, none⟩ = some (.string text) ∧ w'.cell? ⟨g, off + k * 8 + 1 + 3, none⟩ = some (.int .i64 parent) ∧ w'.cell? ⟨g, off + k * 8 + 1 + 4, none⟩ = some (.slice ka kids.length kc) ∧ w'.cell? ⟨g, off + k * 8 + 1 + 5, none⟩ = some (.slice aa attrs.length ac) ∧ w'.cell? ⟨g, off + k * 8 + 1 + 6, none⟩ = some (.bool gone))
              (exact HSS.out _ hcur)
              ((go_at_call 37; refine (HRR.out _ hcur).mono ?_; rintro e w2 ⟨rfl, hb⟩; have hcur := hcur.trans (hb.mono hcur.size); clear hb))
            all_goals
              go_wp2_with fail
              go_ret
              exact .inl ⟨fin.out, rfl, HBEL.out.trans (hcur.mono HBEL.out.size)⟩
          · 
            go_wp2_with fail
            go_region_held3 (fun w' => w'.cell? ⟨s, 1, none⟩ = some (iv d.given) ∧ w'.cell? ⟨g, off + k * 8, none⟩ = some (.int .i64 cid) ∧ w'.cell? ⟨g, off + k * 8 + 1, none⟩ = some (.int .i64 kind) ∧ w'.cell? ⟨g, off + k * 8 + 1 + 1, none⟩ = some (.string name) ∧ w'.cell? ⟨g, off + k * 8 + 1 + 2, none⟩ = some (.string text) ∧ w'.cell? ⟨g, off + k * 8 + 1 + 3, none⟩ = some (.int .i64 parent) ∧ w'.cell? ⟨g, off + k * 8 + 1 + 4, none⟩ = some (.slice ka kids.length kc) ∧ w'.cell? ⟨g, off + k * 8 + 1 + 5, none⟩ = some (.slice aa attrs.length ac) ∧ w'.cell? ⟨g, off + k * 8 + 1 + 6, none⟩ = some (.bool gone))
              (exact HSS.out _ hcur)
              ((go_at_call 37; refine (HRR.out _ hcur).mono ?_; rintro e w2 ⟨rfl, hb⟩; have hcur := hcur.trans (hb.mono hcur.size); clear hb))
            all_goals
              go_wp2_with fail
              go_loopw [8] (fun i wx => ∃ j : Nat, j ≤ k ∧ i = .int .i64 j ∧ (∀ j' c', j' < j → cs[j']? = some c' → c'.id ≠ cid) ∧ Below w.heap.size w wx) (fun i _ => k - (Lib.intOf i).toNat)
              case atStart => exact ⟨0, Nat.zero_le _, rfl, fun j' c' h => by omega, HBEL.out.trans (hcur.mono HBEL.out.size)⟩
              case round =>
                obtain ⟨j, hj, rfl, hno, hbx⟩ := hrel
                have HNO := Lib.hid hno
                have HBX := Lib.hid hbx
                by_cases hjk : j < k
                · obtain ⟨c', hcj⟩ : ∃ c', cs[j]? = some c' := ⟨_, List.getElem?_eq_getElem (by omega)⟩
                  obtain ⟨kv', av', -, -, hcl'⟩ := HC.out j c' hcj
                  have q0 := (chnCells hcl' (w' := wr) (hbx.block g hgl)).1
                  obtain ⟨kv2, av2, -, -, hcl2⟩ := HC.out k _ HCK.out
                  have q1 := (chnCells hcl2 (w' := wr) (hbx.block g hgl)).1
                  simp only at q1
                  have hj0 : (0 : Int) ≤ j := by omega
                  have hjl : (j : Int) < cs.length := by omega
                  have hjk' : (j : Int) < k := by omega
                  have HCJ := Lib.hid hcj
                  clear hcl' hcl2 hno hbx hcj
                  obtain ⟨cid', r'⟩ := c'
                  simp only at *
                  by_cases he : cid' = cid
                  · have fin := Lib.hid (HFD.out j hjk _ HCJ.out he)
                    subst he
                    go_wp2_with fail
                    go_quiet (fail)
                    go_wp2
                    go_ret
                    exact .inl ⟨fin.out, rfl, below_drewN HBX.out _⟩
                  · go_wp2_with fail
                    go_quiet (fail)
                    go_wp2
                    go_roundw
                    case rel => exact ⟨j + 1, by omega, by go_num, fun j' c' h1 h2 => by
                      by_cases e : j' = j
                      · subst e; rw [HCJ.out] at h2; cases h2; exact he
                      · exact HNO.out j' c' (by omega) h2, below_drewN HBX.out _⟩
                    case measure => simp [Lib.intOf]; omega
                · obtain rfl : j = k := by omega
                  go_wp2
                  go_roundw
                  case rel => 
                    refine ⟨j + 1, by omega, by go_num, ?_, HBX.out⟩
                    rw [HBAD.out, HOK.out]
                    have hnm : cid ∉ (cs.take j).map (·.id) := fun hm => by
                      obtain ⟨c', hc', he⟩ := List.mem_map.1 hm
                      obtain ⟨j', hj'⟩ := List.getElem?_of_mem hc'
                      have hj'' : j' < j := by have := (List.getElem?_eq_some_iff.1 hj').1; simp at this; omega
                      rw [List.getElem?_take_of_lt hj''] at hj'
                      exact HNO.out j' c' hj'' hj' he
                    have := HBB.out
                    unfold bad1
                    rw [decide_eq_false hnm, decide_eq_false (show ¬ cid < 1 by omega), decide_eq_false (show ¬ d.given < cid by omega), this]
                    rfl
                  case measure => simp [Lib.intOf]; omega
    · obtain rfl : k = cs.length := by omega
      rw [List.take_length] at HOK
      have hcl := okL_length hg0 HOK.out
      have hdi0 : DocIn R D wr (.pointer (some ⟨s, 0, none⟩)) ⟨d.L ++ (cs.take 0).map (entOf T), d.given, d.last⟩ := by
        have := HDI.out.keep (w' := wr) ((keeps_below HBEL.out).mono HR.out) ((keeps_below HBEL.out).mono HD.out)
        simpa using this
      have HDI0 := Lib.hid hdi0
      clear hdi0
      go_wp2
      go_loopw [9] (fun i wx => ∃ k : Nat, k ≤ cs.length ∧ i = .int .i64 k ∧ ∃ R', DocIn R' D wx (.pointer (some ⟨s, 0, none⟩)) ⟨d.L ++ (cs.take k).map (entOf T), d.given, d.last⟩ ∧ (∀ k, R' k → R k ∨ w.heap.size ≤ k) ∧ (∀ k, R' k → k < wx.heap.size) ∧ Chg R w wx) (fun i _ => cs.length - (Lib.intOf i).toNat)
      case atStart => exact ⟨0, Nat.zero_le _, rfl, R, HDI0.out, fun k h => .inl h, fun k h => Nat.lt_of_lt_of_le (HR.out k h) HBEL.out.size, chg_new HBEL.out⟩
      case round =>
        obtain ⟨k, hk, rfl, R', hdi, hR', hRl, hchg⟩ := hrel
        have HDK := Lib.hid hdi
        obtain ⟨s', vv, xs, he, hs', hb', hown, hents, hvR⟩ := hdi
        obtain rfl : s = s' := by cases he; rfl
        clear he
        simp only at hb'
        have HR' := Lib.hid hR'
        have HRL := Lib.hid hRl
        have HCH := Lib.hid hchg
        by_cases hlt : k < cs.length
        · obtain ⟨c, hck⟩ : ∃ c, cs[k]? = some c := ⟨_, List.getElem?_eq_getElem hlt⟩
          rcases HX.out with rfl | ⟨g, off, rfl, hgF, hc⟩
          · simp at hlt
          obtain ⟨kv, av, ik, ia, hcl'⟩ := hc k c hck
          obtain ⟨a', cap', rfl⟩ : ∃ a' cap', vv = .slice a' (d.L.length + k) cap' := by
            have e : (d.L ++ (cs.take k).map (entOf T)).length = d.L.length + k := by simp; omega
            rcases hown.2 with ⟨rfl, h0⟩ | ⟨g', cap', cur, rfl, _⟩
            · simp only at h0; rw [e] at h0; rw [h0]; exact ⟨none, 0, rfl⟩
            · simp only; rw [e]; exact ⟨_, cap', rfl⟩
          have hown2 : wr.ownsRow 0 147 9 (.slice a' (d.L.length + k) cap') (d.L.length + k) xs := by
            have e : (d.L ++ (cs.take k).map (entOf T)).length = d.L.length + k := by simp; omega
            simp only at hown; rw [e] at hown; exact hown
          have hgD : D g := HF.out g hgF
          have hgl : g < w.heap.size := HD.out g hgD
          have hDk : Keeps D w wr := hchg.keeps (fun j hj => ⟨HD.out j hj, fun h => HRD.out j h hj⟩)
          have hRD' : ∀ j, R' j → ¬ D j := fun j h h' => by
            rcases hR' j h with h2 | h2
            · exact HRD.out j h2 h'
            · have := HD.out j h'; omega
          have hgs : g ≠ s := by rintro rfl; exact HRD.out g hsR hgD
          have hneg : ¬ (some g = Value.ownBlock (.slice a' (d.L.length + k) cap')) := fun e => hRD' g (hvR g e.symm) hgD
          have hnes : ¬ (some s = Value.ownBlock (.slice a' (d.L.length + k) cap')) := by
            intro e
            rcases hown2.2 with ⟨e2, _⟩ | ⟨g2, cap2, cur, e2, _, hgg, _⟩
            · rw [e2] at e; cases e
            · rw [e2] at e; cases e; rw [hb'] at hgg; cases hgg
          have hslt' : s < wr.heap.size := hRl s hs'
          have hglt' : g < wr.heap.size := Nat.lt_of_lt_of_le hgl hchg.size
          have HSS := Lib.hid (fun (w' : World) (hb : w'.heap[g]? = wr.heap[g]?) => chnCells hcl' (w' := w') (hb.trans (hchg.block g hgl (fun h => HRD.out g h hgD))))
          have c0 : wr.cell? ⟨s, 0, none⟩ = some (.slice a' (d.L.length + k) cap') := by simp [World.cell?, hb']
          have c0d : wr.drew.cell? ⟨s, 0, none⟩ = some (.slice a' (d.L.length + k) cap') := c0
          have c0a : ∀ o, (wr.drew.alloc o).cell? ⟨s, 0, none⟩ = some (.slice a' (d.L.length + k) cap') := fun o => (World.cell?_of_block (w := wr.drew) (a := ⟨s, 0, none⟩) (Go.heap_alloc_old wr.drew o hslt')).trans c0d
          have f0 := free_block hb' 0
          have hk0 : (0 : Int) ≤ k := by omega
          have hkl : (k : Int) < cs.length := by omega
          have HB' := Lib.hid hb'
          have HOWN := Lib.hid hown2
          have HENTS := Lib.hid hents
          have HVR := Lib.hid hvR
          have HRD' := Lib.hid hRD'
          have IK := Lib.hid ((ik.mono HF.out).keep hDk)
          have IA := Lib.hid ((ia.mono HF.out).keep hDk)
          have HCK := Lib.hid hck
          obtain ⟨ka, kc, rfl, -, -, -⟩ := ik
          obtain ⟨aa, ac, rfl, -, -, -⟩ := ia
          clear hb' hown hown2 hents hvR hR' hRl hchg hDk hRD' hcl' hc hck
          obtain ⟨cid, kind, name, text, parent, kids, attrs, gone⟩ := c
          simp only at *
          go_wp2_with fail
          obtain ⟨e0, e1, e2, e3, e4, e5, e6, e7⟩ := HSS.out wr rfl
          go_region_law ((refine step_append_lies _ (by rfl) _ _ 82 (by rfl) 0 147 i0 _ 9 120 Try.underlying82 hi hz0 hz1 hz2 rfl (by decide) (.slice a' (d.L.length + k) cap') (d.L.length + k) xs (by rfl) (ownsRow_keeps HOWN.out (fun j hj => Go.heap_alloc_old wr.drew _ (ownsRow_base HOWN.out hj).2)) ⟨wr.heap.size, 0, none⟩ 1 1 (entL ⟨cid, ⟨T, ⟨kind, name, text, parent, kids, attrs, gone⟩⟩⟩ (.slice ka kids.length kc) (.slice aa attrs.length ac)) (by rfl) (by rfl) (cells_new (w := wr.drew) (xs := entL ⟨cid, ⟨T, ⟨kind, name, text, parent, kids, attrs, gone⟩⟩⟩ (.slice ka kids.length kc) (.slice aa attrs.length ac))) (by simp [Value.oneCell']) (by omega) (by unfold maxLen; omega) (by omega) (Nat.zero_le _) (wr.heap.size + 1) (by simp) ?_; intro g2 cap2 w3 hown3 hgrow hloc hlt3; have q3 : w3.cell? ⟨s, 0, none⟩ = some (.slice a' (d.L.length + k) cap') := (World.cell?_of_block (a := ⟨s, 0, none⟩) (hgrow.block s (by simp; omega) hnes)).trans (c0a _); have f3 : w3.frozen? ⟨s, 0, none⟩ = false := (hgrow.frozen_far ⟨s, 0, none⟩ (by simp; omega) hnes).trans (free_block ((Go.heap_alloc_old wr.drew _ hslt').trans HB'.out) 0)))
          all_goals
            go_wp2_with fail
            go_roundw
            case measure => simp [Lib.intOf]; omega
            case rel =>
              have hps := doc_push (e := ⟨cid, ⟨T, ⟨kind, name, text, parent, kids, attrs, gone⟩⟩⟩) (v' := .slice (some ⟨g2, 0, none⟩) (d.L.length + k + 1) cap2) HRL.out (fun j hj => Nat.lt_of_lt_of_le (HD.out j hj) HCH.out.size) HRD'.out hs' HB'.out HOWN.out HENTS.out (by simp; omega) HVR.out ((chg_drewN wr 1).trans (chg_alloc _ _)) hown3 hgrow (hloc.elim .inl (fun h => .inr ⟨g2, rfl, by omega⟩)) IK.out IA.out
              have htk : (cs.take (k + 1)).map (entOf T) = (cs.take k).map (entOf T) ++ [⟨cid, ⟨T, ⟨kind, name, text, parent, kids, attrs, gone⟩⟩⟩] := by rw [List.take_add_one, HCK.out]; simp [entOf]
              refine ⟨k + 1, by omega, by go_num, _, ?_, ?_, hps.2.2.2, HCH.out.andThen hps.2.1 ?_⟩
              · rw [htk, ← List.append_assoc]; exact hps.1
              · rintro j (h | h)
                · exact HR'.out j h
                · rcases hps.2.2.1 j h with h | h
                  · exact HR'.out j h
                  · exact .inr (Nat.le_trans HCH.out.size h)
              · intro j hj h
                rcases HR'.out j h with h | h
                · exact h
                · omega
        · obtain rfl : k = cs.length := by omega
          have q2 : wr.cell? ⟨s, 2, none⟩ = some (.int .u64 d.last) := by simp [World.cell?, hb']
          have qf := free_block hb' 2
          have HFIN := Lib.hid (doc_last HDK.out (fun j h h' => by
            rcases HR'.out j h with h2 | h2
            · exact HRD.out j h2 h'
            · have := HD.out j h'; omega) T)
          clear hb' hown hents hvR hR' hRl hchg
          go_wp2
          go_ret
          have hfd := HFIN.out
          simp only [List.take_length] at hfd
          refine .inr ⟨HOK.out, rfl, HCH.out.andThen hfd.2 ?_, R', hfd.1, HR'.out, fun j h => by have := HRL.out j h; simpa [World.setCell] using this⟩
          intro j hj h
          rcases HR'.out j h with h | h
          · exact h
          · omega
end Go.Proofs.Ytinkjhkbaadbpaa
/- made (56): the views of a document in which a tree was planted, and installed. -/
namespace Go.Proofs.Ytinkjhkbaadbpaa
open Go.RowKit
set_option linter.unusedVariables false
set_option linter.unusedSimpArgs false

/-- the two views, made, and nothing in them -/
theorem duo_fresh2 {n0 : Nat} {w w1 w2 w3 w4 : World} {s s2 : Nat} (hn : n0 ≤ w.heap.size) (hp : StoreIn (New w.heap.size) (fun _ => False) w1 (ptr s) Store.fresh) (hb1 : Below w.heap.size w w1)
    (hq : DocIn (New w1.heap.size) (fun _ => False) w2 (ptr s2) Doc.fresh) (hb2 : Below w1.heap.size w1 w2) (hv : VIn (fun _ => False) w3 (w2.heap.size + 1) w2.heap.size (ptr s) ⟨fun _ => none, 0⟩) (hb3 : Below w2.heap.size w2 w3)
    (hw4 : w3.alloc (.cells #[ptr s2, .int .u64 0, .slice none 0 0] 129) = w4) :
    ∃ R Rd, Duo R (fun _ => False) Rd (fun _ => False) n0 w4 (w2.heap.size + 1) w2.heap.size s w3.heap.size s2 ⟨fun _ => none, 0⟩ Store.fresh ⟨[], 0⟩ Doc.fresh := by
  have hp1 := storeIn_bound hp
  have hq1 := docIn_bound hq
  have hvl := hv.lt
  have hs1 := hb1.size
  have hs3 := hb3.size
  have hb4 : Below w3.heap.size w3 w4 := by rw [← hw4]; exact (Below.refl _ _).alloc (Nat.le_refl _) _
  have hs4 : w4.heap.size = w3.heap.size + 1 := by rw [← hw4]; simp
  have h4 : w4.heap[w3.heap.size]? = some (.cells #[ptr s2, .int .u64 0, .slice none 0 0] 129 (0, 0)) := by rw [← hw4]; exact Go.heap_alloc_new _ _
  have hs2 := hb2.size
  have hb24 : Below w2.heap.size w2 w4 := hb3.trans (hb4.mono hb3.size)
  have hb14 : Below w1.heap.size w1 w4 := hb2.trans (hb24.mono hb2.size)
  refine ⟨fun k => New w.heap.size k ∧ k < w1.heap.size, fun k => New w1.heap.size k ∧ k < w2.heap.size, fun _ => False, fun _ => False, ⟨⟨hv.keep (hb4.block _ hvl.1) (hb4.block _ hvl.2) (fun k hk => hk.elim), hp1.keep (fun k hk => hb14.block k hk.2) (fun k hk => hk.elim), fun k hk => ?_, fun k hk => hk.elim, fun k hk => hk.elim⟩, ⟨⟨⟨.slice none 0 0, [], h4, World.ownsRow_nil _ _ _ _, rfl, fun g hg => by cases hg⟩, fun e he => by cases he⟩, hq1.keep (fun k hk => hb24.block k hk.2) (fun k hk => hk.elim), fun k hk => hk.elim, fun k hk => ?_, fun k hk => hk.elim⟩, by omega, by omega, fun k hk => ?_, fun k hk => ?_, fun k hk => ?_, fun k hk => ⟨fun h => h, fun h => h⟩⟩⟩
  · have h9 : w.heap.size ≤ k := hk.1
    have := hk.2
    exact ⟨by omega, by omega, by omega, fun h => h, fun h => h⟩
  · have h9 : w1.heap.size ≤ k := hk.1
    have := hk.2
    exact ⟨by omega, by omega, fun h => h⟩
  · have h9 : w.heap.size ≤ k := hk.1
    omega
  · have h9 : w1.heap.size ≤ k := hk.1
    omega
  · rcases hk with rfl | rfl | hk
    · exact ⟨by omega, fun h => h, fun h => by have h9 := h.2; omega, fun h => h⟩
    · exact ⟨by omega, fun h => h, fun h => by have h9 := h.2; omega, fun h => h⟩
    · have := hk.2
      exact ⟨by omega, fun h => h, fun h => by have h9 : w1.heap.size ≤ _ := h.1; omega, fun h => h⟩
def MadePost2 (n0 : Nat) (w : World) (t : Tr) (e : Ending) (w' : World) : Prop :=
  ∃ R Ds Rd Dd p v m s v2 s2 S d, e = .returned (ptr p) ∧ Duo R Ds Rd Dd (n0 + 1) w' v m s v2 s2 ⟨fun _ => none, 3⟩ S ⟨[], 3⟩ d ∧ w'.heap[p]? = some (.cells #[ptr v, ptr v2] 108 (0, 0)) ∧ n0 ≤ p ∧ Below n0 w w' ∧ Mid t S d ∧ Aside R Rd w' v m v2 (fun k => k = p)
set_option maxRecDepth 100000 in
set_option maxHeartbeats 4000000 in
theorem made2_any {F : Nat → Prop} {w : World} {t : Tr} {av kv : Value} (hT : TrIn F w t av kv) (hF : ∀ k, F k → k < w.heap.size) (hsz : t.size ≤ 50000000) :
    Calls Try.prog 56 #[trV t av kv] w (MadePost2 w.heap.size w t) := by
  have hT2 := hT
  obtain ⟨kind, name, text, attrs, kids⟩ := t
  simp only [TrIn] at hT2
  obtain ⟨⟨a1, c1, rfl, -, -⟩, zs, ⟨a2, c2, rfl, -, -⟩, -⟩ := hT2
  obtain ⟨t, ht⟩ : ∃ t, Tr.mk kind name text attrs kids = t := ⟨_, rfl⟩
  obtain ⟨W, hW⟩ : ∃ W, w.alloc (.cells #[.int .i64 kind, .string name, .string text, .slice a1 attrs.length c1, .slice a2 kids.length c2] 25) = W := ⟨_, rfl⟩
  have hbW : Below w.heap.size w W := by rw [← hW]; exact (Below.refl _ _).alloc (Nat.le_refl _) _
  have hsW : W.heap.size = w.heap.size + 1 := by rw [← hW]; simp
  have hx0 : W.heap[w.heap.size]? = some (.cells #[.int .i64 kind, .string name, .string text, .slice a1 attrs.length c1, .slice a2 kids.length c2] 25 (0, 0)) := by rw [← hW]; exact Go.heap_alloc_new _ _
  have HW := Lib.hid hW
  have HBW := Lib.hid hbW
  have HSW := Lib.hid hsW
  have HX0 := Lib.hid hx0
  have HT := Lib.hid hT
  have HF := Lib.hid hF
  have HTT := Lib.hid ht
  clear hW hbW hsW hx0 hT hF ht
  show Calls Try.prog 56 #[.agg #[.int .i64 kind, .string name, .string text, .slice a1 attrs.length c1, .slice a2 kids.length c2]] w _
  go_enter Try.func56, Try.ntmps56
  go_wp2_with fail
  rw [HW.out]
  refine (new_any (fun _ => False) W).mono ?_
  rintro e w1 ⟨⟨p1, rfl, hp⟩, hb1⟩
  obtain ⟨s, hsp⟩ : ∃ s, p1 = ptr s := by obtain ⟨s, m, f, e, -⟩ := hp; exact ⟨s, e⟩
  subst hsp
  go_wp2_with fail
  refine (docNew_any (fun _ => False) w1).mono ?_
  rintro e w2 ⟨⟨q, rfl, hq⟩, hb2⟩
  obtain ⟨s2, hsq⟩ : ∃ s, q = ptr s := by obtain ⟨s, v, xs, e, -⟩ := hq; exact ⟨s, e⟩
  subst hsq
  go_wp2_with fail
  refine (vnew_any s 0 w2).mono ?_
  rintro e w3 ⟨rfl, hv3, hb3⟩
  go_wp2_with fail
  obtain ⟨w4, hw4⟩ : ∃ w4, w3.alloc (.cells #[ptr s2, .int .u64 0, .slice none 0 0] 129) = w4 := ⟨_, rfl⟩
  obtain ⟨R, Rd, hdu⟩ := duo_fresh2 (n0 := w.heap.size + 1) (w := W) (by have := HSW.out; omega) hp hb1 hq hb2 hv3 hb3 hw4
  have hs1 := hb1.size
  have hs2 := hb2.size
  have hs3 := hb3.size
  have hs4 : w4.heap.size = w3.heap.size + 1 := by rw [← hw4]; simp
  have hv1l := hv3.lt.1
  obtain ⟨m, hm⟩ : ∃ m, m = w2.heap.size := ⟨_, rfl⟩
  obtain ⟨v2, hv2e⟩ : ∃ v2, v2 = w3.heap.size := ⟨_, rfl⟩
  obtain ⟨vv, hvv⟩ : ∃ vv, vv = w2.heap.size + 1 := ⟨_, rfl⟩
  rw [← hvv, ← hm, ← hv2e] at hdu
  have hb34 : Below w3.heap.size w3 w4 := by rw [← hw4]; exact (Below.refl _ _).alloc (Nat.le_refl _) _
  rw [hw4]
  obtain ⟨w5, hw5⟩ : ∃ w5, w4.alloc (.cells #[ptr vv, ptr v2] 108) = w5 := ⟨_, rfl⟩
  have hb45 : Below w4.heap.size w4 w5 := by rw [← hw5]; exact (Below.refl _ _).alloc (Nat.le_refl _) _
  have hs5 : w5.heap.size = w4.heap.size + 1 := by rw [← hw5]; simp
  have hp5 : w5.heap[w4.heap.size]? = some (.cells #[ptr vv, ptr v2] 108 (0, 0)) := by rw [← hw5]; exact Go.heap_alloc_new _ _
  have hbB : Below w.heap.size w w5 := (((HBW.out.trans (hb1.mono HBW.out.size)).trans (hb2.mono (Nat.le_trans HBW.out.size hs1))).trans (hb3.mono (Nat.le_trans HBW.out.size (Nat.le_trans hs1 hs2)))).trans ((hb34.trans (hb45.mono hb34.size)).mono (Nat.le_trans HBW.out.size (Nat.le_trans hs1 (Nat.le_trans hs2 hs3))))
  have hW5 : Below W.heap.size W w5 := ((hb1.trans (hb2.mono hs1)).trans (hb3.mono (Nat.le_trans hs1 hs2))).trans ((hb34.trans (hb45.mono hb34.size)).mono (Nat.le_trans hs1 (Nat.le_trans hs2 hs3)))
  have hx5 := (hW5.block w.heap.size (by have := HSW.out; omega)).trans HX0.out
  have hdu5 := hdu.below hb45
  obtain ⟨p, hpe⟩ : ∃ p, p = w4.heap.size := ⟨_, rfl⟩
  rw [← hpe] at hp5
  -- what came in, and the pair's block, stand aside
  have haF : Aside R Rd w5 vv m v2 (fun k => F k ∨ k = w.heap.size ∨ k = p) := by
    intro k hk
    have hlt4 := hdu.lt
    rcases hk with hk | rfl | rfl
    · exact hdu5.aside (F := fun k => k < w.heap.size + 1) (fun k hk => hk) k (by have := HF.out k hk; omega)
    · exact hdu5.aside (F := fun k => k < w.heap.size + 1) (fun k hk => hk) _ (Nat.lt_succ_self _)
    · exact ⟨by omega, by omega, by omega, by omega, fun hr => by have := hlt4.2.2.2.2.1 _ hr; omega, fun hr => by have := hlt4.2.2.2.2.2.1 _ hr; omega⟩
  have hTx : TrIn F w5 t (.slice a1 attrs.length c1) (.slice a2 kids.length c2) := by
    rw [← HTT.out]
    exact TrIn.keep (fun k hk => hbB.block k (HF.out k hk)) (fun _ h => h) _ _ _ HT.out
  have hTy : TrIn (fun k => F k ∨ k = w.heap.size ∨ k = p) w5.drew t (.slice a1 attrs.length c1) (.slice a2 kids.length c2) := TrIn.keep (show Keeps F w5 w5.drew from fun k hk => rfl) (fun k hk => .inl hk) _ _ _ hTx
  have hszt : t.size ≤ 100000000 := by rw [← HTT.out]; omega
  have hd5 : Duo R (fun _ => False) Rd (fun _ => False) (w.heap.size + 1) w5.drew vv m s v2 s2 ⟨fun _ => none, 0⟩ Store.fresh ⟨[], 0⟩ Doc.fresh := hdu5.below (Below.refl _ _).drew
  have hpl : Calls Try.prog 62 #[ptr vv, trV t (.slice a1 attrs.length c1) (.slice a2 kids.length c2), .int .i64 1] w5.drew (fun e w' => e = .returned (.int .i64 (ownV t).1) ∧ Duo R (fun _ => False) Rd (fun _ => False) (w.heap.size + 1) w' vv m s v2 s2 ⟨(ownV t).2.2, 0⟩ (madeS t) ⟨[], 0⟩ Doc.fresh ∧ Chg (Turns R Rd m v2) w5.drew w') := hd5.plant 1 hTy (haF.later (Nat.le_refl _)) (by decide) (by show (1 : Int) + _ ≤ _; omega)
  have hkeep : ∀ wz, Chg (Turns R Rd m v2) w5.drew wz → wz.heap[p]? = some (.cells #[ptr vv, ptr v2] 108 (0, 0)) ∧ wz.heap[w.heap.size]? = some (.cells #[.int .i64 kind, .string name, .string text, .slice a1 attrs.length c1, .slice a2 kids.length c2] 25 (0, 0)) ∧ Keeps F w wz ∧ Aside R Rd wz vv m v2 (fun k => F k ∨ k = w.heap.size ∨ k = p) := fun wz hc => by
    have hk := (haF.later (w' := w5.drew) (Nat.le_refl _)).keeps hc
    exact ⟨(hk p (.inr (.inr rfl))).trans hp5, (hk _ (.inr (.inl rfl))).trans hx5, fun k h9 => (hk k (.inl h9)).trans (hbB.block k (HF.out k h9)), haF.later hc.size⟩
  have HKP := Lib.hid hkeep
  have htr : trV t (.slice a1 attrs.length c1) (.slice a2 kids.length c2) = .agg #[.int .i64 kind, .string name, .string text, .slice a1 attrs.length c1, .slice a2 kids.length c2] := by rw [← HTT.out]; rfl
  rw [htr] at hpl
  have HPL := Lib.hid hpl
  have HAF := Lib.hid haF
  have HTX := Lib.hid hTy
  have HTR := Lib.hid htr
  obtain ⟨y0, y1⟩ : w5.cell? ⟨p, 0, none⟩ = some (ptr vv) ∧ w5.cell? ⟨p, 1, none⟩ = some (ptr v2) := by constructor <;> simp [World.cell?, hp5]
  obtain ⟨x0, x1, x2, x3, x4⟩ : w5.cell? ⟨w.heap.size, 0, none⟩ = some (.int .i64 kind) ∧ w5.cell? ⟨w.heap.size, 1, none⟩ = some (.string name) ∧ w5.cell? ⟨w.heap.size, 2, none⟩ = some (.string text) ∧ w5.cell? ⟨w.heap.size, 3, none⟩ = some (.slice a1 attrs.length c1) ∧ w5.cell? ⟨w.heap.size, 4, none⟩ = some (.slice a2 kids.length c2) := by
    refine ⟨?_, ?_, ?_, ?_, ?_⟩ <;> simp [World.cell?, hx5]
  have HP5 := Lib.hid hp5
  have HX5 := Lib.hid hx5
  have HBB := Lib.hid hbB
  have hw5p : p < w5.heap.size := by omega
  have hnp : w.heap.size < p := by have := HSW.out; omega
  rw [← hvv, ← hv2e, hw5, show v2 + 1 = p by omega]
  clear hpl hkeep haF hTx hTy htr hp5 hx5 hbB hdu hdu5 hd5 hp hv3 hq hb1 hb2 hb3 hb34 hb45 hs1 hs2 hs3 hs4 hs5 hW5 hw4 hw5 hvv hm hv2e hpe hv1l
  go_still_tail 5, (by kernel_rfl)
  change wpList _ _ _ _ _ w5.drew
  go_wp2_with fail
  refine HPL.out.mono ?_
  rintro e w6 ⟨rfl, hd6, hc6⟩
  obtain ⟨id, hid⟩ : ∃ id, (ownV t).1 = id := ⟨_, rfl⟩
  rw [hid]
  have HID := Lib.hid hid
  clear hid
  have hs6 : w5.heap.size ≤ w6.heap.size := hc6.size
  obtain ⟨hp6, hx6, hkF6, haF6⟩ := HKP.out w6 hc6
  obtain ⟨y0, y1⟩ : w6.cell? ⟨p, 0, none⟩ = some (ptr vv) ∧ w6.cell? ⟨p, 1, none⟩ = some (ptr v2) := by constructor <;> simp [World.cell?, hp6]
  obtain ⟨x0, x1, x2, x3, x4⟩ : w6.cell? ⟨w.heap.size, 0, none⟩ = some (.int .i64 kind) ∧ w6.cell? ⟨w.heap.size, 1, none⟩ = some (.string name) ∧ w6.cell? ⟨w.heap.size, 2, none⟩ = some (.string text) ∧ w6.cell? ⟨w.heap.size, 3, none⟩ = some (.slice a1 attrs.length c1) ∧ w6.cell? ⟨w.heap.size, 4, none⟩ = some (.slice a2 kids.length c2) := by
    refine ⟨?_, ?_, ?_, ?_, ?_⟩ <;> simp [World.cell?, hx6]
  have hT6 : TrIn (fun k => F k ∨ k = w.heap.size ∨ k = p) w6.drew t (.slice a1 attrs.length c1) (.slice a2 kids.length c2) := by
    rw [← HTT.out]
    exact TrIn.keep (show Keeps F w w6.drew from hkF6) (fun k hk => .inl hk) _ _ _ HT.out
  have hsame := own_same t
  have hpl6 := (hd6.below (Below.refl _ _).drew).rplant 1 hT6 (haF6.later (Nat.le_refl _)) (by decide) (by show (1 : Int) + _ ≤ _; omega) (by show 0 + _ ≤ _; omega)
  have hpl7 : Calls Try.prog 73 #[ptr v2, .agg #[.int .i64 kind, .string name, .string text, .slice a1 attrs.length c1, .slice a2 kids.length c2], .int .i64 1] w6.drew (fun e w' => (∃ i2, e = .returned (.int .i64 i2)) ∧ Duo R (fun _ => False) Rd (fun _ => False) (w.heap.size + 1) w' vv m s v2 s2 ⟨(ownV t).2.2, 0⟩ (madeS t) ⟨(ownL1 t).2.2, 0⟩ (madeD t) ∧ Chg (Turns R Rd m v2) w6.drew w') := by
    rw [← HTR.out]
    refine hpl6.mono ?_
    rintro e w' ⟨he, hd, hc⟩
    refine ⟨⟨_, he⟩, ?_, hc⟩
    have h9 : ({ Doc.fresh with given := (ownL1 t).2.1 } : Doc) = madeD t := by rw [hsame.2.1]; rfl
    rw [← h9]
    exact hd
  have HPL7 := Lib.hid hpl7
  have HC6 := Lib.hid hc6
  clear hpl6 hpl7 hd6 hc6 hp6 hx6 hkF6 haF6 hT6 hsame
  go_wp2_with fail
  go_still_tail 5, (by kernel_rfl)
  change wpList _ _ _ _ _ w6.drew
  go_wp2_with fail
  refine HPL7.out.mono ?_
  rintro e w7 ⟨⟨i2, rfl⟩, hd7, hc7⟩
  have hs7 : w6.heap.size ≤ w7.heap.size := hc7.size
  have hc57 : Chg (Turns R Rd m v2) w5.drew w7 := (HC6.out.trans (chg_new (Below.refl _ _).drew)).trans hc7
  have HC57 := Lib.hid hc57
  have HD7 := Lib.hid hd7
  clear hd7 hc7 hc57 x0 x1 x2 x3 x4 y0 y1
  go_upto_if 31 with fail
  go_cut [] (fun wx => ∃ kv9, wx.heap[w7.heap.size]? = some (.cells #[.int .i64 1, .string ⟨#[]⟩, .string ⟨#[]⟩, .int .i64 0, kv9, .slice none 0 0, .bool false] 52 (0, 0)) ∧ IntsIn (fun k => w7.heap.size < k ∧ k < wx.heap.size) wx kv9 (if 0 < id then [id] else []) ∧ Below w7.heap.size w7 wx ∧ w7.heap.size < wx.heap.size)
  case first =>
    by_cases hpos : 0 < id
    · go_wp2
      go_meet
      rw [if_pos hpos]
      refine ⟨.slice (some ⟨w7.heap.size + 1, 0, none⟩) 1 1, (Go.heap_alloc_old _ _ (by simp)).trans (Go.heap_alloc_new _ _), ⟨_, 1, rfl, by simp, by decide, .inr ⟨w7.heap.size + 1, 0, rfl, ⟨by omega, by simp⟩, fun j x hj => ?_⟩⟩, ((Below.refl _ _).alloc (Nat.le_refl _) _).alloc (by simp) _, by simp; omega⟩
      match j, hj with
      | 0, hj =>
        simp at hj
        subst hj
        simp [go_sem]
    · go_wp2
      go_meet
      rw [if_neg (by omega)]
      exact ⟨_, Go.heap_alloc_new _ _, intsIn_nil _ _, (Below.refl _ _).alloc (Nat.le_refl _) _, by simp⟩
  case rest =>
  obtain ⟨kv9, hr9, hi9, hb9, hl9⟩ := hcut
  obtain ⟨w8, rfl⟩ : ∃ w8, w8 = wc := ⟨_, rfl⟩
  have hkids : (rootR id).kids = if 0 < id then [id] else [] := rfl
  have hi10 : IntsIn (fun k => w7.heap.size < k ∧ k < w8.heap.size) w8 kv9 (rootR id).kids := hi9
  have hrv : RecV (fun k => w7.heap.size ≤ k ∧ k < w8.heap.size) w8.drew (recV (rootR id) kv9 (.slice none 0 0)) (rootR id) := ⟨_, _, rfl, hi10.mono (fun k hk => ⟨Nat.le_of_lt hk.1, hk.2⟩), intsIn_nil _ _⟩
  have hrok : RecOk (rootR id) := by
    refine ⟨?_, by show ([] : List Int).length * 8 ≤ _; simp⟩
    rw [hkids]; split <;> simp
  have hput : putOk 1 (rootR id) = true := by rw [← HID.out]; exact root_ok t
  have hlt7 := HD7.out.lt
  have hagR : Aside R Rd w8.drew vv m v2 (fun k => w7.heap.size ≤ k ∧ k < w8.heap.size) := fun k hk => ⟨hk.2, by omega, by omega, by omega, fun hr => by have := hlt7.2.2.2.2.1 k hr; omega, fun hr => by have := hlt7.2.2.2.2.2.1 k hr; omega⟩
  have hpt := ((HD7.out.below hb9).below (Below.refl _ _).drew).put 1 hrok hrv hagR
  rw [hput, if_pos rfl, if_pos rfl] at hpt
  have HPT := Lib.hid hpt
  have hc58 : Chg (Turns R Rd m v2) w5.drew w8 := HC57.out.trans (chg_new hb9)
  obtain ⟨hp8, hx8, hkF8, haF8⟩ := HKP.out w8 hc58
  obtain ⟨y0, y1⟩ : w8.cell? ⟨p, 0, none⟩ = some (ptr vv) ∧ w8.cell? ⟨p, 1, none⟩ = some (ptr v2) := by constructor <;> simp [World.cell?, hp8]
  obtain ⟨a9, c9, hkv, -⟩ := id_ hi9
  rw [← hkids] at hkv
  subst hkv
  obtain ⟨z0, z1, z2, z3, z4, z5, z6⟩ := cells7 hr9
  have HR9 := Lib.hid hr9
  have HC58 := Lib.hid hc58
  have HAGR := Lib.hid hagR
  have HRV := Lib.hid hrv
  have HRO := Lib.hid hrok
  have HPUT := Lib.hid hput
  clear hr9 hi9 hb9 hi10 hrv hrok hput hagR hpt hc58 hp8 hx8 hkF8 haF8 hkids
  go_wp2_with fail
  go_still_tail 5, (by kernel_rfl)
  change wpList _ _ _ _ _ w8.drew
  go_wp2_with fail
  refine HPT.out.mono ?_
  rintro e w9 ⟨rfl, hd9, hc9⟩
  have hs9 : w8.heap.size ≤ w9.heap.size := hc9.size
  have hG9 := HAGR.out.keeps hc9
  have hr10 := (hG9 w7.heap.size ⟨Nat.le_refl _, hl9⟩).trans HR9.out
  obtain ⟨z0, z1, z2, z3, z4, z5, z6⟩ := cells7 hr10
  have hlen8 := made_len t []
  unfold madeL at hlen8
  simp only [List.foldl_nil, List.length_nil] at hlen8
  have hln1 : (ownL1 t).2.2.length ≤ t.size := by have := plantL_len t 1 1 []; unfold ownL1; simpa using this
  have hpt := (hd9.below (Below.refl _ _).drew).rput 1 HRO.out (HRV.out.keep hG9) (HAGR.out.later (w' := w9.drew) hs9) (by show (ownL1 t).2.2.length ≤ _; omega)
  rw [HPUT.out, if_pos rfl, if_pos rfl] at hpt
  have HPT2 := Lib.hid hpt
  have hc59 : Chg (Turns R Rd m v2) w5.drew w9 := (HC58.out.trans (chg_new (Below.refl _ _).drew)).trans hc9
  obtain ⟨hp9, hx9, hkF9, haF9⟩ := HKP.out w9 hc59
  obtain ⟨y0, y1⟩ : w9.cell? ⟨p, 0, none⟩ = some (ptr vv) ∧ w9.cell? ⟨p, 1, none⟩ = some (ptr v2) := by constructor <;> simp [World.cell?, hp9]
  have HC59 := Lib.hid hc59
  clear hd9 hc9 hr10 hG9 hpt hc59 hp9 hx9 hkF9 haF9 hlen8
  go_wp2_with fail
  go_still_tail 5, (by kernel_rfl)
  change wpList _ _ _ _ _ w9.drew
  go_wp2_with fail
  refine HPT2.out.mono ?_
  rintro e w10 ⟨rfl, hd10, hc10⟩
  have hcA : Chg (Turns R Rd m v2) w5.drew w10 := (HC59.out.trans (chg_new (Below.refl _ _).drew)).trans hc10
  have hdA : Duo R (fun _ => False) Rd (fun _ => False) (w.heap.size + 1) w10 vv m s v2 s2 ⟨madeO t [], 0⟩ (madeS t) ⟨madeL t [], 0⟩ (madeD t) := by
    have e1 : madeO t [] = putO 1 (rootR id) (ownV t).2.2 := by unfold madeO; rw [HID.out]; rfl
    have e2 : madeL t [] = layL 1 (rootR id) (ownL1 t).2.2 := by unfold madeL; rw [(own_same t).1, HID.out]; rfl
    rw [e1, e2]
    exact hd10
  have HCA := Lib.hid hcA
  have HDA := Lib.hid hdA
  clear hd10 hc10 hcA hdA y0 y1 z0 z1 z2 z3 z4 z5 z6
  -- the program's changes
  have hszt5 : t.size ≤ 50000000 := by rw [← HTT.out]; exact hsz
  obtain ⟨D, D2, hX⟩ := HDA.out
  obtain ⟨hp10, hx10, hkF10, haF10⟩ := HKP.out w10 HCA.out
  have hpa := haF10 p (.inr (.inr rfl))
  have hgiv := plantT_g putO t 1 (1, fun _ => none)
  simp only at hgiv
  have hgv : (ownV t).2.1 ≤ 50000001 := by have h9 : (ownV t).2.1 ≤ 1 + t.size := hgiv.2; omega
  have hrt := own_right t
  have hml := made_len t []
  simp only [List.length_nil] at hml
  have hchg := changes_any hX.vs.view (fun k hk => (hX.vs.dl k hk).1) (fun id r hr => by have := hrt.1 id r hr; omega) (ks := (madeL t []).map (·.1)) (fun id r hr => by
    have h9 := (ownOf_mem (made_rise t) id r).2 (by rw [made_own]; exact hr)
    exact List.mem_map.2 ⟨_, h9, rfl⟩) (by rw [List.length_map]; omega) ⟨1, rootR (ownV t).1, by show putO 1 (rootR (ownV t).1) (ownV t).2.2 1 = _; simp [putO]⟩
  obtain ⟨y0, y1⟩ : w10.cell? ⟨p, 0, none⟩ = some (ptr vv) ∧ w10.cell? ⟨p, 1, none⟩ = some (ptr v2) := by constructor <;> simp [World.cell?, hp10]
  have HX := Lib.hid hX
  have HCHG := Lib.hid hchg
  have HGV := Lib.hid hgv
  have HP10 := Lib.hid hp10
  have HPA := Lib.hid hpa
  have HRT := Lib.hid hrt
  have HML := Lib.hid hml
  clear hX hp10 hx10 hkF10 haF10 hpa hgiv hgv hrt hml hchg
  go_wp2_with fail
  refine HCHG.out.mono ?_
  rintro e w11 ⟨⟨u, cs, rfl, hcs, hcof⟩, hb11⟩
  have hs11 := hb11.size
  have hst11 : StoreIn R (fun _ => False) w11 (ptr s) (madeS t) := HX.out.vs.store.keep (fun k hk => hb11.block k (HX.out.vs.rl k hk).1) (fun k hk => hk.elim)
  have hins := install_any hst11 (made_wf t) 3 (by show (0 : Nat) < 3; omega) cs u hcs (fun k hk => ⟨hk.2, fun hr => by have := (HX.out.vs.rl k hr).1; omega⟩) (fun k hk => Nat.lt_of_lt_of_le (HX.out.vs.rl k hk).1 hs11) (fun k hk => hk.elim) (fun k hk h => h)
    (fun id => by show (Store.fresh.N id).length ≤ _; unfold Store.fresh; simp only; split <;> simp) (fun c hc => HX.out.vs.view.ok c.id c.r ((hcof.2 c.id c.r).1 hc))
  have hok := chns_okL hcof
  have HINS := Lib.hid hins
  have HOKL := Lib.hid hok
  have HB11 := Lib.hid hb11
  have HCOF := Lib.hid hcof
  obtain ⟨ua, uc, rfl, -, -, -⟩ := hcs
  clear hst11 hins hok hb11 hcof y0 y1
  go_wp2_with fail
  refine HINS.out.mono ?_
  rintro e w12 (⟨hbad, -, -⟩ | ⟨-, rfl, hc12, R', D', hst12, hR', hD'⟩)
  · exact absurd (HOKL.out.symm.trans hbad) (by decide)
  -- the reference's
  have hs12 := hc12.size
  have hnR : ∀ k, k < w10.heap.size → ¬ R k → w12.heap[k]? = w10.heap[k]? := fun k hk hn => (hc12.block k (by omega) hn).trans (HB11.out.block k hk)
  have hp12 := (hnR p HPA.out.1 HPA.out.2.2.2.2.1).trans HP10.out
  obtain ⟨sv, xs, hv2c, hown, hare, hsv⟩ := HX.out.rvs.view.cell
  have hv2l := HX.out.rvs.lt
  have hv2R : ¬ R v2 := fun h => (HX.out.ap1 v2 (.inr (.inr h))).1 rfl
  have hv12 := (hnR v2 hv2l hv2R).trans hv2c
  have hk2 : Keeps D2 w10 w12 := fun k hk => hnR k (HX.out.rvs.dl k hk).1 (fun h => (HX.out.ap1 k (.inr (.inr h))).2.1 hk)
  have hkd : Keeps Rd w10 w12 := fun k hk => hnR k (HX.out.rvs.rl k hk).1 (fun h => (HX.out.ap1 k (.inr (.inr h))).2.2.1 hk)
  have hch2 : ChnsIn D2 w12 sv (chnsL t) := by
    obtain ⟨hll, ⟨e1, h0⟩ | ⟨g, cap, cur, e1, hbg, hgg, h1, h2, h3, h4⟩⟩ := hown
    · have hz : madeL t [] = [] := List.eq_nil_of_length_eq_zero h0
      have hz2 : chnsL t = [] := by unfold chnsL; rw [hz]; rfl
      rw [hz2, e1]
      exact ⟨none, 0, rfl, by simp, by simp, .inl rfl⟩
    · have hgD := hsv g (by rw [e1]; rfl)
      refine ⟨some ⟨g, 0, none⟩, cap, by rw [e1]; simp [chnsL], by simpa [chnsL] using h1, h2, .inr ⟨g, 0, rfl, hgD, fun k c hk => ?_⟩⟩
      unfold chnsL at hk
      rw [List.getElem?_map] at hk
      obtain ⟨e, he, rfl⟩ := Option.map_eq_some_iff.1 hk
      obtain ⟨kv, av, i1, i2, hc⟩ := hare.get k e he
      refine ⟨kv, av, i1.keep hk2, i2.keep hk2, fun j x hj => ?_⟩
      have hj8 : j < 8 := by have := (List.getElem?_eq_some_iff.1 hj).1; simpa using this
      have h5 := (hc j hj8).trans hj
      have hkl := (List.getElem?_eq_some_iff.1 he).1
      have h4' : cur.toList.take ((madeL t []).length * 8) = xs := h4
      rw [← h4', List.getElem?_take_of_lt (by omega)] at h5
      have hg12 := (hk2 g hgD).trans hgg
      simp only [World.cell?, hg12, Nat.zero_add]
      rw [Array.getElem?_toList] at h5
      exact h5
  have hdoc : DocIn Rd D2 w12 (ptr s2) (madeD t) := by
    have h9 := HX.out.rvs.doc.keep hkd (fun k hk => hk.elim)
    obtain ⟨q1, q2, q3, q4, q5, q6, q7, q8, q9⟩ := h9
    exact ⟨q1, q2, q3, q4, q5, q6, q7, q8.keep (Keeps.refl _ _) (fun k hk => hk.elim), q9⟩
  have hdin := docInstall_any hdoc 3 (by show (0 : Nat) < 3; omega) (chnsL t) sv hch2 (fun k hk => hk) (fun k hk => by have := (HX.out.rvs.rl k hk).1; omega) (fun k hk => by have := (HX.out.rvs.dl k hk).1; omega) (fun k hk hd => (HX.out.rvs.dl k hd).2.2 hk) (by show Doc.fresh.L.length ≤ _; simp [Doc.fresh]) (by show (0 : Int) ≤ (ownV t).2.1; have := HRT.out.2; omega) (by show (ownV t).2.1 ≤ _; have := HGV.out; omega)
  obtain ⟨sa, sc, rfl⟩ := ownsRow_shape hown
  obtain ⟨y0, y1⟩ : w12.cell? ⟨p, 0, none⟩ = some (ptr vv) ∧ w12.cell? ⟨p, 1, none⟩ = some (ptr v2) := by constructor <;> simp [World.cell?, hp12]
  have y2 : w12.cell? ⟨v2, 2, none⟩ = some (.slice sa (madeL t []).length sc) := by simp [World.cell?, hv12]
  have HDIN := Lib.hid hdin
  have HC12 := Lib.hid hc12
  have HST12 := Lib.hid hst12
  have HR' := Lib.hid hR'
  have HD' := Lib.hid hD'
  have HOK2 := Lib.hid (chns_okL (chnsL_of t))
  clear hdin hc12 hst12 hR' hD' hnR hp12 hv2c hown hare hsv hv12 hk2 hkd hch2 hdoc
  go_wp2_with (go_at_call 43; refine HDIN.out.mono ?_; rintro e w13 (⟨hbad, -, -⟩ | ⟨-, rfl, hc13, Rd', hdoc13, hRd', hRl'⟩); exact absurd (HOK2.out.symm.trans hbad) (by decide))
  refine (vnew_any s 3 w13).mono ?_
  rintro e w14 ⟨rfl, hv14, hb14⟩
  go_wp2
  go_ret
  have hs13 := hc13.size
  have hs14 := hb14.size
  have hvl := hv14.lt
  have hs11 := HB11.out.size
  have hs12 := HC12.out.size
  obtain ⟨w15, hw15⟩ : ∃ w15, w14.alloc (.cells #[ptr s2, .int .u64 3, .slice none 0 0] 129) = w15 := ⟨_, rfl⟩
  have hs15 : w15.heap.size = w14.heap.size + 1 := by rw [← hw15]; simp
  have hb15 : Below w14.heap.size w14 w15 := by rw [← hw15]; exact (Below.refl _ _).alloc (Nat.le_refl _) _
  have h15 : w15.heap[w14.heap.size]? = some (.cells #[ptr s2, .int .u64 3, .slice none 0 0] 129 (0, 0)) := by rw [← hw15]; exact Go.heap_alloc_new _ _
  rw [hw15]
  obtain ⟨w16, hw16⟩ : ∃ w16, w15.alloc (.cells #[ptr (w13.heap.size + 1), ptr w14.heap.size] 108) = w16 := ⟨_, rfl⟩
  have hs16 : w16.heap.size = w15.heap.size + 1 := by rw [← hw16]; simp
  have hb16 : Below w15.heap.size w15 w16 := by rw [← hw16]; exact (Below.refl _ _).alloc (Nat.le_refl _) _
  have h16 : w16.heap[w15.heap.size]? = some (.cells #[ptr (w13.heap.size + 1), ptr w14.heap.size] 108 (0, 0)) := by rw [← hw16]; exact Go.heap_alloc_new _ _
  rw [hw16, HTT.out]
  have hb1416 : Below w14.heap.size w14 w16 := hb15.trans (hb16.mono (by omega))
  have hb1316 : Below w13.heap.size w13 w16 := hb14.trans (hb1416.mono hs14)
  have hR1 : ∀ k, R' k → w.heap.size + 1 ≤ k ∧ k < w12.heap.size ∧ ¬ Rd k ∧ ¬ D2 k ∧ ¬ Rd' k := fun k hk => by
    have h1 := HST12.out.rlt k hk
    rcases HR'.out k hk with h9 | h9
    · have a1 := HX.out.ap1 k (.inr (.inr h9))
      have a2 := (HX.out.vs.rl k h9).1
      refine ⟨HX.out.rn k h9, h1, a1.2.2.1, a1.2.1, fun h => ?_⟩
      rcases hRd' k h with h8 | h8
      · exact a1.2.2.1 h8
      · omega
    · have hlow := HX.out.le
      refine ⟨by omega, h1, fun h => by have := (HX.out.rvs.rl k h).1; omega, fun h => by have := (HX.out.rvs.dl k h).1; omega, fun h => ?_⟩
      rcases hRd' k h with h8 | h8
      · have := (HX.out.rvs.rl k h8).1; omega
      · omega
  have hD1 : ∀ k, D' k → w11.heap.size ≤ k ∧ k < w12.heap.size ∧ ¬ Rd k ∧ ¬ Rd' k := fun k hk => by
    have h1 := HST12.out.dlt k hk
    rcases HD'.out k hk with h9 | h9
    · exact h9.elim
    · refine ⟨h9, h1, fun h => by have := (HX.out.rvs.rl k h).1; omega, fun h => ?_⟩
      rcases hRd' k h with h8 | h8
      · have := (HX.out.rvs.rl k h8).1; omega
      · omega
  have hRd1 : ∀ k, Rd' k → w.heap.size + 1 ≤ k ∧ k < w13.heap.size ∧ ¬ D2 k := fun k hk => by
    have h1 := hRl' k hk
    rcases hRd' k hk with h9 | h9
    · exact ⟨HX.out.rdn k h9, h1, fun h => (HX.out.rvs.dl k h).2.2 h9⟩
    · have hlow := HX.out.le
      exact ⟨by omega, h1, fun h => by have := (HX.out.rvs.dl k h).1; omega⟩
  have hstore : StoreIn R' D' w16 (ptr s) ((madeS t).put 3 cs) := HST12.out.is.keep
    (fun k hk => by have h1 := hR1 k hk; exact (hb1316.block k (by omega)).trans (hc13.block k h1.2.1 h1.2.2.1))
    (fun k hk => by have h1 := hD1 k hk; exact (hb1316.block k (by omega)).trans (hc13.block k h1.2.1 h1.2.2.1))
  have hdoc16 : DocIn Rd' D2 w16 (ptr s2) ((madeD t).put 3 (chnsL t)) := hdoc13.keep (fun k hk => hb1316.block k (hRd1 k hk).2.1) (fun k hk => hb1316.block k (by have := (HX.out.rvs.dl k hk).1; omega))
  have hlow := HX.out.le
  refine ⟨R', D', Rd', D2, w14.heap.size + 1, w13.heap.size + 1, w13.heap.size, s, w14.heap.size, s2, (madeS t).put 3 cs, (madeD t).put 3 (chnsL t), rfl, ⟨fun _ => False, fun _ => False, ⟨hv14.keep (hb1416.block _ hvl.1) (hb1416.block _ hvl.2) (fun k hk => hk.elim), hstore, fun k hk => ?_, fun k hk => hk.elim, fun k hk => ?_⟩, ⟨⟨⟨.slice none 0 0, [], (hb16.block _ (by omega)).trans h15, World.ownsRow_nil _ _ _ _, rfl, fun g hg => by cases hg⟩, fun e he => by cases he⟩, hdoc16, fun k hk => hk.elim, fun k hk => ?_, fun k hk => ?_⟩, by omega, by omega, fun k hk => (hR1 k hk).1, fun k hk => (hRd1 k hk).1, fun k hk => ?_, fun k hk => ?_⟩, by rw [← hs15]; exact h16, by omega, ?_, ?_, ?_⟩
  · have h1 := hR1 k hk
    exact ⟨by omega, by omega, by omega, fun h => h, HST12.out.rd k hk⟩
  · have h1 := hD1 k hk
    exact ⟨by omega, by omega, by omega⟩
  · have h1 := hRd1 k hk
    exact ⟨by omega, by omega, h1.2.2⟩
  · have h1 := (HX.out.rvs.dl k hk).1
    exact ⟨by omega, by omega⟩
  · rcases hk with rfl | rfl | hk
    · exact ⟨by omega, fun h => h, fun h => by have := (hRd1 _ h).2.1; omega, fun h => by have := (HX.out.rvs.dl _ h).1; omega⟩
    · exact ⟨by omega, fun h => h, fun h => by have := (hRd1 _ h).2.1; omega, fun h => by have := (HX.out.rvs.dl _ h).1; omega⟩
    · have h1 := hR1 k hk
      exact ⟨by omega, fun h => h, h1.2.2.2.2, h1.2.2.2.1⟩
  · rcases hk with rfl | hk
    · exact ⟨fun h => h, fun h => by have := (hD1 _ h).2.1; omega⟩
    · exact ⟨fun h => h, fun h => (hD1 k h).2.2.2 hk⟩
  · have c1 : Chg (New w.heap.size) w w10 := (chg_new HBB.out.drew).trans (HCA.out.mono (fun k hk => by have : w.heap.size + 1 ≤ k := HDA.out.turns k hk; exact Nat.le_of_succ_le this))
    have c2 : Chg (New w.heap.size) w w11 := c1.trans (chg_new HB11.out)
    have c3 : Chg (New w.heap.size) w w12 := c2.trans (HC12.out.mono (fun k hk => by have : w.heap.size + 1 ≤ k := HX.out.rn k hk; exact Nat.le_of_succ_le this))
    have c4 : Chg (New w.heap.size) w w13 := c3.trans (hc13.mono (fun k hk => by have : w.heap.size + 1 ≤ k := HX.out.rdn k hk; exact Nat.le_of_succ_le this))
    exact below_of_chg (c4.trans (chg_new hb1316))
  · exact mid_of HCOF.out HX.out.vs.view.ok
  · rintro k rfl
    exact ⟨by omega, by omega, by omega, by omega, fun h => by have := (hR1 _ h).2.1; omega, fun h => by have := (hRd1 _ h).2.1; omega⟩
end Go.Proofs.Ytinkjhkbaadbpaa
