/- far. -/
import Derived.Test.YtkfmgeddckcnkaaFS
namespace Go.Proofs.Ytkfmgeddckcnkaa
open Go.RowKit
open Go.ChangeMaps (setBlock)
set_option linter.unusedVariables false

def fF (f : Int → Option Nat) (x : Int) : Option Value := (f x).map (fun d => Value.int .i64 (d : Int))
theorem fF_upd (f : Int → Option Nat) (x : Int) (d : Nat) : upd (fF f) x (some (.int .i64 d)) = fF (fun y => if y = x then some d else f y) := by
  funext y
  unfold upd fF
  by_cases h : y = x <;> simp [h]
theorem Try.zero3 (w : World) : (zeroValue 3).run Try.prog w = .ok (.int .i64 0) w := by kernel_rfl
theorem own_form {w : World} {B e size n : Nat} {v : Value} {xs : List Value} (h : w.ownsRow B e size v n xs) : ∃ a c, v = .slice a n c := by
  rcases h.2 with ⟨rfl, h0⟩ | ⟨g, cp, cur, rfl, _⟩
  · exact ⟨none, 0, by rw [h0]⟩
  · exact ⟨_, _, rfl⟩
/-- those of the edges V whose tails come next -/
def comes (G : List Edge) (t : Int) (k : Nat) (e : Edge) : Bool := decide (farS G t k e.1 = none) && decide (farS G t k e.2 = some k)
def news (G : List Edge) (t : Int) (k : Nat) (V : List Edge) : List Int := (V.filter (comes G t k)).map (·.1)
theorem news_snoc (G : List Edge) (t : Int) (k : Nat) (V : List Edge) (e : Edge) : news G t k (V ++ [e]) = news G t k V ++ (if comes G t k e then [e.1] else []) := by
  unfold news
  rw [List.filter_append, List.map_append]
  congr 1
  cases h : comes G t k e <;> simp [h]
theorem news_length (G : List Edge) (t : Int) (k : Nat) (V : List Edge) : (news G t k V).length ≤ V.length := by
  unfold news
  rw [List.length_map]
  exact List.length_filter_le _ _
theorem mem_news {G : List Edge} {t : Int} {k : Nat} {V : List Edge} (hV : ∀ e, e ∈ V ↔ e ∈ G) {x : Int} : x ∈ news G t k V ↔ farS G t (k + 1) x = some (k + 1) := by
  rw [farS_new]
  unfold news
  rw [List.mem_map]
  constructor
  · rintro ⟨e, he, rfl⟩
    obtain ⟨q1, q2⟩ := List.mem_filter.1 he
    simp [comes] at q2
    exact ⟨q2.1, e, (hV e).1 q1, rfl, q2.2⟩
  · rintro ⟨h1, e, he, rfl, h3⟩
    exact ⟨e, List.mem_filter.2 ⟨(hV e).2 he, by simp [comes, h1, h3]⟩, rfl⟩

set_option maxRecDepth 100000 in
set_option maxHeartbeats 8000000 in
theorem far_any {w : World} {m : Nat} {G : List Edge} (hg : GIs w m G) (hG : Fine G) (t : Int) :
    Calls Try.prog 24 #[.map (some m), .int .i64 t] w fun e w' => e = .returned (.map (some w.heap.size)) ∧ MapIs iv w' w.heap.size (fF (farOf G t)) ∧ Below w.heap.size w w' := by
  have HG := Lib.hid hg
  have hml : m < w.heap.size := hg.lt
  obtain ⟨i0, hi, hz0, hz1, hz2⟩ := info_parts Try.info3
  have hmm := @run_makeMap Try.prog
  have HM0 := Lib.hid (mapIs_new iv w)
  clear hg
  go_enter Try.func24, Try.ntmps24
  go_wp2_with ((refine wpList_mapInsert rfl _ _ _ 44 rfl key3 Try.underlying44 rfl HM0.out t rfl (.int .i64 0) rfl ?_; intro ob hmap))
  have hz0m : MapIs iv ((setBlock (w.alloc (.map #[] 0)) w.heap.size ob).alloc (.cells #[.int .i64 t] 3)) w.heap.size (fF (farS G t 0)) := by
    have h1 := hmap.keep (w' := (setBlock (w.alloc (.map #[] 0)) w.heap.size ob).alloc (.cells #[.int .i64 t] 3)) (Go.heap_alloc_old _ _ (by simp))
    refine h1.congr (fun x => ?_)
    unfold upd fF farS
    by_cases h : x = t <;> simp [h]
  have hz0b : Below w.heap.size w ((setBlock (w.alloc (.map #[] 0)) w.heap.size ob).alloc (.cells #[.int .i64 t] 3)) :=
    (Below.trans (b := w.alloc (.map #[] 0)) ((Below.refl _ w).alloc (Nat.le_refl _) _) (show Below w.heap.size (w.alloc (.map #[] 0)) (setBlock (w.alloc (.map #[] 0)) w.heap.size ob) from ⟨rfl, rfl, rfl, by simp, fun j hj => heap_setBlock_other _ (by omega)⟩)).alloc (by simp) _
  have hz0c : ((setBlock (w.alloc (.map #[] 0)) w.heap.size ob).alloc (.cells #[.int .i64 t] 3)).cell? ⟨w.heap.size + 1, 0, none⟩ = some (.int .i64 t) := by
    have := cell_one_new (setBlock (w.alloc (.map #[] 0)) w.heap.size ob) (.int .i64 t) 3 0 (.int .i64 t) rfl
    simpa [Addr.add] using this
  have Z1 := Lib.hid hz0m
  have Z2 := Lib.hid hz0b
  have Z3 := Lib.hid hz0c
  clear hz0m hz0b hz0c hmap
  go_simp
  go_loopw [6, 7] (fun lv n wr => ∃ k : Nat, k ≤ 201 ∧ n = .int .i64 ((k : Int) + 1) ∧ ∃ L, IntsIn (fun j => w.heap.size < j ∧ j < wr.heap.size) wr lv L ∧ (∀ y, y ∈ L ↔ farS G t k y = some k) ∧ MapIs iv wr w.heap.size (fF (farS G t k)) ∧ Below w.heap.size w wr) (fun _ n _ => 203 - (Lib.intOf n).toNat)
  case atStart => exact ⟨0, by omega, rfl, [t], ⟨some ⟨w.heap.size + 1, 0, none⟩, 1, rfl, by simp, by decide, .inr ⟨w.heap.size + 1, 0, rfl, ⟨by omega, by simp⟩, fun j x hx => by
    match j, hx with
    | 0, hx => simp at hx; subst hx; exact Z3.out⟩⟩, fun y => by simp [farS], Z1.out, Z2.out⟩
  case round =>
    obtain ⟨k, hk, rfl, L, hL, hLm, hfar, hbel⟩ := hrel
    obtain ⟨W0, rfl⟩ : ∃ W0, W0 = wr := ⟨wr, rfl⟩
    have HL := Lib.hid hL
    have HLM := Lib.hid hLm
    have HFAR := Lib.hid hfar
    have HBEL := Lib.hid hbel
    have hwl : w.heap.size < W0.heap.size := hfar.lt
    obtain ⟨la, lc, rfl, -, -, -⟩ := hL
    clear hLm hfar hbel
    by_cases hnil : L = []
    · have hfin : fF (farOf G t) = fF (farS G t k) := by
        funext x
        unfold fF
        rw [farOf_still hG hk (fun y hy => by have := (HLM.out y).2 hy; rw [hnil] at this; cases this)]
      have HFIN := Lib.hid hfin
      subst hnil
      clear hfin
      go_wp2
      go_ret
      exact ⟨rfl, by rw [HFIN.out]; exact HFAR.out, HBEL.out⟩
    · have hpos : 0 < L.length := List.length_pos_iff.2 hnil
      have hk2 : k ≤ 200 := by
        obtain ⟨y, hy⟩ := List.exists_mem_of_ne_nil L hnil
        exact Nat.le_trans (level_bound ⟨y, (HLM.out y).1 hy⟩) hG.few
      have HGR := Lib.hid (HG.out.keep (HBEL.out.block m hml))
      clear hnil
      go_wp2_with ((refine wpList_mapRange rfl _ 33 rfl Try.underlying33 rfl HGR.out ?_; intro ob2 n0 hit))
      have hB0 : Below W0.heap.size W0 (W0.alloc ob2) := (Below.refl _ W0).alloc (Nat.le_refl _) _
      have hmr : m ≠ W0.heap.size := hit.ne.symm
      have HIT := Lib.hid hit
      clear hit
      go_simp
      go_loopw [8] (fun v wx => ∃ (V : List Edge) (n1 : Nat), wx.ownsRow (W0.heap.size + 1) 3 1 v (news G t k V).length ((news G t k V).map iv) ∧ V.Nodup ∧ (∀ x ∈ V, x ∈ G) ∧
          Iter pv wx W0.heap.size m (gF G) (fun x => (gF G x).isSome ∧ x ∉ V) n1 ∧ Below W0.heap.size W0 wx) (fun _ wx => iterLeft W0.heap.size m wx)
      case atStart => exact ⟨[], n0, World.ownsRow_nil _ _ _ _, List.nodup_nil, by simp, by simpa using HIT.out, hB0⟩
      case round =>
        obtain ⟨V, n1, hown, hnd, hin, hit, hbel⟩ := hrel
        have hleft := hit.left
        have hlen : V.length ≤ 200 := Nat.le_trans (nodup_sub_length hnd hin) hG.few
        have hlen2 : (news G t k V).length ≤ 200 := Nat.le_trans (news_length G t k V) hlen
        have HOWN := Lib.hid hown
        have HND := Lib.hid hnd
        have HIN := Lib.hid hin
        have HIT2 := Lib.hid hit
        have HBX := Lib.hid hbel
        obtain ⟨a8, c8, rfl⟩ := own_form hown
        clear hown hnd hin hit hbel
        go_wp2_with (first
          | (refine wpList_mapNext rfl _ rfl key31 rfl HIT2.out (fun hno => ?_) (fun x v w1 ob' n' hLx hfx hst hob hi' hlt hen => ?_); rotate_left; (obtain ⟨xa, xb⟩ := x; have hen1 := hen w1 (hst.2.2.2.2 m hmr) hob; have HST := Lib.hid hst; have HI2 := Lib.hid hi'; have HLX := Lib.hid hLx; have hown1 := ownsRow_alloc (ownsRow_alloc (ownsRow_stepped HOWN.out hst (Nat.lt_succ_self _)) (.cells #[.int .i64 xa, .int .i64 xb] 31)) (.cells #[iv xa] 3); have HOWN1 := Lib.hid hown1; have hc1 : ∀ j u, [iv xa][j]? = some u → ((w1.alloc (.cells #[.int .i64 xa, .int .i64 xb] 31)).alloc (.cells #[iv xa] 3)).cell? ((⟨w1.heap.size + 1, 0, none⟩ : Addr).add j) = some u := (fun j u h => by have := cell_one_new (w1.alloc (.cells #[.int .i64 xa, .int .i64 xb] 31)) (iv xa) 3 j u h; rw [World.size_alloc] at this; exact this); have HC1 := Lib.hid hc1; have hsz1 : W0.heap.size + 1 ≤ w1.heap.size := (by have h1 := HST.out.2.2.2.1; have h2 := HIT2.out.lt; omega); have hb1 : Below W0.heap.size W0 (w1.alloc (.cells #[.int .i64 xa, .int .i64 xb] 31)) := HBX.out.trans ((below_stepped hst (Nat.le_refl _)).alloc (by omega) _); have HFM := Lib.hid (HFAR.out.keep (hb1.block w.heap.size hwl)); have HL1 := Lib.hid (HL.out.keep (w' := w1.alloc (.cells #[.int .i64 xa, .int .i64 xb] 31)) (fun j hj => hb1.block j hj.2)); have HBA := Lib.hid hb1; clear hst hi' hLx hen hown1 hc1 hb1); rotate_left; (have HNO := Lib.hid hno; clear hno))
          | (refine wpList_look rfl _ _ 44 true rfl key3 Try.underlying44 Try.zero3 rfl HFM.out xa rfl ?_; obtain ⟨bb, hbb⟩ : ∃ bb, (fF (farS G t k) xa).isSome = bb := ⟨_, rfl⟩; obtain ⟨vv, hvv⟩ : ∃ vv, (fF (farS G t k) xa).getD (.int .i64 0) = vv := ⟨_, rfl⟩; simp only [if_true, hbb, hvv]; have HBB := Lib.hid hbb; clear hbb hvv)
          | (go_at_call 26; refine (contains_any L _ _ xb _ HL1.out).mono ?_; rintro e w' ⟨rfl, rfl⟩; obtain ⟨bc, hbc⟩ : ∃ bc, decide (xb ∈ L) = bc := ⟨_, rfl⟩; rw [hbc]; have HBC := Lib.hid hbc; clear hbc)
          | (at_builtin; refine wpList_append_own_at _ rfl _ _ 27 rfl (W0.heap.size + 1) 3 i0 (.int .i64 0) 1 8 Try.underlying27 hi hz0 hz1 hz2 rfl (by decide) _ _ _ rfl HOWN1.out ⟨w1.heap.size + 1, 0, none⟩ 1 1 [iv xa] rfl rfl HC1.out (by simp [Value.oneCell']) (by unfold maxLen; omega) (by omega) (by simp; omega) ?_; intro v' w2 hown2 hgrow hnil hloc))
        · -- the level is laid into the map
          have hVm : ∀ e, e ∈ V ↔ e ∈ G := fun e => ⟨HIN.out e, fun h => Classical.byContradiction (fun hn => HNO.out e ⟨by simp [gF, h], hn⟩)⟩
          have hnm : ∀ x, x ∈ news G t k V ↔ farS G t (k + 1) x = some (k + 1) := fun x => mem_news hVm
          have HNM := Lib.hid hnm
          have hint := (intsIn_row HOWN.out).bound
          have HINT := Lib.hid hint
          have hfm := HFAR.out.keep (HBX.out.block w.heap.size hwl)
          have HFM := Lib.hid hfm
          clear hVm hnm hint hfm
          generalize news G t k V = more at *
          obtain ⟨W1, rfl⟩ : ∃ W1, W1 = wr := ⟨wr, rfl⟩
          go_loopw [52] (fun i wx => ∃ j : Nat, j ≤ more.length ∧ i = .int .i64 j ∧ MapIs iv wx w.heap.size (fF (fun y => if y ∈ more.take j then some (k + 1) else farS G t k y)) ∧ Chg (fun b => b = w.heap.size) W1 wx) (fun i _ => more.length - (Lib.intOf i).toNat)
          case atStart => exact ⟨0, Nat.zero_le _, rfl, HFM.out.congr (fun x => by simp), Chg.refl _ _⟩
          case round =>
            obtain ⟨j, hj, rfl, hmp, hch⟩ := hrel
            have HMP := Lib.hid hmp
            have HCH := Lib.hid hch
            have hkeepI := HINT.out.keep (w' := wr) (fun b hb => hch.block b hb.2 (by have := hb.1; omega))
            clear hmp hch
            by_cases hjl : j < more.length
            · obtain ⟨x, hxj⟩ : ∃ x, more[j]? = some x := ⟨_, List.getElem?_eq_getElem hjl⟩
              have hki := hkeepI
              obtain ⟨a9, c9, e9, -, -, hx9⟩ := hki
              cases e9
              rcases hx9 with rfl | ⟨g9, o9, rfl, -, hc9⟩
              · simp at hjl
              have hcx := hc9 j x hxj
              have htk : more.take (j + 1) = more.take j ++ [x] := by rw [List.take_add_one, hxj]; simp
              have HTK := Lib.hid htk
              have q0 : (0 : Int) ≤ (j : Int) := by omega
              have q1 : (j : Int) < (more.length : Int) := by omega
              clear hc9 hxj htk hkeepI
              go_wp2_with ((refine wpList_mapStore rfl _ _ _ 44 rfl key3 Try.underlying44 rfl HMP.out x rfl (.int .i64 ((k : Int) + 1)) rfl ?_; intro ob3 hmap3))
              go_roundw
              case rel =>
                rw [show ((k : Int) + 1) = ((k + 1 : Nat) : Int) by omega, fF_upd] at hmap3
                refine ⟨j + 1, by omega, by go_num, hmap3.congr (fun y => ?_), HCH.out.trans (chg_setBlock (M := fun b => b = w.heap.size) rfl ob3)⟩
                unfold fF
                rw [HTK.out]
                by_cases h1 : y = x
                · simp [h1]
                · simp [h1]
              case measure => simp [Lib.intOf]; omega
            · obtain rfl : j = more.length := by omega
              have hk1 : ∀ y, (if y ∈ more.take more.length then some (k + 1) else farS G t k y) = farS G t (k + 1) y := fun y => by
                rw [List.take_length, farS_succ]
                simp only [HNM.out y]
              have HK1 := Lib.hid hk1
              have HKI := Lib.hid hkeepI
              clear hk1 hkeepI
              go_wp2
              go_roundw
              case rel =>
                refine ⟨k + 1, by omega, by go_num, more, HKI.out.mono (fun b hb => ⟨by have := hb.1; omega, Nat.lt_of_lt_of_le hb.2 HCH.out.size⟩), HNM.out, HMP.out.congr (fun y => by have := HK1.out y; unfold fF; simp only [this]), ?_⟩
                exact HBEL.out.trans ((HBX.out.mono HBEL.out.size).trans ⟨HCH.out.os, HCH.out.tape, HCH.out.output, HCH.out.size, fun b hb => HCH.out.block b (by have := HBX.out.size; have := HBEL.out.size; omega) (by omega)⟩)
              case measure => simp [Lib.intOf]; omega
        · -- it is there already
          have hbt : bb = true := by assumption
          have hco : comes G t k (xa, xb) = false := by
            have h1 := HBB.out
            rw [hbt] at h1
            unfold comes
            cases h2 : farS G t k xa with
            | none => simp [fF, h2] at h1
            | some d => simp
          have hnx : (xa, xb) ∉ V := HLX.out.2
          have hgx : (xa, xb) ∈ G := by
            have := HLX.out.1
            unfold gF at this
            split at this
            · assumption
            · cases this
          have hnd2 : (V ++ [(xa, xb)]).Nodup := List.nodup_append.2 ⟨HND.out, by simp, by rintro a ha b hb rfl; simp at hb; subst hb; exact hnx ha⟩
          have hin2 : ∀ x ∈ V ++ [(xa, xb)], x ∈ G := fun x hx => by
            rcases List.mem_append.1 hx with h | h
            · exact HIN.out x h
            · simp at h; subst h; exact hgx
          have hLe : (fun y => ((gF G y).isSome = true ∧ ¬y ∈ V) ∧ y ≠ (xa, xb)) = (fun y => (gF G y).isSome = true ∧ ¬ y ∈ V ++ [(xa, xb)]) := by
            funext y
            simp [and_assoc]
          have hi3 := HI2.out.keep (w' := w1.alloc (.cells #[.int .i64 xa, .int .i64 xb] 31)) (Go.heap_alloc_old w1 _ (by have := HIT2.out.lt.1; omega)) (Go.heap_alloc_old w1 _ (by omega))
          refine ⟨⟨V ++ [(xa, xb)], n', ?_, hnd2, hin2, by rw [← hLe]; exact hi3, ?_⟩, by rw [hi3.left]; omega⟩
          · rw [news_snoc, if_neg (by rw [hco]; simp), List.append_nil]
            exact ownsRow_alloc (ownsRow_stepped HOWN.out HST.out (Nat.lt_succ_self _)) _
          · exact HBX.out.trans ((below_stepped HST.out (Nat.le_refl _)).alloc (by omega) _)
        · -- it comes
          have hbt : bc = true := by assumption
          have hbn : ¬ bb = true := by assumption
          have hbf : bb = false := by simpa using hbn
          have hco : comes G t k (xa, xb) = true := by
            have h1 := HBB.out
            have h3 := HBC.out
            rw [hbf] at h1
            rw [hbt, decide_eq_true_eq, HLM.out] at h3
            unfold comes
            cases h2 : farS G t k xa with
            | none => simp [h3]
            | some d => simp [fF, h2] at h1
          have hnx : (xa, xb) ∉ V := HLX.out.2
          have hgx : (xa, xb) ∈ G := by
            have := HLX.out.1
            unfold gF at this
            split at this
            · assumption
            · cases this
          have hnd2 : (V ++ [(xa, xb)]).Nodup := List.nodup_append.2 ⟨HND.out, by simp, by rintro a ha b hb rfl; simp at hb; subst hb; exact hnx ha⟩
          have hin2 : ∀ x ∈ V ++ [(xa, xb)], x ∈ G := fun x hx => by
            rcases List.mem_append.1 hx with h | h
            · exact HIN.out x h
            · simp at h; subst h; exact hgx
          have hLe : (fun y => ((gF G y).isSome = true ∧ ¬y ∈ V) ∧ y ≠ (xa, xb)) = (fun y => (gF G y).isSome = true ∧ ¬ y ∈ V ++ [(xa, xb)]) := by
            funext y
            simp [and_assoc]
          have hch : Chg (fun k => W0.heap.size + 1 ≤ k) ((w1.alloc (.cells #[.int .i64 xa, .int .i64 xb] 31)).alloc (.cells #[iv xa] 3)) w2 := chg_grown hgrow (fun k e => (ownsRow_base HOWN.out e).1)
          have hold : ∀ k, k ≤ W0.heap.size → w2.heap[k]? = w1.heap[k]? := fun k hk => (hch.block k (by simp; omega) (by omega)).trans ((Go.heap_alloc_old _ _ (by simp; omega)).trans (Go.heap_alloc_old w1 _ (by omega)))
          have hi3 := HI2.out.keep (hold m (by have := HIT2.out.lt.1; have := HBEL.out.size; omega)) (hold _ (Nat.le_refl _))
          refine ⟨⟨V ++ [(xa, xb)], n', ?_, hnd2, hin2, by rw [← hLe]; exact hi3, ?_⟩, by rw [hi3.left]; omega⟩
          · rw [news_snoc, if_pos hco, List.length_append, List.map_append]
            exact hown2
          · refine HBX.out.trans (Below.trans (below_stepped HST.out (Nat.le_refl _)) ?_)
            exact ⟨hch.os, hch.tape, hch.output, by have := hch.size; simp at this; omega, fun k hk => hold k (by omega)⟩
        · -- its head is not in the level
          have hbt : bc = false := by assumption
          have hco : comes G t k (xa, xb) = false := by
            have h3 := HBC.out
            rw [hbt, decide_eq_false_iff_not, HLM.out] at h3
            unfold comes
            simp [h3]
          have hnx : (xa, xb) ∉ V := HLX.out.2
          have hgx : (xa, xb) ∈ G := by
            have := HLX.out.1
            unfold gF at this
            split at this
            · assumption
            · cases this
          have hnd2 : (V ++ [(xa, xb)]).Nodup := List.nodup_append.2 ⟨HND.out, by simp, by rintro a ha b hb rfl; simp at hb; subst hb; exact hnx ha⟩
          have hin2 : ∀ x ∈ V ++ [(xa, xb)], x ∈ G := fun x hx => by
            rcases List.mem_append.1 hx with h | h
            · exact HIN.out x h
            · simp at h; subst h; exact hgx
          have hLe : (fun y => ((gF G y).isSome = true ∧ ¬y ∈ V) ∧ y ≠ (xa, xb)) = (fun y => (gF G y).isSome = true ∧ ¬ y ∈ V ++ [(xa, xb)]) := by
            funext y
            simp [and_assoc]
          have hi3 := HI2.out.keep (w' := w1.alloc (.cells #[.int .i64 xa, .int .i64 xb] 31)) (Go.heap_alloc_old w1 _ (by have := HIT2.out.lt.1; omega)) (Go.heap_alloc_old w1 _ (by omega))
          refine ⟨⟨V ++ [(xa, xb)], n', ?_, hnd2, hin2, by rw [← hLe]; exact hi3, ?_⟩, by rw [hi3.left]; omega⟩
          · rw [news_snoc, if_neg (by rw [hco]; simp), List.append_nil]
            exact ownsRow_alloc (ownsRow_stepped HOWN.out HST.out (Nat.lt_succ_self _)) _
          · exact HBX.out.trans ((below_stepped HST.out (Nat.le_refl _)).alloc (by omega) _)
end Go.Proofs.Ytkfmgeddckcnkaa
