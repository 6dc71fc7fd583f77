/- For whom a number waits, rising: next. -/
import Derived.Test.YtkfmgeddckcnkaaOF
namespace Go.Proofs.Ytkfmgeddckcnkaa
open Go.RowKit
open Go.ChangeMaps (setBlock)
set_option linter.unusedVariables false

def nextOf (G : List Edge) (n : Int) : List Int := ((List.range 1001).map (fun k : Nat => (k : Int))).filter (fun y => decide ((n, y) ∈ G))
/-- edges among numbers from 1 to 1000 -/
structure Fine (G : List Edge) : Prop where
  few : G.length ≤ 200
  all : ∀ e ∈ G, counts e = true
theorem fine_edgesOf (l : List Edge) : Fine (edgesOf l) := ⟨Nat.le_trans (List.length_filter_le _ _) (by rw [List.length_take]; omega), fun e he => (List.mem_filter.1 he).2⟩
theorem Fine.range {G : List Edge} (h : Fine G) {e : Edge} (he : e ∈ G) : (1 ≤ e.1 ∧ e.1 ≤ 1000) ∧ (1 ≤ e.2 ∧ e.2 ≤ 1000) ∧ e.1 ≠ e.2 := by
  have := h.all e he
  simp [counts, rightN] at this
  exact ⟨this.1.1, this.1.2, this.2⟩
theorem nextOf_rise (G : List Edge) (n : Int) : (nextOf G n).Pairwise (· < ·) := by
  unfold nextOf
  refine List.Pairwise.filter _ ?_
  rw [List.pairwise_map]
  exact List.pairwise_lt_range.imp (fun h => by omega)
theorem mem_nextOf {G : List Edge} (h : Fine G) {n y : Int} : y ∈ nextOf G n ↔ (n, y) ∈ G := by
  unfold nextOf
  rw [List.mem_filter]
  constructor
  · rintro ⟨_, h2⟩; simpa using h2
  · intro he
    have := (h.range he).2.1
    simp only at this
    refine ⟨List.mem_map.2 ⟨y.toNat, List.mem_range.2 (by omega), by omega⟩, by simpa using he⟩
theorem rising_same {xs ys : List Int} (hx : xs.Pairwise (· < ·)) (hy : ys.Pairwise (· < ·)) (h : ∀ z, z ∈ xs ↔ z ∈ ys) : xs = ys := by
  refine List.Perm.eq_of_pairwise (le := fun a b => a < b) (fun a b _ _ h1 h2 => by omega) hx hy ((List.perm_ext_iff_of_nodup (hx.imp (fun hab => Int.ne_of_lt hab)) (hy.imp (fun hab => Int.ne_of_lt hab))).2 h)
theorem nodup_sub_length {α : Type} [DecidableEq α] : ∀ {l m : List α}, l.Nodup → (∀ x ∈ l, x ∈ m) → l.length ≤ m.length
  | [], _, _, _ => Nat.zero_le _
  | a :: l, m, hn, hs => by
    obtain ⟨h1, h2⟩ := List.nodup_cons.1 hn
    have ha := hs a (by simp)
    have := nodup_sub_length (l := l) (m := m.erase a) h2 (fun x hx => (List.mem_erase_of_ne (by rintro rfl; exact h1 hx)).2 (hs x (by simp [hx])))
    rw [List.length_erase_of_mem ha] at this
    have hp := List.length_pos_of_mem ha
    simp only [List.length_cons]; omega
def outs (n : Int) (V : List Edge) : List Int := (V.filter (fun e => decide (e.1 = n))).map (·.2)
theorem outs_snoc (n : Int) (V : List Edge) (e : Edge) : outs n (V ++ [e]) = outs n V ++ (if e.1 = n then [e.2] else []) := by
  unfold outs
  rw [List.filter_append, List.map_append]
  congr 1
  by_cases h : e.1 = n <;> simp [h]
theorem outs_nodup {n : Int} {V : List Edge} (h : V.Nodup) : (outs n V).Nodup := by
  unfold outs
  induction V with
  | nil => simp
  | cons e V ih =>
    obtain ⟨h1, h2⟩ := List.nodup_cons.1 h
    rw [List.filter_cons]
    split
    · rename_i he
      simp only [decide_eq_true_eq] at he
      rw [List.map_cons, List.nodup_cons]
      refine ⟨fun hm => ?_, ih h2⟩
      obtain ⟨e', he', hs⟩ := List.mem_map.1 hm
      obtain ⟨q1, q2⟩ := List.mem_filter.1 he'
      simp only [decide_eq_true_eq] at q2
      have : e' = e := Prod.ext (by rw [q2, he]) hs
      exact h1 (this ▸ q1)
    · exact ih h2
theorem mem_outs {n y : Int} {V : List Edge} : y ∈ outs n V ↔ (n, y) ∈ V := by
  unfold outs
  rw [List.mem_map]
  constructor
  · rintro ⟨e, he, rfl⟩
    obtain ⟨q1, q2⟩ := List.mem_filter.1 he
    simp only [decide_eq_true_eq] at q2
    rw [← q2]; exact q1
  · intro h
    exact ⟨(n, y), List.mem_filter.2 ⟨h, by simp⟩, rfl⟩
theorem outs_length (n : Int) (V : List Edge) : (outs n V).length ≤ V.length := by
  unfold outs
  rw [List.length_map]
  exact List.length_filter_le _ _

set_option maxRecDepth 100000 in
set_option maxHeartbeats 4000000 in
theorem next_any {w : World} {m : Nat} {G : List Edge} (hg : GIs w m G) (hG : Fine G) (n : Int) :
    Calls Try.prog 25 #[.map (some m), .int .i64 n] w fun e w' => (∃ v, e = .returned v ∧ IntsIn (fun k => w.heap.size ≤ k ∧ k < w'.heap.size) w' v (nextOf G n)) ∧ Below w.heap.size w w' := by
  have HG := Lib.hid hg
  have hml : m < w.heap.size := hg.lt
  obtain ⟨i0, hi, hz0, hz1, hz2⟩ := info_parts Try.info3
  clear hg
  go_enter Try.func25, Try.ntmps25
  go_wp2_with ((refine wpList_mapRange rfl _ 33 rfl Try.underlying33 rfl HG.out ?_; intro ob n0 hit))
  have hB0 : Below w.heap.size w (w.alloc ob) := (Below.refl _ w).alloc (Nat.le_refl _) _
  have hmr : m ≠ w.heap.size := hit.ne.symm
  have HIT := Lib.hid hit
  clear hit
  go_simp
  go_loopw [5] (fun v wr => ∃ (V : List Edge) (n1 : Nat), wr.ownsRow (w.heap.size + 1) 3 1 v (outs n V).length ((outs n V).map iv) ∧ V.Nodup ∧ (∀ x ∈ V, x ∈ G) ∧
      Iter pv wr w.heap.size m (gF G) (fun x => (gF G x).isSome ∧ x ∉ V) n1 ∧ Below w.heap.size w wr) (fun _ wr => iterLeft w.heap.size m wr)
  case atStart => exact ⟨[], n0, World.ownsRow_nil _ _ _ _, List.nodup_nil, by simp, by simpa using HIT.out, hB0⟩
  case round =>
    obtain ⟨V, n1, hown, hnd, hin, hit, hbel⟩ := hrel
    have hleft := hit.left
    have hlen : V.length ≤ 200 := Nat.le_trans (nodup_sub_length hnd hin) hG.few
    have hlen2 : (outs n V).length ≤ 200 := Nat.le_trans (outs_length n V) hlen
    have HOWN := Lib.hid hown
    have HND := Lib.hid hnd
    have HIN := Lib.hid hin
    have HIT2 := Lib.hid hit
    have HBEL := Lib.hid hbel
    clear hown hnd hin hit hbel
    go_wp2_with (first
      | (refine wpList_mapNext rfl _ rfl key31 rfl HIT2.out (fun hno => ?_) (fun x v w1 ob' n' hLx hfx hst hob hi' hlt hen => ?_); rotate_left; (obtain ⟨xa, xb⟩ := x; have hen1 := hen w1 (hst.2.2.2.2 m hmr) hob; have HST := Lib.hid hst; have HI2 := Lib.hid hi'; have HLX := Lib.hid hLx; have hown1 := ownsRow_alloc (ownsRow_alloc (ownsRow_stepped HOWN.out hst (Nat.lt_succ_self _)) (.cells #[.int .i64 xa, .int .i64 xb] 31)) (.cells #[iv xb] 3); have HOWN1 := Lib.hid hown1; have hc1 : ∀ j u, [iv xb][j]? = some u → ((w1.alloc (.cells #[.int .i64 xa, .int .i64 xb] 31)).alloc (.cells #[iv xb] 3)).cell? ((⟨w1.heap.size + 1, 0, none⟩ : Addr).add j) = some u := (fun j u h => by have := cell_one_new (w1.alloc (.cells #[.int .i64 xa, .int .i64 xb] 31)) (iv xb) 3 j u h; rw [World.size_alloc] at this; exact this); have HC1 := Lib.hid hc1; have hsz1 : w.heap.size + 1 ≤ w1.heap.size := (by have h1 := HST.out.2.2.2.1; have h2 := HIT2.out.lt; omega); clear hst hi' hLx hen hown1 hc1); rotate_left; (have HNO := Lib.hid hno; clear hno))
      | (at_builtin; refine wpList_append_own_at _ rfl _ _ 27 rfl (w.heap.size + 1) 3 i0 (.int .i64 0) 1 8 Try.underlying27 hi hz0 hz1 hz2 rfl (by decide) _ _ _ rfl HOWN1.out ⟨w1.heap.size + 1, 0, none⟩ 1 1 [iv xb] rfl rfl HC1.out (by simp [Value.oneCell']) (by unfold maxLen; omega) (by omega) (by simp; omega) ?_; intro v' w2 hown2 hgrow hnil hloc))
    · have hzs : sorted (outs n V) = nextOf G n := rising_same (sorted_strict (outs_nodup HND.out)) (nextOf_rise G n) (fun z => by
        rw [(sorted_perm _).mem_iff, mem_outs, mem_nextOf hG]
        refine ⟨fun h => HIN.out _ h, fun h => Classical.byContradiction (fun hn => HNO.out (n, z) ⟨by simp [gF, h], hn⟩)⟩)
      have HZS := Lib.hid hzs
      clear hzs
      obtain ⟨hll, ⟨rfl, hl0⟩ | ⟨g, cap, cur, rfl, hbg, hgg, hlc, hcm, hcs, htake⟩⟩ := HOWN.out
      · have hnil : outs n V = [] := List.eq_nil_of_length_eq_zero hl0
        refine (sort_none none 0 wr).mono ?_
        rintro e w' ⟨rfl, rfl⟩
        go_wp2
        go_ret
        refine ⟨⟨_, rfl, ?_⟩, HBEL.out⟩
        rw [← HZS.out, hnil, show sorted ([] : List Int) = [] by simp [sorted]]
        exact intsIn_nil _ _
      · rw [Nat.mul_one] at htake
        have hglt := (Array.getElem?_eq_some_iff.1 hgg).1
        refine (sort_any g cap (outs n V) cur wr hgg (by omega) htake).mono ?_
        rintro e w2 ⟨rfl, hch, hsd⟩
        have HSD := Lib.hid hsd
        clear hsd
        go_wp2
        go_ret
        have hsz2 : w.heap.size ≤ w2.heap.size := Nat.le_trans HBEL.out.size hch.size
        refine ⟨⟨_, rfl, ?_⟩, HBEL.out.trans ⟨hch.os, hch.tape, hch.output, hch.size, fun k hk => hch.block k (by have := HBEL.out.size; omega) (by omega)⟩⟩
        rw [← HZS.out]
        exact ⟨_, cap, by rw [sorted_length]; rfl, by rw [sorted_length]; exact hlc, hcm, .inr ⟨g, 0, rfl, ⟨by omega, Nat.lt_of_lt_of_le hglt hch.size⟩, HSD.out⟩⟩
    · have hxb : (xa == n) = true := by assumption
      have hxn : xa = n := by simpa using hxb
      have hnx : (xa, xb) ∉ V := HLX.out.2
      have hgx : (xa, xb) ∈ G := by
        have := HLX.out.1
        unfold gF at this
        split at this
        · assumption
        · cases this
      have hnd2 : (V ++ [(xa, xb)]).Nodup := List.nodup_append.2 ⟨HND.out, by simp, by rintro a ha b hb rfl; simp at hb; subst hb; exact hnx ha⟩
      have hin2 : ∀ x ∈ V ++ [(xa, xb)], x ∈ G := fun x hx => by
        rcases List.mem_append.1 hx with h | h
        · exact HIN.out x h
        · simp at h; subst h; exact hgx
      have hLe : (fun y => ((gF G y).isSome = true ∧ ¬y ∈ V) ∧ y ≠ (xa, xb)) = (fun y => (gF G y).isSome = true ∧ ¬ y ∈ V ++ [(xa, xb)]) := by
        funext y
        simp [and_assoc]
      have hch : Chg (fun k => w.heap.size + 1 ≤ k) ((w1.alloc (.cells #[.int .i64 xa, .int .i64 xb] 31)).alloc (.cells #[iv xb] 3)) w2 := chg_grown hgrow (fun k e => (ownsRow_base HOWN.out e).1)
      have hold : ∀ k, k ≤ w.heap.size → w2.heap[k]? = w1.heap[k]? := fun k hk => (hch.block k (by simp; omega) (by omega)).trans ((Go.heap_alloc_old _ _ (by simp; omega)).trans (Go.heap_alloc_old w1 _ (by omega)))
      have hi3 := HI2.out.keep (hold m (by have := HIT2.out.lt.1; omega)) (hold _ (Nat.le_refl _))
      refine ⟨⟨V ++ [(xa, xb)], n', ?_, hnd2, hin2, by rw [← hLe]; exact hi3, ?_⟩, by rw [hi3.left]; omega⟩
      · rw [outs_snoc, if_pos hxn, List.length_append, List.map_append]
        exact hown2
      · refine HBEL.out.trans (Below.trans (below_stepped HST.out (Nat.le_refl _)) ?_)
        exact ⟨hch.os, hch.tape, hch.output, by have := hch.size; simp at this; omega, fun k hk => hold k (by omega)⟩
    · have hxb : (xa == n) = false := by assumption
      have hxn : ¬ xa = n := by simpa using hxb
      have hnx : (xa, xb) ∉ V := HLX.out.2
      have hgx : (xa, xb) ∈ G := by
        have := HLX.out.1
        unfold gF at this
        split at this
        · assumption
        · cases this
      have hnd2 : (V ++ [(xa, xb)]).Nodup := List.nodup_append.2 ⟨HND.out, by simp, by rintro a ha b hb rfl; simp at hb; subst hb; exact hnx ha⟩
      have hin2 : ∀ x ∈ V ++ [(xa, xb)], x ∈ G := fun x hx => by
        rcases List.mem_append.1 hx with h | h
        · exact HIN.out x h
        · simp at h; subst h; exact hgx
      have hLe : (fun y => ((gF G y).isSome = true ∧ ¬y ∈ V) ∧ y ≠ (xa, xb)) = (fun y => (gF G y).isSome = true ∧ ¬ y ∈ V ++ [(xa, xb)]) := by
        funext y
        simp [and_assoc]
      have hi3 := HI2.out.keep (w' := w1.alloc (.cells #[.int .i64 xa, .int .i64 xb] 31)) (Go.heap_alloc_old w1 _ (by have := HIT2.out.lt.1; omega)) (Go.heap_alloc_old w1 _ (by omega))
      refine ⟨⟨V ++ [(xa, xb)], n', ?_, hnd2, hin2, by rw [← hLe]; exact hi3, ?_⟩, by rw [hi3.left]; omega⟩
      · rw [outs_snoc, if_neg hxn, List.append_nil]
        exact ownsRow_alloc (ownsRow_stepped HOWN.out HST.out (Nat.lt_succ_self _)) _
      · exact HBEL.out.trans ((below_stepped HST.out (Nat.le_refl _)).alloc (by omega) _)
end Go.Proofs.Ytkfmgeddckcnkaa
