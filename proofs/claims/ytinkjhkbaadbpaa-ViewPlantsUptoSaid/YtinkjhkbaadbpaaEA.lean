/- The numbers of a store's nodes, rising. -/
import Derived.Test.YtinkjhkbaadbpaaSO
import Derived.Maps.AppendAt
namespace Go.Proofs.Ytinkjhkbaadbpaa
set_option linter.unusedVariables false
open Go.RowKit
open Go.ChangeMaps (setBlock)

def IdsOf (S : Store) (zs : List Int) : Prop := zs.Pairwise (· < ·) ∧ ∀ id, id ∈ zs ↔ S.N id ≠ []
def Store.Keys (S : Store) : Prop := ∀ id, S.N id ≠ [] → 1 ≤ id ∧ id ≤ S.given

theorem sorted_strict {zs : List Int} (h : zs.Nodup) : (sorted zs).Pairwise (· < ·) := by
  have h1 := sorted_rise zs
  have h2 : (sorted zs).Nodup := (sorted_perm zs).nodup_iff.2 h
  refine (h1.and h2).imp ?_
  rintro a b ⟨h, h'⟩
  omega
theorem rising_bound : ∀ {zs : List Int} {a b : Int}, zs.Pairwise (· < ·) → (∀ x ∈ zs, a ≤ x ∧ x ≤ b) → (zs.length : Int) ≤ max 0 (b - a + 1)
  | [], _, _, _, _ => by simp; omega
  | x :: xs, a, b, hp, h => by
    obtain ⟨h1, h2⟩ := List.pairwise_cons.1 hp
    have hx := h x (by simp)
    have := rising_bound (a := x + 1) (b := b) h2 (fun y hy => ⟨by have := h1 y hy; omega, (h y (by simp [hy])).2⟩)
    simp only [List.length_cons]
    omega
theorem nodup_bound {zs : List Int} {g : Int} (hn : zs.Nodup) (hg : 0 ≤ g) (h : ∀ x ∈ zs, 1 ≤ x ∧ x ≤ g) : (zs.length : Int) ≤ g := by
  have := rising_bound (zs := sorted zs) (a := 1) (b := g) (sorted_strict hn) (fun x hx => h x ((sorted_perm zs).mem_iff.1 hx))
  rw [sorted_length] at this
  omega

def iterLeft (r b : Nat) (w : World) : Nat :=
  match w.heap[b]?, w.heap[r]? with
  | some (.map es _), some (.mapIter _ _ seen _) => (leftOf es seen).size
  | _, _ => 0
theorem Iter.left {κ : Type} {enc : κ → Value} {w : World} {r b n : Nat} {f : κ → Option Value} {L : κ → Prop} (h : Iter enc w r b f L n) : iterLeft r b w = n := by
  obtain ⟨es, clock, since, seen, last, hb, hr, _, _, _, _, hn⟩ := h
  simp [iterLeft, hb, hr, hn]

theorem ownsRow_base {w : World} {B e size n : Nat} {v : Value} {xs : List Value} (h : w.ownsRow B e size v n xs) {g : Nat} (hg : v.ownBlock = some g) : B ≤ g ∧ g < w.heap.size := by
  rcases h.2 with ⟨rfl, _⟩ | ⟨g', cap, cur, rfl, hb, hh, _⟩
  · cases hg
  · cases hg; exact ⟨hb, (Array.getElem?_eq_some_iff.1 hh).1⟩
theorem ownsRow_stepped {w w' : World} {r B e size n : Nat} {v : Value} {xs : List Value} (h : w.ownsRow B e size v n xs) (hs : Stepped w w' r) (hr : r < B) : w'.ownsRow B e size v n xs :=
  ownsRow_keeps h (fun g hg => hs.2.2.2.2 g (by have := (ownsRow_base h hg).1; omega))
theorem ownsRow_alloc {w : World} {B e size n : Nat} {v : Value} {xs : List Value} (h : w.ownsRow B e size v n xs) (o : Obj) : (w.alloc o).ownsRow B e size v n xs :=
  ownsRow_keeps h (fun g hg => Go.heap_alloc_old w o (ownsRow_base h hg).2)
theorem below_stepped {B r : Nat} {w w' : World} (hs : Stepped w w' r) (hr : B ≤ r) : Below B w w' := ⟨hs.1, hs.2.1, hs.2.2.1, by rw [hs.2.2.2.1]; exact Nat.le_refl _, fun k hk => hs.2.2.2.2 k (by omega)⟩

set_option maxRecDepth 100000 in
set_option maxHeartbeats 4000000 in
theorem each_any {R D : Nat → Prop} {w : World} {p : Value} {S : Store} (h : StoreIn R D w p S) (hK : S.Keys) (hg0 : 0 ≤ S.given) (hg : S.given ≤ 1099511627776) :
    Calls Try.prog 93 #[p] w fun e w' => ∃ B sv zs, e = .returned (.func (.func 144) #[] #[.pointer (some ⟨B, 0, none⟩)]) ∧ w'.cell? ⟨B, 0, none⟩ = some sv ∧ w.heap.size ≤ B ∧ B < w'.heap.size ∧
      IntsIn (fun k => w.heap.size ≤ k ∧ k < w'.heap.size) w' sv zs ∧ IdsOf S zs ∧ Below w.heap.size w w' := by
  obtain ⟨s, m, f, rfl, hs, hm, hb, hf, h1, h2, h3⟩ := h
  have c0 : w.cell? ⟨s, 0, none⟩ = some (.map (some m)) := by simp [World.cell?, hb]
  have hkeys : ∀ id, (f id).isSome ↔ S.N id ≠ [] := fun id => by
    cases e : f id with
    | none => simp [h2 id e]
    | some v => simp [(h1 id v e).1]
  have HK := Lib.hid hkeys
  have HF := Lib.hid hf
  clear hb hf h1 h2 h3 hkeys
  obtain ⟨i0, hi, hz0, hz1, hz2⟩ := info_parts Try.info3
  go_enter Try.func93, Try.ntmps93
  go_wp2_with ((refine wpList_mapRange rfl _ 96 rfl Try.underlying96 rfl HF.out ?_; intro ob n0 hit))
  have hB0 : Below w.heap.size w (w.alloc ob) := (Below.refl _ w).alloc (Nat.le_refl _) _
  have hmr : m ≠ w.heap.size := hit.ne.symm
  have HIT := Lib.hid hit
  have hBm : m < w.heap.size := HF.out.lt
  clear hit
  go_simp
  go_loopw [3] (fun v wr => ∃ (L : List Int) (n : Nat), wr.ownsRow (w.heap.size + 1) 3 1 v L.length (L.map iv) ∧ L.Nodup ∧ (∀ x ∈ L, (f x).isSome) ∧
      Iter iv wr w.heap.size m f (fun x => (f x).isSome ∧ x ∉ L) n ∧ Below w.heap.size w wr) (fun _ wr => iterLeft w.heap.size m wr)
  case atStart => exact ⟨[], n0, World.ownsRow_nil _ _ _ _, List.nodup_nil, by simp, by simpa using HIT.out, hB0⟩
  case round =>
    obtain ⟨L, n, hown, hnd, hin, hit, hbel⟩ := hrel
    have hleft := hit.left
    have hlen : (L.length : Int) ≤ S.given := nodup_bound hnd hg0 (fun x hx => hK x ((HK.out x).1 (hin x hx)))
    have HOWN := Lib.hid hown
    have HND := Lib.hid hnd
    have HIN := Lib.hid hin
    have HIT2 := Lib.hid hit
    have HBEL := Lib.hid hbel
    clear hown hnd hin hit hbel
    go_wp2_with (first
      | (refine wpList_mapNext rfl _ rfl key3 rfl HIT2.out (fun hno => ?_) (fun x v w1 ob' n' hLx hfx hst hob hi' hlt hen => ?_); rotate_left; (have hown1 := ownsRow_alloc (ownsRow_stepped HOWN.out hst (Nat.lt_succ_self _)) (.cells #[iv x] 3); have hen1 := hen w1 (hst.2.2.2.2 m hmr) hob; have HOWN1 := Lib.hid hown1; have HST := Lib.hid hst; have HI2 := Lib.hid hi'; have HLX := Lib.hid hLx; clear hown1 hst hi' hLx hen); rotate_left; (have HNO := Lib.hid hno; clear hno))
      | (at_builtin; refine wpList_append_own_at _ rfl _ _ 33 rfl (w.heap.size + 1) 3 i0 (.int .i64 0) 1 8 Try.underlying33 hi hz0 hz1 hz2 rfl (by decide) _ _ _ rfl HOWN1.out ⟨w1.heap.size, 0, none⟩ 1 1 [iv x] rfl rfl (cell_one_new _ _ _) (by simp [Value.oneCell']) (by unfold maxLen; omega) (by omega) (by have := HBEL.out.size; have := HST.out.2.2.2.1; simp; omega) ?_; intro v' w2 hown2 hgrow hnil hloc))
    case roundEnd =>
      have hch : Chg (fun k => w.heap.size + 1 ≤ k) (w1.alloc (.cells #[iv x] 3)) w2 := chg_grown hgrow (fun k e => (ownsRow_base HOWN.out e).1)
      have hold : ∀ k, k ≤ w.heap.size → w2.heap[k]? = w1.heap[k]? := fun k hk => by
        have hk1 : k < w1.heap.size := by have := HI2.out.lt; omega
        exact (hch.block k (by simp; omega) (by omega)).trans (Go.heap_alloc_old w1 _ hk1)
      have hi3 := (HI2.out.keep (hold m (by omega)) (hold _ (Nat.le_refl _)))
      refine ⟨⟨L ++ [x], n', ?_, ?_, ?_, ?_, ?_⟩, ?_⟩
      · simpa using hown2
      · exact List.nodup_append.2 ⟨HND.out, by simp, by rintro a ha b hb rfl; simp at hb; subst hb; exact HLX.out.2 ha⟩
      · intro y hy
        rcases List.mem_append.1 hy with h | h
        · exact HIN.out y h
        · simp at h; subst h; exact HLX.out.1
      · have e : (fun y => ((f y).isSome = true ∧ ¬y ∈ L) ∧ y ≠ x) = (fun y => (f y).isSome = true ∧ ¬ y ∈ L ++ [x]) := by
          funext y
          simp [and_assoc]
        rw [← e]
        exact hi3
      · refine HBEL.out.trans (Below.trans (below_stepped HST.out (Nat.le_refl _)) ?_)
        refine ⟨hch.os, hch.tape, hch.output, by have := hch.size; simp at this; omega, fun k hk => hold k (by omega)⟩
      · rw [hi3.left]
        omega
    have hids : IdsOf S (sorted L) := by
      refine ⟨sorted_strict HND.out, fun id => ?_⟩
      rw [(sorted_perm L).mem_iff, ← HK.out id]
      constructor
      · exact fun h => HIN.out id h
      · intro h
        apply Classical.byContradiction
        intro hn
        exact HNO.out id ⟨h, hn⟩
    have HIDS := Lib.hid hids
    clear hids
    obtain ⟨hll, ⟨rfl, hl0⟩ | ⟨g, cap, cur, rfl, hbg, hgg, hlc, hcm, hcs, htake⟩⟩ := HOWN.out
    · obtain rfl : L = [] := List.eq_nil_of_length_eq_zero hl0
      refine (sort_none none 0 wr).mono ?_
      rintro e w' ⟨rfl, rfl⟩
      go_wp2_with (go_at_call 125; refine (values_any _ _ _ _).mono ?_; rintro e w' ⟨rfl, rfl⟩)
      go_ret
      refine ⟨wr.heap.size, .slice none 0 0, [], rfl, by simp [go_sem], HBEL.out.size, by simp, intsIn_nil _ _, (by have := HIDS.out; simpa [sorted] using this), HBEL.out.trans ((Below.refl _ _).alloc HBEL.out.size _)⟩
    · rw [Nat.mul_one] at htake
      have hglt := (Array.getElem?_eq_some_iff.1 hgg).1
      refine (sort_any g cap L cur wr hgg (by omega) htake).mono ?_
      rintro e w2 ⟨rfl, hch, hsd⟩
      have HSD := Lib.hid hsd
      clear hsd
      go_wp2_with (go_at_call 125; refine (values_any _ _ _ _).mono ?_; rintro e w' ⟨rfl, rfl⟩)
      go_ret
      have hsz2 : w.heap.size ≤ w2.heap.size := Nat.le_trans HBEL.out.size hch.size
      have hg2 : g < w2.heap.size := Nat.lt_of_lt_of_le hglt hch.size
      refine ⟨w2.heap.size, _, sorted L, rfl, cell_one_new w2 _ _ 0 _ rfl, hsz2, by simp, ?_, HIDS.out, HBEL.out.trans (Below.trans (b := w2) ⟨hch.os, hch.tape, hch.output, hch.size, fun k hk => hch.block k (by omega) (by omega)⟩ ((Below.refl _ _).alloc hsz2 _))⟩
      refine ⟨_, cap, by rw [sorted_length], by rw [sorted_length]; exact hlc, hcm, .inr ⟨g, 0, rfl, ⟨by omega, by simp; omega⟩, fun j x hj => ?_⟩⟩
      exact (World.cell?_of_block (a := ⟨g, 0 + j, none⟩) (Go.heap_alloc_old w2 _ hg2)).trans (HSD.out j x hj)
end Go.Proofs.Ytinkjhkbaadbpaa
