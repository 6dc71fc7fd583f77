/- The reference's Go (97). -/
import Derived.Test.YtinkjhkbaadbpaaWS
namespace Go.Proofs.Ytinkjhkbaadbpaa
open Go.RowKit
set_option linter.unusedVariables false

/-- f answers what g says; the lists lie in what was there at w, or are new -/
def ReadsN (f : Nat) (w : World) (v : Nat) (g : Int → Option Rec) : Prop :=
  ∀ W, Below w.heap.size w W → ∀ id, Calls Try.prog f #[ptr v, iv id] W fun e w' => RecIn (fun k => (k < w.heap.size ∨ W.heap.size ≤ k) ∧ k < w'.heap.size) w' (g id) e ∧ Below W.heap.size W w'
section
variable {R Ds Rd Dd : Nat → Prop} {n0 : Nat} {w w' : World} {v m s v2 s2 : Nat} {V : Vw} {S : Store} {V2 : RVw} {d : Doc}
theorem Duo.readsN (h : Duo R Ds Rd Dd n0 w v m s v2 s2 V S V2 d) (hS : S.Wf) : ReadsN 29 w v (V.get S) := fun W hW id => by
  refine ((h.below hW).get hS id).mono ?_
  rintro e w' ⟨⟨kv, av, he, h1, h2⟩, hb⟩
  exact ⟨⟨kv, av, he, h1.bound.mono (fun k hk => ⟨.inr hk.1, hk.2⟩), h2.bound.mono (fun k hk => ⟨.inr hk.1, hk.2⟩)⟩, hb⟩
theorem Duo.rreadsN (h : Duo R Ds Rd Dd n0 w v m s v2 s2 V S V2 d) (hl : V2.own.length ≤ 1000000000) (hld : d.L.length ≤ 1000000000) : ReadsN 76 w v2 (V2.get d) := fun W hW id => by
  obtain ⟨D, D2, h⟩ := h
  have h9 := h.rvs.below hW
  refine (rget_any h9 hl hld id).mono ?_
  rintro e w' ⟨⟨kv, av, he, h1, h2⟩, hb⟩
  have hlt : ∀ k, (D2 k ∨ Dd k) → k < w.heap.size := fun k hk => hk.elim (fun h8 => (h.rvs.dl k h8).1) (fun h8 => (h.rvs.ddl k h8).1)
  exact ⟨⟨kv, av, he, h1.bound.mono (fun k hk => ⟨.inl (hlt k hk.1), hk.2⟩), h2.bound.mono (fun k hk => ⟨.inl (hlt k hk.1), hk.2⟩)⟩, hb⟩
end
theorem ReadsN.reads {f : Nat} {w : World} {v : Nat} {g : Int → Option Rec} (h : ReadsN f w v g) : Reads f w v g := fun W hW id => (h W hW id).mono fun e w' ⟨⟨kv, av, he, h1, h2⟩, hb⟩ => ⟨⟨kv, av, he, h1.mono (fun k hk => hk.2), h2.mono (fun k hk => hk.2)⟩, hb⟩

def attrsOf (acc : List (Int × Bool)) : List Int := (acc.filter (·.2)).map (·.1)
/-- the reference's Way in memory: block y; its rows lie in B -/
def WayIn (B : Nat → Prop) (w : World) (y : Nat) (acc : List (Int × Bool)) : Prop :=
  ∃ sA sT, w.heap[y]? = some (.cells #[sA, sT] 158 (0, 0)) ∧ w.ownsRow 0 3 1 sA acc.length (acc.map (fun x => iv x.1)) ∧ w.ownsRow 0 3 1 sT (attrsOf acc).length ((attrsOf acc).map iv) ∧
    (∀ q, sA.ownBlock = some q → B q) ∧ (∀ q, sT.ownBlock = some q → B q) ∧ (∀ q, sA.ownBlock = some q → sT.ownBlock ≠ some q)
theorem WayIn.keep {B : Nat → Prop} {w w' : World} {y : Nat} {acc : List (Int × Bool)} (h : WayIn B w y acc) (hy : w'.heap[y]? = w.heap[y]?) (hk : Keeps B w w') : WayIn B w' y acc := by
  obtain ⟨sA, sT, h1, h2, h3, h4, h5, h6⟩ := h
  exact ⟨sA, sT, hy.trans h1, ownsRow_keeps h2 (fun g hg => hk g (h4 g hg)), ownsRow_keeps h3 (fun g hg => hk g (h5 g hg)), h4, h5, h6⟩
theorem WayIn.mono {B B' : Nat → Prop} {w : World} {y : Nat} {acc : List (Int × Bool)} (h : WayIn B w y acc) (hk : ∀ k, B k → B' k) : WayIn B' w y acc := by
  obtain ⟨sA, sT, h1, h2, h3, h4, h5, h6⟩ := h
  exact ⟨sA, sT, h1, h2, h3, fun q hq => hk q (h4 q hq), fun q hq => hk q (h5 q hq), h6⟩
def RGoPost (w0 : World) (B : Nat → Prop) (W : World) (y : Nat) (acc : List (Int × Bool)) (e : Ending) (W' : World) : Prop :=
  e = .returned (.tuple #[]) ∧ (∃ B', WayIn B' W' y acc ∧ ∀ k, B' k → B k ∨ (W.heap.size ≤ k ∧ k < W'.heap.size)) ∧ Chg (fun k => k = y ∨ B k) W W'
def RGoUpto (w0 : World) (v : Nat) (g : Int → Option Rec) (keys : List Int) (n : Nat) : Prop := ∀ (B : Nat → Prop) (W : World) (y : Nat) (id : Int) (attr : Bool) (acc : List (Int × Bool)),
  Below w0.heap.size w0 W → w0.heap.size ≤ y → y < W.heap.size → (∀ k, B k → w0.heap.size ≤ k ∧ k < W.heap.size ∧ k ≠ y) → WayIn B W y acc → GoInv keys acc → keys.length + 1 ≤ n + acc.length →
  Calls Try.prog 97 #[ptr v, iv id, .bool attr, ptr y] W (RGoPost w0 B W y (goS g n id attr acc))
theorem attrsOf_snoc (acc : List (Int × Bool)) (id : Int) (b : Bool) : attrsOf (acc ++ [(id, b)]) = attrsOf acc ++ (if b then [id] else []) := by
  unfold attrsOf
  cases b <;> simp
theorem attrsOf_len (acc : List (Int × Bool)) : (attrsOf acc).length ≤ acc.length := by
  unfold attrsOf; rw [List.length_map]; exact List.length_filter_le _ _
def goN (g : Int → Option Rec) (n : Nat) (id : Int) (attr : Bool) (acc : List (Int × Bool)) : Option Rec → List (Int × Bool)
  | none => acc
  | some r => if id ∈ acc.map (·.1) then acc else r.kids.foldl (fun a x => goS g n x attr a) (r.attrs.foldl (fun a x => goS g n x true a) (acc ++ [(id, attr)]))
theorem goS_succ (g : Int → Option Rec) (n : Nat) (id : Int) (attr : Bool) (acc : List (Int × Bool)) : goS g (n + 1) id attr acc = goN g n id attr acc (g id) := by
  rw [goS]; unfold goN
  cases g id <;> rfl
theorem fold_succ {β : Type} (f : List (Int × Bool) → β → List (Int × Bool)) {xs : List β} {k : Nat} {x : β} (h : xs[k]? = some x) (a : List (Int × Bool)) : (xs.take (k + 1)).foldl f a = f ((xs.take k).foldl f a) x := by
  rw [List.take_add_one, h, Option.toList_some, List.foldl_append]
  rfl
theorem inv_take {g : Int → Option Rec} {keys : List Int} (hk : KeysOf g keys) (n : Nat) (attr : Bool) (xs : List Int) (a : List (Int × Bool)) (ha : GoInv keys a) : GoInv keys (xs.foldl (fun a x => goS g n x attr a) a) ∧ a.length ≤ (xs.foldl (fun a x => goS g n x attr a) a).length :=
  ⟨inv_fold _ (fun a x h => goS_inv hk n x attr a h) _ _ ha, (prefix_fold _ (fun a x => goS_prefix g n x attr a) xs a).length_le⟩

set_option maxRecDepth 100000 in
set_option maxHeartbeats 4000000 in
theorem rgo_step {w0 : World} {v : Nat} {g : Int → Option Rec} {keys : List Int} (hR : ReadsN 76 w0 v g) (hk : KeysOf g keys) (hkl : keys.length ≤ 1000000000) (n : Nat) (ih : RGoUpto w0 v g keys n) : RGoUpto w0 v g keys (n + 1) := by
  intro B W y id attr acc hbW hy0 hyW hB hway hinv hfu
  obtain ⟨i0, hi, hz0, hz1, hz2⟩ := info_parts Try.info3
  obtain ⟨o, ho⟩ : ∃ o, g id = o := ⟨_, rfl⟩
  have hc := hR W hbW id
  rw [ho] at hc
  obtain ⟨fin, hfin⟩ : ∃ fin, goS g (n + 1) id attr acc = fin := ⟨_, rfl⟩
  have hstep : fin = goN g n id attr acc o := by rw [← hfin, goS_succ, ho]
  rw [hfin]
  have hokey : o ≠ none → id ∈ keys := fun h => hk id (by rw [ho]; exact h)
  have HC := Lib.hid hc
  have HSTEP := Lib.hid hstep
  have HOK := Lib.hid hokey
  have HIH := Lib.hid ih
  have HK := Lib.hid hk
  have HBW := Lib.hid hbW
  have HBB := Lib.hid hB
  have HWAY := Lib.hid hway
  have HINV := Lib.hid hinv
  have hs0 := hbW.size
  clear hc hstep hokey ih hbW hB hway hinv hfin ho hR hk
  go_enter Try.func97, Try.ntmps97
  go_wp2_with fail
  refine HC.out.mono ?_
  rintro e w1 ⟨⟨kv1, av1, rfl, hk1, ha1⟩, hb1⟩
  have HK1 := Lib.hid hk1
  have HA1 := Lib.hid ha1
  obtain ⟨ka, kc, rfl, -, -, -⟩ := hk1
  obtain ⟨aa, ac, rfl, -, -, -⟩ := ha1
  have hs1 := hb1.size
  have HB1 := Lib.hid hb1
  clear hb1
  go_upto_region 1 with fail
  obtain ⟨W2, hW2⟩ : ∃ W2, w1.alloc (.cells #[.int .i64 (o.getD Rec.zero).kind, .string (o.getD Rec.zero).name, .string (o.getD Rec.zero).text, .int .i64 (o.getD Rec.zero).parent, .slice ka (o.getD Rec.zero).kids.length kc, .slice aa (o.getD Rec.zero).attrs.length ac, .bool (o.getD Rec.zero).gone] 52) = W2 := ⟨_, rfl⟩
  have hs2 : W2.heap.size = w1.heap.size + 1 := by rw [← hW2]; simp
  have hb2 : Below w1.heap.size w1 W2 := by rw [← hW2]; exact (Below.refl _ _).alloc (Nat.le_refl _) _
  have hr2 : W2.heap[w1.heap.size]? = some (.cells #[.int .i64 (o.getD Rec.zero).kind, .string (o.getD Rec.zero).name, .string (o.getD Rec.zero).text, .int .i64 (o.getD Rec.zero).parent, .slice ka (o.getD Rec.zero).kids.length kc, .slice aa (o.getD Rec.zero).attrs.length ac, .bool (o.getD Rec.zero).gone] 52 (0, 0)) := by rw [← hW2]; exact Go.heap_alloc_new _ _
  rw [hW2]
  have hbW2 : Below W.heap.size W W2 := HB1.out.trans (hb2.mono hs1)
  have hway2 := HWAY.out.keep (hbW2.block y hyW) (fun k hk => hbW2.block k (HBB.out k hk).2.1)
  obtain ⟨sA, sT, hcy, hrA, hrT, hA, hT, hAT⟩ := hway2
  obtain ⟨aA, cA, rfl⟩ := ownsRow_shape hrA
  obtain ⟨aT, cT, rfl⟩ := ownsRow_shape hrT
  obtain ⟨q0, q1⟩ : W2.cell? ⟨y, 0, none⟩ = some (.slice aA acc.length cA) ∧ W2.cell? ⟨y, 1, none⟩ = some (.slice aT (attrsOf acc).length cT) := by constructor <;> simp [World.cell?, hcy]
  have hmapA : acc.map (fun x => iv x.1) = (acc.map (·.1)).map iv := by rw [List.map_map]; rfl
  have hrA2 : W2.ownsRow 0 3 1 (.slice aA acc.length cA) (acc.map (·.1)).length ((acc.map (·.1)).map iv) := by rw [← hmapA, List.length_map]; exact hrA
  have HHAS := Lib.hid (rhas_any (acc.map (·.1)) _ (.slice aA acc.length cA) id W2 (intsIn_row hrA2))
  have HB2 := Lib.hid hbW2
  have HR2 := Lib.hid hr2
  have HCY := Lib.hid hcy
  have HRA := Lib.hid hrA
  have HRT := Lib.hid hrT
  have HA := Lib.hid hA
  have HT := Lib.hid hT
  have HAT := Lib.hid hAT
  have HK2 := Lib.hid (HK1.out.keep (keeps_below hb2 |>.mono (fun k hk => hk.2)))
  have HA2 := Lib.hid (HA1.out.keep (keeps_below hb2 |>.mono (fun k hk => hk.2)))
  have HS2 := Lib.hid hs2
  have hlenA := HINV.out.len
  clear hW2 hs2 hb2 hr2 hbW2 hcy hrA hrT hA hT hAT hmapA hrA2
  cases o with
  | none =>
    have he : fin = acc := HSTEP.out
    simp only [Option.isSome_none]
    have HE := Lib.hid he
    clear he
    go_wp2
    refine bodyPost_ret (v := .tuple #[]) (by simp [results, Try.results97, go_sem]) rfl ?_
    rw [HE.out]
    exact ⟨rfl, ⟨B, HWAY.out.keep (HB2.out.block y hyW) (fun k hk => HB2.out.block k (HBB.out k hk).2.1), fun k hk => .inl hk⟩, chg_new HB2.out⟩
  | some r =>
    simp only [Option.isSome_some, Option.getD_some] at *
    by_cases hin : id ∈ acc.map (·.1)
    · have hd : decide (id ∈ acc.map (·.1)) = true := decide_eq_true hin
      rw [hd] at HHAS
      have he : fin = acc := by have := HSTEP.out; simp only [goN] at this; rw [if_pos hin] at this; exact this
      have HE := Lib.hid he
      clear he hin hd
      go_wp2_with (go_at_call 30; refine HHAS.out.mono ?_; rintro e w5 ⟨rfl, rfl⟩)
      refine bodyPost_ret (v := .tuple #[]) (by simp [results, Try.results97, go_sem]) rfl ?_
      rw [HE.out]
      exact ⟨rfl, ⟨B, HWAY.out.keep (HB2.out.block y hyW) (fun k hk => HB2.out.block k (HBB.out k hk).2.1), fun k hk => .inl hk⟩, chg_new HB2.out⟩
    · have hd : decide (id ∈ acc.map (·.1)) = false := decide_eq_false hin
      rw [hd] at HHAS
      have he : fin = r.kids.foldl (fun a x => goS g n x attr a) (r.attrs.foldl (fun a x => goS g n x true a) (acc ++ [(id, attr)])) := by have := HSTEP.out; simp only [goN] at this; rw [if_neg hin] at this; exact this
      have HE := Lib.hid he
      have hinv1 := HINV.out.snoc attr hin (HOK.out (by simp))
      have HINV1 := Lib.hid hinv1
      have hlen1 := hinv1.len
      simp only [List.length_append, List.length_singleton] at hlen1
      have fy := free_block HCY.out 0
      clear he hin hd hinv1
      go_upto_region 3 with (first
        | (at_builtin; refine wpList_append_own_at _ rfl _ _ 33 rfl 0 3 i0 (.int .i64 0) 1 8 Try.underlying33 hi hz0 hz1 hz2 rfl (by decide) _ _ _ rfl (ownsRow_alloc HRA.out _) ⟨W2.heap.size, 0, none⟩ 1 1 [iv id] rfl rfl (cell_one_new _ _ _) (by simp [Value.oneCell']) (by unfold maxLen; omega) (by omega) (Nat.zero_le _) ?_; intro v' w6 hown6 hgrow6 hnil6 hloc6; have hy6 := (hgrow6.block y (by have := HS2.out; simp; omega) (fun e => (HBB.out y (HA.out y e.symm)).2.2 rfl)).trans ((Go.heap_alloc_old _ _ (by have := HS2.out; omega)).trans HCY.out); have fy6 := free_block hy6 0; have p06 : w6.cell? ⟨y, 0, none⟩ = some (.slice aA acc.length cA) := (by simp [World.cell?, hy6]); have HY6 := Lib.hid hy6; have HO6 := Lib.hid hown6; have HG6 := Lib.hid hgrow6; have HL6 := Lib.hid hloc6; obtain ⟨a6, c6, rfl⟩ := ownsRow_shape hown6; clear hown6 hgrow6 hloc6 hy6)
        | (go_at_call 30; refine HHAS.out.mono ?_; rintro e w5 ⟨rfl, rfl⟩))
      obtain ⟨W7, hW7⟩ : ∃ W7, w6.setCell ⟨y, 0, none⟩ (.slice a6 (acc.length + 1) c6) = W7 := ⟨_, rfl⟩
      rw [hW7]
      have hs6 := HG6.out.size
      simp only [World.size_alloc] at hs6
      have hs7 : W7.heap.size = w6.heap.size := by rw [← hW7]; simp [World.setCell]
      have hy7 : W7.heap[y]? = some (.cells #[.slice a6 (acc.length + 1) c6, .slice aT (attrsOf acc).length cT] 158 (0, 0)) := by
        have := heap_setCell_same w6 y 0 _ _ (.slice a6 (acc.length + 1) c6) HY6.out
        rw [hW7] at this
        simpa using this
      have hk7 : ∀ j, j ≠ y → W7.heap[j]? = w6.heap[j]? := fun j hj => by rw [← hW7]; exact heap_setCell_other _ _ _ _ hj
      have hk6 : ∀ j, j < W2.heap.size → (Value.slice aA acc.length cA).ownBlock ≠ some j → w6.heap[j]? = W2.heap[j]? := fun j h1 h2 => (HG6.out.block j (by simp; omega) (fun e => h2 e.symm)).trans (Go.heap_alloc_old _ _ h1)
      have hl6 := HL6.out
      simp only [World.size_alloc] at hl6
      have hb6 : ∀ q, (Value.slice a6 (acc.length + 1) c6).ownBlock = some q → (B q ∨ (W2.heap.size ≤ q ∧ q < W7.heap.size)) ∧ q ≠ y ∧ (Value.slice aT (attrsOf acc).length cT).ownBlock ≠ some q := fun q hq => by
        have h9 := (ownsRow_base HO6.out hq).2
        rcases hl6 with h | h
        · rw [h] at hq; exact ⟨.inl (HA.out q hq), fun e => (HBB.out q (HA.out q hq)).2.2 e, HAT.out q hq⟩
        · rw [h] at hq; cases hq
          have h8 := HS2.out
          exact ⟨.inr ⟨by omega, by omega⟩, by omega, fun e => by have := (HBB.out _ (HT.out _ e)).2.1; omega⟩
      have hrA7 : W7.ownsRow 0 3 1 (.slice a6 (acc.length + 1) c6) (acc.length + 1) (acc.map (fun x => iv x.1) ++ [iv id]) := ownsRow_keeps HO6.out (fun q hq => hk7 q (hb6 q hq).2.1 : ∀ q, (Value.slice a6 (acc.length + 1) c6).ownBlock = some q → W7.heap[q]? = w6.heap[q]?)
      have hrT7 : W7.ownsRow 0 3 1 (.slice aT (attrsOf acc).length cT) (attrsOf acc).length ((attrsOf acc).map iv) := ownsRow_keeps HRT.out (fun q hq => (hk7 q (fun e => (HBB.out q (HT.out q hq)).2.2 e)).trans (hk6 q (by have := (HBB.out q (HT.out q hq)).2.1; have := HS2.out; omega) (fun e => HAT.out q e hq)) : ∀ q, (Value.slice aT (attrsOf acc).length cT).ownBlock = some q → W7.heap[q]? = W2.heap[q]?)
      have hch7 : Chg (fun k => k = y ∨ B k) W2 W7 := by
        rw [← hW7]
        exact ((chg_alloc W2 _).trans (chg_grown HG6.out (fun k h => .inr (HA.out k h)))).trans (chg_set (M := fun k => k = y ∨ B k) (.inl rfl) 0 _)
      have HY7 := Lib.hid hy7
      have HRA7 := Lib.hid hrA7
      have HRT7 := Lib.hid hrT7
      have HCH7 := Lib.hid hch7
      have HB6 := Lib.hid hb6
      have hsz7 := hch7.size
      have p17 : W7.cell? ⟨y, 1, none⟩ = some (.slice aT (attrsOf acc).length cT) := by simp [World.cell?, hy7]
      have fy7 := free_block hy7 1
      have hlT := attrsOf_len acc
      clear hW7 hs6 hs7 hy7 hk7 hk6 hl6 hb6 hrA7 hrT7 hch7 p06 fy6 fy q0 q1
      go_upto_if 38 with fail
      go_cut [] (fun wx => ∃ B1, WayIn B1 wx y (acc ++ [(id, attr)]) ∧ (∀ k, B1 k → B k ∨ (W2.heap.size ≤ k ∧ k < wx.heap.size)) ∧ Chg (fun k => k = y ∨ B k) W2 wx)
      case first =>
        cases attr with
        | false =>
          go_wp2
          go_meet
          refine ⟨fun k => B k ∨ (W2.heap.size ≤ k ∧ k < W7.heap.size), ⟨_, _, HY7.out, by simpa using HRA7.out, by rw [attrsOf_snoc]; simpa using HRT7.out, fun q hq => (HB6.out q hq).1, fun q hq => .inl (HT.out q hq), fun q hq => (HB6.out q hq).2.2⟩, fun k hk => hk, HCH7.out⟩
        | true =>
          go_wp2_with (at_builtin; refine wpList_append_own_at _ rfl _ _ 33 rfl 0 3 i0 (.int .i64 0) 1 8 Try.underlying33 hi hz0 hz1 hz2 rfl (by decide) _ _ _ rfl (ownsRow_alloc HRT7.out _) ⟨W7.heap.size, 0, none⟩ 1 1 [iv id] rfl rfl (cell_one_new _ _ _) (by simp [Value.oneCell']) (by unfold maxLen; omega) (by omega) (Nat.zero_le _) ?_; intro v' w8 hown8 hgrow8 hnil8 hloc8; have hy8 := (hgrow8.block y (by have := HS2.out; simp; omega) (fun e => (HBB.out y (HT.out y e.symm)).2.2 rfl)).trans ((Go.heap_alloc_old _ _ (by have := HS2.out; omega)).trans HY7.out); have fy8 := free_block hy8 1; have p18 : w8.cell? ⟨y, 1, none⟩ = some (.slice aT (attrsOf acc).length cT) := (by simp [World.cell?, hy8]); have HY8 := Lib.hid hy8; have HO8 := Lib.hid hown8; have HG8 := Lib.hid hgrow8; have HL8 := Lib.hid hloc8; obtain ⟨a8, c8, rfl⟩ := ownsRow_shape hown8; clear hown8 hgrow8 hloc8 hy8)
          go_meet
          have hs8 := HG8.out.size
          simp only [World.size_alloc] at hs8
          obtain ⟨W9, hW9⟩ : ∃ W9, w8.setCell ⟨y, 1, none⟩ (.slice a8 ((attrsOf acc).length + 1) c8) = W9 := ⟨_, rfl⟩
          rw [hW9]
          have hs9 : W9.heap.size = w8.heap.size := by rw [← hW9]; simp [World.setCell]
          have hy9 : W9.heap[y]? = some (.cells #[.slice a6 (acc.length + 1) c6, .slice a8 ((attrsOf acc).length + 1) c8] 158 (0, 0)) := by
            have := heap_setCell_same w8 y 1 _ _ (.slice a8 ((attrsOf acc).length + 1) c8) HY8.out
            rw [hW9] at this
            simpa using this
          have hk9 : ∀ j, j ≠ y → W9.heap[j]? = w8.heap[j]? := fun j hj => by rw [← hW9]; exact heap_setCell_other _ _ _ _ hj
          have hk8 : ∀ j, j < W7.heap.size → (Value.slice aT (attrsOf acc).length cT).ownBlock ≠ some j → w8.heap[j]? = W7.heap[j]? := fun j h1 h2 => (HG8.out.block j (by simp; omega) (fun e => h2 e.symm)).trans (Go.heap_alloc_old _ _ h1)
          have hl8 := HL8.out
          simp only [World.size_alloc] at hl8
          have hb8 : ∀ q, (Value.slice a8 ((attrsOf acc).length + 1) c8).ownBlock = some q → (B q ∨ (W2.heap.size ≤ q ∧ q < W9.heap.size)) ∧ q ≠ y ∧ (Value.slice a6 (acc.length + 1) c6).ownBlock ≠ some q := fun q hq => by
            have h9 := (ownsRow_base HO8.out hq).2
            rcases hl8 with h | h
            · rw [h] at hq; exact ⟨.inl (HT.out q hq), fun e => (HBB.out q (HT.out q hq)).2.2 e, fun e => (HB6.out q e).2.2 hq⟩
            · rw [h] at hq; cases hq
              have h8 := HS2.out
              exact ⟨.inr ⟨by omega, by omega⟩, by omega, fun e => by have := (ownsRow_base HRA7.out e).2; omega⟩
          refine ⟨fun k => B k ∨ (W2.heap.size ≤ k ∧ k < W9.heap.size), ⟨_, _, hy9, ?_, ?_, fun q hq => ?_, fun q hq => (hb8 q hq).1, fun q hq e => (hb8 q e).2.2 hq⟩, fun k hk => hk, ?_⟩
          · have := ownsRow_keeps HRA7.out (fun q hq => (hk9 q (HB6.out q hq).2.1).trans (hk8 q (ownsRow_base HRA7.out hq).2 (HB6.out q hq).2.2) : ∀ q, (Value.slice a6 (acc.length + 1) c6).ownBlock = some q → W9.heap[q]? = W7.heap[q]?)
            simpa using this
          · rw [attrsOf_snoc]
            have := ownsRow_keeps HO8.out (fun q hq => hk9 q (hb8 q hq).2.1 : ∀ q, (Value.slice a8 ((attrsOf acc).length + 1) c8).ownBlock = some q → W9.heap[q]? = w8.heap[q]?)
            simpa using this
          · rcases (HB6.out q hq).1 with h | h
            · exact .inl h
            · exact .inr ⟨h.1, by omega⟩
          · rw [← hW9]
            exact HCH7.out.trans (((chg_alloc W7 _).trans (chg_grown HG8.out (fun k h => .inr (HT.out k h)))).trans (chg_set (M := fun k => k = y ∨ B k) (.inl rfl) 1 _))
      case rest =>
      obtain ⟨B1, hway1, hB1, hch1⟩ := hcut
      obtain ⟨Wc, rfl⟩ : ∃ Wc, Wc = wc := ⟨_, rfl⟩
      have hlen2 := (prefix_fold _ (fun a x => goS_prefix g n x true a) r.attrs (acc ++ [(id, attr)])).length_le
      simp only [List.length_append, List.length_singleton] at hlen2
      have hla := HA2.out.len
      have hlk := HK2.out.len
      have hsc := hch1.size
      have hlt1 : w1.heap.size < W2.heap.size := by have := HS2.out; omega
      have HWAY1 := Lib.hid hway1
      have HB1 := Lib.hid hB1
      have HCH1 := Lib.hid hch1
      -- what stands aside of the rows
      have hside : ∀ wr, Chg (fun k => k = y ∨ B k) W2 wr → wr.heap[w1.heap.size]? = some (.cells #[.int .i64 r.kind, .string r.name, .string r.text, .int .i64 r.parent, .slice ka r.kids.length kc, .slice aa r.attrs.length ac, .bool r.gone] 52 (0, 0)) ∧ Keeps (fun k => (k < w0.heap.size ∨ W.heap.size ≤ k) ∧ k < w1.heap.size) W2 wr ∧ Below w0.heap.size w0 wr := fun wr hc => by
        refine ⟨(hc.block _ hlt1 (fun h => h.elim (fun e => by omega) (fun e => by have := (HBB.out _ e).2.1; omega))).trans HR2.out, hc.keeps (fun k hk => ⟨by omega, fun h => h.elim (fun e => by omega) (fun e => by have := HBB.out _ e; omega)⟩), ?_⟩
        have h1 : Below w0.heap.size w0 W2 := HBW.out.trans (HB2.out.mono hs0)
        exact below_of_chg ((chg_new (M := New w0.heap.size) h1).trans (hc.mono (fun k h => h.elim (fun e => by rw [e]; exact hy0) (fun e => (HBB.out _ e).1))))
      have HSIDE := Lib.hid hside
      clear hway1 hB1 hch1 hside p17 fy7
      go_wp2_with fail
      go_loopw [10] (fun i wr => ∃ k : Nat, k ≤ r.attrs.length ∧ i = .int .i64 k ∧ ∃ B2, WayIn B2 wr y ((r.attrs.take k).foldl (fun a x => goS g n x true a) (acc ++ [(id, attr)])) ∧ (∀ k, B2 k → B k ∨ (W2.heap.size ≤ k ∧ k < wr.heap.size)) ∧ Chg (fun k => k = y ∨ B k) W2 wr) (fun i _ => r.attrs.length - (Lib.intOf i).toNat)
      case atStart => exact ⟨0, Nat.zero_le _, rfl, B1, HWAY1.out, HB1.out, HCH1.out⟩
      case round =>
        obtain ⟨k, hk, rfl, B2, hwr, hB2r, hcr⟩ := hrel
        obtain ⟨hrr, hkr, hbr⟩ := HSIDE.out wr hcr
        have hsr := hcr.size
        obtain ⟨z0, z1, z2, z3, z4, z5, z6⟩ := cells7 hrr
        have HWR := Lib.hid hwr
        have HBR := Lib.hid hB2r
        have HCR := Lib.hid hcr
        by_cases hlt : k < r.attrs.length
        · obtain ⟨x, hxk⟩ : ∃ x, r.attrs[k]? = some x := ⟨_, List.getElem?_eq_getElem hlt⟩
          have hal := HA2.out.keep hkr
          obtain ⟨a0, cp0, e0, -, -, hx0⟩ := hal
          cases e0
          obtain ⟨ga, offa, rfl, -, hca⟩ : ∃ g off, aa = some ⟨g, off, none⟩ ∧ ((g < w0.heap.size ∨ W.heap.size ≤ g) ∧ g < w1.heap.size) ∧ ∀ j x, r.attrs[j]? = some x → wr.cell? ⟨g, off + j, none⟩ = some (.int .i64 x) := by
            rcases hx0 with h | h
            · rw [h] at hlt; simp at hlt
            · exact h
          have u0 := hca k x hxk
          have hk0 : (0 : Int) ≤ k := by omega
          have hkl2 : (k : Int) < r.attrs.length := by omega
          obtain ⟨hi1, hi2⟩ := inv_take HK.out n true (r.attrs.take k) (acc ++ [(id, attr)]) HINV1.out
          simp only [List.length_append, List.length_singleton] at hi2
          have hnx := fold_succ (fun a x => goS g n x true a) hxk (acc ++ [(id, attr)])
          obtain ⟨cur, hcur⟩ : ∃ cur, (r.attrs.take k).foldl (fun a x => goS g n x true a) (acc ++ [(id, attr)]) = cur := ⟨_, rfl⟩
          rw [hcur] at hi1 hi2 hnx hwr
          have HNX := Lib.hid hnx
          have HIK := Lib.hid (HIH.out B2 wr y x true cur hbr hy0 (by omega) (fun j hj => by rcases hB2r j hj with h | h; exact ⟨(HBB.out j h).1, by have := (HBB.out j h).2.1; omega, (HBB.out j h).2.2⟩; exact ⟨by omega, h.2, by omega⟩) hwr hi1 (by omega))
          clear hwr hB2r hcr hrr hkr hbr hca hx0 hxk hi1 hnx hcur
          go_wp2_with fail
          refine HIK.out.mono ?_
          rintro e w5 ⟨rfl, ⟨B5, hw5, hB5⟩, hc5⟩
          have hs5 := hc5.size
          have HW5 := Lib.hid hw5
          have HB5 := Lib.hid hB5
          have HC5 := Lib.hid hc5
          clear hw5 hB5 hc5 z0 z1 z2 z3 z4 z5 z6 u0
          go_wp2_with fail
          go_roundw
          case rel =>
            refine ⟨k + 1, by omega, by go_num, B5, by rw [HNX.out]; exact HW5.out, fun j hj => ?_, HCR.out.andThen HC5.out (fun j hj h => h.elim .inl (fun h => (HBR.out j h).elim .inr (fun h => by omega)))⟩
            rcases HB5.out j hj with h | h
            · rcases HBR.out j h with h | h
              · exact .inl h
              · exact .inr ⟨h.1, by omega⟩
            · exact .inr ⟨by omega, h.2⟩
          case measure => simp [Lib.intOf]; omega
        · obtain rfl : k = r.attrs.length := by omega
          rw [List.take_length] at HWR
          obtain ⟨mid, hmid⟩ : ∃ mid, r.attrs.foldl (fun a x => goS g n x true a) (acc ++ [(id, attr)]) = mid := ⟨_, rfl⟩
          have hinvm := (inv_take HK.out n true r.attrs (acc ++ [(id, attr)]) HINV1.out).1
          rw [hmid] at HWR HE hinvm hlen2
          have HINVM := Lib.hid hinvm
          clear hwr hB2r hcr hrr hkr hbr hmid hinvm
          go_wp2_with fail
          obtain ⟨wa, rfl⟩ : ∃ wa, wa = wr := ⟨_, rfl⟩
          go_loopw [11] (fun i wr => ∃ k : Nat, k ≤ r.kids.length ∧ i = .int .i64 k ∧ ∃ B2, WayIn B2 wr y ((r.kids.take k).foldl (fun a x => goS g n x attr a) mid) ∧ (∀ k, B2 k → B k ∨ (W2.heap.size ≤ k ∧ k < wr.heap.size)) ∧ Chg (fun k => k = y ∨ B k) W2 wr) (fun i _ => r.kids.length - (Lib.intOf i).toNat)
          case atStart => exact ⟨0, Nat.zero_le _, rfl, B2, HWR.out, HBR.out, HCR.out⟩
          case round =>
            obtain ⟨k, hk, rfl, B3, hwr, hB3r, hcr⟩ := hrel
            obtain ⟨hrr, hkr, hbr⟩ := HSIDE.out wr hcr
            have hsr := hcr.size
            obtain ⟨z0, z1, z2, z3, z4, z5, z6⟩ := cells7 hrr
            have HWR3 := Lib.hid hwr
            have HBR3 := Lib.hid hB3r
            have HCR3 := Lib.hid hcr
            by_cases hlt : k < r.kids.length
            · obtain ⟨x, hxk⟩ : ∃ x, r.kids[k]? = some x := ⟨_, List.getElem?_eq_getElem hlt⟩
              have hal := HK2.out.keep hkr
              obtain ⟨a0, cp0, e0, -, -, hx0⟩ := hal
              cases e0
              obtain ⟨ga, offa, rfl, -, hca⟩ : ∃ g off, ka = some ⟨g, off, none⟩ ∧ ((g < w0.heap.size ∨ W.heap.size ≤ g) ∧ g < w1.heap.size) ∧ ∀ j x, r.kids[j]? = some x → wr.cell? ⟨g, off + j, none⟩ = some (.int .i64 x) := by
                rcases hx0 with h | h
                · rw [h] at hlt; simp at hlt
                · exact h
              have u0 := hca k x hxk
              have hk0 : (0 : Int) ≤ k := by omega
              have hkl2 : (k : Int) < r.kids.length := by omega
              obtain ⟨hi1, hi2⟩ := inv_take HK.out n attr (r.kids.take k) mid HINVM.out
              have hnx := fold_succ (fun a x => goS g n x attr a) hxk mid
              obtain ⟨cur, hcur⟩ : ∃ cur, (r.kids.take k).foldl (fun a x => goS g n x attr a) mid = cur := ⟨_, rfl⟩
              rw [hcur] at hi1 hi2 hnx hwr
              have HNX := Lib.hid hnx
              have HIK := Lib.hid (HIH.out B3 wr y x attr cur hbr hy0 (by omega) (fun j hj => by rcases hB3r j hj with h | h; exact ⟨(HBB.out j h).1, by have := (HBB.out j h).2.1; omega, (HBB.out j h).2.2⟩; exact ⟨by omega, h.2, by omega⟩) hwr hi1 (by omega))
              clear hwr hB3r hcr hrr hkr hbr hca hx0 hxk hi1 hnx hcur
              go_wp2_with fail
              refine HIK.out.mono ?_
              rintro e w5 ⟨rfl, ⟨B5, hw5, hB5⟩, hc5⟩
              have hs5 := hc5.size
              have HW5 := Lib.hid hw5
              have HB5 := Lib.hid hB5
              have HC5 := Lib.hid hc5
              clear hw5 hB5 hc5 z0 z1 z2 z3 z4 z5 z6 u0
              go_wp2_with fail
              go_roundw
              case rel =>
                refine ⟨k + 1, by omega, by go_num, B5, by rw [HNX.out]; exact HW5.out, fun j hj => ?_, HCR3.out.andThen HC5.out (fun j hj h => h.elim .inl (fun h => (HBR3.out j h).elim .inr (fun h => by omega)))⟩
                rcases HB5.out j hj with h | h
                · rcases HBR3.out j h with h | h
                  · exact .inl h
                  · exact .inr ⟨h.1, by omega⟩
                · exact .inr ⟨by omega, h.2⟩
              case measure => simp [Lib.intOf]; omega
            · obtain rfl : k = r.kids.length := by omega
              rw [List.take_length] at HWR3
              clear hwr hB3r hcr hrr hkr hbr
              have hsz2 := HB2.out.size
              go_wp2
              refine bodyPost_ret (v := .tuple #[]) (by simp [results, Try.results97, go_sem]) rfl ?_
              rw [HE.out]
              refine ⟨rfl, ⟨B3, HWR3.out, fun j hj => (HBR3.out j hj).elim .inl (fun h => .inr ⟨by omega, h.2⟩)⟩, (chg_new HB2.out).trans HCR3.out⟩
theorem rgo_upto {w0 : World} {v : Nat} {g : Int → Option Rec} {keys : List Int} (hR : ReadsN 76 w0 v g) (hk : KeysOf g keys) (hkl : keys.length ≤ 1000000000) : ∀ n, RGoUpto w0 v g keys n
  | 0 => fun B W y id attr acc _ _ _ _ _ hinv hfu => by have := hinv.len; omega
  | n + 1 => rgo_step hR hk hkl n (rgo_upto hR hk hkl n)
end Go.Proofs.Ytinkjhkbaadbpaa
