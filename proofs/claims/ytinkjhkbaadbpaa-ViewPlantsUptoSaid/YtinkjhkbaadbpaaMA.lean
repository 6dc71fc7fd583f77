/- Made (20): the views in which a tree is planted and some records are put. -/
import Derived.Test.YtinkjhkbaadbpaaDU
import Derived.StillTailTactics
namespace Go.Proofs.Ytinkjhkbaadbpaa
open Go.RowKit
set_option linter.unusedVariables false

def ownV (t : Tr) : Int × Int × Owns := plantT putO t 1 (1, fun _ => none)
def rootR (id : Int) : Rec := ⟨1, ⟨#[]⟩, ⟨#[]⟩, 0, if 0 < id then [id] else [], [], false⟩
def putC (o : Owns) (c : Chn) : Owns := if putOk c.id c.r then putO c.id c.r o else o
def putCL (o : List Own) (c : Chn) : List Own := if putOk c.id c.r then layL c.id c.r o else o
/-- what Made makes -/
def madeO (t : Tr) (cs : List Chn) : Owns := cs.foldl putC (putO 1 (rootR (ownV t).1) (ownV t).2.2)
def ownL1 (t : Tr) : Int × Int × List Own := plantT layL t 1 (1, [])
def madeL (t : Tr) (cs : List Chn) : List Own := cs.foldl putCL (layL 1 (rootR (ownL1 t).1) (ownL1 t).2.2)
def madeS (t : Tr) : Store := { Store.fresh with given := (ownV t).2.1 }
def madeD (t : Tr) : Doc := { Doc.fresh with given := (ownV t).2.1 }
theorem own_same (t : Tr) : (ownL1 t).1 = (ownV t).1 ∧ (ownL1 t).2.1 = (ownV t).2.1 ∧ ownOf (ownL1 t).2.2 = (ownV t).2.2 := plant_both t 1 1 []
theorem root_ok (t : Tr) : putOk 1 (rootR (ownV t).1) = true := by
  unfold putOk rootR rightR
  by_cases h : 0 < (ownV t).1
  · simp [h, allPos]; omega
  · simp [h, allPos]
theorem putCL_own (L : List Own) (c : Chn) : ownOf (putCL L c) = putC (ownOf L) c := by
  unfold putCL putC
  split
  · exact ownOf_layL _ _ _
  · rfl
theorem putCL_len (L : List Own) (c : Chn) : (putCL L c).length ≤ L.length + 1 := by
  unfold putCL
  split
  · exact layL_len _ _ _
  · omega
theorem fold_own : ∀ (cs : List Chn) (L : List Own), ownOf (cs.foldl putCL L) = cs.foldl putC (ownOf L)
  | [], L => rfl
  | c :: cs, L => by rw [List.foldl_cons, List.foldl_cons, fold_own cs, putCL_own]
theorem fold_len : ∀ (cs : List Chn) (L : List Own), (cs.foldl putCL L).length ≤ L.length + cs.length
  | [], L => by simp
  | c :: cs, L => by
    have h1 := fold_len cs (putCL L c)
    have h2 := putCL_len L c
    simp only [List.foldl_cons, List.length_cons]
    omega
theorem made_own (t : Tr) (cs : List Chn) : ownOf (madeL t cs) = madeO t cs := by
  obtain ⟨h1, h2, h3⟩ := own_same t
  unfold madeL madeO
  rw [fold_own, ownOf_layL, h3, h1]
theorem made_len (t : Tr) (cs : List Chn) : (madeL t cs).length ≤ t.size + 1 + cs.length := by
  unfold madeL
  have h1 := fold_len cs (layL 1 (rootR (ownL1 t).1) (ownL1 t).2.2)
  have h2 := layL_len 1 (rootR (ownL1 t).1) (ownL1 t).2.2
  have h3 := plantL_len t 1 1 []
  unfold ownL1 at *
  simp only [List.length_nil] at h3
  omega
theorem made_wf (t : Tr) : (madeS t).Wf := ⟨Store.fresh_wf.rise, Store.fresh_wf.last, Store.fresh_wf.ok, Store.fresh_wf.len⟩
theorem made_at (t : Tr) (id : Int) (T : Nat) : (madeD t).at id T = (madeS t).at id T := at_same (fun id => fresh_N id) id T
theorem made_get (t : Tr) (cs : List Chn) (id : Int) : (⟨madeL t cs, 0⟩ : RVw).get (madeD t) id = (⟨madeO t cs, 0⟩ : Vw).get (madeS t) id := by
  unfold RVw.get Vw.get
  simp only
  rw [made_own, made_at]
  cases madeO t cs id <;> rfl

/-- the two views, made, and nothing in them -/
theorem duo_fresh {n0 : Nat} {w w1 w2 w3 w4 : World} {s s2 : Nat} (hn : n0 ≤ w.heap.size) (hp : StoreIn (New w.heap.size) (fun _ => False) w1 (ptr s) Store.fresh) (hb1 : Below w.heap.size w w1)
    (hv : VIn (fun _ => False) w2 (w1.heap.size + 1) w1.heap.size (ptr s) ⟨fun _ => none, 0⟩) (hb2 : Below w1.heap.size w1 w2) (hq : DocIn (New w2.heap.size) (fun _ => False) w3 (ptr s2) Doc.fresh) (hb3 : Below w2.heap.size w2 w3)
    (hw4 : w3.alloc (.cells #[ptr s2, .int .u64 0, .slice none 0 0] 129) = w4) :
    ∃ R Rd, Duo R (fun _ => False) Rd (fun _ => False) n0 w4 (w1.heap.size + 1) w1.heap.size s w3.heap.size s2 ⟨fun _ => none, 0⟩ Store.fresh ⟨[], 0⟩ Doc.fresh := by
  have hp1 := storeIn_bound hp
  have hq1 := docIn_bound hq
  have hvl := hv.lt
  have hs1 := hb1.size
  have hs3 := hb3.size
  have hb4 : Below w3.heap.size w3 w4 := by rw [← hw4]; exact (Below.refl _ _).alloc (Nat.le_refl _) _
  have hs4 : w4.heap.size = w3.heap.size + 1 := by rw [← hw4]; simp
  have h4 : w4.heap[w3.heap.size]? = some (.cells #[ptr s2, .int .u64 0, .slice none 0 0] 129 (0, 0)) := by rw [← hw4]; exact Go.heap_alloc_new _ _
  have hb24 : Below w2.heap.size w2 w4 := hb3.trans (hb4.mono hb3.size)
  have hb14 : Below w1.heap.size w1 w4 := hb2.trans (hb24.mono hb2.size)
  refine ⟨fun k => New w.heap.size k ∧ k < w1.heap.size, fun k => New w2.heap.size k ∧ k < w3.heap.size, fun _ => False, fun _ => False, ⟨⟨hv.keep (hb24.block _ hvl.1) (hb24.block _ hvl.2) (fun k hk => hk.elim), hp1.keep (fun k hk => hb14.block k hk.2) (fun k hk => hk.elim), fun k hk => ?_, fun k hk => hk.elim, fun k hk => hk.elim⟩, ⟨⟨⟨.slice none 0 0, [], h4, World.ownsRow_nil _ _ _ _, rfl, fun g hg => by cases hg⟩, fun e he => by cases he⟩, hq1.keep (fun k hk => hb4.block k hk.2) (fun k hk => hk.elim), fun k hk => hk.elim, fun k hk => ?_, fun k hk => hk.elim⟩, by omega, by omega, fun k hk => ?_, fun k hk => ?_, fun k hk => ?_, fun k hk => ⟨fun h => h, fun h => h⟩⟩⟩
  · have h9 : w.heap.size ≤ k := hk.1
    exact ⟨by omega, by omega, by omega, fun h => h, fun h => h⟩
  · have h9 : w2.heap.size ≤ k := hk.1
    exact ⟨by omega, by omega, fun h => h⟩
  · have h9 : w.heap.size ≤ k := hk.1
    omega
  · have h9 : w2.heap.size ≤ k := hk.1
    omega
  · rcases hk with rfl | rfl | hk
    · exact ⟨by omega, fun h => h, fun h => by have h9 : w2.heap.size ≤ _ := h.1; omega, fun h => h⟩
    · exact ⟨by omega, fun h => h, fun h => by have h9 : w2.heap.size ≤ _ := h.1; omega, fun h => h⟩
    · exact ⟨by have := hk.2; omega, fun h => h, fun h => by have h9 : w2.heap.size ≤ _ := h.1; have := hk.2; omega, fun h => h⟩

def MadePost (n0 : Nat) (w : World) (t : Tr) (cs : List Chn) (e : Ending) (w' : World) : Prop :=
  ∃ R Rd p v m s v2 s2, e = .returned (ptr p) ∧ Duo R (fun _ => False) Rd (fun _ => False) (n0 + 1) w' v m s v2 s2 ⟨madeO t cs, 0⟩ (madeS t) ⟨madeL t cs, 0⟩ (madeD t) ∧ w'.heap[p]? = some (.cells #[ptr v, ptr v2] 38 (0, 0)) ∧ n0 ≤ p ∧ Below n0 w w'
set_option maxRecDepth 100000 in
set_option maxHeartbeats 4000000 in
theorem made_any {F : Nat → Prop} {w : World} {t : Tr} {av kv v : Value} {cs : List Chn} (hT : TrIn F w t av kv) (hL : ChnsIn F w v cs) (hok : ∀ c ∈ cs, RecOk c.r) (hF : ∀ k, F k → k < w.heap.size) (hsz : t.size ≤ 100000000) :
    Calls Try.prog 20 #[trV t av kv, v] w (MadePost w.heap.size w t (cs.take 12)) := by
  have hT2 := hT
  obtain ⟨kind, name, text, attrs, kids⟩ := t
  simp only [TrIn] at hT2
  obtain ⟨⟨a1, c1, rfl, -, -⟩, zs, ⟨a2, c2, rfl, -, -⟩, -⟩ := hT2
  obtain ⟨a3, c3, rfl, hl1, hl2, hX⟩ := hL
  obtain ⟨t, ht⟩ : ∃ t, Tr.mk kind name text attrs kids = t := ⟨_, rfl⟩
  obtain ⟨W, hW⟩ : ∃ W, w.alloc (.cells #[.int .i64 kind, .string name, .string text, .slice a1 attrs.length c1, .slice a2 kids.length c2] 25) = W := ⟨_, rfl⟩
  have hbW : Below w.heap.size w W := by rw [← hW]; exact (Below.refl _ _).alloc (Nat.le_refl _) _
  have hsW : W.heap.size = w.heap.size + 1 := by rw [← hW]; simp
  have hx0 : W.heap[w.heap.size]? = some (.cells #[.int .i64 kind, .string name, .string text, .slice a1 attrs.length c1, .slice a2 kids.length c2] 25 (0, 0)) := by rw [← hW]; exact Go.heap_alloc_new _ _
  have HW := Lib.hid hW
  have HBW := Lib.hid hbW
  have HSW := Lib.hid hsW
  have HX0 := Lib.hid hx0
  have HT := Lib.hid hT
  have HX := Lib.hid hX
  have HOK := Lib.hid hok
  have HF := Lib.hid hF
  have HTT := Lib.hid ht
  clear hW hbW hsW hx0 hT hX hok hF ht
  show Calls Try.prog 20 #[.agg #[.int .i64 kind, .string name, .string text, .slice a1 attrs.length c1, .slice a2 kids.length c2], .slice a3 cs.length c3] w _
  go_enter Try.func20, Try.ntmps20
  go_wp2_with fail
  rw [HW.out]
  refine (new_any (fun _ => False) W).mono ?_
  rintro e w1 ⟨⟨p1, rfl, hp⟩, hb1⟩
  obtain ⟨s, hsp⟩ : ∃ s, p1 = ptr s := by obtain ⟨s, m, f, e, -⟩ := hp; exact ⟨s, e⟩
  subst hsp
  go_wp2_with fail
  refine (vnew_any s 0 w1).mono ?_
  rintro e w2 ⟨rfl, hv2, hb2⟩
  go_wp2_with fail
  refine (docNew_any (fun _ => False) w2).mono ?_
  rintro e w3 ⟨⟨q, rfl, hq⟩, hb3⟩
  obtain ⟨s2, hsq⟩ : ∃ s, q = ptr s := by obtain ⟨s, v, xs, e, -⟩ := hq; exact ⟨s, e⟩
  subst hsq
  go_wp2_with fail
  obtain ⟨w4, hw4⟩ : ∃ w4, w3.alloc (.cells #[ptr s2, .int .u64 0, .slice none 0 0] 129) = w4 := ⟨_, rfl⟩
  obtain ⟨R, Rd, hdu⟩ := duo_fresh (n0 := w.heap.size + 1) (w := W) (by have := HSW.out; omega) hp hb1 hv2 hb2 hq hb3 hw4
  have hs1 := hb1.size
  have hs2 := hb2.size
  have hs3 := hb3.size
  have hs4 : w4.heap.size = w3.heap.size + 1 := by rw [← hw4]; simp
  have hv1l := hv2.lt.1
  obtain ⟨m, hm⟩ : ∃ m, m = w1.heap.size := ⟨_, rfl⟩
  obtain ⟨v2, hv2e⟩ : ∃ v2, v2 = w3.heap.size := ⟨_, rfl⟩
  obtain ⟨vv, hvv⟩ : ∃ vv, vv = w1.heap.size + 1 := ⟨_, rfl⟩
  rw [← hvv, ← hm, ← hv2e] at hdu
  have hb34 : Below w3.heap.size w3 w4 := by rw [← hw4]; exact (Below.refl _ _).alloc (Nat.le_refl _) _
  rw [hw4]
  obtain ⟨w5, hw5⟩ : ∃ w5, w4.alloc (.cells #[ptr vv, ptr v2] 38) = w5 := ⟨_, rfl⟩
  have hb45 : Below w4.heap.size w4 w5 := by rw [← hw5]; exact (Below.refl _ _).alloc (Nat.le_refl _) _
  have hs5 : w5.heap.size = w4.heap.size + 1 := by rw [← hw5]; simp
  have hp5 : w5.heap[w4.heap.size]? = some (.cells #[ptr vv, ptr v2] 38 (0, 0)) := by rw [← hw5]; exact Go.heap_alloc_new _ _
  have hbB : Below w.heap.size w w5 := (((HBW.out.trans (hb1.mono HBW.out.size)).trans (hb2.mono (Nat.le_trans HBW.out.size hs1))).trans (hb3.mono (Nat.le_trans HBW.out.size (Nat.le_trans hs1 hs2)))).trans ((hb34.trans (hb45.mono hb34.size)).mono (Nat.le_trans HBW.out.size (Nat.le_trans hs1 (Nat.le_trans hs2 hs3))))
  have hW5 : Below W.heap.size W w5 := ((hb1.trans (hb2.mono hs1)).trans (hb3.mono (Nat.le_trans hs1 hs2))).trans ((hb34.trans (hb45.mono hb34.size)).mono (Nat.le_trans hs1 (Nat.le_trans hs2 hs3)))
  have hx5 := (hW5.block w.heap.size (by have := HSW.out; omega)).trans HX0.out
  have hdu5 := hdu.below hb45
  obtain ⟨p, hpe⟩ : ∃ p, p = w4.heap.size := ⟨_, rfl⟩
  rw [← hpe] at hp5
  -- what came in, and the pair's block, stand aside
  have haF : Aside R Rd w5 vv m v2 (fun k => F k ∨ k = w.heap.size ∨ k = p) := by
    intro k hk
    have hlt4 := hdu.lt
    rcases hk with hk | rfl | rfl
    · exact hdu5.aside (F := fun k => k < w.heap.size + 1) (fun k hk => hk) k (by have := HF.out k hk; omega)
    · exact hdu5.aside (F := fun k => k < w.heap.size + 1) (fun k hk => hk) _ (Nat.lt_succ_self _)
    · exact ⟨by omega, by omega, by omega, by omega, fun hr => by have := hlt4.2.2.2.2.1 _ hr; omega, fun hr => by have := hlt4.2.2.2.2.2.1 _ hr; omega⟩
  have hTx : TrIn F w5 t (.slice a1 attrs.length c1) (.slice a2 kids.length c2) := by
    rw [← HTT.out]
    exact TrIn.keep (fun k hk => hbB.block k (HF.out k hk)) (fun _ h => h) _ _ _ HT.out
  have hTy : TrIn (fun k => F k ∨ k = w.heap.size ∨ k = p) w5.drew t (.slice a1 attrs.length c1) (.slice a2 kids.length c2) := TrIn.keep (show Keeps F w5 w5.drew from fun k hk => rfl) (fun k hk => .inl hk) _ _ _ hTx
  have hszt : t.size ≤ 100000000 := by rw [← HTT.out]; exact hsz
  have hd5 : Duo R (fun _ => False) Rd (fun _ => False) (w.heap.size + 1) w5.drew vv m s v2 s2 ⟨fun _ => none, 0⟩ Store.fresh ⟨[], 0⟩ Doc.fresh := hdu5.below (Below.refl _ _).drew
  have hpl : Calls Try.prog 62 #[ptr vv, trV t (.slice a1 attrs.length c1) (.slice a2 kids.length c2), .int .i64 1] w5.drew (fun e w' => e = .returned (.int .i64 (ownV t).1) ∧ Duo R (fun _ => False) Rd (fun _ => False) (w.heap.size + 1) w' vv m s v2 s2 ⟨(ownV t).2.2, 0⟩ (madeS t) ⟨[], 0⟩ Doc.fresh ∧ Chg (Turns R Rd m v2) w5.drew w') := hd5.plant 1 hTy (haF.later (Nat.le_refl _)) (by decide) (by show (1 : Int) + _ ≤ _; omega)
  have hkeep : ∀ wz, Chg (Turns R Rd m v2) w5.drew wz → wz.heap[p]? = some (.cells #[ptr vv, ptr v2] 38 (0, 0)) ∧ wz.heap[w.heap.size]? = some (.cells #[.int .i64 kind, .string name, .string text, .slice a1 attrs.length c1, .slice a2 kids.length c2] 25 (0, 0)) ∧ Keeps F w wz ∧ Aside R Rd wz vv m v2 (fun k => F k ∨ k = w.heap.size ∨ k = p) := fun wz hc => by
    have hk := (haF.later (w' := w5.drew) (Nat.le_refl _)).keeps hc
    exact ⟨(hk p (.inr (.inr rfl))).trans hp5, (hk _ (.inr (.inl rfl))).trans hx5, fun k h9 => (hk k (.inl h9)).trans (hbB.block k (HF.out k h9)), haF.later hc.size⟩
  have HKP := Lib.hid hkeep
  have htr : trV t (.slice a1 attrs.length c1) (.slice a2 kids.length c2) = .agg #[.int .i64 kind, .string name, .string text, .slice a1 attrs.length c1, .slice a2 kids.length c2] := by rw [← HTT.out]; rfl
  rw [htr] at hpl
  have HPL := Lib.hid hpl
  have HAF := Lib.hid haF
  have HTX := Lib.hid hTy
  have HTR := Lib.hid htr
  obtain ⟨y0, y1⟩ : w5.cell? ⟨p, 0, none⟩ = some (ptr vv) ∧ w5.cell? ⟨p, 1, none⟩ = some (ptr v2) := by constructor <;> simp [World.cell?, hp5]
  obtain ⟨x0, x1, x2, x3, x4⟩ : w5.cell? ⟨w.heap.size, 0, none⟩ = some (.int .i64 kind) ∧ w5.cell? ⟨w.heap.size, 1, none⟩ = some (.string name) ∧ w5.cell? ⟨w.heap.size, 2, none⟩ = some (.string text) ∧ w5.cell? ⟨w.heap.size, 3, none⟩ = some (.slice a1 attrs.length c1) ∧ w5.cell? ⟨w.heap.size, 4, none⟩ = some (.slice a2 kids.length c2) := by
    refine ⟨?_, ?_, ?_, ?_, ?_⟩ <;> simp [World.cell?, hx5]
  have HP5 := Lib.hid hp5
  have HX5 := Lib.hid hx5
  have HBB := Lib.hid hbB
  have hw5p : p < w5.heap.size := by omega
  have hnp : w.heap.size < p := by have := HSW.out; omega
  rw [← hvv, ← hv2e, hw5, show v2 + 1 = p by omega]
  clear hpl hkeep haF hTx hTy htr hp5 hx5 hbB hdu hdu5 hd5 hp hv2 hq hb1 hb2 hb3 hb34 hb45 hs1 hs2 hs3 hs4 hs5 hW5 hw4 hw5 hvv hm hv2e hpe hv1l
  go_still_tail 5, (by kernel_rfl)
  change wpList _ _ _ _ _ w5.drew
  go_wp2_with fail
  refine HPL.out.mono ?_
  rintro e w6 ⟨rfl, hd6, hc6⟩
  obtain ⟨id, hid⟩ : ∃ id, (ownV t).1 = id := ⟨_, rfl⟩
  rw [hid]
  have HID := Lib.hid hid
  clear hid
  have hs6 : w5.heap.size ≤ w6.heap.size := hc6.size
  obtain ⟨hp6, hx6, hkF6, haF6⟩ := HKP.out w6 hc6
  obtain ⟨y0, y1⟩ : w6.cell? ⟨p, 0, none⟩ = some (ptr vv) ∧ w6.cell? ⟨p, 1, none⟩ = some (ptr v2) := by constructor <;> simp [World.cell?, hp6]
  obtain ⟨x0, x1, x2, x3, x4⟩ : w6.cell? ⟨w.heap.size, 0, none⟩ = some (.int .i64 kind) ∧ w6.cell? ⟨w.heap.size, 1, none⟩ = some (.string name) ∧ w6.cell? ⟨w.heap.size, 2, none⟩ = some (.string text) ∧ w6.cell? ⟨w.heap.size, 3, none⟩ = some (.slice a1 attrs.length c1) ∧ w6.cell? ⟨w.heap.size, 4, none⟩ = some (.slice a2 kids.length c2) := by
    refine ⟨?_, ?_, ?_, ?_, ?_⟩ <;> simp [World.cell?, hx6]
  have hT6 : TrIn (fun k => F k ∨ k = w.heap.size ∨ k = p) w6.drew t (.slice a1 attrs.length c1) (.slice a2 kids.length c2) := by
    rw [← HTT.out]
    exact TrIn.keep (show Keeps F w w6.drew from hkF6) (fun k hk => .inl hk) _ _ _ HT.out
  have hsame := own_same t
  have hpl6 := (hd6.below (Below.refl _ _).drew).rplant 1 hT6 (haF6.later (Nat.le_refl _)) (by decide) (by show (1 : Int) + _ ≤ _; omega) (by show 0 + _ ≤ _; omega)
  have hpl7 : Calls Try.prog 73 #[ptr v2, .agg #[.int .i64 kind, .string name, .string text, .slice a1 attrs.length c1, .slice a2 kids.length c2], .int .i64 1] w6.drew (fun e w' => (∃ i2, e = .returned (.int .i64 i2)) ∧ Duo R (fun _ => False) Rd (fun _ => False) (w.heap.size + 1) w' vv m s v2 s2 ⟨(ownV t).2.2, 0⟩ (madeS t) ⟨(ownL1 t).2.2, 0⟩ (madeD t) ∧ Chg (Turns R Rd m v2) w6.drew w') := by
    rw [← HTR.out]
    refine hpl6.mono ?_
    rintro e w' ⟨he, hd, hc⟩
    refine ⟨⟨_, he⟩, ?_, hc⟩
    have h9 : ({ Doc.fresh with given := (ownL1 t).2.1 } : Doc) = madeD t := by rw [hsame.2.1]; rfl
    rw [← h9]
    exact hd
  have HPL7 := Lib.hid hpl7
  have HC6 := Lib.hid hc6
  clear hpl6 hpl7 hd6 hc6 hp6 hx6 hkF6 haF6 hT6 hsame
  go_wp2_with fail
  go_still_tail 5, (by kernel_rfl)
  change wpList _ _ _ _ _ w6.drew
  go_wp2_with fail
  refine HPL7.out.mono ?_
  rintro e w7 ⟨⟨i2, rfl⟩, hd7, hc7⟩
  have hs7 : w6.heap.size ≤ w7.heap.size := hc7.size
  have hc57 : Chg (Turns R Rd m v2) w5.drew w7 := (HC6.out.trans (chg_new (Below.refl _ _).drew)).trans hc7
  have HC57 := Lib.hid hc57
  have HD7 := Lib.hid hd7
  clear hd7 hc7 hc57 x0 x1 x2 x3 x4 y0 y1
  go_upto_if 30 with fail
  go_cut [] (fun wx => ∃ kv9, wx.heap[w7.heap.size]? = some (.cells #[.int .i64 1, .string ⟨#[]⟩, .string ⟨#[]⟩, .int .i64 0, kv9, .slice none 0 0, .bool false] 52 (0, 0)) ∧ IntsIn (fun k => w7.heap.size < k ∧ k < wx.heap.size) wx kv9 (if 0 < id then [id] else []) ∧ Below w7.heap.size w7 wx ∧ w7.heap.size < wx.heap.size)
  case first =>
    by_cases hpos : 0 < id
    · go_wp2
      go_meet
      rw [if_pos hpos]
      refine ⟨.slice (some ⟨w7.heap.size + 1, 0, none⟩) 1 1, (Go.heap_alloc_old _ _ (by simp)).trans (Go.heap_alloc_new _ _), ⟨_, 1, rfl, by simp, by decide, .inr ⟨w7.heap.size + 1, 0, rfl, ⟨by omega, by simp⟩, fun j x hj => ?_⟩⟩, ((Below.refl _ _).alloc (Nat.le_refl _) _).alloc (by simp) _, by simp; omega⟩
      match j, hj with
      | 0, hj =>
        simp at hj
        subst hj
        simp [go_sem]
    · go_wp2
      go_meet
      rw [if_neg (by omega)]
      exact ⟨_, Go.heap_alloc_new _ _, intsIn_nil _ _, (Below.refl _ _).alloc (Nat.le_refl _) _, by simp⟩
  case rest =>
  obtain ⟨kv9, hr9, hi9, hb9, hl9⟩ := hcut
  obtain ⟨w8, rfl⟩ : ∃ w8, w8 = wc := ⟨_, rfl⟩
  have hkids : (rootR id).kids = if 0 < id then [id] else [] := rfl
  have hi10 : IntsIn (fun k => w7.heap.size < k ∧ k < w8.heap.size) w8 kv9 (rootR id).kids := hi9
  have hrv : RecV (fun k => w7.heap.size ≤ k ∧ k < w8.heap.size) w8.drew (recV (rootR id) kv9 (.slice none 0 0)) (rootR id) := ⟨_, _, rfl, hi10.mono (fun k hk => ⟨Nat.le_of_lt hk.1, hk.2⟩), intsIn_nil _ _⟩
  have hrok : RecOk (rootR id) := by
    refine ⟨?_, by show ([] : List Int).length * 8 ≤ _; simp⟩
    rw [hkids]; split <;> simp
  have hput : putOk 1 (rootR id) = true := by rw [← HID.out]; exact root_ok t
  have hlt7 := HD7.out.lt
  have hagR : Aside R Rd w8.drew vv m v2 (fun k => w7.heap.size ≤ k ∧ k < w8.heap.size) := fun k hk => ⟨hk.2, by omega, by omega, by omega, fun hr => by have := hlt7.2.2.2.2.1 k hr; omega, fun hr => by have := hlt7.2.2.2.2.2.1 k hr; omega⟩
  have hpt := ((HD7.out.below hb9).below (Below.refl _ _).drew).put 1 hrok hrv hagR
  rw [hput, if_pos rfl, if_pos rfl] at hpt
  have HPT := Lib.hid hpt
  have hc58 : Chg (Turns R Rd m v2) w5.drew w8 := HC57.out.trans (chg_new hb9)
  obtain ⟨hp8, hx8, hkF8, haF8⟩ := HKP.out w8 hc58
  obtain ⟨y0, y1⟩ : w8.cell? ⟨p, 0, none⟩ = some (ptr vv) ∧ w8.cell? ⟨p, 1, none⟩ = some (ptr v2) := by constructor <;> simp [World.cell?, hp8]
  obtain ⟨a9, c9, hkv, -⟩ := id_ hi9
  rw [← hkids] at hkv
  subst hkv
  obtain ⟨z0, z1, z2, z3, z4, z5, z6⟩ := cells7 hr9
  have HR9 := Lib.hid hr9
  have HC58 := Lib.hid hc58
  have HAGR := Lib.hid hagR
  have HRV := Lib.hid hrv
  have HRO := Lib.hid hrok
  have HPUT := Lib.hid hput
  clear hr9 hi9 hb9 hi10 hrv hrok hput hagR hpt hc58 hp8 hx8 hkF8 haF8 hkids
  go_wp2_with fail
  go_still_tail 5, (by kernel_rfl)
  change wpList _ _ _ _ _ w8.drew
  go_wp2_with fail
  refine HPT.out.mono ?_
  rintro e w9 ⟨rfl, hd9, hc9⟩
  have hs9 : w8.heap.size ≤ w9.heap.size := hc9.size
  have hG9 := HAGR.out.keeps hc9
  have hr10 := (hG9 w7.heap.size ⟨Nat.le_refl _, hl9⟩).trans HR9.out
  obtain ⟨z0, z1, z2, z3, z4, z5, z6⟩ := cells7 hr10
  have hlen8 := made_len t []
  unfold madeL at hlen8
  simp only [List.foldl_nil, List.length_nil] at hlen8
  have hln1 : (ownL1 t).2.2.length ≤ t.size := by have := plantL_len t 1 1 []; unfold ownL1; simpa using this
  have hpt := (hd9.below (Below.refl _ _).drew).rput 1 HRO.out (HRV.out.keep hG9) (HAGR.out.later (w' := w9.drew) hs9) (by show (ownL1 t).2.2.length ≤ _; omega)
  rw [HPUT.out, if_pos rfl, if_pos rfl] at hpt
  have HPT2 := Lib.hid hpt
  have hc59 : Chg (Turns R Rd m v2) w5.drew w9 := (HC58.out.trans (chg_new (Below.refl _ _).drew)).trans hc9
  obtain ⟨hp9, hx9, hkF9, haF9⟩ := HKP.out w9 hc59
  obtain ⟨y0, y1⟩ : w9.cell? ⟨p, 0, none⟩ = some (ptr vv) ∧ w9.cell? ⟨p, 1, none⟩ = some (ptr v2) := by constructor <;> simp [World.cell?, hp9]
  have HC59 := Lib.hid hc59
  clear hd9 hc9 hr10 hG9 hpt hc59 hp9 hx9 hkF9 haF9 hlen8
  go_wp2_with fail
  go_still_tail 5, (by kernel_rfl)
  change wpList _ _ _ _ _ w9.drew
  go_wp2_with fail
  refine HPT2.out.mono ?_
  rintro e w10 ⟨rfl, hd10, hc10⟩
  have hcA : Chg (Turns R Rd m v2) w5.drew w10 := (HC59.out.trans (chg_new (Below.refl _ _).drew)).trans hc10
  have hdA : Duo R (fun _ => False) Rd (fun _ => False) (w.heap.size + 1) w10 vv m s v2 s2 ⟨madeO t [], 0⟩ (madeS t) ⟨madeL t [], 0⟩ (madeD t) := by
    have e1 : madeO t [] = putO 1 (rootR id) (ownV t).2.2 := by unfold madeO; rw [HID.out]; rfl
    have e2 : madeL t [] = layL 1 (rootR id) (ownL1 t).2.2 := by unfold madeL; rw [(own_same t).1, HID.out]; rfl
    rw [e1, e2]
    exact hd10
  have HCA := Lib.hid hcA
  have HDA := Lib.hid hdA
  clear hd10 hc10 hcA hdA y0 y1 z0 z1 z2 z3 z4 z5 z6
  go_wp2_with fail
  go_loopw [8] (fun i wr => ∃ k : Nat, k ≤ cs.length ∧ k ≤ 12 ∧ i = .int .i64 k ∧ Duo R (fun _ => False) Rd (fun _ => False) (w.heap.size + 1) wr vv m s v2 s2 ⟨madeO t (cs.take k), 0⟩ (madeS t) ⟨madeL t (cs.take k), 0⟩ (madeD t) ∧ Chg (Turns R Rd m v2) w5.drew wr) (fun i _ => 12 - (intOf i).toNat)
  case atStart => exact ⟨0, Nat.zero_le _, by omega, rfl, HDA.out, HCA.out⟩
  case round =>
    obtain ⟨k, hk, hk12, rfl, hdr, hcr⟩ := hrel
    obtain ⟨hpr, hxr, hkFr, haFr⟩ := HKP.out wr hcr
    obtain ⟨y0, y1⟩ : wr.cell? ⟨p, 0, none⟩ = some (ptr vv) ∧ wr.cell? ⟨p, 1, none⟩ = some (ptr v2) := by constructor <;> simp [World.cell?, hpr]
    have HDR := Lib.hid hdr
    have HCR := Lib.hid hcr
    have HKR := Lib.hid hkFr
    have HAR := Lib.hid haFr
    have HPR := Lib.hid hpr
    clear hdr hcr hxr hkFr haFr hpr
    by_cases hgo : k < cs.length ∧ k < 12
    · obtain ⟨hlt, h12⟩ := hgo
      obtain ⟨c, hck⟩ : ∃ c, cs[k]? = some c := ⟨_, List.getElem?_eq_getElem hlt⟩
      obtain ⟨g, off, rfl, hFg, hcc⟩ : ∃ g off, a3 = some ⟨g, off, none⟩ ∧ F g ∧ ∀ (k : Nat) (c : Chn), cs[k]? = some c → ∃ kv av, IntsIn F w kv c.r.kids ∧ IntsIn F w av c.r.attrs ∧ ∀ j x, (chL c kv av)[j]? = some x → w.cell? ⟨g, off + k * 8 + j, none⟩ = some x := by
        rcases HX.out with h | h
        · rw [h] at hlt; simp at hlt
        · exact h
      obtain ⟨ckv, cav, ci1, ci2, hce⟩ := hcc k c hck
      have hokc := HOK.out c (List.mem_of_getElem? hck)
      have htk : cs.take (k + 1) = cs.take k ++ [c] := by rw [List.take_add_one, hck]; rfl
      have hnV : madeO t (cs.take (k + 1)) = putC (madeO t (cs.take k)) c := by unfold madeO; rw [htk, List.foldl_append]; rfl
      have hnL : madeL t (cs.take (k + 1)) = putCL (madeL t (cs.take k)) c := by unfold madeL; rw [htk, List.foldl_append]; rfl
      have hlenL := made_len t (cs.take k)
      rw [List.length_take, Nat.min_eq_left hk] at hlenL
      have cellsW : ∀ wz : World, Keeps F w wz → ∀ j x, (chL c ckv cav)[j]? = some x → wz.cell? ⟨g, off + k * 8 + j, none⟩ = some x := fun wz hkz j x hx => (World.cell?_of_block (a := ⟨g, off + k * 8 + j, none⟩) (hkz g hFg)).trans (hce j x hx)
      have HCW := Lib.hid cellsW
      have hkd : Keeps F w wr.drew := HKR.out
      have hpt := (HDR.out.below (Below.refl _ _).drew).put c.id hokc (x := recV c.r ckv cav) ⟨_, _, rfl, (ci1.keep hkd).mono (fun k hk => .inl hk), (ci2.keep hkd).mono (fun k hk => .inl hk)⟩ (HAR.out.later (w' := wr.drew) (Nat.le_refl _))
      have hpt1 : Calls Try.prog 66 #[ptr vv, iv c.id, recV c.r ckv cav] wr.drew (fun e w' => (∃ rr, e = .returned (.int .i64 rr)) ∧ Duo R (fun _ => False) Rd (fun _ => False) (w.heap.size + 1) w' vv m s v2 s2 ⟨madeO t (cs.take (k + 1)), 0⟩ (madeS t) ⟨madeL t (cs.take k), 0⟩ (madeD t) ∧ Chg (Turns R Rd m v2) wr.drew w') := by
        refine hpt.mono ?_
        rintro e w' ⟨he, hd, hc⟩
        refine ⟨⟨_, he⟩, ?_, hc⟩
        rw [hnV]
        unfold putC
        split
        · rename_i h9; rw [if_pos h9] at hd; exact hd
        · rename_i h9; rw [if_neg h9] at hd; exact hd
      have HP1 := Lib.hid hpt1
      have HI1 := Lib.hid ci1
      have HI2 := Lib.hid ci2
      have HNL := Lib.hid hnL
      have HOKC := Lib.hid hokc
      obtain ⟨ka, kc, rfl, -, -, -⟩ := ci1
      obtain ⟨aa, ac, rfl, -, -, -⟩ := ci2
      have e0 : wr.cell? ⟨g, off + k * 8, none⟩ = some _ := HCW.out wr HKR.out 0 _ rfl
      have e1 : wr.cell? ⟨g, off + k * 8 + 1, none⟩ = some _ := HCW.out wr HKR.out 1 _ rfl
      have e2 : wr.cell? ⟨g, off + k * 8 + 1 + 1, none⟩ = some _ := (by rw [show off + k * 8 + 1 + 1 = off + k * 8 + 2 by omega]; exact HCW.out wr HKR.out 2 _ rfl)
      have e3 : wr.cell? ⟨g, off + k * 8 + 1 + 2, none⟩ = some _ := (by rw [show off + k * 8 + 1 + 2 = off + k * 8 + 3 by omega]; exact HCW.out wr HKR.out 3 _ rfl)
      have e4 : wr.cell? ⟨g, off + k * 8 + 1 + 3, none⟩ = some _ := (by rw [show off + k * 8 + 1 + 3 = off + k * 8 + 4 by omega]; exact HCW.out wr HKR.out 4 _ rfl)
      have e5 : wr.cell? ⟨g, off + k * 8 + 1 + 4, none⟩ = some _ := (by rw [show off + k * 8 + 1 + 4 = off + k * 8 + 5 by omega]; exact HCW.out wr HKR.out 5 _ rfl)
      have e6 : wr.cell? ⟨g, off + k * 8 + 1 + 5, none⟩ = some _ := (by rw [show off + k * 8 + 1 + 5 = off + k * 8 + 6 by omega]; exact HCW.out wr HKR.out 6 _ rfl)
      have e7 : wr.cell? ⟨g, off + k * 8 + 1 + 6, none⟩ = some _ := (by rw [show off + k * 8 + 1 + 6 = off + k * 8 + 7 by omega]; exact HCW.out wr HKR.out 7 _ rfl)
      have hk0 : (0 : Int) ≤ k := by omega
      have hkl : (k : Int) < cs.length := by omega
      have hk6 : (k : Int) < 12 := by omega
      clear hcc hck htk hnV hnL hce cellsW hpt hpt1 hokc hkd
      obtain ⟨cid, ckind, cname, ctext, cparent, ckids, cattrs, cgone⟩ := c
      simp only at *
      go_wp2_with fail
      go_still_tail 14, (by kernel_rfl)
      change wpList _ _ _ _ _ wr.drew
      go_wp2_with fail
      refine HP1.out.mono ?_
      rintro e wB ⟨⟨rr, rfl⟩, hdB, hcB⟩
      have hcrB : Chg (Turns R Rd m v2) w5.drew wB := (HCR.out.trans (chg_new (Below.refl _ _).drew)).trans hcB
      obtain ⟨hpB, hxB, hkFB, haFB⟩ := HKP.out wB hcrB
      obtain ⟨y0, y1⟩ : wB.cell? ⟨p, 0, none⟩ = some (ptr vv) ∧ wB.cell? ⟨p, 1, none⟩ = some (ptr v2) := by constructor <;> simp [World.cell?, hpB]
      have e0 : wB.cell? ⟨g, off + k * 8, none⟩ = some _ := HCW.out wB hkFB 0 _ rfl
      have e1 : wB.cell? ⟨g, off + k * 8 + 1, none⟩ = some _ := HCW.out wB hkFB 1 _ rfl
      have e2 : wB.cell? ⟨g, off + k * 8 + 1 + 1, none⟩ = some _ := (by rw [show off + k * 8 + 1 + 1 = off + k * 8 + 2 by omega]; exact HCW.out wB hkFB 2 _ rfl)
      have e3 : wB.cell? ⟨g, off + k * 8 + 1 + 2, none⟩ = some _ := (by rw [show off + k * 8 + 1 + 2 = off + k * 8 + 3 by omega]; exact HCW.out wB hkFB 3 _ rfl)
      have e4 : wB.cell? ⟨g, off + k * 8 + 1 + 3, none⟩ = some _ := (by rw [show off + k * 8 + 1 + 3 = off + k * 8 + 4 by omega]; exact HCW.out wB hkFB 4 _ rfl)
      have e5 : wB.cell? ⟨g, off + k * 8 + 1 + 4, none⟩ = some _ := (by rw [show off + k * 8 + 1 + 4 = off + k * 8 + 5 by omega]; exact HCW.out wB hkFB 5 _ rfl)
      have e6 : wB.cell? ⟨g, off + k * 8 + 1 + 5, none⟩ = some _ := (by rw [show off + k * 8 + 1 + 5 = off + k * 8 + 6 by omega]; exact HCW.out wB hkFB 6 _ rfl)
      have e7 : wB.cell? ⟨g, off + k * 8 + 1 + 6, none⟩ = some _ := (by rw [show off + k * 8 + 1 + 6 = off + k * 8 + 7 by omega]; exact HCW.out wB hkFB 7 _ rfl)
      have hkd : Keeps F w wB.drew := hkFB
      have hpt := (hdB.below (Below.refl _ _).drew).rput cid HOKC.out (x := recV ⟨ckind, cname, ctext, cparent, ckids, cattrs, cgone⟩ (.slice ka ckids.length kc) (.slice aa cattrs.length ac)) ⟨_, _, rfl, (HI1.out.keep hkd).mono (fun k hk => .inl hk), (HI2.out.keep hkd).mono (fun k hk => .inl hk)⟩ (haFB.later (w' := wB.drew) (Nat.le_refl _)) (by show (madeL t (cs.take k)).length ≤ _; omega)
      have hpt2 : Calls Try.prog 74 #[ptr v2, iv cid, recV ⟨ckind, cname, ctext, cparent, ckids, cattrs, cgone⟩ (.slice ka ckids.length kc) (.slice aa cattrs.length ac)] wB.drew (fun e w' => (∃ rr, e = .returned (.int .i64 rr)) ∧ Duo R (fun _ => False) Rd (fun _ => False) (w.heap.size + 1) w' vv m s v2 s2 ⟨madeO t (cs.take (k + 1)), 0⟩ (madeS t) ⟨madeL t (cs.take (k + 1)), 0⟩ (madeD t) ∧ Chg (Turns R Rd m v2) wB.drew w') := by
        refine hpt.mono ?_
        rintro e w' ⟨he, hd, hc⟩
        refine ⟨⟨_, he⟩, ?_, hc⟩
        rw [HNL.out]
        unfold putCL
        split
        · rename_i h9; rw [if_pos h9] at hd; exact hd
        · rename_i h9; rw [if_neg h9] at hd; exact hd
      have HP2 := Lib.hid hpt2
      have HCB := Lib.hid hcrB
      clear hpt hpt2 hcrB hdB hcB hpB hxB hkFB haFB hkd
      go_wp2_with fail
      go_still_tail 14, (by kernel_rfl)
      change wpList _ _ _ _ _ wB.drew
      go_wp2_with fail
      refine HP2.out.mono ?_
      rintro e wC ⟨⟨rr2, rfl⟩, hdC, hcC⟩
      have HDC := Lib.hid hdC
      have HCC := Lib.hid ((HCB.out.trans (chg_new (Below.refl _ _).drew)).trans hcC)
      clear hdC hcC y0 y1 e0 e1 e2 e3 e4 e5 e6 e7
      go_wp2_with fail
      go_roundw
      case rel => exact ⟨k + 1, by omega, by omega, by go_num, HDC.out, HCC.out⟩
      case measure => simp [intOf]; omega
    · have hnot : ¬ ((k : Int) < cs.length) ∨ (((k : Int) < cs.length) ∧ ¬ ((k : Int) < 12)) := by
        by_cases h1 : k < cs.length
        · right; exact ⟨by omega, fun h2 => hgo ⟨h1, by omega⟩⟩
        · left; omega
      have htk : cs.take k = cs.take 12 := by
        by_cases h1 : k < cs.length
        · have : k = 12 := by
            by_cases h2 : k < 12
            · exact absurd ⟨h1, h2⟩ hgo
            · omega
          rw [this]
        · rw [List.take_of_length_le (by omega), List.take_of_length_le (by omega)]
      have HTK := Lib.hid htk
      clear htk hgo
      rcases hnot with hn9 | ⟨hn0, hn9⟩
      all_goals
        go_wp2
        go_ret
        rw [HTT.out]
        refine ⟨R, Rd, p, vv, m, s, v2, s2, rfl, by rw [← HTK.out]; exact HDR.out, HPR.out, by omega, ?_⟩
        have hc9 := HCR.out.mono (M' := New w.heap.size) (fun k hk => by have : w.heap.size + 1 ≤ k := HDR.out.turns k hk; exact Nat.le_of_succ_le this)
        exact below_of_chg ((chg_new HBB.out.drew).trans hc9)
end Go.Proofs.Ytinkjhkbaadbpaa
