/- Parents (69). -/
import Derived.Test.YtinkjhkbaadbpaaWS
namespace Go.Proofs.Ytinkjhkbaadbpaa
open Go.RowKit
open Go.ChangeMaps (setBlock)
set_option linter.unusedVariables false

/-- a set of numbers in memory -/
def SetIs (w : World) (m : Nat) (s : Int → Prop) : Prop := ∃ f, MapIs iv w m f ∧ (∀ x v, f x = some v → v = .bool true) ∧ ∀ x, s x ↔ (f x).isSome = true
theorem SetIs.keep {w w' : World} {m : Nat} {s : Int → Prop} (h : SetIs w m s) (hk : w'.heap[m]? = w.heap[m]?) : SetIs w' m s := by
  obtain ⟨f, h1, h2, h3⟩ := h
  exact ⟨f, h1.keep hk, h2, h3⟩
theorem SetIs.lt {w : World} {m : Nat} {s : Int → Prop} (h : SetIs w m s) : m < w.heap.size := by
  obtain ⟨f, h1, -⟩ := h
  exact h1.lt
theorem SetIs.look {w : World} {m : Nat} {s : Int → Prop} (h : SetIs w m s) (x : Int) (b : Bool) (hb : b = true ↔ s x) : (Instr.lookup 144 (.map (some m)) (.int .i64 x) false).run Try.prog w = .ok (.bool b) w := by
  obtain ⟨f, h1, h2, h3⟩ := h
  have := h1.look key3 Try.underlying144 Try.zero4 x false
  rw [this]
  cases e : f x with
  | none =>
    have : b = false := by
      cases b with
      | false => rfl
      | true => have := (h3 x).1 (hb.1 rfl); rw [e] at this; cases this
    rw [this]; rfl
  | some v =>
    have hv := h2 x v e
    have : b = true := hb.2 ((h3 x).2 (by rw [e]; rfl))
    rw [this, hv]; rfl
theorem SetIs.store {w : World} {m : Nat} {s : Int → Prop} (h : SetIs w m s) (x : Int) : ∃ es ck, (Instr.mapUpdate 144 (.map (some m)) (.int .i64 x) (.bool true)).run Try.prog w = .ok () (setBlock w m (.map es ck)) ∧ SetIs (setBlock w m (.map es ck)) m (fun y => s y ∨ y = x) := by
  obtain ⟨f, h1, h2, h3⟩ := h
  obtain ⟨es, ck, hr, hv⟩ := h1.store key3 Try.underlying144 x (.bool true)
  refine ⟨es, ck, hr, upd f x (some (.bool true)), ⟨es, ck, heap_setBlock_same h1.lt _, hv⟩, fun y v hy => ?_, fun y => ?_⟩
  · by_cases e : y = x
    · subst e; rw [upd_same] at hy; cases hy; rfl
    · rw [upd_other _ _ e] at hy; exact h2 y v hy
  · by_cases e : y = x
    · subst e; simp
    · rw [upd_other _ _ e]; simp [e, h3 y]
theorem setIs_new (w : World) : SetIs (w.alloc (.map #[] 0)) w.heap.size (fun _ => False) := ⟨fun _ => none, mapIs_new iv w, (fun x v h => by cases h), fun x => by simp⟩
theorem SetIs.congr {w : World} {m : Nat} {s s' : Int → Prop} (h : SetIs w m s) (hs : ∀ x, s x ↔ s' x) : SetIs w m s' := by
  obtain rfl : s = s' := funext fun x => propext (hs x)
  exact h
abbrev recCells (r : Rec) (kv av : Value) : Obj := .cells #[.int .i64 r.kind, .string r.name, .string r.text, .int .i64 r.parent, kv, av, .bool r.gone] 52 (0, 0)

def upO (g : Int → Option Rec) (K : Nat) (id : Int) : Option Rec → List Int
  | none => []
  | some r => upS g K id [] r.parent
theorem upF_eq (g : Int → Option Rec) (K : Nat) (id : Int) : upF g K id = upO g K id (g id) := by
  unfold upF upO
  cases g id <;> rfl
def upN (g : Int → Option Rec) (n : Nat) (id : Int) (l : List Int) (p : Int) : Option Rec → List Int
  | none => l
  | some r => if p = id ∨ p ∈ l then l else upS g n id (l ++ [p]) r.parent
theorem upS_succ (g : Int → Option Rec) (n : Nat) (id : Int) (l : List Int) (p : Int) : upS g (n + 1) id l p = upN g n id l p (g p) := by
  rw [upS]; unfold upN
  cases g p <;> rfl
set_option maxRecDepth 100000 in
set_option maxHeartbeats 4000000 in
theorem parents_any {w : World} {v : Nat} {g : Int → Option Rec} {keys : List Int} (h : Reads 29 w v g) (hk : KeysOf g keys) (hkl : keys.length ≤ 1000000000) (id : Int) :
    Calls Try.prog 69 #[ptr v, iv id] w (AxPost w (upF g (keys.length + 1) id)) := by
  obtain ⟨i0, hi, hz0, hz1, hz2⟩ := info_parts Try.info3
  have hmm := @run_makeMap Try.prog
  obtain ⟨es0, ck0, hmu0, hset0⟩ := (setIs_new w).store id
  obtain ⟨W, hW⟩ : ∃ W, setBlock (w.alloc (.map #[] 0)) w.heap.size (.map es0 ck0) = W := ⟨_, rfl⟩
  have hbW : Below w.heap.size w W := by
    rw [← hW]
    exact below_of_chg (((chg_alloc w _).trans (chg_setBlock (M := New w.heap.size) (Nat.le_refl _) _)))
  have hsW : W.heap.size = w.heap.size + 1 := by
    rw [← hW]
    have h9 := (show (setBlock (w.alloc (.map #[] 0)) w.heap.size (.map es0 ck0)).heap.size = (w.alloc (.map #[] 0)).heap.size by simp [setBlock])
    rw [h9]; simp
  rw [hW] at hset0
  have HSET := Lib.hid (hset0.congr (s' := fun x => x = id ∨ x ∈ ([] : List Int)) (fun x => by simp))
  have HC := Lib.hid (h W hbW id)
  obtain ⟨o, ho⟩ : ∃ o, g id = o := ⟨_, rfl⟩
  have hfin : upF g (keys.length + 1) id = upO g (keys.length + 1) id o := by rw [upF_eq, ho]
  rw [ho] at HC
  obtain ⟨fin, hf⟩ : ∃ fin, upF g (keys.length + 1) id = fin := ⟨_, rfl⟩
  rw [hf] at hfin ⊢
  have hfl : fin.length ≤ keys.length := by
    rw [hfin]
    cases o with
    | none => simp [upO]
    | some r =>
      have := upS_nodup hk (keys.length + 1) id [] r.parent ⟨List.nodup_nil, by simp, by simp⟩
      exact nodup_len this.1 this.2.2
  have HFIN := Lib.hid hfin
  have HW := Lib.hid hW
  have HBW := Lib.hid hbW
  have HSW := Lib.hid hsW
  have HR := Lib.hid h
  have HK := Lib.hid hk
  clear hset0 hW hbW h hsW hk ho hf hfin hfl
  go_enter Try.func69, Try.ntmps69
  go_wp2_with fail
  rw [HW.out]
  refine HC.out.mono ?_
  rintro e w1 ⟨⟨kv1, av1, rfl, hk1, ha1⟩, hb1⟩
  obtain ⟨ka, kc, rfl, -, -, -⟩ := hk1
  obtain ⟨aa, ac, rfl, -, -, -⟩ := ha1
  have hs1 := hb1.size
  have HSET1 := Lib.hid (HSET.out.keep (hb1.block w.heap.size (by have := HSW.out; omega)))
  have HB1 := Lib.hid (HBW.out.trans (hb1.mono HBW.out.size))
  have hms : w.heap.size < w1.heap.size := by have := HSW.out; omega
  clear hb1 hmu0
  go_upto_region 4 with fail
  obtain ⟨W2, hW2⟩ : ∃ W2, w1.alloc (recCells (o.getD Rec.zero) (.slice ka (o.getD Rec.zero).kids.length kc) (.slice aa (o.getD Rec.zero).attrs.length ac)) = W2 := ⟨_, rfl⟩
  have hs2 : W2.heap.size = w1.heap.size + 1 := by rw [← hW2]; simp
  have hb2 : Below w1.heap.size w1 W2 := by rw [← hW2]; exact (Below.refl _ _).alloc (Nat.le_refl _) _
  have hr2 : W2.heap[w1.heap.size]? = some (recCells (o.getD Rec.zero) (.slice ka (o.getD Rec.zero).kids.length kc) (.slice aa (o.getD Rec.zero).attrs.length ac)) := by rw [← hW2]; exact Go.heap_alloc_new _ _
  rw [show w1.alloc (.cells #[.int .i64 (o.getD Rec.zero).kind, .string (o.getD Rec.zero).name, .string (o.getD Rec.zero).text, .int .i64 (o.getD Rec.zero).parent, .slice ka (o.getD Rec.zero).kids.length kc, .slice aa (o.getD Rec.zero).attrs.length ac, .bool (o.getD Rec.zero).gone] 52) = W2 from hW2]
  have HSET2 := Lib.hid (HSET1.out.keep (hb2.block w.heap.size hms))
  have HB2 := Lib.hid (HB1.out.trans (hb2.mono HB1.out.size))
  have HS2 := Lib.hid hs2
  have HR2 := Lib.hid hr2
  clear hW2 hs2 hb2 hr2
  go_loopw [1, 5, 8] (fun i1 u ub wr => ∃ (b : Bool) (l : List Int) (p : Int), i1 = iv p ∧ ub = .bool b ∧ wr.ownsRow (w1.heap.size + 1) 3 1 u l.length (l.map iv) ∧ SetIs wr w.heap.size (fun x => x = id ∨ x ∈ l) ∧ Below w.heap.size w wr ∧ w1.heap.size < wr.heap.size ∧
      (∃ r kv av, wr.heap[w1.heap.size]? = some (recCells r kv av) ∧ (b = true → ∃ n, n + l.length = keys.length + 1 ∧ fin = upS g n id l r.parent)) ∧ (b = false → l = fin) ∧ (l.Nodup ∧ id ∉ l ∧ ∀ x ∈ l, x ∈ keys)) (fun _ u ub _ => (keys.length + 2 - (match u with | .slice _ n _ => n | _ => 0)))
  case atStart =>
    refine ⟨o.isSome, [], id, rfl, rfl, World.ownsRow_nil _ _ _ _, HSET2.out, HB2.out, by have := HS2.out; omega, ⟨_, _, _, HR2.out, fun hb => ⟨keys.length + 1, rfl, ?_⟩⟩, fun hb => ?_, List.nodup_nil, by simp, by simp⟩
    · cases o with
      | none => cases hb
      | some r => exact HFIN.out
    · cases o with
      | none => exact HFIN.out.symm
      | some r => cases hb
  case round =>
    obtain ⟨b, l, p, rfl, rfl, hown, hset, hbr, hlr, ⟨r, kv, av, hrec, hgo⟩, hend, hnd⟩ := hrel
    obtain ⟨al, cl, rfl⟩ := ownsRow_shape hown
    have hlen := nodup_len hnd.1 hnd.2.2
    have HOWN := Lib.hid hown
    have HST := Lib.hid hset
    have HBR := Lib.hid hbr
    have HREC := Lib.hid hrec
    have HGO := Lib.hid hgo
    have HEND := Lib.hid hend
    have HND := Lib.hid hnd
    obtain ⟨z0, z1, z2, z3, z4, z5, z6⟩ := cells7 hrec
    have fz := free_block hrec
    clear hown hset hbr hgo hend hnd hrec
    cases b with
    | false =>
      have he := HEND.out rfl
      have HE := Lib.hid he
      clear he
      go_wp2
      go_ret
      rw [← HE.out]
      exact ⟨⟨_, rfl, (intsIn_row HOWN.out).old⟩, HBR.out⟩
    | true =>
      have hsr := HBR.out.size
      obtain ⟨o2, ho2⟩ : ∃ o2, g r.parent = o2 := ⟨_, rfl⟩
      have hc2 := HR.out wr HBR.out r.parent
      rw [ho2] at hc2
      obtain ⟨n, hn, hfin⟩ := HGO.out rfl
      obtain ⟨n, rfl⟩ : ∃ n', n = n' + 1 := ⟨n - 1, by omega⟩
      have hstep : fin = upN g n id l r.parent o2 := by rw [hfin, upS_succ, ho2]
      have HC2 := Lib.hid hc2
      have HSTEP := Lib.hid hstep
      have HO2 := Lib.hid ho2
      clear hc2 hstep ho2 hfin
      go_upto_region 7 with (go_at_call 29; refine HC2.out.mono ?_; rintro e w2 ⟨⟨kv2, av2, rfl, hk2, ha2⟩, hb2⟩; obtain ⟨ka2, kc2, rfl, -, -, -⟩ := hk2; obtain ⟨aa2, ac2, rfl, -, -, -⟩ := ha2; have hr2 := (hb2.block w1.heap.size hlr).trans HREC.out; obtain ⟨y0, y1, y2, y3, y4, y5, y6⟩ := cells7 hr2; have fy := free_block hr2; have HR2 := Lib.hid hr2; have HB2x := Lib.hid hb2; clear hr2 hb2)
      obtain ⟨W3, hW3⟩ : ∃ W3, (((((((w2.setCell ⟨w1.heap.size, 0, none⟩ (.int .i64 (o2.getD Rec.zero).kind)).setCell ⟨w1.heap.size, 1, none⟩ (.string (o2.getD Rec.zero).name)).setCell ⟨w1.heap.size, 2, none⟩ (.string (o2.getD Rec.zero).text)).setCell ⟨w1.heap.size, 3, none⟩ (.int .i64 (o2.getD Rec.zero).parent)).setCell ⟨w1.heap.size, 4, none⟩ (.slice ka2 (o2.getD Rec.zero).kids.length kc2)).setCell ⟨w1.heap.size, 5, none⟩ (.slice aa2 (o2.getD Rec.zero).attrs.length ac2)).setCell ⟨w1.heap.size, 6, none⟩ (.bool (o2.getD Rec.zero).gone)) = W3 := ⟨_, rfl⟩
      rw [hW3]
      have hs2 := HB2x.out.size
      have hb3 : Below w.heap.size w W3 := by rw [← hW3]; exact set7_below (HBR.out.trans (HB2x.out.mono HBR.out.size)) (Nat.le_of_lt hms) _ _ _ _ _ _ _
      have hr3 : W3.heap[w1.heap.size]? = some (recCells (o2.getD Rec.zero) (.slice ka2 (o2.getD Rec.zero).kids.length kc2) (.slice aa2 (o2.getD Rec.zero).attrs.length ac2)) := by rw [← hW3]; exact set7 HR2.out _ _ _ _ _ _ _
      have hk3 : ∀ j, j < wr.heap.size → j ≠ w1.heap.size → W3.heap[j]? = wr.heap[j]? := fun j h1 h2 => by
        rw [← hW3]
        exact (set7_other h2 _ _ _ _ _ _ _).trans (HB2x.out.block j h1)
      have hsz3 : W3.heap.size = w2.heap.size := by rw [← hW3]; simp [World.setCell]
      have hset3 := HST.out.keep (hk3 w.heap.size (by omega) (by omega))
      have hown3 := ownsRow_keeps HOWN.out (fun q hq => by have := ownsRow_base HOWN.out hq; exact hk3 q this.2 (by omega) : ∀ q, (Value.slice al l.length cl).ownBlock = some q → W3.heap[q]? = wr.heap[q]?)
      have hlk := fun b hb => hset3.look r.parent b hb
      obtain ⟨es, ck, hmu, hset4⟩ := hset3.store r.parent
      obtain ⟨W4, hW4⟩ : ∃ W4, setBlock W3 w.heap.size (.map es ck) = W4 := ⟨_, rfl⟩
      rw [hW4] at hset4
      have hsz4 : W4.heap.size = W3.heap.size := by
        rw [← hW4]
        have h9 := (show (setBlock W3 w.heap.size (.map es ck)).heap.size = W3.heap.size by simp [setBlock])
        exact h9
      have hk4 : ∀ j, j ≠ w.heap.size → W4.heap[j]? = W3.heap[j]? := fun j hj => by rw [← hW4]; exact heap_setBlock_other _ hj
      have hb4 : Below w.heap.size w W4 := by
        rw [← hW4]
        exact below_of_chg ((chg_new (M := New w.heap.size) hb3).trans (chg_setBlock (M := New w.heap.size) (Nat.le_refl _) _))
      have hown4 := ownsRow_keeps hown3 (fun q hq => by have := ownsRow_base hown3 hq; exact hk4 q (by omega) : ∀ q, (Value.slice al l.length cl).ownBlock = some q → W4.heap[q]? = W3.heap[q]?)
      have hr4 := (hk4 w1.heap.size (by omega)).trans hr3
      have HB3 := Lib.hid hb3
      have HR4 := Lib.hid hr4
      have HB4 := Lib.hid hb4
      have HSET4 := Lib.hid hset4
      have HOWN4 := Lib.hid hown4
      have HOWN3 := Lib.hid hown3
      have HW4 := Lib.hid hW4
      have HLK := Lib.hid hlk
      have HK4 := Lib.hid hk4
      have hls3 : w1.heap.size < W3.heap.size := by omega
      have HSZ4 := Lib.hid hsz4
      clear hW3 hb3 hr3 hk3 hset3 hown3 hlk hset4 hW4 hsz4 hk4 hb4 hown4 hr4 hsz3
      cases o2 with
      | none =>
        have he : fin = l := HSTEP.out
        have HE := Lib.hid he
        clear he hmu
        simp only [Option.isSome_none]
        go_wp2
        go_ret
        rw [HE.out]
        exact ⟨⟨_, rfl, (intsIn_row HOWN3.out).old⟩, HB3.out⟩
      | some r2 =>
        simp only [Option.isSome_some, Option.getD_some] at *
        by_cases hin : r.parent = id ∨ r.parent ∈ l
        · have hl1 := HLK.out true (by simp [hin])
          have he : fin = l := by have := HSTEP.out; simp only [upN] at this; rw [if_pos hin] at this; exact this
          have HE := Lib.hid he
          clear he hmu hin
          go_wp2
          go_ret
          rw [HE.out]
          exact ⟨⟨_, rfl, (intsIn_row HOWN3.out).old⟩, HB3.out⟩
        · have hl1 := HLK.out false (by simp [hin])
          have he : fin = upS g n id (l ++ [r.parent]) r2.parent := by have := HSTEP.out; simp only [upN] at this; rw [if_neg hin] at this; exact this
          have HE := Lib.hid he
          have HIN := Lib.hid hin
          clear he hin
          go_upto_region 9 with fail
          rw [HW4.out]
          go_wp2_with (at_builtin; go_loud (refine wpList_append_own_at _ rfl _ _ 33 rfl (w1.heap.size + 1) 3 i0 (.int .i64 0) 1 8 Try.underlying33 hi hz0 hz1 hz2 rfl (by decide) _ _ _ rfl (ownsRow_alloc HOWN4.out _) ⟨W4.heap.size, 0, none⟩ 1 1 [iv r.parent] rfl rfl (cell_one_new _ _ _) (by simp [Value.oneCell']) (by unfold maxLen; omega) (by omega) (by have := HSZ4.out; simp; omega) ?_; intro v' w8 hown8 hgrow hnil hloc; have HO8 := Lib.hid hown8; have HG8 := Lib.hid hgrow; obtain ⟨a8, c8, rfl⟩ := ownsRow_shape hown8; clear hown8 hgrow hloc))
          go_roundw
          case rel =>
            have hs8 := HG8.out.size
            simp only [World.size_alloc] at hs8
            have hk8 : ∀ j, j < W4.heap.size → (Value.slice al l.length cl).ownBlock ≠ some j → w8.heap[j]? = W4.heap[j]? := fun j h1 h2 => (HG8.out.block j (by simp; omega) (fun e => h2 e.symm)).trans (Go.heap_alloc_old _ _ h1)
            have hsz4 := HSZ4.out
            refine ⟨true, l ++ [r.parent], r.parent, rfl, rfl, by simpa using HO8.out, ?_, ?_, by omega, ⟨r2, _, _, (hk8 _ (by omega) (fun e => by have := (ownsRow_base HOWN4.out e).1; omega)).trans HR4.out, fun _ => ⟨n, by simp; omega, HE.out⟩⟩, fun h => (by cases h), ?_, ?_, ?_⟩
            · refine (HSET4.out.keep (hk8 _ (by omega) (fun e => by have := (ownsRow_base HOWN4.out e).1; omega))).congr (fun x => ?_)
              simp only [List.mem_append, List.mem_singleton]
              constructor
              · rintro ((h | h) | h)
                · exact .inl h
                · exact .inr (.inl h)
                · exact .inr (.inr h)
              · rintro (h | h | h)
                · exact .inl (.inl h)
                · exact .inl (.inr h)
                · exact .inr h
            · exact below_of_chg (((chg_new (M := New w.heap.size) HB4.out).trans (chg_alloc _ _)).trans (chg_grown HG8.out (fun k h => by have := (ownsRow_base HOWN4.out h).1; show w.heap.size ≤ k; omega)))
            · rw [List.nodup_append]
              refine ⟨HND.out.1, by simp, ?_⟩
              rintro a ha b hb rfl
              simp at hb; subst hb
              exact HIN.out (.inr ha)
            · simp only [List.mem_append, List.mem_singleton, not_or]
              exact ⟨HND.out.2.1, fun e => HIN.out (.inl e.symm)⟩
            · intro x hx
              rcases List.mem_append.1 hx with hx | hx
              · exact HND.out.2.2 x hx
              · simp at hx; rw [hx]; exact HK.out _ (by rw [HO2.out]; simp)
          case measure => simp; omega
end Go.Proofs.Ytinkjhkbaadbpaa
