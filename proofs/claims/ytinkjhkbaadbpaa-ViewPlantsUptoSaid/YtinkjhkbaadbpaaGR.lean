/- The reference's Get (76). -/
import Derived.Test.YtinkjhkbaadbpaaRP
namespace Go.Proofs.Ytinkjhkbaadbpaa
open Go.RowKit
set_option linter.unusedVariables false

theorem ownOf_hit {id : Int} : ∀ {L : List Own} {k : Nat} {e : Own}, L[k]? = some e → e.1 = id → (∀ (j : Nat) (x : Own), j < k → L[j]? = some x → x.1 ≠ id) → ownOf L id = some e.2
  | [], k, e, h, _, _ => by simp at h
  | x :: L, 0, e, h, h1, _ => by simp at h; subst h; rw [ownOf_cons, if_pos h1]
  | x :: L, k + 1, e, h, h1, h2 => by
    rw [ownOf_cons, if_neg (h2 0 x (by omega) rfl)]
    exact ownOf_hit (k := k) (by simpa using h) h1 (fun j y hj hy => h2 (j + 1) y (by omega) (by simpa using hy))
theorem ownOf_none {id : Int} : ∀ {L : List Own}, (∀ (j : Nat) (x : Own), L[j]? = some x → x.1 ≠ id) → ownOf L id = none
  | [], _ => rfl
  | x :: L, h => by
    rw [ownOf_cons, if_neg (h 0 x rfl)]
    exact ownOf_none (fun j y hy => h (j + 1) y (by simpa using hy))
def RVw.get (V : RVw) (d : Doc) (id : Int) : Option Rec :=
  match ownOf V.own id with
  | some r => if r.gone then none else some r
  | none => d.at id V.time

set_option maxRecDepth 100000 in
set_option maxHeartbeats 4000000 in
theorem rget_any {D Rd Dd : Nat → Prop} {w : World} {v s : Nat} {V : RVw} {d : Doc} (h : RVS D Rd Dd w v (.pointer (some ⟨s, 0, none⟩)) V d) (hl : V.own.length ≤ 1000000000) (hld : d.L.length ≤ 1000000000) (id : Int) :
    Calls Try.prog 76 #[.pointer (some ⟨v, 0, none⟩), iv id] w fun e w' => RecIn (fun k => D k ∨ Dd k) w' (V.get d id) e ∧ Below w.heap.size w w' := by
  obtain ⟨a, cap, hb, hent⟩ := h.view.read
  have hvl := h.lt
  obtain ⟨W, hW⟩ : ∃ W, w.alloc (.cells #[.int .i64 0, .string ⟨#[]⟩, .string ⟨#[]⟩, .int .i64 0, .slice none 0 0, .slice none 0 0, .bool false] 52) = W := ⟨_, rfl⟩
  have hbW : Below w.heap.size w W := by rw [← hW]; exact (Below.refl _ _).alloc (Nat.le_refl _) _
  have hsW : W.heap.size = w.heap.size + 1 := by rw [← hW]; simp
  have h0W : W.heap[w.heap.size]? = some (.cells #[.int .i64 0, .string ⟨#[]⟩, .string ⟨#[]⟩, .int .i64 0, .slice none 0 0, .slice none 0 0, .bool false] 52 (0, 0)) := by rw [← hW]; exact Go.heap_alloc_new _ _
  have hcW := (hbW.block v hvl).trans hb
  have c0 : W.cell? ⟨v, 0, none⟩ = some (.pointer (some ⟨s, 0, none⟩)) := by simp [World.cell?, hcW]
  have c1 : W.cell? ⟨v, 1, none⟩ = some (.int .u64 V.time) := by simp [World.cell?, hcW]
  have c2 : W.cell? ⟨v, 2, none⟩ = some (.slice a V.own.length cap) := by simp [World.cell?, hcW]
  obtain ⟨p0, p1, p2, p3, p4, p5, p6⟩ := cells7 h0W
  have f0 := free_block h0W
  have hDlt : ∀ k, (D k ∨ Dd k) → k < w.heap.size := fun k hk => hk.elim (fun h9 => (h.dl k h9).1) (fun h9 => (h.ddl k h9).1)
  have hat : ∀ w2, Below W.heap.size W w2 → Calls Try.prog 90 #[.pointer (some ⟨s, 0, none⟩), .int .i64 id, .int .u64 V.time] w2 fun e w' => RecIn Dd w' (d.at id V.time) e ∧ Below w2.heap.size w2 w' := fun w2 hb2 => by
    have hbb := hbW.trans (hb2.mono hbW.size)
    exact docAt_any (h.below hbb).doc (fun k hk => ((h.below hbb).ddl k hk).1) id V.time hld
  have HAT := Lib.hid hat
  have HE := Lib.hid hent
  have HDL := Lib.hid hDlt
  have HW := Lib.hid hW
  have HBW := Lib.hid hbW
  have HSW := Lib.hid hsW
  have H0W := Lib.hid h0W
  obtain ⟨T, hT⟩ : ∃ T, V.time = T := ⟨_, rfl⟩
  rw [hT] at c1 HAT
  obtain ⟨o, ho⟩ : ∃ o, V.get d id = o := ⟨_, rfl⟩
  have HO := Lib.hid ho
  rw [ho]
  have HT := Lib.hid hT
  clear h hb hent hat hDlt hW hbW hsW h0W hcW ho hT
  go_enter Try.func76, Try.ntmps76
  go_wp2
  rw [HW.out]
  go_loop [6] (fun i => ∃ k : Nat, k ≤ V.own.length ∧ i = .int .i64 k ∧ ∀ (j : Nat) (x : Own), j < k → V.own[j]? = some x → x.1 ≠ id) (fun i => V.own.length - (intOf i).toNat)
  case atStart => exact ⟨0, Nat.zero_le _, rfl, fun j x hj => by omega⟩
  case round =>
    obtain ⟨k, hk, rfl, hno⟩ := hrel
    have HN := Lib.hid hno
    clear hno
    by_cases hlt : k < V.own.length
    · obtain ⟨e, hek⟩ : ∃ e, V.own[k]? = some e := ⟨_, List.getElem?_eq_getElem hlt⟩
      obtain ⟨g, kv, av, rfl, hDg, -, hgl, ik, ia, hc⟩ := HE.out k e hek
      obtain ⟨e0, e1, e2, e3, e4, e5, e6, e7⟩ := ownCells hc (HBW.out.block g hgl)
      have hk0 : (0 : Int) ≤ k := by omega
      have hkl : (k : Int) < V.own.length := by omega
      by_cases hid : e.1 = id
      · have hown := ownOf_hit hek hid HN.out
        have hget : V.get d id = if e.2.gone then none else some e.2 := by unfold RVw.get; rw [hown]
        rw [HO.out] at hget
        obtain ⟨eid, kind, name, text, parent, kids, attrs, gone⟩ := e
        have IK := Lib.hid ik
        have IA := Lib.hid ia
        obtain ⟨ka, kc, rfl, -, -, -⟩ := ik
        obtain ⟨aa, ac, rfl, -, -, -⟩ := ia
        simp only at *
        have HG := Lib.hid hget
        subst hid
        clear hget hown hek hc
        cases gone with
        | true =>
          go_wp2
          refine bodyPost_ret (v := .tuple #[recV Rec.zero (.slice none 0 0) (.slice none 0 0), .bool false]) (by simp [results, Try.results76, go_sem, Rec.zero, *]) rfl ?_
          rw [HG.out]
          exact ⟨⟨_, _, rfl, intsIn_nil _ _, intsIn_nil _ _⟩, set7_below HBW.out (Nat.le_refl _) _ _ _ _ _ _ _⟩
        | false =>
          go_wp2
          refine bodyPost_ret (v := .tuple #[recV ⟨kind, name, text, parent, kids, attrs, false⟩ (.slice ka kids.length kc) (.slice aa attrs.length ac), .bool true]) (by simp [results, Try.results76, go_sem, *]) rfl ?_
          rw [HG.out]
          have hbl := set7_below HBW.out (Nat.le_refl w.heap.size) (.int .i64 kind) (.string name) (.string text) (.int .i64 parent) (.slice ka kids.length kc) (.slice aa attrs.length ac) (.bool false)
          exact ⟨⟨_, _, rfl, (IK.out.mono (fun k hk => .inl hk)).keep ((keeps_below hbl).mono HDL.out), (IA.out.mono (fun k hk => .inl hk)).keep ((keeps_below hbl).mono HDL.out)⟩, hbl⟩
      · have HEK := Lib.hid hek
        have HID := Lib.hid hid
        have hid2 : ¬ id = e.1 := fun h => hid h.symm
        clear hc hek ik ia
        go_wp2
        go_round
        case rel => exact ⟨k + 1, by omega, by go_num, fun j x hj hx => by
          by_cases hjk : j = k
          · subst hjk
            have := HEK.out.symm.trans hx
            cases this
            exact HID.out
          · exact HN.out j x (by omega) hx⟩
        case measure => simp [intOf]; omega
    · obtain rfl : k = V.own.length := by omega
      have hget : V.get d id = d.at id V.time := by unfold RVw.get; rw [ownOf_none (fun j x hx => HN.out j x (List.getElem?_eq_some_iff.1 hx).1 hx)]
      rw [HO.out, HT.out] at hget
      rw [← hget] at HAT
      clear hget
      go_wp2_with fail
      go_region_with (go_at_call 90; refine (HAT.out _ (Below.refl _ _).drew).mono ?_; rintro e w2 ⟨⟨kv', av', rfl, hk', ha'⟩, hb2⟩; have g0 := (hb2.block w.heap.size (by have := HSW.out; simp; omega)).trans H0W.out; obtain ⟨q0, q1, q2, q3, q4, q5, q6⟩ := cells7 g0; have hfr0 := free_block g0; have HK' := Lib.hid hk'; have HA' := Lib.hid ha'; obtain ⟨ka', kc', rfl, -, -, -⟩ := hk'; obtain ⟨aa', ac', rfl, -, -, -⟩ := ha'; clear g0)
      all_goals
        go_wp2
        refine bodyPost_ret (v := .tuple #[recV (o.getD Rec.zero) (.slice ka' (o.getD Rec.zero).kids.length kc') (.slice aa' (o.getD Rec.zero).attrs.length ac'), .bool o.isSome]) (by simp [results, Try.results76, go_sem, *]) rfl ?_
        have hb9 : Below w.heap.size w w2 := HBW.out.drew.trans (hb2.mono HBW.out.drew.size)
        have hbl := set7_below hb9 (Nat.le_refl w.heap.size) (.int .i64 (o.getD Rec.zero).kind) (.string (o.getD Rec.zero).name) (.string (o.getD Rec.zero).text) (.int .i64 (o.getD Rec.zero).parent) (.slice ka' (o.getD Rec.zero).kids.length kc') (.slice aa' (o.getD Rec.zero).attrs.length ac') (.bool (o.getD Rec.zero).gone)
        have hkk : Keeps Dd w2 _ := fun k hk => set7_other (w := w2) (b := w.heap.size) (j := k) (by have := HDL.out k (.inr hk); omega) (.int .i64 (o.getD Rec.zero).kind) (.string (o.getD Rec.zero).name) (.string (o.getD Rec.zero).text) (.int .i64 (o.getD Rec.zero).parent) (.slice ka' (o.getD Rec.zero).kids.length kc') (.slice aa' (o.getD Rec.zero).attrs.length ac') (.bool (o.getD Rec.zero).gone)
        exact ⟨⟨_, _, rfl, (HK'.out.keep hkk).mono (fun k hk => .inr hk), (HA'.out.keep hkk).mono (fun k hk => .inr hk)⟩, hbl⟩
end Go.Proofs.Ytinkjhkbaadbpaa
