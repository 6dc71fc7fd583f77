/- The document's At. -/
import Derived.Test.YtinkjhkbaadbpaaDS
namespace Go.Proofs.Ytinkjhkbaadbpaa
open Go.RowKit
set_option linter.unusedVariables false

def pickE (id : Int) (T : Nat) (o : Option Rec) (e : Ent) : Option Rec := if e.id = id ∧ e.v.time ≤ T then some e.v.r else o
def Doc.look (d : Doc) (id : Int) (T k : Nat) : Option Rec := (d.L.take k).foldl (pickE id T) none
def Doc.at (d : Doc) (id : Int) (T : Nat) : Option Rec :=
  match d.look id T d.L.length with
  | some r => if r.gone then none else some r
  | none => none
theorem look_succ {d : Doc} {id : Int} {T k : Nat} {e : Ent} (hk : d.L[k]? = some e) : d.look id T (k + 1) = pickE id T (d.look id T k) e := by
  simp only [Doc.look, List.take_add_one, hk]
  simp
/-- A record that is handed back, if there is one: its lists lie in D. -/
def RecIn (D : Nat → Prop) (w' : World) (o : Option Rec) (e : Ending) : Prop :=
  ∃ kv av, e = .returned (.tuple #[recV (o.getD Rec.zero) kv av, .bool o.isSome]) ∧ IntsIn D w' kv (o.getD Rec.zero).kids ∧ IntsIn D w' av (o.getD Rec.zero).attrs

theorem set7 {w : World} {b t : Nat} {a0 a1 a2 a3 a4 a5 a6 : Value} (h : w.heap[b]? = some (.cells #[a0, a1, a2, a3, a4, a5, a6] t (0, 0))) (v0 v1 v2 v3 v4 v5 v6 : Value) :
    (((((((w.setCell ⟨b, 0, none⟩ v0).setCell ⟨b, 1, none⟩ v1).setCell ⟨b, 2, none⟩ v2).setCell ⟨b, 3, none⟩ v3).setCell ⟨b, 4, none⟩ v4).setCell ⟨b, 5, none⟩ v5).setCell ⟨b, 6, none⟩ v6).heap[b]? = some (.cells #[v0, v1, v2, v3, v4, v5, v6] t (0, 0)) := by
  have e0 := heap_setCell_same w b 0 _ _ v0 h
  have e1 := heap_setCell_same _ b 1 _ _ v1 e0
  have e2 := heap_setCell_same _ b 2 _ _ v2 e1
  have e3 := heap_setCell_same _ b 3 _ _ v3 e2
  have e4 := heap_setCell_same _ b 4 _ _ v4 e3
  have e5 := heap_setCell_same _ b 5 _ _ v5 e4
  have e6 := heap_setCell_same _ b 6 _ _ v6 e5
  simpa using e6
theorem set7_other {w : World} {b j : Nat} (h : j ≠ b) (v0 v1 v2 v3 v4 v5 v6 : Value) :
    (((((((w.setCell ⟨b, 0, none⟩ v0).setCell ⟨b, 1, none⟩ v1).setCell ⟨b, 2, none⟩ v2).setCell ⟨b, 3, none⟩ v3).setCell ⟨b, 4, none⟩ v4).setCell ⟨b, 5, none⟩ v5).setCell ⟨b, 6, none⟩ v6).heap[j]? = w.heap[j]? := by
  repeat rw [heap_setCell_other _ _ _ _ (by simpa using h)]
theorem set7_below {B : Nat} {w w' : World} (hb0 : Below B w w') {b : Nat} (h : B ≤ b) (v0 v1 v2 v3 v4 v5 v6 : Value) :
    Below B w (((((((w'.setCell ⟨b, 0, none⟩ v0).setCell ⟨b, 1, none⟩ v1).setCell ⟨b, 2, none⟩ v2).setCell ⟨b, 3, none⟩ v3).setCell ⟨b, 4, none⟩ v4).setCell ⟨b, 5, none⟩ v5).setCell ⟨b, 6, none⟩ v6) :=
  below_setAt (below_setAt (below_setAt (below_setAt (below_setAt (below_setAt (below_setAt hb0 h _ _) h _ _) h _ _) h _ _) h _ _) h _ _) h _ _

set_option maxRecDepth 100000 in
set_option maxHeartbeats 4000000 in
theorem docAt_any {R D : Nat → Prop} {w : World} {q : Value} {d : Doc} (h : DocIn R D w q d) (hD : ∀ k, D k → k < w.heap.size) (id : Int) (T : Nat) (hl : d.L.length ≤ 1000000000) :
    Calls Try.prog 90 #[q, .int .i64 id, .int .u64 T] w fun e w' => RecIn D w' (d.at id T) e ∧ Below w.heap.size w w' := by
  obtain ⟨s, a, cap, rfl, -, hb, hent⟩ := h.read
  have hslt : s < w.heap.size := (Array.getElem?_eq_some_iff.1 hb).1
  have c0 : w.cell? ⟨s, 0, none⟩ = some (.slice a d.L.length cap) := by simp [World.cell?, hb]
  have HE := Lib.hid hent
  have HD := Lib.hid hD
  clear h hent hb hD
  have hz0 : ∀ o o', ((w.alloc o).alloc o').heap[w.heap.size]? = some o := fun o o' => (Go.heap_alloc_old _ o' (by simp)).trans (Go.heap_alloc_new w o)
  have hz1 : ∀ o o', ((w.alloc o).alloc o').heap[w.heap.size + 1]? = some o' := fun o o' => by simpa using Go.heap_alloc_new (w.alloc o) o'
  have hzb : ∀ o o', Below w.heap.size w ((w.alloc o).alloc o') := fun o o' => ((Below.refl _ w).alloc (Nat.le_refl _) _).alloc (by simp) _
  have HZ0 := Lib.hid hz0
  have HZ1 := Lib.hid hz1
  have HZB := Lib.hid hzb
  clear hz0 hz1 hzb
  go_enter Try.func90, Try.ntmps90
  go_wp2
  go_loopw [9, 10] (fun a b wr => ∃ k : Nat, k ≤ d.L.length ∧ b = .int .i64 k ∧ a = .bool (d.look id T k).isSome ∧ (∃ kv av, wr.heap[w.heap.size + 1]? = some (.cells #[.int .i64 ((d.look id T k).getD Rec.zero).kind, .string ((d.look id T k).getD Rec.zero).name, .string ((d.look id T k).getD Rec.zero).text, .int .i64 ((d.look id T k).getD Rec.zero).parent, kv, av, .bool ((d.look id T k).getD Rec.zero).gone] 52) ∧ IntsIn D w kv ((d.look id T k).getD Rec.zero).kids ∧ IntsIn D w av ((d.look id T k).getD Rec.zero).attrs) ∧
    wr.heap[w.heap.size]? = some (.cells #[.int .i64 0, .string ⟨#[]⟩, .string ⟨#[]⟩, .int .i64 0, .slice none 0 0, .slice none 0 0, .bool false] 52) ∧ Below w.heap.size w wr) (fun _ b _ => d.L.length - (intOf b).toNat)
  case atStart => exact ⟨0, Nat.zero_le _, rfl, rfl, ⟨_, _, HZ1.out _ _, intsIn_nil _ _, intsIn_nil _ _⟩, HZ0.out _ _, HZB.out _ _⟩
  case round =>
    obtain ⟨k, hk, rfl, rfl, ⟨kv, av, hblk, ik, ia⟩, hblk0, hbel⟩ := hrel
    have c0' : wr.cell? ⟨s, 0, none⟩ = some (.slice a d.L.length cap) := (hbel.cell (p := ⟨s, 0, none⟩) hslt).trans c0
    have IK := Lib.hid ik
    have IA := Lib.hid ia
    have HBLK := Lib.hid hblk
    have HBLK0 := Lib.hid hblk0
    have HBEL := Lib.hid hbel
    have f1 := free_block hblk
    have f0 := free_block hblk0
    by_cases hlt : k < d.L.length
    · obtain ⟨e, hek⟩ : ∃ e, d.L[k]? = some e := ⟨_, List.getElem?_eq_getElem hlt⟩
      obtain ⟨g, kv', av', rfl, -, -, hgl, ik', ia', hc⟩ := HE.out k e hek
      have hls := look_succ (id := id) (T := T) hek
      have hc' : ∀ c x, (entL e kv' av')[c]? = some x → wr.cell? ⟨g, k * 9 + c, none⟩ = some x := fun c x hx => (hbel.cell (p := ⟨g, k * 9 + c, none⟩) hgl).trans (hc c x hx)
      have e0 : wr.cell? ⟨g, k * 9, none⟩ = some _ := hc' 0 _ rfl
      have e1 : wr.cell? ⟨g, k * 9 + 1, none⟩ = some _ := hc' 1 _ rfl
      have e2 : wr.cell? ⟨g, k * 9 + 1 + 1, none⟩ = some _ := (by rw [show k * 9 + 1 + 1 = k * 9 + 2 by omega]; exact hc' 2 _ rfl)
      have e3 : wr.cell? ⟨g, k * 9 + 1 + 1 + 1, none⟩ = some _ := (by rw [show k * 9 + 1 + 1 + 1 = k * 9 + 3 by omega]; exact hc' 3 _ rfl)
      have e4 : wr.cell? ⟨g, k * 9 + 1 + 1 + 2, none⟩ = some _ := (by rw [show k * 9 + 1 + 1 + 2 = k * 9 + 4 by omega]; exact hc' 4 _ rfl)
      have e5 : wr.cell? ⟨g, k * 9 + 1 + 1 + 3, none⟩ = some _ := (by rw [show k * 9 + 1 + 1 + 3 = k * 9 + 5 by omega]; exact hc' 5 _ rfl)
      have e6 : wr.cell? ⟨g, k * 9 + 1 + 1 + 4, none⟩ = some _ := (by rw [show k * 9 + 1 + 1 + 4 = k * 9 + 6 by omega]; exact hc' 6 _ rfl)
      have e7 : wr.cell? ⟨g, k * 9 + 1 + 1 + 5, none⟩ = some _ := (by rw [show k * 9 + 1 + 1 + 5 = k * 9 + 7 by omega]; exact hc' 7 _ rfl)
      have e8 : wr.cell? ⟨g, k * 9 + 1 + 1 + 6, none⟩ = some _ := (by rw [show k * 9 + 1 + 1 + 6 = k * 9 + 8 by omega]; exact hc' 8 _ rfl)
      have hk0 : (0 : Int) ≤ k := by omega
      have hkl : (k : Int) < d.L.length := by omega
      obtain ⟨p0, p1, p2, p3, p4, p5, p6⟩ := cells7 hblk
      have LS := Lib.hid hls
      have IK' := Lib.hid ik'
      have IA' := Lib.hid ia'
      obtain ⟨ka', kc', rfl, -, -, -⟩ := ik'
      obtain ⟨aa', ac', rfl, -, -, -⟩ := ia'
      clear hc hc' hls hek ik ia hblk hblk0 hbel
      by_cases hid : e.id = id
      · by_cases ht : e.v.time ≤ T
        · have htd : decide (e.v.time ≤ T) = true := decide_eq_true ht
          go_wp2
          go_roundw
          case rel =>
            have hnext : d.look id T (k + 1) = some e.v.r := by rw [LS.out]; simp [pickE, hid, ht]
            refine ⟨k + 1, by omega, by go_num, by rw [hnext]; rfl, ⟨_, _, ?_, by rw [hnext]; exact IK'.out, by rw [hnext]; exact IA'.out⟩, ?_, ?_⟩
            · rw [hnext]; exact set7 HBLK.out _ _ _ _ _ _ _
            · exact (set7_other (by omega) _ _ _ _ _ _ _).trans HBLK0.out
            · exact set7_below HBEL.out (by omega) _ _ _ _ _ _ _
          case measure => simp [intOf]; omega
        · have htd : decide (e.v.time ≤ T) = false := decide_eq_false ht
          go_wp2
          go_roundw
          case rel =>
            have hnext : d.look id T (k + 1) = d.look id T k := by rw [LS.out]; simp [pickE, ht]
            exact ⟨k + 1, by omega, by go_num, by rw [hnext], ⟨kv, av, by rw [hnext]; exact HBLK.out, by rw [hnext]; exact IK.out, by rw [hnext]; exact IA.out⟩, HBLK0.out, HBEL.out⟩
          case measure => simp [intOf]; omega
      · go_wp2
        go_roundw
        case rel =>
          have hnext : d.look id T (k + 1) = d.look id T k := by rw [LS.out]; simp [pickE, hid]
          exact ⟨k + 1, by omega, by go_num, by rw [hnext], ⟨kv, av, by rw [hnext]; exact HBLK.out, by rw [hnext]; exact IK.out, by rw [hnext]; exact IA.out⟩, HBLK0.out, HBEL.out⟩
        case measure => simp [intOf]; omega
    · obtain rfl : k = d.L.length := by omega
      obtain ⟨p0, p1, p2, p3, p4, p5, p6⟩ := cells7 hblk
      obtain ⟨q0, q1, q2, q3, q4, q5, q6⟩ := cells7 hblk0
      have hat : d.at id T = match d.look id T d.L.length with | some r => if r.gone then none else some r | none => none := rfl
      clear hblk hblk0 hbel ik ia
      generalize d.look id T d.L.length = o at *
      have HAT := Lib.hid hat
      clear hat
      cases o with
      | none =>
        simp only [Option.isSome_none, Option.getD_none] at *
        go_wp2
        refine bodyPost_ret (v := .tuple #[recV Rec.zero (.slice none 0 0) (.slice none 0 0), .bool false]) (by simp [results, Try.results90, go_sem, Rec.zero, *]) rfl ?_
        rw [HAT.out]
        exact ⟨⟨_, _, rfl, intsIn_nil _ _, intsIn_nil _ _⟩, set7_below HBEL.out (Nat.le_refl _) _ _ _ _ _ _ _⟩
      | some r =>
        simp only [Option.isSome_some, Option.getD_some] at *
        obtain ⟨kind, name, text, parent, kids, attrs, gone⟩ := r
        simp only at *
        cases gone
        · have ik3 := IK.out
          have ia3 := IA.out
          obtain ⟨ka, kc, rfl, -, -, -⟩ := ik3
          obtain ⟨aa, ac, rfl, -, -, -⟩ := ia3
          go_wp2
          refine bodyPost_ret (v := .tuple #[recV ⟨kind, name, text, parent, kids, attrs, false⟩ (.slice ka kids.length kc) (.slice aa attrs.length ac), .bool true]) (by simp [results, Try.results90, go_sem, recV, *]) rfl ?_
          rw [HAT.out]
          have hbl := set7_below HBEL.out (Nat.le_refl w.heap.size) (.int .i64 kind) (.string name) (.string text) (.int .i64 parent) (.slice ka kids.length kc) (.slice aa attrs.length ac) (.bool false)
          exact ⟨⟨_, _, rfl, IK.out.keep ((keeps_below hbl).mono HD.out), IA.out.keep ((keeps_below hbl).mono HD.out)⟩, hbl⟩
        · go_wp2
          refine bodyPost_ret (v := .tuple #[recV Rec.zero (.slice none 0 0) (.slice none 0 0), .bool false]) (by simp [results, Try.results90, go_sem, Rec.zero, *]) rfl ?_
          rw [HAT.out]
          exact ⟨⟨_, _, rfl, intsIn_nil _ _, intsIn_nil _ _⟩, set7_below HBEL.out (Nat.le_refl _) _ _ _ _ _ _ _⟩
end Go.Proofs.Ytinkjhkbaadbpaa
