/- The document's Versions. -/
import Derived.Test.YtinkjhkbaadbpaaDA
import Derived.Test.YtinkjhkbaadbpaaSM
import Derived.Test.YtinkjhkbaadbpaaIN
namespace Go.Proofs.Ytinkjhkbaadbpaa
open Go.RowKit
set_option linter.unusedVariables false

def versOf (id : Int) (l : List Ent) : List Ver := (l.filter (fun e => decide (e.id = id))).map (·.v)
def Doc.N (d : Doc) (id : Int) : List Ver := versOf id d.L
theorem versOf_succ {l : List Ent} {id : Int} {k : Nat} {e : Ent} (hk : l[k]? = some e) : versOf id (l.take (k + 1)) = if e.id = id then versOf id (l.take k) ++ [e.v] else versOf id (l.take k) := by
  simp only [versOf, List.take_add_one, hk, Option.toList_some, List.filter_append, List.map_append]
  by_cases h : e.id = id <;> simp [h]
theorem versOf_length (id : Int) (l : List Ent) : (versOf id l).length ≤ l.length := by
  simp only [versOf, List.length_map]
  exact List.length_filter_le _ _
theorem entCells {w w' : World} {g k : Nat} {e : Ent} {kv av : Value} (hc : ∀ c x, (entL e kv av)[c]? = some x → w.cell? ⟨g, k * 9 + c, none⟩ = some x) (hk : w'.heap[g]? = w.heap[g]?) :
    w'.cell? ⟨g, k * 9, none⟩ = some (.int .i64 e.id) ∧ w'.cell? ⟨g, k * 9 + 1, none⟩ = some (.int .u64 e.v.time) ∧ w'.cell? ⟨g, k * 9 + 1 + 1, none⟩ = some (.int .i64 e.v.r.kind) ∧ w'.cell? ⟨g, k * 9 + 1 + 2, none⟩ = some (.string e.v.r.name) ∧ w'.cell? ⟨g, k * 9 + 1 + 3, none⟩ = some (.string e.v.r.text) ∧
    w'.cell? ⟨g, k * 9 + 1 + 4, none⟩ = some (.int .i64 e.v.r.parent) ∧ w'.cell? ⟨g, k * 9 + 1 + 5, none⟩ = some kv ∧ w'.cell? ⟨g, k * 9 + 1 + 6, none⟩ = some av ∧ w'.cell? ⟨g, k * 9 + 1 + 7, none⟩ = some (.bool e.v.r.gone) := by
  have h := fun (j : Nat) (x : Value) (hx : (entL e kv av)[j]? = some x) => (World.cell?_of_block (w := w) (w' := w') (a := ⟨g, k * 9 + j, none⟩) hk).trans (hc j x hx)
  exact ⟨h 0 _ rfl, h 1 _ rfl, h 2 _ rfl, h 3 _ rfl, h 4 _ rfl, h 5 _ rfl, h 6 _ rfl, h 7 _ rfl, h 8 _ rfl⟩
/-- behind an append to a row of ours, lists in old blocks lie as they lay -/
theorem keeps_grown {D : Nat → Prop} {w wr W w2 : World} {v : Value} (hD : ∀ k, D k → k < w.heap.size) (hW : Below wr.heap.size wr W) (hbel : Below w.heap.size w wr) (hv : ∀ k, v.ownBlock = some k → w.heap.size ≤ k) (hg : W.grownBy w2 v.ownBlock) :
    Keeps D wr w2 ∧ Below w.heap.size w w2 := by
  have hch : Chg (fun k => w.heap.size ≤ k) W w2 := chg_grown hg hv
  have h1 := hbel.size
  have h2 := hW.size
  refine ⟨fun k hk => ?_, hbel.trans ⟨hch.os.trans hW.os, hch.tape.trans hW.tape, hch.output.trans hW.output, Nat.le_trans h2 hch.size, fun k hk => ?_⟩⟩
  · have := hD k hk
    exact (hch.block k (by omega) (by omega)).trans (hW.block k (by omega))
  · exact (hch.block k (by omega) (by omega)).trans (hW.block k (by omega))

set_option maxRecDepth 100000 in
set_option maxHeartbeats 4000000 in
theorem docVersions_any {R D : Nat → Prop} {w : World} {q : Value} {d : Doc} (h : DocIn R D w q d) (hD : ∀ k, D k → k < w.heap.size) (id : Int) (hl : d.L.length ≤ 1000000000) :
    Calls Try.prog 47 #[q, .int .i64 id] w fun e w' => (∃ v, e = .returned v ∧ VersIn (fun k => (D k ∨ w.heap.size ≤ k) ∧ k < w'.heap.size) w' v (d.N id)) ∧ Below w.heap.size w w' := by
  obtain ⟨s, a, cap, rfl, -, hb, hent⟩ := h.read
  obtain ⟨i0, hi, hz0, hz1, hz2⟩ := info_parts Try.info93
  have hslt : s < w.heap.size := (Array.getElem?_eq_some_iff.1 hb).1
  have c0 : w.cell? ⟨s, 0, none⟩ = some (.slice a d.L.length cap) := by simp [World.cell?, hb]
  have HE := Lib.hid hent
  have HD := Lib.hid hD
  clear h hent hb hD
  go_enter Try.func47, Try.ntmps47
  go_wp2
  go_loopw [5, 6] (fun v i wr => ∃ k : Nat, k ≤ d.L.length ∧ i = .int .i64 k ∧ ∃ xs, wr.ownsRow w.heap.size 93 8 v (versOf id (d.L.take k)).length xs ∧ VersAre D wr (versOf id (d.L.take k)) xs ∧ Below w.heap.size w wr) (fun _ i _ => d.L.length - (Lib.intOf i).toNat)
  case atStart => exact ⟨0, Nat.zero_le _, rfl, [], World.ownsRow_nil _ _ _ _, rfl, Below.refl _ _⟩
  case round =>
    obtain ⟨k, hk, rfl, xs, hown, hvers, hbel⟩ := hrel
    have c0' : wr.cell? ⟨s, 0, none⟩ = some (.slice a d.L.length cap) := (hbel.cell (p := ⟨s, 0, none⟩) hslt).trans c0
    have HOWN := Lib.hid hown
    have HVERS := Lib.hid hvers
    have HBEL := Lib.hid hbel
    by_cases hlt : k < d.L.length
    · obtain ⟨e, hek⟩ : ∃ e, d.L[k]? = some e := ⟨_, List.getElem?_eq_getElem hlt⟩
      obtain ⟨g, kv, av, rfl, -, -, hgl, ik, ia, hc⟩ := HE.out k e hek
      obtain ⟨e0, e1, e2, e3, e4, e5, e6, e7, e8⟩ := entCells hc (hbel.block g hgl)
      have hls := versOf_succ (id := id) hek
      have hlen : (versOf id (d.L.take k)).length ≤ 1000000000 := by have := versOf_length id (d.L.take k); simp at this; omega
      have hk0 : (0 : Int) ≤ k := by omega
      have hkl : (k : Int) < d.L.length := by omega
      have IK := Lib.hid ik
      have IA := Lib.hid ia
      have LS := Lib.hid hls
      obtain ⟨ka, kc, rfl, -, -, -⟩ := ik
      obtain ⟨aa, ac, rfl, -, -, -⟩ := ia
      clear hc hls hek hown hvers hbel
      obtain ⟨eid, tm, kind, name, text, parent, kids, attrs, gone⟩ := e
      simp only at *
      by_cases hid : eid = id
      · have hgrow0 : Below wr.heap.size wr (wr.alloc (.cells #[.int .u64 tm, .int .i64 kind, .string name, .string text, .int .i64 parent, .slice ka kids.length kc, .slice aa attrs.length ac, .bool gone] 93)) := (Below.refl _ _).alloc (Nat.le_refl _) _
        have HGR := Lib.hid hgrow0
        clear hgrow0
        go_wp2_with ((at_builtin; refine wpList_append_own_at _ rfl _ _ 79 rfl w.heap.size 93 i0 (.agg #[.int .u64 0, .int .i64 0, .string ⟨#[]⟩, .string ⟨#[]⟩, .int .i64 0, .slice none 0 0, .slice none 0 0, .bool false]) 8 112 Try.underlying79 hi hz0 hz1 hz2 rfl (by decide) _ _ _ rfl (ownsRow_alloc HOWN.out _) ⟨wr.heap.size, 0, none⟩ 1 1 (verL ⟨tm, ⟨kind, name, text, parent, kids, attrs, gone⟩⟩ (.slice ka kids.length kc) (.slice aa attrs.length ac)) rfl rfl cells_new (by simp [Value.oneCell']) (by unfold maxLen; omega) (by omega) (by have := HBEL.out.size; simp; omega) ?_; intro v' w2 hown2 hgrow hnil hloc))
        go_roundw
        case rel =>
          obtain ⟨hkp, hb2⟩ := keeps_grown HD.out HGR.out HBEL.out (fun k h => (ownsRow_base HOWN.out h).1) hgrow
          have hnext : versOf id (d.L.take (k + 1)) = versOf id (d.L.take k) ++ [⟨tm, ⟨kind, name, text, parent, kids, attrs, gone⟩⟩] := by rw [LS.out]; simp [hid]
          have hb20 : Keeps D w w2 := (keeps_below hb2).mono HD.out
          refine ⟨k + 1, by omega, by go_num, xs ++ verL ⟨tm, ⟨kind, name, text, parent, kids, attrs, gone⟩⟩ (.slice ka kids.length kc) (.slice aa attrs.length ac), ?_, ?_, hb2⟩
          · rw [hnext, List.length_append]; exact hown2
          · rw [hnext]; exact VersAre.snoc (v := ⟨tm, ⟨kind, name, text, parent, kids, attrs, gone⟩⟩) (IK.out.keep hb20) (IA.out.keep hb20) (HVERS.out.keep hkp (fun _ h => h))
        case measure => simp [Lib.intOf]; omega
      · go_wp2
        go_roundw
        case rel =>
          have hnext : versOf id (d.L.take (k + 1)) = versOf id (d.L.take k) := by rw [LS.out]; simp [hid]
          exact ⟨k + 1, by omega, by go_num, xs, by rw [hnext]; exact HOWN.out, by rw [hnext]; exact HVERS.out, HBEL.out⟩
        case measure => simp [Lib.intOf]; omega
    · obtain rfl : k = d.L.length := by omega
      clear hown hvers hbel
      go_wp2
      go_ret
      have hx := versIn_row HOWN.out HVERS.out
      rw [List.take_length] at hx
      refine ⟨⟨_, rfl, hx.mono fun k hk => ?_⟩, HBEL.out⟩
      rcases hk with hk | hk
      · exact ⟨.inl hk, Nat.lt_of_lt_of_le (HD.out k hk) HBEL.out.size⟩
      · exact ⟨.inr (ownsRow_base HOWN.out hk).1, (ownsRow_base HOWN.out hk).2⟩
end Go.Proofs.Ytinkjhkbaadbpaa
