import Derived.Test.YtinkjhkbaadbpaaNP
import Derived.Deep.RegionHeld3
/- A view that is not there, and one that no call made: what each function answers. -/
namespace Go.Proofs.Ytinkjhkbaadbpaa
open Go.RowKit
set_option linter.unusedVariables false
set_option linter.unusedSimpArgs false

/-- no view, or an empty one -/
def NoneV (w : World) (a : Option Addr) : Prop := a = none ∨ ∃ b sp, a = some ⟨b, 0, none⟩ ∧ w.heap[b]? = some (.cells #[sp, .int .u64 0, .map none] 119 (0, 0))
theorem NoneV.later {w w' : World} {a : Option Addr} (h : NoneV w a) (hb : Below w.heap.size w w') : NoneV w' a := by
  rcases h with h | ⟨b, sp, e, h⟩
  · exact .inl h
  · exact .inr ⟨b, sp, e, (hb.block b (Array.getElem?_eq_some_iff.1 h).1).trans h⟩
set_option maxRecDepth 100000 in
theorem none_84 {w : World} {a : Option Addr} (h : NoneV w a) : Calls Try.prog 84 #[.pointer a] w fun e w' => e = .returned (.bool true) ∧ w = w' := by
  rcases h with rfl | ⟨b, sp, rfl, h⟩
  · go_enter Try.func84, Try.ntmps84
    go_wp2
    go_ret
    exact ⟨rfl, rfl⟩
  · have c2 : w.cell? ⟨b, 2, none⟩ = some (.map none) := by simp [World.cell?, h]
    have hq := fun w => run_eql_map_nil (P := Try.prog) w 117 3 52 none Try.underlying117
    clear h
    go_enter Try.func84, Try.ntmps84
    go_wp2
    go_ret
    exact ⟨rfl, rfl⟩
/-- what is answered, and nothing that was is turned -/
def Says (w : World) (v : Value) (e : Ending) (w' : World) : Prop := e = .returned v ∧ Below w.heap.size w w'
set_option maxRecDepth 100000 in
theorem none_get {w : World} {a : Option Addr} (h : NoneV w a) (id : Int) : Calls Try.prog 29 #[.pointer a, iv id] w (Says w (.tuple #[recV Rec.zero (.slice none 0 0) (.slice none 0 0), .bool false])) := by
  have H := Lib.hid (show ∀ W, Below w.heap.size w W → _ from fun W hW => none_84 (h.later hW))
  clear h
  go_enter Try.func29, Try.ntmps29
  go_wp2_with fail
  refine (H.out _ ((Below.refl _ _).alloc (Nat.le_refl _) _)).mono ?_
  rintro e w1 ⟨rfl, rfl⟩
  go_wp2
  refine bodyPost_ret (v := .tuple #[recV Rec.zero (.slice none 0 0) (.slice none 0 0), .bool false]) (by simp [results, Try.results29, go_sem, Rec.zero, *]) rfl ⟨rfl, ?_⟩
  first
    | exact (Below.refl _ _).alloc (Nat.le_refl _) _
    | (trace_state; sorry)
set_option maxRecDepth 100000 in
theorem none_put {w : World} {a : Option Addr} (h : NoneV w a) (id : Int) (r : Rec) (kv av : Value) : Calls Try.prog 66 #[.pointer a, iv id, recV r kv av] w fun e w' => e = .returned (.int .i64 1) ∧ Below w.heap.size w w' := by
  have H := Lib.hid (show ∀ W, Below w.heap.size w W → _ from fun W hW => none_84 (h.later hW))
  clear h
  go_enter Try.func66, Try.ntmps66
  go_wp2_with fail
  refine (H.out _ ((Below.refl _ _).alloc (Nat.le_refl _) _)).mono ?_
  rintro e w1 ⟨rfl, rfl⟩
  go_wp2
  go_ret
  exact ⟨rfl, (Below.refl _ _).alloc (Nat.le_refl _) _⟩
set_option maxRecDepth 100000 in
theorem none_time {w : World} {a : Option Addr} (h : NoneV w a) : Calls Try.prog 67 #[.pointer a] w fun e w' => e = .returned (.int .u64 0) ∧ w = w' := by
  have H := Lib.hid (none_84 h)
  clear h
  go_enter Try.func67, Try.ntmps67
  go_wp2_with (go_at_call 84; refine H.out.mono ?_; rintro e w1 ⟨rfl, rfl⟩)
  go_ret
  exact ⟨rfl, rfl⟩
set_option maxRecDepth 100000 in
theorem none_changes {w : World} {a : Option Addr} (h : NoneV w a) : Calls Try.prog 61 #[.pointer a] w fun e w' => e = .returned (.slice none 0 0) ∧ w = w' := by
  have H := Lib.hid (none_84 h)
  clear h
  go_enter Try.func61, Try.ntmps61
  go_wp2_with (go_at_call 84; refine H.out.mono ?_; rintro e w1 ⟨rfl, rfl⟩)
  go_ret
  exact ⟨rfl, rfl⟩
set_option maxRecDepth 100000 in
theorem new_none (T : Nat) (w : World) : Calls Try.prog 71 #[.pointer none, .int .u64 T] w fun e w' => e = .returned (.pointer none) ∧ w = w' := by
  go_enter Try.func71, Try.ntmps71
  go_wp2
  go_ret
  exact ⟨rfl, rfl⟩
set_option maxRecDepth 100000 in
theorem none_plant {w : World} {a : Option Addr} (h : NoneV w a) (k : Int) (nm tx : ByteArray) (av kv : Value) (parent : Int) : Calls Try.prog 62 #[.pointer a, .agg #[.int .i64 k, .string nm, .string tx, av, kv], iv parent] w fun e w' => e = .returned (.int .i64 0) ∧ Below w.heap.size w w' := by
  have H := Lib.hid (show ∀ W, Below w.heap.size w W → _ from fun W hW => none_84 (h.later hW))
  clear h
  go_enter Try.func62, Try.ntmps62
  go_wp2_with fail
  refine (H.out _ ((Below.refl _ _).alloc (Nat.le_refl _) _)).mono ?_
  rintro e w1 ⟨rfl, rfl⟩
  go_wp2
  go_ret
  exact ⟨rfl, (Below.refl _ _).alloc (Nat.le_refl _) _⟩
set_option maxRecDepth 100000 in
theorem none_value {w : World} {a : Option Addr} (h : NoneV w a) (id : Int) : Calls Try.prog 68 #[.pointer a, iv id] w fun e w' => e = .returned (.string ⟨#[]⟩) ∧ Below w.heap.size w w' := by
  have H := Lib.hid (none_get h id)
  clear h
  go_enter Try.func68, Try.ntmps68
  go_wp2_with (go_at_call 29; refine H.out.mono ?_; rintro e w1 ⟨rfl, hb1⟩)
  go_ret
  exact ⟨rfl, hb1.alloc hb1.size _⟩
theorem set5 {w9 : World} {b : Nat} {a0 a1 a2 a3 a4 : Value} (hz : w9.heap[b]? = some (.cells #[a0, a1, a2, a3, a4] 25 (0, 0))) (x0 x1 x2 x3 x4 : Value) :
    (((((w9.setCell ⟨b, 0, none⟩ x0).setCell ⟨b, 1, none⟩ x1).setCell ⟨b, 2, none⟩ x2).setCell ⟨b, 3, none⟩ x3).setCell ⟨b, 4, none⟩ x4).heap[b]? = some (.cells #[x0, x1, x2, x3, x4] 25 (0, 0)) := by
  have h0 := heap_setCell_same w9 b 0 _ _ x0 hz
  have h1 := heap_setCell_same _ b 1 _ _ x1 h0
  have h2 := heap_setCell_same _ b 2 _ _ x2 h1
  have h3 := heap_setCell_same _ b 3 _ _ x3 h2
  have h4 := heap_setCell_same _ b 4 _ _ x4 h3
  simpa using h4
theorem cells5 {w : World} {b : Nat} {a0 a1 a2 a3 a4 : Value} (hz : w.heap[b]? = some (.cells #[a0, a1, a2, a3, a4] 25 (0, 0))) :
    w.cell? ⟨b, 0, none⟩ = some a0 ∧ w.cell? ⟨b, 1, none⟩ = some a1 ∧ w.cell? ⟨b, 2, none⟩ = some a2 ∧ w.cell? ⟨b, 3, none⟩ = some a3 ∧ w.cell? ⟨b, 4, none⟩ = some a4 := by
  refine ⟨?_, ?_, ?_, ?_, ?_⟩ <;> simp [World.cell?, hz]
theorem below_set5 {w w9 : World} (hb : Below w.heap.size w w9) (x0 x1 x2 x3 x4 : Value) : Below w.heap.size w (((((w9.setCell ⟨w.heap.size, 0, none⟩ x0).setCell ⟨w.heap.size, 1, none⟩ x1).setCell ⟨w.heap.size, 2, none⟩ x2).setCell ⟨w.heap.size, 3, none⟩ x3).setCell ⟨w.heap.size, 4, none⟩ x4) :=
  ((((hb.setCell (p := ⟨w.heap.size, 0, none⟩) (Nat.le_refl _) _).setCell (p := ⟨w.heap.size, 1, none⟩) (Nat.le_refl _) _).setCell (p := ⟨w.heap.size, 2, none⟩) (Nat.le_refl _) _).setCell (p := ⟨w.heap.size, 3, none⟩) (Nat.le_refl _) _).setCell (p := ⟨w.heap.size, 4, none⟩) (Nat.le_refl _) _
abbrev zeroN : Value := .agg #[.int .i64 0, .string ⟨#[]⟩, .string ⟨#[]⟩, .slice none 0 0, .slice none 0 0]
set_option maxRecDepth 100000 in
theorem none_node1 {w : World} {a : Option Addr} (h : NoneV w a) (id : Int) (m : Nat) : Calls Try.prog 102 #[.pointer a, iv id, .map (some m)] w (Says w (.tuple #[zeroN, .bool false])) := by
  have H := Lib.hid (show ∀ W2, Below w.heap.size w W2 → _ from fun W2 h2 => none_get (h.later h2) id)
  clear h
  go_enter Try.func102, Try.ntmps102
  go_wp2_with fail
  refine (H.out _ ((Below.refl _ _).alloc (Nat.le_refl _) _)).mono ?_
  rintro e w1 ⟨rfl, hb1⟩
  have hz := (hb1.block w.heap.size (by simp)).trans (Go.heap_alloc_new w _)
  obtain ⟨z0, z1, z2, z3, z4⟩ : w1.cell? ⟨w.heap.size, 0, none⟩ = some (.int .i64 0) ∧ w1.cell? ⟨w.heap.size, 1, none⟩ = some (.string ⟨#[]⟩) ∧ w1.cell? ⟨w.heap.size, 2, none⟩ = some (.string ⟨#[]⟩) ∧ w1.cell? ⟨w.heap.size, 3, none⟩ = some (.slice none 0 0) ∧ w1.cell? ⟨w.heap.size, 4, none⟩ = some (.slice none 0 0) := by
    refine ⟨?_, ?_, ?_, ?_, ?_⟩ <;> simp [World.cell?, hz]
  have f0 := free_block hz 0
  have f1 := free_block hz 1
  have f2 := free_block hz 2
  have f3 := free_block hz 3
  have f4 := free_block hz 4
  have hl : w.heap.size < w1.heap.size := (Array.getElem?_eq_some_iff.1 hz).1
  have HZ := Lib.hid hz
  have HB1 := Lib.hid hb1
  clear hz hb1
  go_wp2
  have e2 := set5 HZ.out (.int .i64 0) (.string ⟨#[]⟩) (.string ⟨#[]⟩) (.slice none 0 0) (.slice none 0 0)
  have hb9 : Below w.heap.size w w1 := ((Below.refl w.heap.size w).alloc (Nat.le_refl _) _).trans (HB1.out.mono (by simp))
  have hb10 := below_set5 hb9 (.int .i64 0) (.string ⟨#[]⟩) (.string ⟨#[]⟩) (.slice none 0 0) (.slice none 0 0)
  have hl2 := (Array.getElem?_eq_some_iff.1 e2).1
  obtain ⟨y0, y1, y2, y3, y4⟩ := cells5 ((Go.heap_alloc_old _ (recCells Rec.zero (.slice none 0 0) (.slice none 0 0)) hl2).trans e2)
  exact bodyPost_ret (v := .tuple #[zeroN, .bool false]) (by simp [results, Try.results102, go_sem, y0, y1, y2, y3, y4]) rfl ⟨rfl, hb10.alloc hb10.size _⟩
set_option maxRecDepth 100000 in
theorem none_node {w : World} {a : Option Addr} (h : NoneV w a) (id : Int) : Calls Try.prog 63 #[.pointer a, iv id] w (Says w (.tuple #[zeroN, .bool false])) := by
  have hmm := @run_makeMap Try.prog
  have H := Lib.hid (show ∀ W2, Below w.heap.size w W2 → ∀ m, _ from fun W2 h2 m => none_node1 (h.later h2) id m)
  clear h
  go_enter Try.func63, Try.ntmps63
  go_wp2_with fail
  refine (H.out _ (((Below.refl w.heap.size w).alloc (Nat.le_refl _) _).alloc (by simp) _) _).mono ?_
  rintro e w1 ⟨rfl, hb1⟩
  have hz := (hb1.block w.heap.size (by simp; omega)).trans ((Go.heap_alloc_old _ _ (by simp)).trans (Go.heap_alloc_new w _))
  obtain ⟨z0, z1, z2, z3, z4⟩ : w1.cell? ⟨w.heap.size, 0, none⟩ = some (.int .i64 0) ∧ w1.cell? ⟨w.heap.size, 1, none⟩ = some (.string ⟨#[]⟩) ∧ w1.cell? ⟨w.heap.size, 2, none⟩ = some (.string ⟨#[]⟩) ∧ w1.cell? ⟨w.heap.size, 3, none⟩ = some (.slice none 0 0) ∧ w1.cell? ⟨w.heap.size, 4, none⟩ = some (.slice none 0 0) := by
    refine ⟨?_, ?_, ?_, ?_, ?_⟩ <;> simp [World.cell?, hz]
  have f0 := free_block hz 0
  have f1 := free_block hz 1
  have f2 := free_block hz 2
  have f3 := free_block hz 3
  have f4 := free_block hz 4
  have hl : w.heap.size < w1.heap.size := (Array.getElem?_eq_some_iff.1 hz).1
  have HZ := Lib.hid hz
  have HB1 := Lib.hid (show Below w.heap.size w w1 from (((Below.refl w.heap.size w).alloc (Nat.le_refl _) _).alloc (by simp) _).trans (hb1.mono (by simp; omega)))
  clear hz hmm hb1
  go_wp2
  have e2 := set5 HZ.out (.int .i64 0) (.string ⟨#[]⟩) (.string ⟨#[]⟩) (.slice none 0 0) (.slice none 0 0)
  obtain ⟨y0, y1, y2, y3, y4⟩ := cells5 e2
  exact bodyPost_ret (v := .tuple #[zeroN, .bool false]) (by simp [results, Try.results63, go_sem, y0, y1, y2, y3, y4]) rfl ⟨rfl, below_set5 HB1.out _ _ _ _ _⟩
set_option maxRecDepth 100000 in
theorem none_parents {w : World} {a : Option Addr} (h : NoneV w a) (id : Int) : Calls Try.prog 69 #[.pointer a, iv id] w fun e w' => e = .returned (.slice none 0 0) ∧ Below w.heap.size w w' := by
  have hmm := @run_makeMap Try.prog
  obtain ⟨es0, ck0, hmu0, hset0⟩ := (setIs_new w).store id
  have H := Lib.hid (show ∀ W, Below w.heap.size w W → _ from fun W hW => none_get (h.later hW) id)
  obtain ⟨W1, hW1⟩ : ∃ W1, Go.ChangeMaps.setBlock (w.alloc (.map #[] 0)) w.heap.size (.map es0 ck0) = W1 := ⟨_, rfl⟩
  have hb1 : Below w.heap.size w W1 := by rw [← hW1]; exact ((Below.refl _ _).alloc (Nat.le_refl _) _).trans (below_setBlock _ (Nat.le_refl _) _)
  rw [hW1] at hmu0
  clear h hset0
  go_enter Try.func69, Try.ntmps69
  go_wp2_with fail
  refine (H.out _ hb1).mono ?_
  rintro e w2 ⟨rfl, hb2⟩
  have hbb := hb1.trans (hb2.mono hb1.size)
  have HB := Lib.hid hbb
  clear hmu0 hmm hb1 hb2 hbb hW1
  go_wp2_with fail
  go_loopw [5, 8] (fun u ub wr => u = .slice none 0 0 ∧ ub = .bool false ∧ Below w.heap.size w wr) (fun _ _ _ => 0)
  case atStart => exact ⟨rfl, rfl, HB.out.alloc HB.out.size _⟩
  case round =>
    obtain ⟨rfl, rfl, hbr⟩ := hrel
    go_wp2
    go_ret
    exact ⟨rfl, hbr⟩
theorem none_reads {w : World} {a : Option Addr} (h : NoneV w a) : ∃ Rb : Nat → Prop, (∀ k, Rb k → k < w.heap.size) ∧ ReadsKP Rb w a (fun _ => none) := by
  refine ⟨fun k => ∃ b, a = some ⟨b, 0, none⟩ ∧ k = b ∧ k < w.heap.size, fun k hk => by obtain ⟨b, -, -, h9⟩ := hk; exact h9, fun W hW hs id => ?_⟩
  have hn : NoneV W a := by
    rcases h with h | ⟨b, sp, e, h⟩
    · exact .inl h
    · exact .inr ⟨b, sp, e, (hW b ⟨b, e, rfl, (Array.getElem?_eq_some_iff.1 h).1⟩).trans h⟩
  refine (none_get hn id).mono ?_
  rintro e w' ⟨rfl, hb⟩
  exact ⟨⟨_, _, rfl, intsIn_nil _ _, intsIn_nil _ _⟩, hb⟩
theorem none_keys : KeysOf (fun _ => none) [] := fun id h => absurd rfl h
theorem none_all {w : World} {a : Option Addr} (h : NoneV w a) : Calls Try.prog 28 #[.pointer a] w (AxPost w []) := by
  obtain ⟨Rb, h1, h2⟩ := none_reads h
  have := all_anyP h2 h1 none_keys (by simp)
  exact this
theorem none_below {w : World} {a : Option Addr} (h : NoneV w a) (id : Int) : Calls Try.prog 70 #[.pointer a, iv id] w (AxPost w []) := by
  obtain ⟨Rb, h1, h2⟩ := none_reads h
  have := below_anyP h2 h1 none_keys (by simp) id
  exact this
theorem none_sort {w : World} {a : Option Addr} (h : NoneV w a) {F : Nat → Prop} {lv : Value} {xs : List Int} (hxs : IntsIn F w lv xs) (hF : ∀ k, F k → k < w.heap.size) : Calls Try.prog 35 #[.pointer a, lv] w (AxPost w []) := by
  obtain ⟨Rb, h1, h2⟩ := none_reads h
  have := sort_viewP h2 h1 none_keys (by simp) hxs hF
  exact this
set_option maxRecDepth 100000 in
theorem same_attrs0 (w : World) : Calls Try.prog 103 #[.slice none 0 0, .slice none 0 0] w fun e w' => e = .returned (.bool true) ∧ w = w' := by
  go_enter Try.func103, Try.ntmps103
  go_wp2
  go_loopw [5] (fun i wr => i = .int .i64 0 ∧ w = wr) (fun _ _ => 0)
  case atStart => exact ⟨rfl, rfl⟩
  case round =>
    obtain ⟨rfl, rfl⟩ := hrel
    go_wp2
    go_ret
    exact ⟨rfl, rfl⟩
set_option maxRecDepth 100000 in
theorem same_nodes0 (w : World) : Calls Try.prog 64 #[zeroN, zeroN] w fun e w' => e = .returned (.bool true) ∧ Below w.heap.size w w' := by
  have hb : ∀ o o', Below w.heap.size w ((w.alloc o).alloc o') := fun o o' => ((Below.refl _ w).alloc (Nat.le_refl _) _).alloc (by simp) _
  go_enter Try.func64, Try.ntmps64
  go_wp2_with (go_at_call 103; refine (same_attrs0 _).mono ?_; rintro e w1 ⟨rfl, rfl⟩)
  go_loopw [5] (fun i wr => i = .int .i64 0 ∧ (w.alloc (.cells #[.int .i64 0, .string ⟨#[]⟩, .string ⟨#[]⟩, .slice none 0 0, .slice none 0 0] 25)).alloc (.cells #[.int .i64 0, .string ⟨#[]⟩, .string ⟨#[]⟩, .slice none 0 0, .slice none 0 0] 25) = wr) (fun _ _ => 0)
  case atStart => exact ⟨rfl, rfl⟩
  case round =>
    obtain ⟨rfl, rfl⟩ := hrel
    go_wp2
    go_ret
    exact ⟨rfl, hb _ _⟩
end Go.Proofs.Ytinkjhkbaadbpaa
/- ViewNone (16): the walk. -/
namespace Go.Proofs.Ytinkjhkbaadbpaa
open Go.RowKit
set_option linter.unusedVariables false
set_option linter.unusedSimpArgs false

section
open Go.Joins Go.ChangeShapes Go.WideShapes Go.Deep
variable {H : Type} {enc : TypeId × Value → H} {W : World} {b0 : Nat}
set_option maxRecDepth 100000 in
theorem rec_open {n : Nat} {cs : List Value} {x : DataW H × List MemPlace} (h : DataW.trod enc Try.prog W 0 (fun _ => true) true n 52 cs = some x) :
    ∃ r kv av, cs = recL r kv av ∧ IntsIn (Old W.heap.size) W kv r.kids ∧ IntsIn (Old W.heap.size) W av r.attrs := by
  obtain ⟨xs, m, hm, rfl, hl, hxl, hg⟩ := DataW.trod_struct Try.underlying52 h
  rw [Try.rec_cells] at hl
  obtain ⟨c0, c1, c2, c3, c4, c5, c6, rfl⟩ := list7 hl
  obtain ⟨y0, y1, y2, y3, y4, y5, y6, rfl⟩ := list7 (hxl.trans rfl)
  have q33 : Try.prog.cellsOf 33 = 1 := by kernel_rfl
  have q9 : Try.prog.cellsOf 9 = 1 := by kernel_rfl
  have q4 : Try.prog.cellsOf 4 = 1 := by kernel_rfl
  have h0 : DataW.trod enc Try.prog W 0 (fun _ => true) true m 3 [c0] = some y0 := by simpa [Try.int_cells] using hg 0 _ rfl
  have h1 : DataW.trod enc Try.prog W 0 (fun _ => true) true m 9 [c1] = some y1 := by simpa [Try.int_cells, q9] using hg 1 _ rfl
  have h2 : DataW.trod enc Try.prog W 0 (fun _ => true) true m 9 [c2] = some y2 := by simpa [Try.int_cells, q9] using hg 2 _ rfl
  have h3 : DataW.trod enc Try.prog W 0 (fun _ => true) true m 3 [c3] = some y3 := by simpa [Try.int_cells, q9] using hg 3 _ rfl
  have h4 : DataW.trod enc Try.prog W 0 (fun _ => true) true m 33 [c4] = some y4 := by simpa [Try.int_cells, q9, q33] using hg 4 _ rfl
  have h5 : DataW.trod enc Try.prog W 0 (fun _ => true) true m 33 [c5] = some y5 := by simpa [Try.int_cells, q9, q33] using hg 5 _ rfl
  have h6 : DataW.trod enc Try.prog W 0 (fun _ => true) true m 4 [c6] = some y6 := by simpa [Try.int_cells, q9, q33, q4] using hg 6 _ rfl
  obtain ⟨k, e0, -⟩ := DataW.trod_int Try.underlying3 h0
  obtain ⟨nm, e1, -⟩ := DataW.trod_string Try.underlying9 h1
  obtain ⟨tx, e2, -⟩ := DataW.trod_string Try.underlying9 h2
  obtain ⟨pa, e3, -⟩ := DataW.trod_int Try.underlying3 h3
  obtain ⟨ks, i4, b4⟩ := ints_bulk h4
  obtain ⟨ats, i5, b5⟩ := ints_bulk h5
  obtain ⟨g, e6, -⟩ := DataW.trod_bool Try.underlying4 h6
  simp at e0 e1 e2 e3 e6
  subst e0 e1 e2 e3 e6
  exact ⟨⟨k, nm, tx, pa, ks, ats, g⟩, c4, c5, rfl, i4, i5⟩
set_option maxRecDepth 100000 in
theorem sp_open {n : Nat} {cs : List Value} {x : DataW H × List MemPlace} (h : DataW.trod enc Try.prog W 0 (fun _ => true) true n 106 cs = some x) :
    ∃ (y : Sp) (kv av tav tkv : Value), cs = spL y kv av tav tkv ∧ IntsIn (Old W.heap.size) W kv y.r.kids ∧ IntsIn (Old W.heap.size) W av y.r.attrs ∧ TrIn (Old W.heap.size) W y.n tav tkv := by
  obtain ⟨xs, m, hm, rfl, hl, hxl, hg⟩ := DataW.trod_struct Try.underlying106 h
  have q106 : Try.prog.cellsOf 106 = 14 := by kernel_rfl
  have q25 : Try.prog.cellsOf 25 = 5 := by kernel_rfl
  rw [q106] at hl
  obtain ⟨c0, c1, c2, c3, c4, c5, c6, c7, c8, c9, c10, c11, c12, c13, rfl⟩ := list14 hl
  match xs, hxl with
  | [y0, y1, y2, y3], _ =>
    have h0 : DataW.trod enc Try.prog W 0 (fun _ => true) true m 3 [c0] = some y0 := by simpa [Try.int_cells] using hg 0 _ rfl
    have h1 : DataW.trod enc Try.prog W 0 (fun _ => true) true m 3 [c1] = some y1 := by simpa [Try.int_cells] using hg 1 _ rfl
    have h2 : DataW.trod enc Try.prog W 0 (fun _ => true) true m 52 [c2, c3, c4, c5, c6, c7, c8] = some y2 := by simpa [Try.int_cells, Try.rec_cells] using hg 2 _ rfl
    have h3 : DataW.trod enc Try.prog W 0 (fun _ => true) true m 25 [c9, c10, c11, c12, c13] = some y3 := by simpa [Try.int_cells, Try.rec_cells, q25] using hg 3 _ rfl
    obtain ⟨k, e0, -⟩ := DataW.trod_int Try.underlying3 h0
    obtain ⟨id, e1, -⟩ := DataW.trod_int Try.underlying3 h1
    obtain ⟨r, kv, av, e2, i1, i2⟩ := rec_open h2
    obtain ⟨t, tav, tkv, e3, i3, b3⟩ := tree_in m h3
    simp at e0 e1
    subst e0 e1
    refine ⟨⟨k, id, r, t⟩, kv, av, tav, tkv, ?_, i1, i2, i3⟩
    show [_, _, c2, c3, c4, c5, c6, c7, c8, c9, c10, c11, c12, c13] = _ :: _ :: (recL r kv av ++ trL t tav tkv)
    rw [← e2, ← e3]
    rfl

set_option maxRecDepth 100000 in
theorem sp_arg {v : Value} {d : DataW H} {p : List MemPlace} (hv : Value.okWide Try.prog W .any b0 106 v) (h : DataW.Trod enc Try.prog W 0 (fun _ => true) true 106 v d p) :
    ∃ (y : Sp) (kv av tav tkv : Value), v = spV y kv av tav tkv ∧ IntsIn (Old W.heap.size) W kv y.r.kids ∧ IntsIn (Old W.heap.size) W av y.r.attrs ∧ TrIn (Old W.heap.size) W y.n tav tkv := by
  obtain ⟨cs, rfl, hsz⟩ := okWide_struct Try.underlying106 hv
  obtain ⟨fuel, hf⟩ := h
  have hf' : DataW.trod enc Try.prog W 0 (fun _ => true) true fuel 106 cs.toList = some (d, p) := hf
  obtain ⟨y, kv, av, tav, tkv, e, h1, h2, h3⟩ := sp_open hf'
  refine ⟨y, kv, av, tav, tkv, ?_, h1, h2, h3⟩
  show Value.agg cs = .agg (spL y kv av tav tkv).toArray
  rw [← e]
end

theorem one_in (w : World) (x : Int) : IntsIn (Old (w.alloc (.cells #[iv x] 3)).heap.size) (w.alloc (.cells #[iv x] 3)) (.slice (some ⟨w.heap.size, 0, none⟩) 1 1) [x] := by
  refine ⟨_, 1, rfl, by simp, by decide, .inr ⟨w.heap.size, 0, rfl, by simp [Old], fun j y hj => ?_⟩⟩
  match j, hj with
  | 0, hj => simp at hj; subst hj; simp [go_sem]

set_option maxRecDepth 100000 in
set_option maxHeartbeats 8000000 in
theorem viewNone_walk {w : World} (x : Sp) {kv av tav tkv : Value} (hkv : IntsIn (Old w.heap.size) w kv x.r.kids) (hav : IntsIn (Old w.heap.size) w av x.r.attrs) (hT : TrIn (Old w.heap.size) w x.n tav tkv) :
    Calls Try.prog 16 #[spV x kv av tav tkv] w fun e w' => e = .returned (.bool true) ∧ Below w.heap.size w w' := by
  obtain ⟨kind, id, ⟨rkind, rname, rtext, rparent, rkids, rattrs, rgone⟩, ⟨nkind, nname, ntext, nattrs, nkids⟩⟩ := x
  simp only [TrIn] at hT
  obtain ⟨⟨a1, c1, rfl, -, -⟩, zs, ⟨a2, c2, rfl, -, -⟩, -⟩ := hT
  obtain ⟨ka, kc, rfl, -, -, -⟩ := hkv
  obtain ⟨aa, ac, rfl, -, -, -⟩ := hav
  simp only at *
  obtain ⟨W, hW⟩ : ∃ W, w.alloc (.cells #[.int .i64 kind, .int .i64 id, .int .i64 rkind, .string rname, .string rtext, .int .i64 rparent, .slice ka rkids.length kc, .slice aa rattrs.length ac, .bool rgone, .int .i64 nkind, .string nname, .string ntext, .slice a1 nattrs.length c1, .slice a2 nkids.length c2] 106) = W := ⟨_, rfl⟩
  have hbW : Below w.heap.size w W := by rw [← hW]; exact (Below.refl _ _).alloc (Nat.le_refl _) _
  have hsW : W.heap.size = w.heap.size + 1 := by rw [← hW]; simp
  have hx0 : W.heap[w.heap.size]? = some (.cells #[.int .i64 kind, .int .i64 id, .int .i64 rkind, .string rname, .string rtext, .int .i64 rparent, .slice ka rkids.length kc, .slice aa rattrs.length ac, .bool rgone, .int .i64 nkind, .string nname, .string ntext, .slice a1 nattrs.length c1, .slice a2 nkids.length c2] 106 (0, 0)) := by rw [← hW]; exact Go.heap_alloc_new _ _
  have HKP := Lib.hid (show ∀ wz, Below W.heap.size W wz → wz.cell? ⟨w.heap.size, 1, none⟩ = some (.int .i64 id) ∧ wz.cell? ⟨w.heap.size, 2, none⟩ = some (.int .i64 rkind) ∧ wz.cell? ⟨w.heap.size, 3, none⟩ = some (.string rname) ∧ wz.cell? ⟨w.heap.size, 4, none⟩ = some (.string rtext) ∧ wz.cell? ⟨w.heap.size, 5, none⟩ = some (.int .i64 rparent) ∧ wz.cell? ⟨w.heap.size, 6, none⟩ = some (.slice ka rkids.length kc) ∧ wz.cell? ⟨w.heap.size, 7, none⟩ = some (.slice aa rattrs.length ac) ∧ wz.cell? ⟨w.heap.size, 8, none⟩ = some (.bool rgone) from fun wz hc => by
    have e2 := (hc.block w.heap.size (by omega)).trans hx0
    refine ⟨?_, ?_, ?_, ?_, ?_, ?_, ?_, ?_⟩ <;> simp [World.cell?, e2])
  obtain ⟨V, hV⟩ : ∃ V, (W.alloc (.cells #[.pointer none, .int .u64 0, .map none] 119)).alloc (.cells #[.pointer none, ptr W.heap.size] 35) = V := ⟨_, rfl⟩
  have hbV : Below W.heap.size W V := by rw [← hV]; exact ((Below.refl _ _).alloc (Nat.le_refl _) _).alloc (by simp) _
  have hv0 : V.heap[W.heap.size]? = some (.cells #[.pointer none, .int .u64 0, .map none] 119 (0, 0)) := by rw [← hV]; exact (Go.heap_alloc_old _ _ (by simp)).trans (Go.heap_alloc_new _ _)
  have hv1 : V.heap[W.heap.size + 1]? = some (.cells #[.pointer none, ptr W.heap.size] 35 (0, 0)) := by
    rw [← hV]
    have := Go.heap_alloc_new (W.alloc (.cells #[.pointer none, .int .u64 0, .map none] 119)) (.cells #[.pointer none, ptr W.heap.size] 35)
    rw [World.size_alloc] at this
    exact this
  have HW := Lib.hid hW
  have HV := Lib.hid hV
  have HBW := Lib.hid hbW
  have HBV := Lib.hid hbV
  have HV0 := Lib.hid hv0
  have HV1 := Lib.hid hv1
  clear hW hV hbW hbV hv0 hv1 hx0
  show Calls Try.prog 16 #[.agg #[.int .i64 kind, .int .i64 id, .int .i64 rkind, .string rname, .string rtext, .int .i64 rparent, .slice ka rkids.length kc, .slice aa rattrs.length ac, .bool rgone, .int .i64 nkind, .string nname, .string ntext, .slice a1 nattrs.length c1, .slice a2 nkids.length c2]] w _
  go_enter Try.func16, Try.ntmps16
  go_upto_region 1 with fail
  rw [HW.out]
  go_wp2_with fail
  rw [← hsW, HV.out]
  clear hsW
  go_loopw [5] (fun i wr => ∃ k : Nat, k ≤ 2 ∧ i = .int .i64 k ∧ Below V.heap.size V wr) (fun i _ => 2 - (Lib.intOf i).toNat)
  case atStart => exact ⟨0, by omega, rfl, Below.refl _ _⟩
  case round =>
    obtain ⟨k, hk, rfl, hbr⟩ := hrel
    by_cases hlt : k < 2
    · obtain ⟨a, hck, hnv⟩ : ∃ a : Option Addr, wr.cell? ⟨W.heap.size + 1, k, none⟩ = some (.pointer a) ∧ ∀ W2, Below wr.heap.size wr W2 → NoneV W2 a := by
        have e1 := (hbr.block (W.heap.size + 1) (Array.getElem?_eq_some_iff.1 HV1.out).1).trans HV1.out
        have e0 := (hbr.block W.heap.size (Array.getElem?_eq_some_iff.1 HV0.out).1).trans HV0.out
        have h2 : k = 0 ∨ k = 1 := by omega
        rcases h2 with rfl | rfl
        · exact ⟨none, by simp [World.cell?, e1], fun W2 h => .inl rfl⟩
        · exact ⟨some ⟨W.heap.size, 0, none⟩, by simp [World.cell?, e1], fun W2 h => .inr ⟨W.heap.size, _, rfl, (h.block _ (Array.getElem?_eq_some_iff.1 e0).1).trans e0⟩⟩
      have hbWr := HBV.out.trans (hbr.mono HBV.out.size)
      have HKR := Lib.hid (show ∀ wz, Below wr.heap.size wr wz → _ from fun wz hz => HKP.out wz (hbWr.trans (hz.mono hbWr.size)))
      have HNV := Lib.hid hnv
      have HBR := Lib.hid hbr
      have hk0 : (0 : Int) ≤ k := by omega
      have hk2 : (k : Int) < 2 := by omega
      obtain ⟨b1, b2, b3, b4, b5, b6, b7, b8⟩ := HKR.out wr (Below.refl _ _)
      clear hnv hbr hbWr b2 b3 b4 b5 b6 b7 b8
      go_upto_region 7 with fail
      clear hck
      go_wp2_with fail
      refine (none_get (HNV.out wr (Below.refl _ _)) id).mono ?_
      rintro e w1 ⟨rfl, hb1⟩
      go_upto_region 8 with fail
      obtain ⟨W2, hW2⟩ : ∃ W2, w1.alloc (recCells Rec.zero (.slice none 0 0) (.slice none 0 0)) = W2 := ⟨_, rfl⟩
      have hr2 : W2.heap[w1.heap.size]? = some (recCells Rec.zero (.slice none 0 0) (.slice none 0 0)) := by rw [← hW2]; exact Go.heap_alloc_new _ _
      have hb2 : Below wr.heap.size wr W2 := by rw [← hW2]; exact hb1.alloc hb1.size _
      rw [show w1.alloc (.cells #[.int .i64 Rec.zero.kind, .string Rec.zero.name, .string Rec.zero.text, .int .i64 Rec.zero.parent, .slice none 0 0, .slice none 0 0, .bool Rec.zero.gone] 52) = W2 from hW2]
      have HR2 := Lib.hid hr2
      have HB2 := Lib.hid hb2
      obtain ⟨b1, -⟩ := HKR.out W2 hb2
      clear hW2 hr2 hb2 hb1
      go_wp2_with fail
      refine (none_node (HNV.out W2 HB2.out) id).mono ?_
      rintro e w3 ⟨rfl, hb3⟩
      clear b1
      go_upto_region 9 with fail
      obtain ⟨W4, hW4⟩ : ∃ W4, w3.alloc (.cells #[.int .i64 0, .string ⟨#[]⟩, .string ⟨#[]⟩, .slice none 0 0, .slice none 0 0] 25) = W4 := ⟨_, rfl⟩
      have hr4 : W4.heap[w3.heap.size]? = some (.cells #[.int .i64 0, .string ⟨#[]⟩, .string ⟨#[]⟩, .slice none 0 0, .slice none 0 0] 25 (0, 0)) := by rw [← hW4]; exact Go.heap_alloc_new _ _
      have hb34 : Below w3.heap.size w3 W4 := by rw [← hW4]; exact (Below.refl _ _).alloc (Nat.le_refl _) _
      rw [hW4]
      have hb24 : Below W2.heap.size W2 W4 := hb3.trans (hb34.mono hb3.size)
      have hb4 : Below wr.heap.size wr W4 := HB2.out.trans (hb24.mono HB2.out.size)
      have hr24 := (hb24.block _ (Array.getElem?_eq_some_iff.1 HR2.out).1).trans HR2.out
      have HC := Lib.hid (show ∀ W5, Below W4.heap.size W4 W5 → _ ∧ _ from fun W5 h5 => ⟨cells7 ((h5.block _ (Array.getElem?_eq_some_iff.1 hr24).1).trans hr24), cells5 ((h5.block _ (Array.getElem?_eq_some_iff.1 hr4).1).trans hr4)⟩)
      have HB4 := Lib.hid hb4
      clear hW4 hr4 hb34 hb24 hb4 hr24 hb3
      obtain ⟨⟨p0, p1, p2, p3, p4, p5, p6⟩, -⟩ := HC.out W4 (Below.refl _ _)
      go_wp2_with fail
      refine (same_any (F := fun _ => False) (G := fun _ => False) (w := W4) Rec.zero (.slice none 0 0) (.slice none 0 0) (.slice none 0 0) (.slice none 0 0) (intsIn_nil _ _) (intsIn_nil _ _) (intsIn_nil _ _) (intsIn_nil _ _) (fun _ h => h.elim) (fun _ h => h.elim)).mono ?_
      rintro e w5 ⟨rfl, hb5⟩
      clear p0 p1 p2 p3 p4 p5 p6
      obtain ⟨-, ⟨p0, p1, p2, p3, p4⟩⟩ := HC.out w5 hb5
      have HB5 := Lib.hid hb5
      clear hb5
      go_wp2_with fail
      refine (same_nodes0 w5).mono ?_
      rintro e w6 ⟨rfl, hb6⟩
      clear p0 p1 p2 p3 p4
      have hb46 := HB5.out.trans (hb6.mono HB5.out.size)
      have hbr6 := HB4.out.trans (hb46.mono HB4.out.size)
      obtain ⟨b1, b2, b3, b4, b5, b6, b7, b8⟩ := HKR.out w6 hbr6
      have HB6 := Lib.hid hbr6
      clear hb6 hb46 hbr6
      go_wp2_with fail
      refine (none_put (HNV.out w6 HB6.out) id ⟨rkind, rname, rtext, rparent, rkids, rattrs, rgone⟩ (.slice ka rkids.length kc) (.slice aa rattrs.length ac)).mono ?_
      rintro e w7 ⟨rfl, hb7⟩
      clear b1 b2 b3 b4 b5 b6 b7 b8
      have HB7 := Lib.hid (HB6.out.trans (hb7.mono HB6.out.size))
      obtain ⟨b1, -⟩ := HKR.out w7 HB7.out
      clear hb7
      go_wp2_with (go_at_call 67; refine (none_time (HNV.out w7 HB7.out)).mono ?_; rintro e w8 ⟨rfl, rfl⟩)
      refine (none_value (HNV.out w7 HB7.out) id).mono ?_
      rintro e w9 ⟨rfl, hb9⟩
      clear b1
      have HB9 := Lib.hid (HB7.out.trans (hb9.mono HB7.out.size))
      clear hb9
      go_wp2_with fail
      refine (none_plant (HNV.out w9 HB9.out) 4 ⟨#[]⟩ ⟨#[]⟩ (.slice none 0 0) (.slice none 0 0) 1).mono ?_
      rintro e w10 ⟨rfl, hb10⟩
      have HB10 := Lib.hid (HB9.out.trans (hb10.mono HB9.out.size))
      clear hb10
      go_upto_region 11 with fail
      have hcur := HB10.out.drew
      go_region_held3 (fun wz => wz.cell? ⟨w.heap.size, 1, none⟩ = some (.int .i64 id))
        (first
          | exact (HKR.out _ hcur).1
          | exact (HKR.out _ (hcur.alloc hcur.size _)).1
          | exact (HKR.out _ (HB10.out.alloc HB10.out.size _).drew).1)
        (first
          | ((go_at_call 61; (with_reducible refine (none_changes (HNV.out _ hcur)).mono ?_); rintro e w11 ⟨rfl, rfl⟩))
          | ((go_at_call 61; (with_reducible refine (none_changes (HNV.out _ (HB10.out.alloc HB10.out.size _).drew)).mono ?_); rintro e w11 ⟨rfl, rfl⟩; have HX := Lib.hid ((one_in w10 1).later (Below.refl _ _).drew); have hcur := (HB10.out.alloc HB10.out.size (.cells #[iv 1] 3)).drew))
          | ((go_at_call 69; (with_reducible refine (none_parents (HNV.out _ hcur) id).mono ?_); rintro e w12 ⟨rfl, hb12⟩; (try (have HX := Lib.hid (HX.out.later hb12))); have hcur := hcur.trans (hb12.mono hcur.size); clear hb12))
          | ((go_at_call 69; (with_reducible refine (none_parents (HNV.out _ (HB10.out.alloc HB10.out.size _).drew) id).mono ?_); rintro e w12 ⟨rfl, hb12⟩; have HX := Lib.hid (((one_in w10 1).later (Below.refl _ _).drew).later hb12); have hcur := (HB10.out.alloc HB10.out.size (.cells #[iv 1] 3)).drew.trans (hb12.mono (HB10.out.alloc HB10.out.size (.cells #[iv 1] 3)).drew.size); clear hb12))
          | ((go_at_call 70; (with_reducible refine (none_below (HNV.out _ hcur) id).mono ?_); rintro e w13 ⟨⟨u13, rfl, ho13⟩, hb13⟩; (try (have HX := Lib.hid (HX.out.later hb13))); have hcur := hcur.trans (hb13.mono hcur.size); obtain ⟨d13, e13, rfl, -, -, -⟩ := ho13; clear hb13))
          | ((go_at_call 70; (with_reducible refine (none_below (HNV.out _ (hcur.alloc hcur.size _)) id).mono ?_); rintro e w13 ⟨⟨u13, rfl, ho13⟩, hb13⟩; have HX := Lib.hid ((one_in _ 1).later hb13); have hcur := (hcur.alloc hcur.size _).trans (hb13.mono (hcur.alloc hcur.size _).size); obtain ⟨d13, e13, rfl, -, -, -⟩ := ho13; clear hb13))
          | ((go_at_call 28; (with_reducible refine (none_all (HNV.out _ hcur)).mono ?_); rintro e w14 ⟨⟨u14, rfl, ho14⟩, hb14⟩; (try (have HX := Lib.hid (HX.out.later hb14))); have hcur := hcur.trans (hb14.mono hcur.size); obtain ⟨d14, e14, rfl, -, -, -⟩ := ho14; clear hb14))
          | ((go_at_call 28; (with_reducible refine (none_all (HNV.out _ (hcur.alloc hcur.size _))).mono ?_); rintro e w14 ⟨⟨u14, rfl, ho14⟩, hb14⟩; have HX := Lib.hid ((one_in _ 1).later hb14); have hcur := (hcur.alloc hcur.size _).trans (hb14.mono (hcur.alloc hcur.size _).size); obtain ⟨d14, e14, rfl, -, -, -⟩ := ho14; clear hb14))
          | ((go_at_call 35; (with_reducible refine (none_sort (HNV.out _ hcur) HX.out (fun _ h => h)).mono ?_); rintro e w15 ⟨⟨u15, rfl, ho15⟩, hb15⟩; have hcur := hcur.trans (hb15.mono hcur.size); obtain ⟨d15, e15, rfl, -, -, -⟩ := ho15; clear hb15))
          | ((go_at_call 35; (with_reducible refine (none_sort (HNV.out _ (hcur.alloc hcur.size _)) (one_in _ 1) (fun _ h => h)).mono ?_); rintro e w15 ⟨⟨u15, rfl, ho15⟩, hb15⟩; have hcur := (hcur.alloc hcur.size _).trans (hb15.mono (hcur.alloc hcur.size _).size); obtain ⟨d15, e15, rfl, -, -, -⟩ := ho15; clear hb15)))
      all_goals
        go_wp2_with fail
        go_roundw
        case rel => exact ⟨k + 1, by omega, by go_num, HBR.out.trans (hcur.mono HBR.out.size)⟩
        case measure => simp [Lib.intOf]; omega
    · obtain rfl : k = 2 := by omega
      have HBX := Lib.hid (HBW.out.trans ((HBV.out.trans (hbr.mono HBV.out.size)).mono HBW.out.size))
      clear hbr
      go_wp2_with (first
        | (go_at_call 71; refine (new_none 5 _).mono ?_; rintro e w5 ⟨rfl, rfl⟩)
        | (go_at_call 55; refine (vworks_any _).mono ?_; rintro e w6 ⟨rfl, hb6⟩))
      go_ret
      exact ⟨rfl, HBX.out.trans (hb6.mono HBX.out.size)⟩
end Go.Proofs.Ytinkjhkbaadbpaa
