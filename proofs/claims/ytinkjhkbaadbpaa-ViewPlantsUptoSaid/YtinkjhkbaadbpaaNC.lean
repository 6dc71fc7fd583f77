/- The axes child (107), attribute (115), self (116); way (75). -/
import Derived.Test.YtinkjhkbaadbpaaON
import Derived.Test.YtinkjhkbaadbpaaNM
namespace Go.Proofs.Ytinkjhkbaadbpaa
open Go.RowKit
set_option linter.unusedVariables false

/-- a list that is handed back -/
def AxPost (w : World) (xs : List Int) (e : Ending) (w' : World) : Prop := (∃ u, e = .returned u ∧ IntsIn (Old w'.heap.size) w' u xs) ∧ Below w.heap.size w w'
theorem run_equalIn_func (fn : Fn) (first cap : Array Value) (w : World) (d : Nat) : (Op.equalIn (d + 1) 50 (Value.func fn first cap) Value.nilFunc).run Try.prog w = .ok false w := by
  obtain ⟨ps, rs, vr, hu⟩ : ∃ ps rs vr, Try.prog.underlying 50 = some (.func ps rs vr) := ⟨_, _, _, Try.underlying50⟩
  simp [Op.equalIn, run_underlying hu]
theorem run_equalIn_nofunc (w : World) (d : Nat) : (Op.equalIn (d + 1) 50 Value.nilFunc Value.nilFunc).run Try.prog w = .ok true w := by
  obtain ⟨ps, rs, vr, hu⟩ : ∃ ps rs vr, Try.prog.underlying 50 = some (.func ps rs vr) := ⟨_, _, _, Try.underlying50⟩
  simp [Op.equalIn, run_underlying hu]
theorem run_eql_func (fn : Fn) (first cap : Array Value) (w : World) : Sem.run Try.prog (binOp BinOp.eql 50 (Value.func fn first cap) Value.nilFunc) w = .ok (.bool false) w := by
  simp only [binOp]
  simp [Op.equal, Op.maxDepth, run_equalIn_func fn first cap w 9999]
theorem run_eql_nofunc (w : World) : Sem.run Try.prog (binOp BinOp.eql 50 Value.nilFunc Value.nilFunc) w = .ok (.bool true) w := by
  simp only [binOp]
  simp [Op.equal, Op.maxDepth, run_equalIn_nofunc w 9999]
def GOk (g : Int → Option Rec) : Prop := ∀ id r, g id = some r → RecOk r

set_option maxRecDepth 100000 in
theorem child_any {w : World} {v : Nat} {g : Int → Option Rec} (h : Reads 29 w v g) (id : Int) {r : Rec} {kv av : Value} (hok : RecOk r) (hk : IntsIn (Old w.heap.size) w kv r.kids) (ha : IntsIn (Old w.heap.size) w av r.attrs) :
    Calls Try.prog 107 #[nodeV v id r kv av] w (AxPost w (onceF (isThere g) r.kids)) := by
  obtain ⟨W, hW⟩ : ∃ W, w.alloc (.cells #[ptr v, iv id, .int .i64 r.kind, .string r.name, .string r.text, .int .i64 r.parent, kv, av, .bool r.gone] 133) = W := ⟨_, rfl⟩
  have hbW : Below w.heap.size w W := by rw [← hW]; exact (Below.refl _ _).alloc (Nat.le_refl _) _
  have hx0 : W.heap[w.heap.size]? = some (.cells #[ptr v, iv id, .int .i64 r.kind, .string r.name, .string r.text, .int .i64 r.parent, kv, av, .bool r.gone] 133 (0, 0)) := by rw [← hW]; exact Go.heap_alloc_new _ _
  obtain ⟨c0, c1, c2, c3, c4, c5, c6, c7, c8⟩ := cells9 hx0
  have HW := Lib.hid hW
  have HB := Lib.hid hbW
  have HON := Lib.hid (once_134 (nd := nodeV v id r kv av) (p := isThere g) (hk.later hbW) (fun _ h => h) hok.1 (fun W2 hW2 x => there_any (h.below (hbW.trans (hW2.mono hbW.size))) id r kv av x))
  have hmf : ∀ (fn : Fn) (first cap : Array Value) (w : World), (Instr.makeFunc fn first cap).run Try.prog w = .ok (.func fn first cap) w := fun _ _ _ _ => rfl
  obtain ⟨ka, kc, rfl, -, -, -⟩ := hk
  obtain ⟨aa, ac, rfl, -, -, -⟩ := ha
  clear h hok hW hbW hx0
  go_enter Try.func107, Try.ntmps107
  go_wp2_with fail
  rw [HW.out]
  go_wp2_with fail
  refine HON.out.mono ?_
  rintro e w2 ⟨⟨u, rfl, ho⟩, hb2⟩
  go_wp2
  go_ret
  exact ⟨⟨_, rfl, (intsIn_row ho).old⟩, HB.out.trans (hb2.mono HB.out.size)⟩

set_option maxRecDepth 100000 in
theorem attribute_any {w : World} {v : Nat} {g : Int → Option Rec} (h : Reads 29 w v g) (id : Int) {r : Rec} {kv av : Value} (hok : RecOk r) (hk : IntsIn (Old w.heap.size) w kv r.kids) (ha : IntsIn (Old w.heap.size) w av r.attrs) :
    Calls Try.prog 115 #[nodeV v id r kv av] w (AxPost w (onceF (isThere g) r.attrs)) := by
  obtain ⟨W, hW⟩ : ∃ W, w.alloc (.cells #[ptr v, iv id, .int .i64 r.kind, .string r.name, .string r.text, .int .i64 r.parent, kv, av, .bool r.gone] 133) = W := ⟨_, rfl⟩
  have hbW : Below w.heap.size w W := by rw [← hW]; exact (Below.refl _ _).alloc (Nat.le_refl _) _
  have hx0 : W.heap[w.heap.size]? = some (.cells #[ptr v, iv id, .int .i64 r.kind, .string r.name, .string r.text, .int .i64 r.parent, kv, av, .bool r.gone] 133 (0, 0)) := by rw [← hW]; exact Go.heap_alloc_new _ _
  obtain ⟨c0, c1, c2, c3, c4, c5, c6, c7, c8⟩ := cells9 hx0
  have HW := Lib.hid hW
  have HB := Lib.hid hbW
  have HON := Lib.hid (once_134 (nd := nodeV v id r kv av) (p := isThere g) (ha.later hbW) (fun _ h => h) hok.2 (fun W2 hW2 x => there_any (h.below (hbW.trans (hW2.mono hbW.size))) id r kv av x))
  have hmf : ∀ (fn : Fn) (first cap : Array Value) (w : World), (Instr.makeFunc fn first cap).run Try.prog w = .ok (.func fn first cap) w := fun _ _ _ _ => rfl
  obtain ⟨ka, kc, rfl, -, -, -⟩ := hk
  obtain ⟨aa, ac, rfl, -, -, -⟩ := ha
  clear h hok hW hbW hx0
  go_enter Try.func115, Try.ntmps115
  go_wp2_with fail
  rw [HW.out]
  go_wp2_with fail
  refine HON.out.mono ?_
  rintro e w2 ⟨⟨u, rfl, ho⟩, hb2⟩
  go_wp2
  go_ret
  exact ⟨⟨_, rfl, (intsIn_row ho).old⟩, HB.out.trans (hb2.mono HB.out.size)⟩

set_option maxRecDepth 100000 in
theorem self_any (w : World) (v : Nat) (id : Int) (r : Rec) (kv av : Value) :
    Calls Try.prog 116 #[nodeV v id r kv av] w fun e w' => (∃ u, e = .returned u ∧ w'.ownsRow w.heap.size 3 1 u 1 [iv id]) ∧ Below w.heap.size w w' := by
  obtain ⟨W, hW⟩ : ∃ W, w.alloc (.cells #[ptr v, iv id, .int .i64 r.kind, .string r.name, .string r.text, .int .i64 r.parent, kv, av, .bool r.gone] 133) = W := ⟨_, rfl⟩
  have hbW : Below w.heap.size w W := by rw [← hW]; exact (Below.refl _ _).alloc (Nat.le_refl _) _
  have hx0 : W.heap[w.heap.size]? = some (.cells #[ptr v, iv id, .int .i64 r.kind, .string r.name, .string r.text, .int .i64 r.parent, kv, av, .bool r.gone] 133 (0, 0)) := by rw [← hW]; exact Go.heap_alloc_new _ _
  obtain ⟨c0, c1, c2, c3, c4, c5, c6, c7, c8⟩ := cells9 hx0
  have HW := Lib.hid hW
  have HB := Lib.hid hbW
  clear hW hbW hx0
  go_enter Try.func116, Try.ntmps116
  go_wp2_with fail
  rw [HW.out]
  go_wp2
  go_ret
  have hs := HB.out.size
  have hsW : W.heap.size = w.heap.size + 1 := by rw [← HW.out]; simp
  have hnew := Go.heap_alloc_new W (.cells #[iv id] 3)
  rw [hsW] at hnew
  exact ⟨⟨_, rfl, rfl, .inr ⟨w.heap.size + 1, 1, _, rfl, Nat.le_succ _, hnew, Nat.le_refl _, by decide, rfl, rfl⟩⟩, HB.out.alloc hs _⟩

set_option maxRecDepth 100000 in
set_option maxHeartbeats 4000000 in
theorem way_1 (w : World) (v : Nat) (id : Int) (r : Rec) (kv av : Value) :
    Calls Try.prog 75 #[nodeV v id r kv av, .int .i64 1] w fun e w' => e = .returned (.func (.func 107) #[nodeV v id r kv av] #[]) ∧ Below w.heap.size w w' := by
  obtain ⟨W, hW⟩ : ∃ W, w.alloc (.cells #[ptr v, iv id, .int .i64 r.kind, .string r.name, .string r.text, .int .i64 r.parent, kv, av, .bool r.gone] 133) = W := ⟨_, rfl⟩
  have hbW : Below w.heap.size w W := by rw [← hW]; exact (Below.refl _ _).alloc (Nat.le_refl _) _
  have hx0 : W.heap[w.heap.size]? = some (.cells #[ptr v, iv id, .int .i64 r.kind, .string r.name, .string r.text, .int .i64 r.parent, kv, av, .bool r.gone] 133 (0, 0)) := by rw [← hW]; exact Go.heap_alloc_new _ _
  obtain ⟨c0, c1, c2, c3, c4, c5, c6, c7, c8⟩ := cells9 hx0
  have HW := Lib.hid hW
  have HB := Lib.hid hbW
  have hmf : ∀ (fn : Fn) (first cap : Array Value) (w : World), (Instr.makeFunc fn first cap).run Try.prog w = .ok (.func fn first cap) w := fun _ _ _ _ => rfl
  clear hW hbW hx0
  go_enter Try.func75, Try.ntmps75
  go_wp2_with fail
  rw [HW.out]
  go_wp2
  go_ret
  exact ⟨rfl, HB.out⟩

set_option maxRecDepth 100000 in
set_option maxHeartbeats 4000000 in
theorem way_2 (w : World) (v : Nat) (id : Int) (r : Rec) (kv av : Value) :
    Calls Try.prog 75 #[nodeV v id r kv av, .int .i64 2] w fun e w' => e = .returned (.func (.func 108) #[nodeV v id r kv av] #[]) ∧ Below w.heap.size w w' := by
  obtain ⟨W, hW⟩ : ∃ W, w.alloc (.cells #[ptr v, iv id, .int .i64 r.kind, .string r.name, .string r.text, .int .i64 r.parent, kv, av, .bool r.gone] 133) = W := ⟨_, rfl⟩
  have hbW : Below w.heap.size w W := by rw [← hW]; exact (Below.refl _ _).alloc (Nat.le_refl _) _
  have hx0 : W.heap[w.heap.size]? = some (.cells #[ptr v, iv id, .int .i64 r.kind, .string r.name, .string r.text, .int .i64 r.parent, kv, av, .bool r.gone] 133 (0, 0)) := by rw [← hW]; exact Go.heap_alloc_new _ _
  obtain ⟨c0, c1, c2, c3, c4, c5, c6, c7, c8⟩ := cells9 hx0
  have HW := Lib.hid hW
  have HB := Lib.hid hbW
  have hmf : ∀ (fn : Fn) (first cap : Array Value) (w : World), (Instr.makeFunc fn first cap).run Try.prog w = .ok (.func fn first cap) w := fun _ _ _ _ => rfl
  clear hW hbW hx0
  go_enter Try.func75, Try.ntmps75
  go_wp2_with fail
  rw [HW.out]
  go_wp2
  go_ret
  exact ⟨rfl, HB.out⟩

set_option maxRecDepth 100000 in
set_option maxHeartbeats 4000000 in
theorem way_3 (w : World) (v : Nat) (id : Int) (r : Rec) (kv av : Value) :
    Calls Try.prog 75 #[nodeV v id r kv av, .int .i64 3] w fun e w' => e = .returned (.func (.func 109) #[nodeV v id r kv av] #[]) ∧ Below w.heap.size w w' := by
  obtain ⟨W, hW⟩ : ∃ W, w.alloc (.cells #[ptr v, iv id, .int .i64 r.kind, .string r.name, .string r.text, .int .i64 r.parent, kv, av, .bool r.gone] 133) = W := ⟨_, rfl⟩
  have hbW : Below w.heap.size w W := by rw [← hW]; exact (Below.refl _ _).alloc (Nat.le_refl _) _
  have hx0 : W.heap[w.heap.size]? = some (.cells #[ptr v, iv id, .int .i64 r.kind, .string r.name, .string r.text, .int .i64 r.parent, kv, av, .bool r.gone] 133 (0, 0)) := by rw [← hW]; exact Go.heap_alloc_new _ _
  obtain ⟨c0, c1, c2, c3, c4, c5, c6, c7, c8⟩ := cells9 hx0
  have HW := Lib.hid hW
  have HB := Lib.hid hbW
  have hmf : ∀ (fn : Fn) (first cap : Array Value) (w : World), (Instr.makeFunc fn first cap).run Try.prog w = .ok (.func fn first cap) w := fun _ _ _ _ => rfl
  clear hW hbW hx0
  go_enter Try.func75, Try.ntmps75
  go_wp2_with fail
  rw [HW.out]
  go_wp2
  go_ret
  exact ⟨rfl, HB.out⟩

set_option maxRecDepth 100000 in
set_option maxHeartbeats 4000000 in
theorem way_4 (w : World) (v : Nat) (id : Int) (r : Rec) (kv av : Value) :
    Calls Try.prog 75 #[nodeV v id r kv av, .int .i64 4] w fun e w' => e = .returned (.func (.func 110) #[nodeV v id r kv av] #[]) ∧ Below w.heap.size w w' := by
  obtain ⟨W, hW⟩ : ∃ W, w.alloc (.cells #[ptr v, iv id, .int .i64 r.kind, .string r.name, .string r.text, .int .i64 r.parent, kv, av, .bool r.gone] 133) = W := ⟨_, rfl⟩
  have hbW : Below w.heap.size w W := by rw [← hW]; exact (Below.refl _ _).alloc (Nat.le_refl _) _
  have hx0 : W.heap[w.heap.size]? = some (.cells #[ptr v, iv id, .int .i64 r.kind, .string r.name, .string r.text, .int .i64 r.parent, kv, av, .bool r.gone] 133 (0, 0)) := by rw [← hW]; exact Go.heap_alloc_new _ _
  obtain ⟨c0, c1, c2, c3, c4, c5, c6, c7, c8⟩ := cells9 hx0
  have HW := Lib.hid hW
  have HB := Lib.hid hbW
  have hmf : ∀ (fn : Fn) (first cap : Array Value) (w : World), (Instr.makeFunc fn first cap).run Try.prog w = .ok (.func fn first cap) w := fun _ _ _ _ => rfl
  clear hW hbW hx0
  go_enter Try.func75, Try.ntmps75
  go_wp2_with fail
  rw [HW.out]
  go_wp2
  go_ret
  exact ⟨rfl, HB.out⟩

set_option maxRecDepth 100000 in
set_option maxHeartbeats 4000000 in
theorem way_5 (w : World) (v : Nat) (id : Int) (r : Rec) (kv av : Value) :
    Calls Try.prog 75 #[nodeV v id r kv av, .int .i64 5] w fun e w' => e = .returned (.func (.func 111) #[nodeV v id r kv av] #[]) ∧ Below w.heap.size w w' := by
  obtain ⟨W, hW⟩ : ∃ W, w.alloc (.cells #[ptr v, iv id, .int .i64 r.kind, .string r.name, .string r.text, .int .i64 r.parent, kv, av, .bool r.gone] 133) = W := ⟨_, rfl⟩
  have hbW : Below w.heap.size w W := by rw [← hW]; exact (Below.refl _ _).alloc (Nat.le_refl _) _
  have hx0 : W.heap[w.heap.size]? = some (.cells #[ptr v, iv id, .int .i64 r.kind, .string r.name, .string r.text, .int .i64 r.parent, kv, av, .bool r.gone] 133 (0, 0)) := by rw [← hW]; exact Go.heap_alloc_new _ _
  obtain ⟨c0, c1, c2, c3, c4, c5, c6, c7, c8⟩ := cells9 hx0
  have HW := Lib.hid hW
  have HB := Lib.hid hbW
  have hmf : ∀ (fn : Fn) (first cap : Array Value) (w : World), (Instr.makeFunc fn first cap).run Try.prog w = .ok (.func fn first cap) w := fun _ _ _ _ => rfl
  clear hW hbW hx0
  go_enter Try.func75, Try.ntmps75
  go_wp2_with fail
  rw [HW.out]
  go_wp2
  go_ret
  exact ⟨rfl, HB.out⟩

set_option maxRecDepth 100000 in
set_option maxHeartbeats 4000000 in
theorem way_6 (w : World) (v : Nat) (id : Int) (r : Rec) (kv av : Value) :
    Calls Try.prog 75 #[nodeV v id r kv av, .int .i64 6] w fun e w' => e = .returned (.func (.func 112) #[nodeV v id r kv av] #[]) ∧ Below w.heap.size w w' := by
  obtain ⟨W, hW⟩ : ∃ W, w.alloc (.cells #[ptr v, iv id, .int .i64 r.kind, .string r.name, .string r.text, .int .i64 r.parent, kv, av, .bool r.gone] 133) = W := ⟨_, rfl⟩
  have hbW : Below w.heap.size w W := by rw [← hW]; exact (Below.refl _ _).alloc (Nat.le_refl _) _
  have hx0 : W.heap[w.heap.size]? = some (.cells #[ptr v, iv id, .int .i64 r.kind, .string r.name, .string r.text, .int .i64 r.parent, kv, av, .bool r.gone] 133 (0, 0)) := by rw [← hW]; exact Go.heap_alloc_new _ _
  obtain ⟨c0, c1, c2, c3, c4, c5, c6, c7, c8⟩ := cells9 hx0
  have HW := Lib.hid hW
  have HB := Lib.hid hbW
  have hmf : ∀ (fn : Fn) (first cap : Array Value) (w : World), (Instr.makeFunc fn first cap).run Try.prog w = .ok (.func fn first cap) w := fun _ _ _ _ => rfl
  clear hW hbW hx0
  go_enter Try.func75, Try.ntmps75
  go_wp2_with fail
  rw [HW.out]
  go_wp2
  go_ret
  exact ⟨rfl, HB.out⟩

set_option maxRecDepth 100000 in
set_option maxHeartbeats 4000000 in
theorem way_7 (w : World) (v : Nat) (id : Int) (r : Rec) (kv av : Value) :
    Calls Try.prog 75 #[nodeV v id r kv av, .int .i64 7] w fun e w' => e = .returned (.func (.func 113) #[nodeV v id r kv av] #[]) ∧ Below w.heap.size w w' := by
  obtain ⟨W, hW⟩ : ∃ W, w.alloc (.cells #[ptr v, iv id, .int .i64 r.kind, .string r.name, .string r.text, .int .i64 r.parent, kv, av, .bool r.gone] 133) = W := ⟨_, rfl⟩
  have hbW : Below w.heap.size w W := by rw [← hW]; exact (Below.refl _ _).alloc (Nat.le_refl _) _
  have hx0 : W.heap[w.heap.size]? = some (.cells #[ptr v, iv id, .int .i64 r.kind, .string r.name, .string r.text, .int .i64 r.parent, kv, av, .bool r.gone] 133 (0, 0)) := by rw [← hW]; exact Go.heap_alloc_new _ _
  obtain ⟨c0, c1, c2, c3, c4, c5, c6, c7, c8⟩ := cells9 hx0
  have HW := Lib.hid hW
  have HB := Lib.hid hbW
  have hmf : ∀ (fn : Fn) (first cap : Array Value) (w : World), (Instr.makeFunc fn first cap).run Try.prog w = .ok (.func fn first cap) w := fun _ _ _ _ => rfl
  clear hW hbW hx0
  go_enter Try.func75, Try.ntmps75
  go_wp2_with fail
  rw [HW.out]
  go_wp2
  go_ret
  exact ⟨rfl, HB.out⟩

set_option maxRecDepth 100000 in
set_option maxHeartbeats 4000000 in
theorem way_8 (w : World) (v : Nat) (id : Int) (r : Rec) (kv av : Value) :
    Calls Try.prog 75 #[nodeV v id r kv av, .int .i64 8] w fun e w' => e = .returned (.func (.func 114) #[nodeV v id r kv av] #[]) ∧ Below w.heap.size w w' := by
  obtain ⟨W, hW⟩ : ∃ W, w.alloc (.cells #[ptr v, iv id, .int .i64 r.kind, .string r.name, .string r.text, .int .i64 r.parent, kv, av, .bool r.gone] 133) = W := ⟨_, rfl⟩
  have hbW : Below w.heap.size w W := by rw [← hW]; exact (Below.refl _ _).alloc (Nat.le_refl _) _
  have hx0 : W.heap[w.heap.size]? = some (.cells #[ptr v, iv id, .int .i64 r.kind, .string r.name, .string r.text, .int .i64 r.parent, kv, av, .bool r.gone] 133 (0, 0)) := by rw [← hW]; exact Go.heap_alloc_new _ _
  obtain ⟨c0, c1, c2, c3, c4, c5, c6, c7, c8⟩ := cells9 hx0
  have HW := Lib.hid hW
  have HB := Lib.hid hbW
  have hmf : ∀ (fn : Fn) (first cap : Array Value) (w : World), (Instr.makeFunc fn first cap).run Try.prog w = .ok (.func fn first cap) w := fun _ _ _ _ => rfl
  clear hW hbW hx0
  go_enter Try.func75, Try.ntmps75
  go_wp2_with fail
  rw [HW.out]
  go_wp2
  go_ret
  exact ⟨rfl, HB.out⟩

set_option maxRecDepth 100000 in
set_option maxHeartbeats 4000000 in
theorem way_9 (w : World) (v : Nat) (id : Int) (r : Rec) (kv av : Value) :
    Calls Try.prog 75 #[nodeV v id r kv av, .int .i64 9] w fun e w' => e = .returned (.func (.func 115) #[nodeV v id r kv av] #[]) ∧ Below w.heap.size w w' := by
  obtain ⟨W, hW⟩ : ∃ W, w.alloc (.cells #[ptr v, iv id, .int .i64 r.kind, .string r.name, .string r.text, .int .i64 r.parent, kv, av, .bool r.gone] 133) = W := ⟨_, rfl⟩
  have hbW : Below w.heap.size w W := by rw [← hW]; exact (Below.refl _ _).alloc (Nat.le_refl _) _
  have hx0 : W.heap[w.heap.size]? = some (.cells #[ptr v, iv id, .int .i64 r.kind, .string r.name, .string r.text, .int .i64 r.parent, kv, av, .bool r.gone] 133 (0, 0)) := by rw [← hW]; exact Go.heap_alloc_new _ _
  obtain ⟨c0, c1, c2, c3, c4, c5, c6, c7, c8⟩ := cells9 hx0
  have HW := Lib.hid hW
  have HB := Lib.hid hbW
  have hmf : ∀ (fn : Fn) (first cap : Array Value) (w : World), (Instr.makeFunc fn first cap).run Try.prog w = .ok (.func fn first cap) w := fun _ _ _ _ => rfl
  clear hW hbW hx0
  go_enter Try.func75, Try.ntmps75
  go_wp2_with fail
  rw [HW.out]
  go_wp2
  go_ret
  exact ⟨rfl, HB.out⟩

set_option maxRecDepth 100000 in
set_option maxHeartbeats 4000000 in
theorem way_10 (w : World) (v : Nat) (id : Int) (r : Rec) (kv av : Value) :
    Calls Try.prog 75 #[nodeV v id r kv av, .int .i64 10] w fun e w' => e = .returned (.func (.func 116) #[nodeV v id r kv av] #[]) ∧ Below w.heap.size w w' := by
  obtain ⟨W, hW⟩ : ∃ W, w.alloc (.cells #[ptr v, iv id, .int .i64 r.kind, .string r.name, .string r.text, .int .i64 r.parent, kv, av, .bool r.gone] 133) = W := ⟨_, rfl⟩
  have hbW : Below w.heap.size w W := by rw [← hW]; exact (Below.refl _ _).alloc (Nat.le_refl _) _
  have hx0 : W.heap[w.heap.size]? = some (.cells #[ptr v, iv id, .int .i64 r.kind, .string r.name, .string r.text, .int .i64 r.parent, kv, av, .bool r.gone] 133 (0, 0)) := by rw [← hW]; exact Go.heap_alloc_new _ _
  obtain ⟨c0, c1, c2, c3, c4, c5, c6, c7, c8⟩ := cells9 hx0
  have HW := Lib.hid hW
  have HB := Lib.hid hbW
  have hmf : ∀ (fn : Fn) (first cap : Array Value) (w : World), (Instr.makeFunc fn first cap).run Try.prog w = .ok (.func fn first cap) w := fun _ _ _ _ => rfl
  clear hW hbW hx0
  go_enter Try.func75, Try.ntmps75
  go_wp2_with fail
  rw [HW.out]
  go_wp2
  go_ret
  exact ⟨rfl, HB.out⟩

set_option maxRecDepth 100000 in
set_option maxHeartbeats 4000000 in
theorem way_11 (w : World) (v : Nat) (id : Int) (r : Rec) (kv av : Value) :
    Calls Try.prog 75 #[nodeV v id r kv av, .int .i64 11] w fun e w' => e = .returned (.func (.func 117) #[nodeV v id r kv av] #[]) ∧ Below w.heap.size w w' := by
  obtain ⟨W, hW⟩ : ∃ W, w.alloc (.cells #[ptr v, iv id, .int .i64 r.kind, .string r.name, .string r.text, .int .i64 r.parent, kv, av, .bool r.gone] 133) = W := ⟨_, rfl⟩
  have hbW : Below w.heap.size w W := by rw [← hW]; exact (Below.refl _ _).alloc (Nat.le_refl _) _
  have hx0 : W.heap[w.heap.size]? = some (.cells #[ptr v, iv id, .int .i64 r.kind, .string r.name, .string r.text, .int .i64 r.parent, kv, av, .bool r.gone] 133 (0, 0)) := by rw [← hW]; exact Go.heap_alloc_new _ _
  obtain ⟨c0, c1, c2, c3, c4, c5, c6, c7, c8⟩ := cells9 hx0
  have HW := Lib.hid hW
  have HB := Lib.hid hbW
  have hmf : ∀ (fn : Fn) (first cap : Array Value) (w : World), (Instr.makeFunc fn first cap).run Try.prog w = .ok (.func fn first cap) w := fun _ _ _ _ => rfl
  clear hW hbW hx0
  go_enter Try.func75, Try.ntmps75
  go_wp2_with fail
  rw [HW.out]
  go_wp2
  go_ret
  exact ⟨rfl, HB.out⟩

set_option maxRecDepth 100000 in
set_option maxHeartbeats 4000000 in
theorem way_12 (w : World) (v : Nat) (id : Int) (r : Rec) (kv av : Value) :
    Calls Try.prog 75 #[nodeV v id r kv av, .int .i64 12] w fun e w' => e = .returned (.func (.func 118) #[nodeV v id r kv av] #[]) ∧ Below w.heap.size w w' := by
  obtain ⟨W, hW⟩ : ∃ W, w.alloc (.cells #[ptr v, iv id, .int .i64 r.kind, .string r.name, .string r.text, .int .i64 r.parent, kv, av, .bool r.gone] 133) = W := ⟨_, rfl⟩
  have hbW : Below w.heap.size w W := by rw [← hW]; exact (Below.refl _ _).alloc (Nat.le_refl _) _
  have hx0 : W.heap[w.heap.size]? = some (.cells #[ptr v, iv id, .int .i64 r.kind, .string r.name, .string r.text, .int .i64 r.parent, kv, av, .bool r.gone] 133 (0, 0)) := by rw [← hW]; exact Go.heap_alloc_new _ _
  obtain ⟨c0, c1, c2, c3, c4, c5, c6, c7, c8⟩ := cells9 hx0
  have HW := Lib.hid hW
  have HB := Lib.hid hbW
  have hmf : ∀ (fn : Fn) (first cap : Array Value) (w : World), (Instr.makeFunc fn first cap).run Try.prog w = .ok (.func fn first cap) w := fun _ _ _ _ => rfl
  clear hW hbW hx0
  go_enter Try.func75, Try.ntmps75
  go_wp2_with fail
  rw [HW.out]
  go_wp2
  go_ret
  exact ⟨rfl, HB.out⟩

set_option maxRecDepth 100000 in
set_option maxHeartbeats 4000000 in
theorem way_no (w : World) (v : Nat) (id : Int) (r : Rec) (kv av : Value) (a : Int) (h : ¬ (1 ≤ a ∧ a ≤ 12)) :
    Calls Try.prog 75 #[nodeV v id r kv av, .int .i64 a] w fun e w' => e = .returned .nilFunc ∧ Below w.heap.size w w' := by
  obtain ⟨W, hW⟩ : ∃ W, w.alloc (.cells #[ptr v, iv id, .int .i64 r.kind, .string r.name, .string r.text, .int .i64 r.parent, kv, av, .bool r.gone] 133) = W := ⟨_, rfl⟩
  have hbW : Below w.heap.size w W := by rw [← hW]; exact (Below.refl _ _).alloc (Nat.le_refl _) _
  have hx0 : W.heap[w.heap.size]? = some (.cells #[ptr v, iv id, .int .i64 r.kind, .string r.name, .string r.text, .int .i64 r.parent, kv, av, .bool r.gone] 133 (0, 0)) := by rw [← hW]; exact Go.heap_alloc_new _ _
  obtain ⟨c0, c1, c2, c3, c4, c5, c6, c7, c8⟩ := cells9 hx0
  have HW := Lib.hid hW
  have HB := Lib.hid hbW
  have g1 : ¬ a = 1 := by omega
  have g2 : ¬ a = 2 := by omega
  have g3 : ¬ a = 3 := by omega
  have g4 : ¬ a = 4 := by omega
  have g5 : ¬ a = 5 := by omega
  have g6 : ¬ a = 6 := by omega
  have g7 : ¬ a = 7 := by omega
  have g8 : ¬ a = 8 := by omega
  have g9 : ¬ a = 9 := by omega
  have g10 : ¬ a = 10 := by omega
  have g11 : ¬ a = 11 := by omega
  have g12 : ¬ a = 12 := by omega
  clear hW hbW hx0 h
  go_enter Try.func75, Try.ntmps75
  go_wp2_with fail
  rw [HW.out]
  go_wp2
  go_ret
  exact ⟨rfl, HB.out⟩

set_option maxRecDepth 100000 in
set_option maxHeartbeats 4000000 in
/-- Nodes (22) where there is no node, or no such axis -/
theorem nodes_none {w : World} {v : Nat} {g : Int → Option Rec} (h : Reads 29 w v g) (id a : Int) (hn : g id = none) :
    Calls Try.prog 22 #[ptr v, iv id, .int .i64 a] w (AxPost w []) := by
  have HC := Lib.hid (h w (Below.refl _ _) id)
  rw [hn] at HC
  clear h hn
  go_enter Try.func22, Try.ntmps22
  go_wp2_with fail
  refine HC.out.mono ?_
  rintro e w2 ⟨⟨kv2, av2, rfl, hk2, ha2⟩, hb2⟩
  obtain ⟨ka, kc, rfl, -, -, -⟩ := hk2
  obtain ⟨aa, ac, rfl, -, -, -⟩ := ha2
  simp only [Option.getD_none, Option.isSome_none]
  go_wp2
  go_ret
  exact ⟨⟨_, rfl, intsIn_nil _ _⟩, hb2.alloc hb2.size _⟩
set_option maxRecDepth 100000 in
set_option maxHeartbeats 4000000 in
theorem nodes_no {w : World} {v : Nat} {g : Int → Option Rec} (h : Reads 29 w v g) (id a : Int) (hno : ¬ (1 ≤ a ∧ a ≤ 12)) :
    Calls Try.prog 22 #[ptr v, iv id, .int .i64 a] w (AxPost w []) := by
  cases hn : g id with
  | none => exact nodes_none h id a hn
  | some r =>
    have HC := Lib.hid (h w (Below.refl _ _) id)
    rw [hn] at HC
    have HNO := Lib.hid hno
    clear h hn hno
    go_enter Try.func22, Try.ntmps22
    go_wp2_with fail
    refine HC.out.mono ?_
    rintro e w2 ⟨⟨kv2, av2, rfl, hk2, ha2⟩, hb2⟩
    obtain ⟨ka, kc, rfl, -, -, -⟩ := hk2
    obtain ⟨aa, ac, rfl, -, -, -⟩ := ha2
    simp only [Option.getD_some, Option.isSome_some]
    have HB2 := Lib.hid hb2
    clear hb2
    go_wp2_with fail
    refine (way_no _ v id r _ _ a HNO.out).mono ?_
    rintro e w3 ⟨rfl, hb3⟩
    have hq := run_eql_nofunc
    go_wp2
    go_ret
    have h1 := HB2.out.alloc HB2.out.size (.cells #[.int .i64 r.kind, .string r.name, .string r.text, .int .i64 r.parent, .slice ka r.kids.length kc, .slice aa r.attrs.length ac, .bool r.gone] 52)
    exact ⟨⟨_, rfl, intsIn_nil _ _⟩, h1.trans (hb3.mono h1.size)⟩

set_option maxRecDepth 100000 in
set_option maxHeartbeats 4000000 in
/-- Nodes (22) on axis 1, given what that axis does -/
theorem nodes_1 {w : World} {v : Nat} {g : Int → Option Rec} {xs : List Int} (h : Reads 29 w v g) (id : Int) {r : Rec} (hr : g id = some r)
    (hf : ∀ (W : World) (kv av : Value), Below w.heap.size w W → IntsIn (Old W.heap.size) W kv r.kids → IntsIn (Old W.heap.size) W av r.attrs → Calls Try.prog 107 #[nodeV v id r kv av] W (AxPost W xs)) :
    Calls Try.prog 22 #[ptr v, iv id, .int .i64 1] w (AxPost w xs) := by
  have HC := Lib.hid (h w (Below.refl _ _) id)
  rw [hr] at HC
  have HF := Lib.hid hf
  clear h hr hf
  go_enter Try.func22, Try.ntmps22
  go_wp2_with fail
  refine HC.out.mono ?_
  rintro e w2 ⟨⟨kv2, av2, rfl, hk2, ha2⟩, hb2⟩
  simp only [Option.getD_some] at hk2 ha2
  have HK := Lib.hid hk2
  have HA := Lib.hid ha2
  obtain ⟨ka, kc, rfl, -, -, -⟩ := hk2
  obtain ⟨aa, ac, rfl, -, -, -⟩ := ha2
  simp only [Option.getD_some, Option.isSome_some]
  have HB2 := Lib.hid hb2
  clear hb2
  go_wp2_with fail
  refine (way_1 _ v id r _ _).mono ?_
  rintro e w3 ⟨rfl, hb3⟩
  have h1 : Below w2.heap.size w2 (w2.alloc (.cells #[.int .i64 r.kind, .string r.name, .string r.text, .int .i64 r.parent, .slice ka r.kids.length kc, .slice aa r.attrs.length ac, .bool r.gone] 52)) := (Below.refl _ _).alloc (Nat.le_refl _) _
  have h2 : Below w2.heap.size w2 w3 := h1.trans (hb3.mono h1.size)
  have H3 := Lib.hid (HB2.out.trans (h2.mono HB2.out.size))
  have HC3 := Lib.hid (HF.out w3 _ _ H3.out (HK.out.later h2) (HA.out.later h2))
  have hq := fun w => run_eql_func (.func 107) #[nodeV v id r (.slice ka r.kids.length kc) (.slice aa r.attrs.length ac)] #[] w
  clear h1 h2 hb3
  go_wp2_with fail
  refine HC3.out.mono ?_
  rintro e w4 ⟨⟨u, rfl, hu⟩, hb4⟩
  have HU := Lib.hid hu
  obtain ⟨ua, uc, rfl, -, -, -⟩ := hu
  go_wp2
  go_ret
  exact ⟨⟨_, rfl, HU.out⟩, H3.out.trans (hb4.mono H3.out.size)⟩

set_option maxRecDepth 100000 in
set_option maxHeartbeats 4000000 in
/-- Nodes (22) on axis 2, given what that axis does -/
theorem nodes_2 {w : World} {v : Nat} {g : Int → Option Rec} {xs : List Int} (h : Reads 29 w v g) (id : Int) {r : Rec} (hr : g id = some r)
    (hf : ∀ (W : World) (kv av : Value), Below w.heap.size w W → IntsIn (Old W.heap.size) W kv r.kids → IntsIn (Old W.heap.size) W av r.attrs → Calls Try.prog 108 #[nodeV v id r kv av] W (AxPost W xs)) :
    Calls Try.prog 22 #[ptr v, iv id, .int .i64 2] w (AxPost w xs) := by
  have HC := Lib.hid (h w (Below.refl _ _) id)
  rw [hr] at HC
  have HF := Lib.hid hf
  clear h hr hf
  go_enter Try.func22, Try.ntmps22
  go_wp2_with fail
  refine HC.out.mono ?_
  rintro e w2 ⟨⟨kv2, av2, rfl, hk2, ha2⟩, hb2⟩
  simp only [Option.getD_some] at hk2 ha2
  have HK := Lib.hid hk2
  have HA := Lib.hid ha2
  obtain ⟨ka, kc, rfl, -, -, -⟩ := hk2
  obtain ⟨aa, ac, rfl, -, -, -⟩ := ha2
  simp only [Option.getD_some, Option.isSome_some]
  have HB2 := Lib.hid hb2
  clear hb2
  go_wp2_with fail
  refine (way_2 _ v id r _ _).mono ?_
  rintro e w3 ⟨rfl, hb3⟩
  have h1 : Below w2.heap.size w2 (w2.alloc (.cells #[.int .i64 r.kind, .string r.name, .string r.text, .int .i64 r.parent, .slice ka r.kids.length kc, .slice aa r.attrs.length ac, .bool r.gone] 52)) := (Below.refl _ _).alloc (Nat.le_refl _) _
  have h2 : Below w2.heap.size w2 w3 := h1.trans (hb3.mono h1.size)
  have H3 := Lib.hid (HB2.out.trans (h2.mono HB2.out.size))
  have HC3 := Lib.hid (HF.out w3 _ _ H3.out (HK.out.later h2) (HA.out.later h2))
  have hq := fun w => run_eql_func (.func 108) #[nodeV v id r (.slice ka r.kids.length kc) (.slice aa r.attrs.length ac)] #[] w
  clear h1 h2 hb3
  go_wp2_with fail
  refine HC3.out.mono ?_
  rintro e w4 ⟨⟨u, rfl, hu⟩, hb4⟩
  have HU := Lib.hid hu
  obtain ⟨ua, uc, rfl, -, -, -⟩ := hu
  go_wp2
  go_ret
  exact ⟨⟨_, rfl, HU.out⟩, H3.out.trans (hb4.mono H3.out.size)⟩

set_option maxRecDepth 100000 in
set_option maxHeartbeats 4000000 in
/-- Nodes (22) on axis 3, given what that axis does -/
theorem nodes_3 {w : World} {v : Nat} {g : Int → Option Rec} {xs : List Int} (h : Reads 29 w v g) (id : Int) {r : Rec} (hr : g id = some r)
    (hf : ∀ (W : World) (kv av : Value), Below w.heap.size w W → IntsIn (Old W.heap.size) W kv r.kids → IntsIn (Old W.heap.size) W av r.attrs → Calls Try.prog 109 #[nodeV v id r kv av] W (AxPost W xs)) :
    Calls Try.prog 22 #[ptr v, iv id, .int .i64 3] w (AxPost w xs) := by
  have HC := Lib.hid (h w (Below.refl _ _) id)
  rw [hr] at HC
  have HF := Lib.hid hf
  clear h hr hf
  go_enter Try.func22, Try.ntmps22
  go_wp2_with fail
  refine HC.out.mono ?_
  rintro e w2 ⟨⟨kv2, av2, rfl, hk2, ha2⟩, hb2⟩
  simp only [Option.getD_some] at hk2 ha2
  have HK := Lib.hid hk2
  have HA := Lib.hid ha2
  obtain ⟨ka, kc, rfl, -, -, -⟩ := hk2
  obtain ⟨aa, ac, rfl, -, -, -⟩ := ha2
  simp only [Option.getD_some, Option.isSome_some]
  have HB2 := Lib.hid hb2
  clear hb2
  go_wp2_with fail
  refine (way_3 _ v id r _ _).mono ?_
  rintro e w3 ⟨rfl, hb3⟩
  have h1 : Below w2.heap.size w2 (w2.alloc (.cells #[.int .i64 r.kind, .string r.name, .string r.text, .int .i64 r.parent, .slice ka r.kids.length kc, .slice aa r.attrs.length ac, .bool r.gone] 52)) := (Below.refl _ _).alloc (Nat.le_refl _) _
  have h2 : Below w2.heap.size w2 w3 := h1.trans (hb3.mono h1.size)
  have H3 := Lib.hid (HB2.out.trans (h2.mono HB2.out.size))
  have HC3 := Lib.hid (HF.out w3 _ _ H3.out (HK.out.later h2) (HA.out.later h2))
  have hq := fun w => run_eql_func (.func 109) #[nodeV v id r (.slice ka r.kids.length kc) (.slice aa r.attrs.length ac)] #[] w
  clear h1 h2 hb3
  go_wp2_with fail
  refine HC3.out.mono ?_
  rintro e w4 ⟨⟨u, rfl, hu⟩, hb4⟩
  have HU := Lib.hid hu
  obtain ⟨ua, uc, rfl, -, -, -⟩ := hu
  go_wp2
  go_ret
  exact ⟨⟨_, rfl, HU.out⟩, H3.out.trans (hb4.mono H3.out.size)⟩

set_option maxRecDepth 100000 in
set_option maxHeartbeats 4000000 in
/-- Nodes (22) on axis 4, given what that axis does -/
theorem nodes_4 {w : World} {v : Nat} {g : Int → Option Rec} {xs : List Int} (h : Reads 29 w v g) (id : Int) {r : Rec} (hr : g id = some r)
    (hf : ∀ (W : World) (kv av : Value), Below w.heap.size w W → IntsIn (Old W.heap.size) W kv r.kids → IntsIn (Old W.heap.size) W av r.attrs → Calls Try.prog 110 #[nodeV v id r kv av] W (AxPost W xs)) :
    Calls Try.prog 22 #[ptr v, iv id, .int .i64 4] w (AxPost w xs) := by
  have HC := Lib.hid (h w (Below.refl _ _) id)
  rw [hr] at HC
  have HF := Lib.hid hf
  clear h hr hf
  go_enter Try.func22, Try.ntmps22
  go_wp2_with fail
  refine HC.out.mono ?_
  rintro e w2 ⟨⟨kv2, av2, rfl, hk2, ha2⟩, hb2⟩
  simp only [Option.getD_some] at hk2 ha2
  have HK := Lib.hid hk2
  have HA := Lib.hid ha2
  obtain ⟨ka, kc, rfl, -, -, -⟩ := hk2
  obtain ⟨aa, ac, rfl, -, -, -⟩ := ha2
  simp only [Option.getD_some, Option.isSome_some]
  have HB2 := Lib.hid hb2
  clear hb2
  go_wp2_with fail
  refine (way_4 _ v id r _ _).mono ?_
  rintro e w3 ⟨rfl, hb3⟩
  have h1 : Below w2.heap.size w2 (w2.alloc (.cells #[.int .i64 r.kind, .string r.name, .string r.text, .int .i64 r.parent, .slice ka r.kids.length kc, .slice aa r.attrs.length ac, .bool r.gone] 52)) := (Below.refl _ _).alloc (Nat.le_refl _) _
  have h2 : Below w2.heap.size w2 w3 := h1.trans (hb3.mono h1.size)
  have H3 := Lib.hid (HB2.out.trans (h2.mono HB2.out.size))
  have HC3 := Lib.hid (HF.out w3 _ _ H3.out (HK.out.later h2) (HA.out.later h2))
  have hq := fun w => run_eql_func (.func 110) #[nodeV v id r (.slice ka r.kids.length kc) (.slice aa r.attrs.length ac)] #[] w
  clear h1 h2 hb3
  go_wp2_with fail
  refine HC3.out.mono ?_
  rintro e w4 ⟨⟨u, rfl, hu⟩, hb4⟩
  have HU := Lib.hid hu
  obtain ⟨ua, uc, rfl, -, -, -⟩ := hu
  go_wp2
  go_ret
  exact ⟨⟨_, rfl, HU.out⟩, H3.out.trans (hb4.mono H3.out.size)⟩

set_option maxRecDepth 100000 in
set_option maxHeartbeats 4000000 in
/-- Nodes (22) on axis 5, given what that axis does -/
theorem nodes_5 {w : World} {v : Nat} {g : Int → Option Rec} {xs : List Int} (h : Reads 29 w v g) (id : Int) {r : Rec} (hr : g id = some r)
    (hf : ∀ (W : World) (kv av : Value), Below w.heap.size w W → IntsIn (Old W.heap.size) W kv r.kids → IntsIn (Old W.heap.size) W av r.attrs → Calls Try.prog 111 #[nodeV v id r kv av] W (AxPost W xs)) :
    Calls Try.prog 22 #[ptr v, iv id, .int .i64 5] w (AxPost w xs) := by
  have HC := Lib.hid (h w (Below.refl _ _) id)
  rw [hr] at HC
  have HF := Lib.hid hf
  clear h hr hf
  go_enter Try.func22, Try.ntmps22
  go_wp2_with fail
  refine HC.out.mono ?_
  rintro e w2 ⟨⟨kv2, av2, rfl, hk2, ha2⟩, hb2⟩
  simp only [Option.getD_some] at hk2 ha2
  have HK := Lib.hid hk2
  have HA := Lib.hid ha2
  obtain ⟨ka, kc, rfl, -, -, -⟩ := hk2
  obtain ⟨aa, ac, rfl, -, -, -⟩ := ha2
  simp only [Option.getD_some, Option.isSome_some]
  have HB2 := Lib.hid hb2
  clear hb2
  go_wp2_with fail
  refine (way_5 _ v id r _ _).mono ?_
  rintro e w3 ⟨rfl, hb3⟩
  have h1 : Below w2.heap.size w2 (w2.alloc (.cells #[.int .i64 r.kind, .string r.name, .string r.text, .int .i64 r.parent, .slice ka r.kids.length kc, .slice aa r.attrs.length ac, .bool r.gone] 52)) := (Below.refl _ _).alloc (Nat.le_refl _) _
  have h2 : Below w2.heap.size w2 w3 := h1.trans (hb3.mono h1.size)
  have H3 := Lib.hid (HB2.out.trans (h2.mono HB2.out.size))
  have HC3 := Lib.hid (HF.out w3 _ _ H3.out (HK.out.later h2) (HA.out.later h2))
  have hq := fun w => run_eql_func (.func 111) #[nodeV v id r (.slice ka r.kids.length kc) (.slice aa r.attrs.length ac)] #[] w
  clear h1 h2 hb3
  go_wp2_with fail
  refine HC3.out.mono ?_
  rintro e w4 ⟨⟨u, rfl, hu⟩, hb4⟩
  have HU := Lib.hid hu
  obtain ⟨ua, uc, rfl, -, -, -⟩ := hu
  go_wp2
  go_ret
  exact ⟨⟨_, rfl, HU.out⟩, H3.out.trans (hb4.mono H3.out.size)⟩

set_option maxRecDepth 100000 in
set_option maxHeartbeats 4000000 in
/-- Nodes (22) on axis 6, given what that axis does -/
theorem nodes_6 {w : World} {v : Nat} {g : Int → Option Rec} {xs : List Int} (h : Reads 29 w v g) (id : Int) {r : Rec} (hr : g id = some r)
    (hf : ∀ (W : World) (kv av : Value), Below w.heap.size w W → IntsIn (Old W.heap.size) W kv r.kids → IntsIn (Old W.heap.size) W av r.attrs → Calls Try.prog 112 #[nodeV v id r kv av] W (AxPost W xs)) :
    Calls Try.prog 22 #[ptr v, iv id, .int .i64 6] w (AxPost w xs) := by
  have HC := Lib.hid (h w (Below.refl _ _) id)
  rw [hr] at HC
  have HF := Lib.hid hf
  clear h hr hf
  go_enter Try.func22, Try.ntmps22
  go_wp2_with fail
  refine HC.out.mono ?_
  rintro e w2 ⟨⟨kv2, av2, rfl, hk2, ha2⟩, hb2⟩
  simp only [Option.getD_some] at hk2 ha2
  have HK := Lib.hid hk2
  have HA := Lib.hid ha2
  obtain ⟨ka, kc, rfl, -, -, -⟩ := hk2
  obtain ⟨aa, ac, rfl, -, -, -⟩ := ha2
  simp only [Option.getD_some, Option.isSome_some]
  have HB2 := Lib.hid hb2
  clear hb2
  go_wp2_with fail
  refine (way_6 _ v id r _ _).mono ?_
  rintro e w3 ⟨rfl, hb3⟩
  have h1 : Below w2.heap.size w2 (w2.alloc (.cells #[.int .i64 r.kind, .string r.name, .string r.text, .int .i64 r.parent, .slice ka r.kids.length kc, .slice aa r.attrs.length ac, .bool r.gone] 52)) := (Below.refl _ _).alloc (Nat.le_refl _) _
  have h2 : Below w2.heap.size w2 w3 := h1.trans (hb3.mono h1.size)
  have H3 := Lib.hid (HB2.out.trans (h2.mono HB2.out.size))
  have HC3 := Lib.hid (HF.out w3 _ _ H3.out (HK.out.later h2) (HA.out.later h2))
  have hq := fun w => run_eql_func (.func 112) #[nodeV v id r (.slice ka r.kids.length kc) (.slice aa r.attrs.length ac)] #[] w
  clear h1 h2 hb3
  go_wp2_with fail
  refine HC3.out.mono ?_
  rintro e w4 ⟨⟨u, rfl, hu⟩, hb4⟩
  have HU := Lib.hid hu
  obtain ⟨ua, uc, rfl, -, -, -⟩ := hu
  go_wp2
  go_ret
  exact ⟨⟨_, rfl, HU.out⟩, H3.out.trans (hb4.mono H3.out.size)⟩

set_option maxRecDepth 100000 in
set_option maxHeartbeats 4000000 in
/-- Nodes (22) on axis 7, given what that axis does -/
theorem nodes_7 {w : World} {v : Nat} {g : Int → Option Rec} {xs : List Int} (h : Reads 29 w v g) (id : Int) {r : Rec} (hr : g id = some r)
    (hf : ∀ (W : World) (kv av : Value), Below w.heap.size w W → IntsIn (Old W.heap.size) W kv r.kids → IntsIn (Old W.heap.size) W av r.attrs → Calls Try.prog 113 #[nodeV v id r kv av] W (AxPost W xs)) :
    Calls Try.prog 22 #[ptr v, iv id, .int .i64 7] w (AxPost w xs) := by
  have HC := Lib.hid (h w (Below.refl _ _) id)
  rw [hr] at HC
  have HF := Lib.hid hf
  clear h hr hf
  go_enter Try.func22, Try.ntmps22
  go_wp2_with fail
  refine HC.out.mono ?_
  rintro e w2 ⟨⟨kv2, av2, rfl, hk2, ha2⟩, hb2⟩
  simp only [Option.getD_some] at hk2 ha2
  have HK := Lib.hid hk2
  have HA := Lib.hid ha2
  obtain ⟨ka, kc, rfl, -, -, -⟩ := hk2
  obtain ⟨aa, ac, rfl, -, -, -⟩ := ha2
  simp only [Option.getD_some, Option.isSome_some]
  have HB2 := Lib.hid hb2
  clear hb2
  go_wp2_with fail
  refine (way_7 _ v id r _ _).mono ?_
  rintro e w3 ⟨rfl, hb3⟩
  have h1 : Below w2.heap.size w2 (w2.alloc (.cells #[.int .i64 r.kind, .string r.name, .string r.text, .int .i64 r.parent, .slice ka r.kids.length kc, .slice aa r.attrs.length ac, .bool r.gone] 52)) := (Below.refl _ _).alloc (Nat.le_refl _) _
  have h2 : Below w2.heap.size w2 w3 := h1.trans (hb3.mono h1.size)
  have H3 := Lib.hid (HB2.out.trans (h2.mono HB2.out.size))
  have HC3 := Lib.hid (HF.out w3 _ _ H3.out (HK.out.later h2) (HA.out.later h2))
  have hq := fun w => run_eql_func (.func 113) #[nodeV v id r (.slice ka r.kids.length kc) (.slice aa r.attrs.length ac)] #[] w
  clear h1 h2 hb3
  go_wp2_with fail
  refine HC3.out.mono ?_
  rintro e w4 ⟨⟨u, rfl, hu⟩, hb4⟩
  have HU := Lib.hid hu
  obtain ⟨ua, uc, rfl, -, -, -⟩ := hu
  go_wp2
  go_ret
  exact ⟨⟨_, rfl, HU.out⟩, H3.out.trans (hb4.mono H3.out.size)⟩

set_option maxRecDepth 100000 in
set_option maxHeartbeats 4000000 in
/-- Nodes (22) on axis 8, given what that axis does -/
theorem nodes_8 {w : World} {v : Nat} {g : Int → Option Rec} {xs : List Int} (h : Reads 29 w v g) (id : Int) {r : Rec} (hr : g id = some r)
    (hf : ∀ (W : World) (kv av : Value), Below w.heap.size w W → IntsIn (Old W.heap.size) W kv r.kids → IntsIn (Old W.heap.size) W av r.attrs → Calls Try.prog 114 #[nodeV v id r kv av] W (AxPost W xs)) :
    Calls Try.prog 22 #[ptr v, iv id, .int .i64 8] w (AxPost w xs) := by
  have HC := Lib.hid (h w (Below.refl _ _) id)
  rw [hr] at HC
  have HF := Lib.hid hf
  clear h hr hf
  go_enter Try.func22, Try.ntmps22
  go_wp2_with fail
  refine HC.out.mono ?_
  rintro e w2 ⟨⟨kv2, av2, rfl, hk2, ha2⟩, hb2⟩
  simp only [Option.getD_some] at hk2 ha2
  have HK := Lib.hid hk2
  have HA := Lib.hid ha2
  obtain ⟨ka, kc, rfl, -, -, -⟩ := hk2
  obtain ⟨aa, ac, rfl, -, -, -⟩ := ha2
  simp only [Option.getD_some, Option.isSome_some]
  have HB2 := Lib.hid hb2
  clear hb2
  go_wp2_with fail
  refine (way_8 _ v id r _ _).mono ?_
  rintro e w3 ⟨rfl, hb3⟩
  have h1 : Below w2.heap.size w2 (w2.alloc (.cells #[.int .i64 r.kind, .string r.name, .string r.text, .int .i64 r.parent, .slice ka r.kids.length kc, .slice aa r.attrs.length ac, .bool r.gone] 52)) := (Below.refl _ _).alloc (Nat.le_refl _) _
  have h2 : Below w2.heap.size w2 w3 := h1.trans (hb3.mono h1.size)
  have H3 := Lib.hid (HB2.out.trans (h2.mono HB2.out.size))
  have HC3 := Lib.hid (HF.out w3 _ _ H3.out (HK.out.later h2) (HA.out.later h2))
  have hq := fun w => run_eql_func (.func 114) #[nodeV v id r (.slice ka r.kids.length kc) (.slice aa r.attrs.length ac)] #[] w
  clear h1 h2 hb3
  go_wp2_with fail
  refine HC3.out.mono ?_
  rintro e w4 ⟨⟨u, rfl, hu⟩, hb4⟩
  have HU := Lib.hid hu
  obtain ⟨ua, uc, rfl, -, -, -⟩ := hu
  go_wp2
  go_ret
  exact ⟨⟨_, rfl, HU.out⟩, H3.out.trans (hb4.mono H3.out.size)⟩

set_option maxRecDepth 100000 in
set_option maxHeartbeats 4000000 in
/-- Nodes (22) on axis 9, given what that axis does -/
theorem nodes_9 {w : World} {v : Nat} {g : Int → Option Rec} {xs : List Int} (h : Reads 29 w v g) (id : Int) {r : Rec} (hr : g id = some r)
    (hf : ∀ (W : World) (kv av : Value), Below w.heap.size w W → IntsIn (Old W.heap.size) W kv r.kids → IntsIn (Old W.heap.size) W av r.attrs → Calls Try.prog 115 #[nodeV v id r kv av] W (AxPost W xs)) :
    Calls Try.prog 22 #[ptr v, iv id, .int .i64 9] w (AxPost w xs) := by
  have HC := Lib.hid (h w (Below.refl _ _) id)
  rw [hr] at HC
  have HF := Lib.hid hf
  clear h hr hf
  go_enter Try.func22, Try.ntmps22
  go_wp2_with fail
  refine HC.out.mono ?_
  rintro e w2 ⟨⟨kv2, av2, rfl, hk2, ha2⟩, hb2⟩
  simp only [Option.getD_some] at hk2 ha2
  have HK := Lib.hid hk2
  have HA := Lib.hid ha2
  obtain ⟨ka, kc, rfl, -, -, -⟩ := hk2
  obtain ⟨aa, ac, rfl, -, -, -⟩ := ha2
  simp only [Option.getD_some, Option.isSome_some]
  have HB2 := Lib.hid hb2
  clear hb2
  go_wp2_with fail
  refine (way_9 _ v id r _ _).mono ?_
  rintro e w3 ⟨rfl, hb3⟩
  have h1 : Below w2.heap.size w2 (w2.alloc (.cells #[.int .i64 r.kind, .string r.name, .string r.text, .int .i64 r.parent, .slice ka r.kids.length kc, .slice aa r.attrs.length ac, .bool r.gone] 52)) := (Below.refl _ _).alloc (Nat.le_refl _) _
  have h2 : Below w2.heap.size w2 w3 := h1.trans (hb3.mono h1.size)
  have H3 := Lib.hid (HB2.out.trans (h2.mono HB2.out.size))
  have HC3 := Lib.hid (HF.out w3 _ _ H3.out (HK.out.later h2) (HA.out.later h2))
  have hq := fun w => run_eql_func (.func 115) #[nodeV v id r (.slice ka r.kids.length kc) (.slice aa r.attrs.length ac)] #[] w
  clear h1 h2 hb3
  go_wp2_with fail
  refine HC3.out.mono ?_
  rintro e w4 ⟨⟨u, rfl, hu⟩, hb4⟩
  have HU := Lib.hid hu
  obtain ⟨ua, uc, rfl, -, -, -⟩ := hu
  go_wp2
  go_ret
  exact ⟨⟨_, rfl, HU.out⟩, H3.out.trans (hb4.mono H3.out.size)⟩

set_option maxRecDepth 100000 in
set_option maxHeartbeats 4000000 in
/-- Nodes (22) on axis 10, given what that axis does -/
theorem nodes_10 {w : World} {v : Nat} {g : Int → Option Rec} {xs : List Int} (h : Reads 29 w v g) (id : Int) {r : Rec} (hr : g id = some r)
    (hf : ∀ (W : World) (kv av : Value), Below w.heap.size w W → IntsIn (Old W.heap.size) W kv r.kids → IntsIn (Old W.heap.size) W av r.attrs → Calls Try.prog 116 #[nodeV v id r kv av] W (AxPost W xs)) :
    Calls Try.prog 22 #[ptr v, iv id, .int .i64 10] w (AxPost w xs) := by
  have HC := Lib.hid (h w (Below.refl _ _) id)
  rw [hr] at HC
  have HF := Lib.hid hf
  clear h hr hf
  go_enter Try.func22, Try.ntmps22
  go_wp2_with fail
  refine HC.out.mono ?_
  rintro e w2 ⟨⟨kv2, av2, rfl, hk2, ha2⟩, hb2⟩
  simp only [Option.getD_some] at hk2 ha2
  have HK := Lib.hid hk2
  have HA := Lib.hid ha2
  obtain ⟨ka, kc, rfl, -, -, -⟩ := hk2
  obtain ⟨aa, ac, rfl, -, -, -⟩ := ha2
  simp only [Option.getD_some, Option.isSome_some]
  have HB2 := Lib.hid hb2
  clear hb2
  go_wp2_with fail
  refine (way_10 _ v id r _ _).mono ?_
  rintro e w3 ⟨rfl, hb3⟩
  have h1 : Below w2.heap.size w2 (w2.alloc (.cells #[.int .i64 r.kind, .string r.name, .string r.text, .int .i64 r.parent, .slice ka r.kids.length kc, .slice aa r.attrs.length ac, .bool r.gone] 52)) := (Below.refl _ _).alloc (Nat.le_refl _) _
  have h2 : Below w2.heap.size w2 w3 := h1.trans (hb3.mono h1.size)
  have H3 := Lib.hid (HB2.out.trans (h2.mono HB2.out.size))
  have HC3 := Lib.hid (HF.out w3 _ _ H3.out (HK.out.later h2) (HA.out.later h2))
  have hq := fun w => run_eql_func (.func 116) #[nodeV v id r (.slice ka r.kids.length kc) (.slice aa r.attrs.length ac)] #[] w
  clear h1 h2 hb3
  go_wp2_with fail
  refine HC3.out.mono ?_
  rintro e w4 ⟨⟨u, rfl, hu⟩, hb4⟩
  have HU := Lib.hid hu
  obtain ⟨ua, uc, rfl, -, -, -⟩ := hu
  go_wp2
  go_ret
  exact ⟨⟨_, rfl, HU.out⟩, H3.out.trans (hb4.mono H3.out.size)⟩

set_option maxRecDepth 100000 in
set_option maxHeartbeats 4000000 in
/-- Nodes (22) on axis 11, given what that axis does -/
theorem nodes_11 {w : World} {v : Nat} {g : Int → Option Rec} {xs : List Int} (h : Reads 29 w v g) (id : Int) {r : Rec} (hr : g id = some r)
    (hf : ∀ (W : World) (kv av : Value), Below w.heap.size w W → IntsIn (Old W.heap.size) W kv r.kids → IntsIn (Old W.heap.size) W av r.attrs → Calls Try.prog 117 #[nodeV v id r kv av] W (AxPost W xs)) :
    Calls Try.prog 22 #[ptr v, iv id, .int .i64 11] w (AxPost w xs) := by
  have HC := Lib.hid (h w (Below.refl _ _) id)
  rw [hr] at HC
  have HF := Lib.hid hf
  clear h hr hf
  go_enter Try.func22, Try.ntmps22
  go_wp2_with fail
  refine HC.out.mono ?_
  rintro e w2 ⟨⟨kv2, av2, rfl, hk2, ha2⟩, hb2⟩
  simp only [Option.getD_some] at hk2 ha2
  have HK := Lib.hid hk2
  have HA := Lib.hid ha2
  obtain ⟨ka, kc, rfl, -, -, -⟩ := hk2
  obtain ⟨aa, ac, rfl, -, -, -⟩ := ha2
  simp only [Option.getD_some, Option.isSome_some]
  have HB2 := Lib.hid hb2
  clear hb2
  go_wp2_with fail
  refine (way_11 _ v id r _ _).mono ?_
  rintro e w3 ⟨rfl, hb3⟩
  have h1 : Below w2.heap.size w2 (w2.alloc (.cells #[.int .i64 r.kind, .string r.name, .string r.text, .int .i64 r.parent, .slice ka r.kids.length kc, .slice aa r.attrs.length ac, .bool r.gone] 52)) := (Below.refl _ _).alloc (Nat.le_refl _) _
  have h2 : Below w2.heap.size w2 w3 := h1.trans (hb3.mono h1.size)
  have H3 := Lib.hid (HB2.out.trans (h2.mono HB2.out.size))
  have HC3 := Lib.hid (HF.out w3 _ _ H3.out (HK.out.later h2) (HA.out.later h2))
  have hq := fun w => run_eql_func (.func 117) #[nodeV v id r (.slice ka r.kids.length kc) (.slice aa r.attrs.length ac)] #[] w
  clear h1 h2 hb3
  go_wp2_with fail
  refine HC3.out.mono ?_
  rintro e w4 ⟨⟨u, rfl, hu⟩, hb4⟩
  have HU := Lib.hid hu
  obtain ⟨ua, uc, rfl, -, -, -⟩ := hu
  go_wp2
  go_ret
  exact ⟨⟨_, rfl, HU.out⟩, H3.out.trans (hb4.mono H3.out.size)⟩

set_option maxRecDepth 100000 in
set_option maxHeartbeats 4000000 in
/-- Nodes (22) on axis 12, given what that axis does -/
theorem nodes_12 {w : World} {v : Nat} {g : Int → Option Rec} {xs : List Int} (h : Reads 29 w v g) (id : Int) {r : Rec} (hr : g id = some r)
    (hf : ∀ (W : World) (kv av : Value), Below w.heap.size w W → IntsIn (Old W.heap.size) W kv r.kids → IntsIn (Old W.heap.size) W av r.attrs → Calls Try.prog 118 #[nodeV v id r kv av] W (AxPost W xs)) :
    Calls Try.prog 22 #[ptr v, iv id, .int .i64 12] w (AxPost w xs) := by
  have HC := Lib.hid (h w (Below.refl _ _) id)
  rw [hr] at HC
  have HF := Lib.hid hf
  clear h hr hf
  go_enter Try.func22, Try.ntmps22
  go_wp2_with fail
  refine HC.out.mono ?_
  rintro e w2 ⟨⟨kv2, av2, rfl, hk2, ha2⟩, hb2⟩
  simp only [Option.getD_some] at hk2 ha2
  have HK := Lib.hid hk2
  have HA := Lib.hid ha2
  obtain ⟨ka, kc, rfl, -, -, -⟩ := hk2
  obtain ⟨aa, ac, rfl, -, -, -⟩ := ha2
  simp only [Option.getD_some, Option.isSome_some]
  have HB2 := Lib.hid hb2
  clear hb2
  go_wp2_with fail
  refine (way_12 _ v id r _ _).mono ?_
  rintro e w3 ⟨rfl, hb3⟩
  have h1 : Below w2.heap.size w2 (w2.alloc (.cells #[.int .i64 r.kind, .string r.name, .string r.text, .int .i64 r.parent, .slice ka r.kids.length kc, .slice aa r.attrs.length ac, .bool r.gone] 52)) := (Below.refl _ _).alloc (Nat.le_refl _) _
  have h2 : Below w2.heap.size w2 w3 := h1.trans (hb3.mono h1.size)
  have H3 := Lib.hid (HB2.out.trans (h2.mono HB2.out.size))
  have HC3 := Lib.hid (HF.out w3 _ _ H3.out (HK.out.later h2) (HA.out.later h2))
  have hq := fun w => run_eql_func (.func 118) #[nodeV v id r (.slice ka r.kids.length kc) (.slice aa r.attrs.length ac)] #[] w
  clear h1 h2 hb3
  go_wp2_with fail
  refine HC3.out.mono ?_
  rintro e w4 ⟨⟨u, rfl, hu⟩, hb4⟩
  have HU := Lib.hid hu
  obtain ⟨ua, uc, rfl, -, -, -⟩ := hu
  go_wp2
  go_ret
  exact ⟨⟨_, rfl, HU.out⟩, H3.out.trans (hb4.mono H3.out.size)⟩
end Go.Proofs.Ytinkjhkbaadbpaa
