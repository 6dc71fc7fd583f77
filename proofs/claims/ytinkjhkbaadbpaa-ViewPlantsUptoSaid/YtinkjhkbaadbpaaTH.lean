/- through (83), and the nodes that it hands (119). -/
import Derived.Test.YtinkjhkbaadbpaaWL
namespace Go.Proofs.Ytinkjhkbaadbpaa
open Go.RowKit Go.Shelf
set_option linter.unusedVariables false
attribute [local go_sem] Oper.semAt_some

theorem ReadsK.later {Rb : Nat → Prop} {w w' : World} {v : Nat} {g : Int → Option Rec} (h : ReadsK Rb w v g) (hk : Keeps Rb w w') : ReadsK Rb w' v g := fun W hW hl id => h W (hk.trans hW) hl id
theorem through_any (v : Nat) (id : Int) (w : World) : Calls Try.prog 83 #[ptr v, iv id] w fun e w' => e = .returned (.func (.func 119) #[] #[ptr w.heap.size, ptr (w.heap.size + 1)]) ∧ ((w.alloc (.cells #[ptr v] 35)).alloc (.cells #[iv id] 3)) = w' := by
  have hmf : ∀ (fn : Fn) (first cap : Array Value) (w : World), (Instr.makeFunc fn first cap).run Try.prog w = .ok (.func fn first cap) w := fun _ _ _ _ => rfl
  go_enter Try.func83, Try.ntmps83
  go_wp2
  go_ret
  exact ⟨rfl, rfl⟩
set_option maxRecDepth 100000 in
set_option maxHeartbeats 2000000 in
theorem through_gives (n : Nat) (hn : 1 ≤ n) {Rb : Nat → Prop} {w : World} {v b1 b2 : Nat} {g : Int → Option Rec} {keys : List Int} {id : Int} (hR : ReadsK Rb w v g) (hk : KeysOf g keys) (hkl : keys.length ≤ 1000000000)
    (c1 : w.cell? ⟨b1, 0, none⟩ = some (ptr v)) (c2 : w.cell? ⟨b2, 0, none⟩ = some (iv id)) :
    Gives2 Fence.wide n Try.prog 119 #[ptr b1, ptr b2] (fun x : Int × Bool => #[iv x.1, .bool x.2]) (goF g (keys.length + 1) id) (fun k => k = b1 ∨ k = b2 ∨ Rb k) w := by
  intro l J Jx M0 W hW hRl hJ hJx hLJ hLJx hM hY h0
  have d1 : W.cell? ⟨b1, 0, none⟩ = some (ptr v) := (hW.cell (p := ⟨b1, 0, none⟩) (.inl rfl)).trans c1
  have d2 : W.cell? ⟨b2, 0, none⟩ = some (iv id) := (hW.cell (p := ⟨b2, 0, none⟩) (.inr (.inl rfl))).trans c2
  have hR2 : ReadsK Rb W v g := hR.later (fun k hk => hW k (.inr (.inr hk)))
  obtain ⟨W2, hW2⟩ : ∃ W2, W.alloc (.map #[] 0) = W2 := ⟨_, rfl⟩
  have hb2 : Below W.heap.size W W2 := by rw [← hW2]; exact (Below.refl _ _).alloc (Nat.le_refl _) _
  have hs2 : W2.heap.size = W.heap.size + 1 := by rw [← hW2]; simp
  have hset : SetIs W2 W.heap.size (fun x => x ∈ ([] : Acc).map (·.1)) := by rw [← hW2]; exact (setIs_new W).congr (fun x => by simp)
  have hst : WSt J Rb W W.heap.size W.heap.size [] M0 W2 := ⟨hJ _ _ _ _ h0 (chg_new hb2), hset, fun h => by have := (hM _ h).1; omega, fun k h => by have := (hM k h).1; omega, fun k h => ⟨fun hm => (hM k hm).2 (.inr (.inr h)), hRl k (.inr (.inr h))⟩, fun k h => hb2.block k (hRl k (.inr (.inr h))), by omega, by omega⟩
  have hw := walk_upto (J := J) (Jx := Jx) (B := W.heap.size) (ms := W.heap.size) (l := l) (total := goF g (keys.length + 1) id) hR2 hk hkl hJ hLJ (fun pre x M W1 h1 h2 h3 m => yieldAt_wide (hY pre x M W1 h1 h2 h3)) (Nat.le_refl _) (fun h => by have := hRl _ (.inr (.inr h)); omega) (keys.length + 1) id false [] M0 W2 hst (GoInv.nil _) (by simp) (List.prefix_refl _)
  have HW := Lib.hid hw
  have HW2 := Lib.hid hW2
  have hmm := @run_makeMap Try.prog
  clear hw hst hset hb2 hs2 hR2 hY h0 hM hRl hW hW2 hJ hJx hLJ hLJx hR hk c1 c2
  refine callsIn_of_wp Try.func119 rfl trivial ?_ rfl
  simp only [Try.ntmps119, List.size_toArray, List.length_cons, List.length_nil, Nat.reduceAdd, Nat.reduceSub, Array.replicate_succ, Array.replicate_zero, List.push_toArray, List.append_toArray, List.nil_append, List.cons_append]
  gi_wp2_with fail
  rw [HW2.out]
  refine ⟨trivial, ?_⟩
  refine (callsIn_wide.2 HW.out).mono ?_
  rintro e w5 ⟨(⟨rfl, M', hst', -⟩ | ⟨rfl, M', pre, hpre, hjx⟩), -⟩
  · gi_wp2
    go_end0
    exact ⟨⟨_, rfl⟩, M', .inl hst'.j⟩
  · gi_wp2
    go_end0
    exact ⟨⟨_, rfl⟩, M', .inr ⟨pre, hpre, hjx⟩⟩
end Go.Proofs.Ytinkjhkbaadbpaa
