/- maps.Keys of a nil map hands nothing. -/
import Derived.Test.YtamjopgpmeeheaaKY
import Derived.Laws.IdiomRangeMap
namespace Go.Proofs.Ytamjopgpmeeheaa
open Go.RowKit Go.Shelf
set_option linter.unusedVariables false
attribute [local go_sem] Oper.semAt_some

theorem keys57n_any (w : World) : Calls Try.prog 41 #[.map none] w fun e w' => e = .returned (.func (.func 61) #[] #[.pointer (some ⟨w.heap.size, 0, none⟩)]) ∧ (w.alloc (.cells #[.map none] 57)) = w' := by
  have hmf : ∀ (fn : Fn) (first cap : Array Value) (w : World), (Instr.makeFunc fn first cap).run Try.prog w = .ok (.func fn first cap) w := fun _ _ _ _ => rfl
  go_enter Try.func41, Try.ntmps41
  go_wp2
  go_ret
  exact ⟨rfl, rfl⟩

set_option maxRecDepth 100000 in
set_option maxHeartbeats 2000000 in
theorem keys57n_gives (n : Nat) (hn : 1 ≤ n) (Bs : Nat) (w : World) (hc : w.cell? ⟨Bs, 0, none⟩ = some (.map none)) :
    Gives Fence.wide n Try.prog 61 #[.pointer (some ⟨Bs, 0, none⟩)] (fun x : Int => #[Value.int .i64 x]) (KeysOk (fun _ => none)) (KeysFull (fun _ => none)) (fun k => k = Bs) (fun _ => False) (fun _ _ => True) w := by
  intro l J Jx M0 W hW hWT hR hT hJ hJx hM hY h0
  have hc' : W.cell? ⟨Bs, 0, none⟩ = some (.map none) := (hW.cell (p := ⟨Bs, 0, none⟩) rfl).trans hc
  have hrg := run_range_nilMap (P := Try.prog) W 57 3 3 Try.underlying57
  have hnx := fun ty => run_next_nilMap (P := Try.prog) W ty 0 0 #[]
  refine callsIn_of_wp Try.func61 rfl trivial ?_ rfl
  simp only [Try.ntmps61, List.size_toArray, List.length_cons, List.length_nil, Nat.reduceAdd, Nat.reduceSub, Array.replicate_succ, Array.replicate_zero, List.push_toArray, List.append_toArray, List.nil_append, List.cons_append]
  have HM := Lib.hid hM
  have HJ := Lib.hid hJ
  have H0 := Lib.hid h0
  have HNX := Lib.hid hnx
  clear hY hR hM hJ hJx hc hW hWT hT h0 hnx
  gi_wp2
  gi_loopw [3] (fun _ wr => wr = W.alloc (.mapIter none 0 #[] 0)) (fun _ wr => 0)
  case atStart => rfl
  case round =>
    obtain rfl := hrel
    have hnx := HNX.out
    gi_wp2
    refine bodyPost_end (results_none rfl _ _ _) rfl ?_
    exact ⟨⟨_, rfl⟩, [], M0, .inl ⟨⟨List.nodup_nil, fun x => by simp⟩, HJ.out _ _ _ _ H0.out (chg_alloc _ _), trivial⟩, fun k hk => .inl hk⟩
end Go.Proofs.Ytamjopgpmeeheaa
