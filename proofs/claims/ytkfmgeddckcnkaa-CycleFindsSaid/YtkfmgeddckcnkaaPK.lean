/- Pairs of ints as keys of a map. -/
import Derived.Test.YtkfmgeddckcnkaaBase
import Derived.Test.YtkfmgeddckcnkaaProg
namespace Go.Proofs.Ytkfmgeddckcnkaa
open Go.RowKit
abbrev pv (p : Int × Int) : Value := .agg #[.int .i64 p.1, .int .i64 p.2]
set_option maxRecDepth 100000 in
theorem check_pair (w : World) (em : Bool) (p : Int × Int) : (Instr.checkKey em 10000 31 (pv p)).run Try.prog w = .ok () w := by
  kernel_rfl
set_option maxRecDepth 100000 in
theorem equal_pair (w : World) (a b a' b' : Int) : (Op.equal 31 (pv (a, b)) (pv (a', b'))).run Try.prog w = .ok (decide ((a, b) = (a', b'))) w := by
  have h31 : Try.prog.underlying 31 = some (.array 2 3) := by kernel_rfl
  have hag : (isAgg 3).run Try.prog w = .ok false w := by kernel_rfl
  have heq : ∀ x y : Int, (Op.equalIn 9999 3 (.int .i64 x) (.int .i64 y)).run Try.prog w = .ok (x == y) w := fun x y => run_equalIn_int (P := Try.prog) w 9998 3 .i64 .i64 x y Try.underlying3
  have h2 : List.range' 0 2 = [0, 1] := rfl
  unfold Op.equal
  show (Op.equalIn (9999 + 1) 31 _ _).run _ _ = _
  rw [Op.equalIn]
  simp [Sem.run_bind, run_underlying h31, Result.andThen, go_sem, h2, hag, heq]
  by_cases e1 : a = a'
  · by_cases e2 : b = b' <;> simp [e1, e2, hag, heq, Sem.run_bind, Result.andThen]
  · simp [e1]
theorem stays_pair (w : World) (p : Int × Int) : (Instr.keyThatStays (pv p) (pv p)).run Try.prog w = .ok (pv p) w := by
  have : Instr.sameBits 10000 (pv p) (pv p) = true := by simp [Instr.sameBits]
  unfold Instr.keyThatStays
  rw [this]
  rfl
theorem find_asking (w : World) (p : Int × Int) : ∀ (es : List MapEntry) (i : Nat), (∀ e ∈ es, ∃ y, e.key = pv y) →
    ((Instr.findAsking 31 (pv p) es i).run Try.prog w = .ok none w ∧ ∀ e ∈ es, e.key ≠ pv p) ∨ ∃ j e, (Instr.findAsking 31 (pv p) es i).run Try.prog w = .ok (some (i + j, e.val)) w ∧ es[j]? = some e ∧ e.key = pv p
  | [], i, _ => .inl ⟨by simp [Instr.findAsking], by simp⟩
  | e :: es, i, hall => by
    obtain ⟨y, hy⟩ := hall e (by simp)
    have hr := equal_pair w p.1 p.2 y.1 y.2
    by_cases h : p = y
    · right
      subst h
      refine ⟨0, e, ?_, rfl, hy⟩
      have hr' : (Op.equal 31 (pv p) e.key).run Try.prog w = .ok true w := by rw [hy, hr]; simp
      simp [Instr.findAsking, hr', Result.andThen]
    · have hr' : (Op.equal 31 (pv p) e.key).run Try.prog w = .ok false w := by rw [hy, hr, decide_eq_false]; exact h
      have hne : e.key ≠ pv p := fun e2 => by
        rw [hy] at e2
        simp only [pv, Value.agg.injEq, Array.mk.injEq, List.cons.injEq, Value.int.injEq, true_and, and_true] at e2
        exact h (Prod.ext e2.1.symm e2.2.symm)
      rcases find_asking w p es (i + 1) (fun x hx => hall x (by simp [hx])) with ⟨h1, h2⟩ | ⟨j, e', h1, h2, h3⟩
      · left
        refine ⟨by simp [Instr.findAsking, hr', h1, Result.andThen], fun x hx => ?_⟩
        rcases List.mem_cons.1 hx with rfl | hx
        · exact hne
        · exact h2 x hx
      · right
        exact ⟨j + 1, e', by simp [Instr.findAsking, hr', h1, Result.andThen, Nat.add_assoc, Nat.add_comm 1 j], by simpa using h2, h3⟩
theorem key31 : MKey Try.prog 31 pv where
  inj {a b} h := by
    simp only [pv, Value.agg.injEq, Array.mk.injEq, List.cons.injEq, Value.int.injEq, true_and, and_true] at h
    exact Prod.ext h.1 h.2
  check w em x := check_pair w em x
  find w x es hes := by
    have h31 : Try.prog.underlying 31 = some (.array 2 3) := by kernel_rfl
    cases es with
    | nil => exact .inl ⟨by simp [Instr.findKey, run_underlying h31, Result.andThen, Instr.findNow], by simp⟩
    | cons e es =>
      have hn : Instr.findNow (.array 2 3) (pv x) (e :: es) 0 = none := by
        simp [Instr.findNow, Instr.sameNow]
      have hk : (Instr.findKey 31 (pv x) (e :: es)).run Try.prog w = (Instr.findAsking 31 (pv x) (e :: es) 0).run Try.prog w := by
        simp [Instr.findKey, run_underlying h31, Result.andThen, hn]
      rw [hk]
      rcases find_asking w x (e :: es) 0 hes with h | ⟨j, e', h1, h2, h3⟩
      · exact .inl h
      · exact .inr ⟨j, e', by simpa using h1, h2, h3⟩
  stays w x := stays_pair w x
theorem key3 : MKey Try.prog 3 (fun n : Int => Value.int .i64 n) := mkey_int Try.underlying3
end Go.Proofs.Ytkfmgeddckcnkaa
