/- The document's Ints: are two lists the same? -/
import Derived.Test.YtinkjhkbaadbpaaS0
namespace Go.Proofs.Ytinkjhkbaadbpaa
open Go.RowKit
set_option linter.unusedVariables false

theorem ints_any (xs ys : List Int) (F G : Nat → Prop) (v u : Value) (w : World) (h : IntsIn F w v xs) (h' : IntsIn G w u ys) :
    Calls Try.prog 21 #[v, u] w fun e w' => e = .returned (.bool (decide (xs = ys))) ∧ ∃ n, w.drewN n = w' := by
  have hl := h.len
  have hl' := h'.len
  obtain ⟨a, cap, rfl, -, -, hx⟩ := h
  obtain ⟨b, cap', rfl, -, -, hy⟩ := h'
  by_cases hlen : xs.length = ys.length
  · have hlenZ : (xs.length : Int) = ys.length := by omega
    rw [← hlen]
    go_enter Try.func21, Try.ntmps21
    go_wp2
    go_loopw [5] (fun i wr => ∃ k : Nat, k ≤ xs.length ∧ i = .int .i64 k ∧ (∀ j, j < k → xs[j]? = ys[j]?) ∧ ∃ n, w.drewN n = wr) (fun i _ => xs.length - (intOf i).toNat)
    case atStart => exact ⟨0, Nat.zero_le _, rfl, fun j hj => by omega, 0, rfl⟩
    case round =>
      obtain ⟨k, hk, rfl, hpre, n, rfl⟩ := hrel
      have HP := Lib.hid hpre
      clear hpre
      by_cases hlt : k < xs.length
      · rcases hx with rfl | ⟨g, off, rfl, -, hc⟩
        · simp at hlt
        rcases hy with rfl | ⟨g', off', rfl, -, hc'⟩
        · simp at hlen; subst hlen; simp at hlt
        obtain ⟨x, hxk⟩ : ∃ x, xs[k]? = some x := ⟨_, List.getElem?_eq_getElem hlt⟩
        obtain ⟨y, hyk⟩ : ∃ y, ys[k]? = some y := ⟨_, List.getElem?_eq_getElem (by omega)⟩
        have d0 : (w.drewN n).cell? ⟨g, off + k, none⟩ = some (.int .i64 x) := hc k x hxk
        have d1 : (w.drewN n).cell? ⟨g', off' + k, none⟩ = some (.int .i64 y) := hc' k y hyk
        have h0 : (0 : Int) ≤ (k : Int) := by omega
        have h1 : (k : Int) < (xs.length : Int) := by omega
        have HX := Lib.hid hxk
        have HY := Lib.hid hyk
        clear hxk hyk hc hc'
        generalize hW : w.drewN n = W at *
        by_cases e : x = y
        · go_wp2_with fail
          go_quiet (fail)
          go_wp2
          go_roundw
          case rel => exact ⟨k + 1, by omega, by go_num, fun j hj => by
            by_cases ej : j = k
            · subst ej; rw [HX.out, HY.out, e]
            · exact HP.out j (by omega), _, by rw [← hW, drewN_drewN]⟩
          case measure => simp [intOf]; omega
        · have fin := Lib.hid (show decide (xs = ys) = false from decide_eq_false (fun he => e (by have := HX.out; rw [he, HY.out] at this; exact (Option.some.inj this).symm)))
          go_wp2_with fail
          go_quiet (fail)
          go_wp2
          go_ret
          exact ⟨ret_eq (by rw [fin.out]; rfl), _, by rw [← hW, drewN_drewN]⟩
      · have fin := Lib.hid (show decide (xs = ys) = true from decide_eq_true (List.ext_getElem? (fun j => by
          by_cases hj : j < k
          · exact HP.out j hj
          · rw [List.getElem?_eq_none (by omega), List.getElem?_eq_none (by omega)])))
        go_wp2
        go_ret
        exact ⟨ret_eq (by rw [fin.out]; rfl), _, rfl⟩
  · have fin := Lib.hid (show decide (xs = ys) = false from decide_eq_false (fun e => hlen (by rw [e])))
    have hlenZ : ¬ (xs.length : Int) = ys.length := by omega
    go_enter Try.func21, Try.ntmps21
    go_wp2
    go_ret
    exact ⟨ret_eq (by rw [fin.out]; rfl), 0, rfl⟩
end Go.Proofs.Ytinkjhkbaadbpaa
