/- slices.Values at int hands the elements. -/
import Derived.Test.YtinkjhkbaadbpaaRF
namespace Go.Proofs.Ytinkjhkbaadbpaa
open Go.RowKit Go.Shelf

attribute [local go_sem] Oper.semAt_some

theorem values_any (a : Option Addr) (m cap : Nat) (w : World) : Calls Try.prog 125 #[.slice a m cap] w fun e w' => e = .returned (.func (.func 144) #[] #[.pointer (some ⟨w.heap.size, 0, none⟩)]) ∧ (w.alloc (.cells #[.slice a m cap] 33)) = w' := by
  have hmf : ∀ (fn : Fn) (first cap : Array Value) (w : World), (Instr.makeFunc fn first cap).run Try.prog w = .ok (.func fn first cap) w := fun _ _ _ _ => rfl
  go_enter Try.func125, Try.ntmps125
  go_wp2
  go_ret
  exact ⟨rfl, rfl⟩

set_option maxRecDepth 100000 in
set_option maxHeartbeats 2000000 in
theorem values_gives (n : Nat) (hn : 1 ≤ n) (Bs : Nat) (D : Nat → Prop) (sv : Value) (zs : List Int) (w : World) (hc : w.cell? ⟨Bs, 0, none⟩ = some sv) (hI : IntsIn D w sv zs) :
    Gives Fence.wide n Try.prog 144 #[.pointer (some ⟨Bs, 0, none⟩)] (fun x : Int => #[Value.int .i64 x]) zs (fun k => k = Bs ∨ D k) w := by
  intro l J Jx M0 W hW hR hJ hJx hM hY h0
  have hc' : W.cell? ⟨Bs, 0, none⟩ = some sv := (hW.cell (p := ⟨Bs, 0, none⟩) (.inl rfl)).trans hc
  have hI' : IntsIn (fun k => k = Bs ∨ D k) W sv zs := (hI.mono (fun k hk => .inr hk)).keep hW
  have hl := hI'.len
  obtain ⟨a, cap, rfl, -, -, hx⟩ := hI'
  refine callsIn_of_wp Try.func144 rfl trivial ?_ rfl
  simp only [Try.ntmps144, List.size_toArray, List.length_cons, List.length_nil, Nat.reduceAdd, Nat.reduceSub, Array.replicate_succ, Array.replicate_zero, List.push_toArray, List.append_toArray, List.nil_append, List.cons_append]
  have HY := Lib.hid hY
  have HR := Lib.hid hR
  have HM := Lib.hid hM
  clear hY hR hM hJ hJx hI hc hW
  gi_wp2
  gi_loopw [7] (fun i wr => ∃ k : Nat, k ≤ zs.length ∧ i = .int .i64 k ∧ ∃ M, J (zs.take k) M wr ∧ (∀ k, (k = Bs ∨ D k) → ¬ M k) ∧ Keeps (fun k => k = Bs ∨ D k) W wr ∧ W.heap.size ≤ wr.heap.size)
    (fun i _ => zs.length - (intOf i).toNat)
  case atStart => exact ⟨0, Nat.zero_le _, rfl, M0, h0, fun k hk hm => (HM.out k hm).2 hk, Keeps.refl _ _, Nat.le_refl _⟩
  case round =>
    obtain ⟨k, hk, rfl, M, hJs, hdis, hkp, hsz⟩ := hrel
    by_cases hlt : k < zs.length
    · obtain ⟨x, hxk⟩ : ∃ x, zs[k]? = some x := ⟨_, List.getElem?_eq_getElem hlt⟩
      have htk : zs.take (k + 1) = zs.take k ++ [x] := by rw [List.take_add_one, hxk]; rfl
      have hpre : zs.take k ++ [x] <+: zs := by rw [← htk]; exact List.take_prefix _ _
      rcases hx with rfl | ⟨g, off, rfl, hg, hcs⟩
      · simp at hlt
      · have hcx : wr.cell? ⟨g, off + k, none⟩ = some (.int .i64 x) := (hkp.cell (p := ⟨g, off + k, none⟩) hg).trans (hcs k x hxk)
        obtain ⟨fn, tmps, assign, body, hy, hRR⟩ := HY.out _ x M wr hpre hsz hJs
        have HK := Lib.hid hkp
        have HD := Lib.hid hdis
        have HP := Lib.hid hpre
        have HT := Lib.hid htk
        clear hcs hxk hkp hdis hpre htk
        gi_wp2
        refine hRR.mono ?_
        rintro e W3 ⟨M', hch, hM', (⟨rfl, hJ3⟩ | ⟨rfl, hJ3⟩)⟩
        · gi_wp2
          go_roundw
          case rel => exact ⟨k + 1, by omega, by simp, M', by rw [HT.out]; exact hJ3, fun j hj hm => (hM' j hm).elim (HD.out j hj) (fun h => by have := HR.out j hj; omega), HK.out.trans (hch.keeps (fun j hj => ⟨by have := HR.out j hj; omega, HD.out j hj⟩)), Nat.le_trans hsz hch.size⟩
          case measure => simp [intOf]; omega
        · gi_wp2
          refine bodyPost_ret (results_none rfl _ _ _) rfl ?_
          exact ⟨⟨_, rfl⟩, M', .inr ⟨_, HP.out, hJ3⟩⟩
    · obtain rfl : k = zs.length := by omega
      rw [List.take_length] at hJs
      clear hkp hdis hx
      gi_wp2
      go_end0
      exact ⟨⟨_, rfl⟩, M, .inl hJs⟩
end Go.Proofs.Ytinkjhkbaadbpaa
