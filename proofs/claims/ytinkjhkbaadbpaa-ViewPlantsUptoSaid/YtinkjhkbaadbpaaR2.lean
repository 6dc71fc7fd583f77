/- slices.Clone of ints. -/
import Derived.Test.YtinkjhkbaadbpaaR
import Derived.Maps.AppendAt
namespace Go.Proofs.Ytinkjhkbaadbpaa
open Go.RowKit

theorem Try.info3 : (Try.prog.info? 3).map (fun i => (i.zero, i.size, i.bytes)) = some (some (.int .i64 0), 1, 8) := by kernel_rfl

/-- the blocks that came behind a world of n blocks -/
abbrev New (n : Nat) : Nat → Prop := fun b => n ≤ b

theorem intsIn_row {w : World} {B : Nat} {v : Value} {xs : List Int} (h : w.ownsRow B 3 1 v xs.length (xs.map (Value.int .i64))) : IntsIn (New B) w v xs := by
  obtain ⟨hl, h⟩ := h
  rcases h with ⟨rfl, h0⟩ | ⟨g, cap, cur, rfl, hb, hg, h1, h2, h3, h4⟩
  · obtain rfl : xs = [] := List.eq_nil_of_length_eq_zero h0
    exact intsIn_nil _ _
  · refine ⟨_, cap, rfl, h1, h2, .inr ⟨g, 0, rfl, hb, fun j x hx => ?_⟩⟩
    have hj : j < xs.length := (List.getElem?_eq_some_iff.1 hx).1
    have : cur.toList[j]? = some (.int .i64 x) := by
      have e : (cur.toList.take (xs.length * 1))[j]? = some (.int .i64 x) := by rw [h4]; simp [hx]
      rw [List.getElem?_take_of_lt (by omega)] at e
      exact e
    simpa [World.cell?, hg] using this

set_option maxRecDepth 100000 in
theorem clone_any (xs : List Int) (F : Nat → Prop) (v : Value) (w : World) (h : IntsIn F w v xs) (hF : ∀ k, F k → k < w.heap.size) (hr : xs.length * 8 ≤ 140737488351232) :
    Calls Try.prog 121 #[v] w fun e w' => (∃ v', e = .returned v' ∧ IntsIn (New w.heap.size) w' v' xs) ∧ Below w.heap.size w w' := by
  obtain ⟨a, cap, rfl, h1, h2, hx⟩ := h
  cases a with
  | none =>
    obtain rfl : xs = [] := by rcases hx with h | ⟨g, off, h, _⟩; exact h; cases h
    have hq := fun w => @Lib.run_eql_slice_nil Try.prog w 33 3 none 0 cap
    go_enter Try.func121, Try.ntmps121
    go_wp2
    go_ret
    exact ⟨⟨_, rfl, intsIn_nil _ _⟩, Below.refl _ _⟩
  | some ad =>
    obtain ⟨i0, hi, hz0, hz1, hz2⟩ := info_parts Try.info3
    have hl : xs.length ≤ maxLen := Nat.le_trans h1 h2
    have HL := Lib.hid hl
    have HR := Lib.hid hr
    have hnews : ∀ j u, (xs.map (Value.int .i64))[j]? = some u → w.cell? (ad.add j) = some u := by
      intro j u hu
      rw [List.getElem?_map] at hu
      obtain ⟨x, hx', rfl⟩ := Option.map_eq_some_iff.1 hu
      rcases hx with rfl | ⟨g, off, e, hg, hc⟩
      · simp at hx'
      · cases e
        have := hc j x hx'
        by_cases hj : j = 0
        · subst hj; simpa [Addr.add] using this
        · simpa [Addr.add, hj] using this
    have hold : xs ≠ [] → ad.block < w.heap.size := by
      intro hne
      rcases hx with h | ⟨g, off, e, hg, hc⟩
      · exact absurd h hne
      · cases e; exact hF _ hg
    have hnews2 : ∀ j u, (xs.map (Value.int .i64))[j]? = some u → (w.alloc (.cells #[] 3)).cell? (ad.add j) = some u := by
      intro j u hu
      have hb : (ad.add j).block = ad.block := by unfold Addr.add; split <;> rfl
      have hne : xs ≠ [] := by rintro rfl; simp at hu
      exact (World.cell?_of_block (w := w) (Go.heap_alloc_old w _ (by rw [hb]; exact hold hne))).trans (hnews j u hu)
    have HN := Lib.hid hnews2
    have HO := Lib.hid hold
    have HS := Lib.hid (World.ownsRow_made (e := 3) (size := 1) (base := w.heap.size) w #[] 0 (Nat.le_refl _) (Nat.zero_le _) rfl)
    have H4 : Hid (0 + xs.length ≤ maxLen) := by show 0 + xs.length ≤ maxLen; omega
    have H5 : Hid ((0 + xs.length) * 8 ≤ 140737488355328) := by show (0 + xs.length) * 8 ≤ 140737488355328; omega
    have hq := fun w => Lib.run_eql_slice_nil (P := Try.prog) w 33 3 (some ad) xs.length cap 0 0 Try.underlying33
    clear hl hr h1 h2 hx hF hnews hold hnews2 HL HR
    go_enter Try.func121, Try.ntmps121
    go_wp2_with (at_builtin; refine wpList_append_own_at _ rfl _ _ 33 rfl w.heap.size 3 i0 (.int .i64 0) 1 8 Try.underlying33 hi hz0 hz1 hz2 rfl (by decide) _ _ _ rfl HS.out ad xs.length cap (xs.map (Value.int .i64)) rfl (by simp) HN.out (by simp [Value.oneCell']) H4.out H5.out (by simp) ?_; intro v' w1 hown hgrow hnil hloc)
    go_ret
    have hown2 : w1.ownsRow w.heap.size 3 1 v' xs.length (xs.map (Value.int .i64)) := by simpa using hown
    exact ⟨⟨v', rfl, intsIn_row hown2⟩, ((Below.refl _ _).alloc (Nat.le_refl _) _).grown hgrow (by simp) (fun k hk => by cases hk; exact Nat.le_refl _)⟩
end Go.Proofs.Ytinkjhkbaadbpaa
