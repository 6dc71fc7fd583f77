/- slices.Clone of those who wait (34). -/
import Derived.Test.YtamjopgpmeeheaaLT
namespace Go.Proofs.Ytamjopgpmeeheaa
open Go.RowKit
set_option linter.unusedVariables false

theorem Try.info63 : (Try.prog.info? 63).map (fun i => (i.zero, i.size, i.bytes)) = some (some (.agg #[.int .i64 0, .int .i64 0]), 2, 16) := by kernel_rfl
theorem flat_at : ∀ (l : List W2) (j : Nat) (u : Value), (flat l)[j]? = some u → ∃ k e, l[k]? = some e ∧ ((j = k * 2 ∧ u = iv e.1) ∨ (j = k * 2 + 1 ∧ u = iv e.2))
  | [], j, u, h => by simp [flat] at h
  | a :: l, 0, u, h => by simp [flat] at h; exact ⟨0, a, rfl, .inl ⟨rfl, h.symm⟩⟩
  | a :: l, 1, u, h => by simp [flat] at h; exact ⟨0, a, rfl, .inr ⟨rfl, h.symm⟩⟩
  | a :: l, j + 2, u, h => by
    have e1 : flat (a :: l) = iv a.1 :: iv a.2 :: flat l := by simp [flat]
    rw [e1] at h
    obtain ⟨k, e, hk, h2⟩ := flat_at l j u (by simpa using h)
    refine ⟨k + 1, e, by simpa using hk, h2.imp (fun h => ⟨by omega, h.2⟩) (fun h => ⟨by omega, h.2⟩)⟩
theorem flat_one (l : List W2) : ∀ u ∈ flat l, u.oneCell' = true := by
  intro u hu
  obtain ⟨j, hj⟩ := List.getElem?_of_mem hu
  obtain ⟨k, e, -, h | h⟩ := flat_at l j u hj
  · rw [h.2]; rfl
  · rw [h.2]; rfl
theorem addr_add (b o j : Nat) : ((⟨b, o, none⟩ : Addr).add j) = ⟨b, o + j, none⟩ := by cases j <;> simp [Addr.add]
/-- the cells of a slice of pairs, one by one -/
theorem pairs_cells {w : World} {g off : Nat} {l : List W2} (hc : ∀ (k : Nat) (e : W2), l[k]? = some e → w.cell? ⟨g, off + k * 2, none⟩ = some (iv e.1) ∧ w.cell? ⟨g, off + k * 2 + 1, none⟩ = some (iv e.2)) (j : Nat) (u : Value) (h : (flat l)[j]? = some u) :
    w.cell? ((⟨g, off, none⟩ : Addr).add j) = some u := by
  rw [addr_add]
  obtain ⟨k, e, hk, h2⟩ := flat_at l j u h
  rcases h2 with ⟨rfl, rfl⟩ | ⟨rfl, rfl⟩
  · exact (hc k e hk).1
  · exact (hc k e hk).2

set_option maxRecDepth 100000 in
theorem cloneW_any (q : List W2) (F : Nat → Prop) (v : Value) (w : World) (h : PairsIn F w v q) (hF : ∀ k, F k → k < w.heap.size) (hl : q.length ≤ 1000) :
    Calls Try.prog 34 #[v] w fun e w' => (∃ v', e = .returned v' ∧ w'.ownsRow w.heap.size 63 2 v' q.length (flat q)) ∧ Below w.heap.size w w' := by
  obtain ⟨a, cap, rfl, h1, h2, hx⟩ := h
  cases a with
  | none =>
    obtain rfl : q = [] := by rcases hx with h | ⟨g, off, h, _⟩; exact h; cases h
    have hq := fun w => @Lib.run_eql_slice_nil Try.prog w 58 63 none 0 cap
    go_enter Try.func34, Try.ntmps34
    go_wp2
    go_ret
    exact ⟨⟨_, rfl, World.ownsRow_nil _ _ _ _⟩, Below.refl _ _⟩
  | some ad =>
    obtain ⟨i0, hi, hz0, hz1, hz2⟩ := info_parts Try.info63
    have hnews2 : ∀ j u, (flat q)[j]? = some u → (w.alloc (.cells #[] 63)).cell? (ad.add j) = some u := by
      intro j u hu
      rcases hx with rfl | ⟨g, off, e, hg, hc⟩
      · simp [flat] at hu
      · cases e
        have := pairs_cells hc j u hu
        rw [addr_add] at this ⊢
        exact (World.cell?_of_block (w := w) (Go.heap_alloc_old w _ (hF _ hg))).trans this
    have HN := Lib.hid hnews2
    have HS := Lib.hid (World.ownsRow_made (e := 63) (size := 2) (base := w.heap.size) w #[] 0 (Nat.le_refl _) (Nat.zero_le _) rfl)
    have H4 : Hid (0 + q.length ≤ maxLen) := by show 0 + q.length ≤ maxLen; unfold maxLen; omega
    have H5 : Hid ((0 + q.length) * 16 ≤ 140737488355328) := by show (0 + q.length) * 16 ≤ 140737488355328; omega
    have HO := Lib.hid (flat_one q)
    have HFL := Lib.hid (flat_length q)
    have hq := fun w => Lib.run_eql_slice_nil (P := Try.prog) w 58 63 (some ad) q.length cap 0 0 Try.underlying58
    clear hx hF h1 h2 hnews2 hl
    go_enter Try.func34, Try.ntmps34
    go_wp2_with (at_builtin; refine wpList_append_own_at _ rfl _ _ 58 rfl w.heap.size 63 i0 (.agg #[.int .i64 0, .int .i64 0]) 2 16 Try.underlying58 hi hz0 hz1 hz2 rfl (by decide) _ _ _ rfl HS.out ad q.length cap (flat q) rfl HFL.out HN.out HO.out H4.out H5.out (by simp) ?_; intro v' w1 hown hgrow hnil hloc)
    go_ret
    have hown2 : w1.ownsRow w.heap.size 63 2 v' q.length (flat q) := by simpa using hown
    exact ⟨⟨v', rfl, hown2⟩, ((Below.refl _ _).alloc (Nat.le_refl _) _).grown hgrow (by simp) (fun k hk => by cases hk; exact Nat.le_refl _)⟩
end Go.Proofs.Ytamjopgpmeeheaa
