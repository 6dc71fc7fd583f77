/- Holders (15), whole. -/
import Derived.Test.YtamjopgpmeeheaaHL
namespace Go.Proofs.Ytamjopgpmeeheaa
open Go.RowKit
set_option linter.unusedVariables false

theorem hs_nil_of {hs : List W2} (h : (hs.map (·.1)) = []) : hs = [] := by simpa using h
theorem cell_new0 (w : World) (x : Value) (t : TypeId) : (w.alloc (.cells #[x] t)).cell? ⟨w.heap.size, 0, none⟩ = some x := by
  have := Go.heap_alloc_new w (.cells #[x] t)
  simp only [World.cell?, this]; rfl
theorem holders_any {M R : Nat → Prop} {w : World} {s m : Nat} {f : Int → Option Value} {T : Tb} {c : Nat} (h : TabF M R w s m f T c) (hM : ∀ k, M k → k < w.heap.size) (hOK : ∀ id, NdOk (T id)) (nd : Int) :
    Calls Try.prog 15 #[.pointer (some ⟨s, 0, none⟩), iv nd] w fun e w' => (∃ v, e = .returned v ∧ TrisIn (fun k => w.heap.size ≤ k ∧ k < w'.heap.size) w' v ((T nd).hs.map (fun x => (x.1, nd, x.2)))) ∧ Below w.heap.size w w' := by
  have hms := hM _ h.ms
  have c0 : w.cell? ⟨s, 0, none⟩ = some (.map (some m)) := by simp [World.cell?, h.cell]
  have hlk := h.map.look key3 Try.underlying49 Try.zero60 nd false
  simp only [Bool.false_eq_true, if_false] at hlk
  cases hf : f nd with
  | none =>
    have hT := h.none nd hf
    rw [hf] at hlk
    simp only [Option.getD_none] at hlk
    have hs0 : (T nd).hs = [] := by rw [hT]; rfl
    rw [hs0]
    refine holders_core (hs := []) (x1 := .bool false) nd c0 hms rfl hlk (fun w1 hb1 => ?_) (fun w1 _ x hx => by cases hx) (by simp)
    refine (keys57n_any w1).mono ?_
    rintro e w2 ⟨rfl, rfl⟩
    refine ⟨_, rfl, (Below.refl _ _).alloc (Nat.le_refl _) _, ?_⟩
    refine (sorted57n_any (cell_new0 w1 _ _) (by simp)).mono ?_
    rintro e w3 ⟨⟨v, zs, rfl, hin, -, rfl⟩, hb3⟩
    have h1 := hb1.size
    exact ⟨⟨v, rfl, hin.mono (fun k hk => ⟨by have := hk.1; simp at this; omega, hk.2⟩)⟩, hb3⟩
  | some v =>
    obtain ⟨hb, qv, rfl, hbM, -, -, hmap, hqin⟩ := h.node nd v hf
    obtain ⟨qa, qc, rfl, -, -, -⟩ := hqin
    rw [hf] at hlk
    simp only [Option.getD_some] at hlk
    have hbl := hM _ hbM
    have hok := hOK nd
    refine holders_core (hs := (T nd).hs) (x1 := .bool false) nd c0 hms rfl hlk (fun w1 hb1 => ?_) (fun w1 hb1 x hx => ?_) hok.few_hs
    · refine (keys57_any hb w1).mono ?_
      rintro e w2 ⟨rfl, rfl⟩
      refine ⟨_, rfl, (Below.refl _ _).alloc (Nat.le_refl _) _, ?_⟩
      have h1 := hb1.size
      have hmap2 : MapIs iv (w1.alloc (.cells #[.map (some hb)] 57)) hb (hF (T nd).hs) := (hmap.keep (hb1.block _ hbl)).keep (Go.heap_alloc_old _ _ (by omega))
      refine (sorted57_any (cell_new0 w1 _ _) hmap2 (by simp) (fun xs hx => ?_)).mono ?_
      · have := keysOk_few (fun id hid => hF_keys id hid) hx
        have h2 := hok.few_hs
        rw [List.length_map] at this
        omega
      · rintro e w3 ⟨⟨v, zs, rfl, hin, hz1, hz2⟩, hb3⟩
        rw [← rise_keys hok.rise hz1 hz2]
        exact ⟨⟨v, rfl, hin.mono (fun k hk => ⟨by have := hk.1; simp at this; omega, hk.2⟩)⟩, hb3⟩
    · have hl := (hmap.keep (hb1.block _ hbl)).look key3 Try.underlying57 Try.zero3 x.1 false
      simp only [Bool.false_eq_true, if_false] at hl
      have : hF (T nd).hs x.1 = some (iv x.2) := by unfold hF; rw [mem_findH hok.rise (m := x.2) hx]; rfl
      rw [this] at hl
      exact hl
end Go.Proofs.Ytamjopgpmeeheaa
