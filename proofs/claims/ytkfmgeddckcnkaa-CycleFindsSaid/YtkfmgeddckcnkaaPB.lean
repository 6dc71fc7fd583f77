/- Plain law of CycleBreaks. -/
import Derived.Test.YtkfmgeddckcnkaaPC
namespace Go.Proofs.Ytkfmgeddckcnkaa
set_option linter.unusedVariables false

inductive Reaches (G : List Edge) : Int → Int → Prop where
  | here (x : Int) : Reaches G x x
  | step {x y z : Int} (h : (x, y) ∈ G) (r : Reaches G y z) : Reaches G x z
theorem Reaches.trans {G : List Edge} {x y z : Int} (h : Reaches G x y) (k : Reaches G y z) : Reaches G x z := by
  induction h with
  | here x => exact k
  | step h r ih => exact .step h (ih k)
theorem Reaches.mono {G H : List Edge} (hs : ∀ e ∈ G, e ∈ H) {x y : Int} (h : Reaches G x y) : Reaches H x y := by
  induction h with
  | here x => exact .here x
  | step h r ih => exact .step (hs _ h) ih
/-- who is reached has a distance -/
theorem reach_far {G : List Edge} (hG : Fine G) {t x : Int} (h : Reaches G x t) : ∃ d, farOf G t x = some d := by
  induction h with
  | here x => exact ⟨0, far_self G x⟩
  | @step x y z h r ih =>
    obtain ⟨d, hd⟩ := ih
    have hb := far_back hd
    have hle : d ≤ G.length := level_bound ⟨y, hb⟩
    have hf := hG.few
    cases hx : farS G z d x with
    | some d' => 
      have := farS_up hx (201 - d)
      rw [show d + (201 - d) = 201 by omega] at this
      exact ⟨d', this⟩
    | none =>
      have h1 := farS_new.2 ⟨hx, (x, y), h, rfl, hb⟩
      exact ⟨d + 1, far_of (by omega) h1⟩
theorem far_reach {G : List Edge} {t : Int} (d : Nat) : ∀ {x : Int}, farOf G t x = some d → Reaches G x t := by
  induction d with
  | zero => intro x h; rw [far_zero h]; exact .here t
  | succ d ih =>
    intro x h
    obtain ⟨y, hy, hf⟩ := far_step h
    exact .step hy (ih hf)
/-- a number has a cycle just if one of those that it waits for reaches it -/
theorem find_nil_iff {G : List Edge} (hG : Fine G) (t : Int) : findOf G t = [] ↔ ∀ n, (t, n) ∈ G → ¬ Reaches G n t := by
  rcases find_spec hG t with ⟨h1, h2⟩ | ⟨b, l, h1, hb, hl, hp, hd⟩
  · refine ⟨fun _ n hn hr => ?_, fun _ => h1⟩
    obtain ⟨d, hd⟩ := reach_far hG hr
    rw [h2 n hn] at hd; cases hd
  · refine ⟨fun h => absurd h (by rw [h1]; exact List.cons_ne_nil _ _), fun h => ?_⟩
    obtain ⟨y, hy⟩ : ∃ y, l[0]? = some y := ⟨_, List.getElem?_eq_getElem (by omega)⟩
    exact absurd (far_reach _ (hd 0 y hy)) (h y (path_get l t hp 0 t y rfl hy))
theorem find_ne {G H : List Edge} (hG : Fine G) (hH : Fine H) (hs : ∀ e ∈ H, e ∈ G) {t y : Int} (hy : y ∈ findOf H t) : findOf G y ≠ [] := by
  intro he
  obtain ⟨k, hk⟩ := List.getElem?_of_mem hy
  have hkl := (List.getElem?_eq_some_iff.1 hk).1
  have hstep : ∀ i, i < (findOf H t).length → ∃ a b, (findOf H t)[i]? = some a ∧ (findOf H t)[(i + 1) % (findOf H t).length]? = some b ∧ (a, b) ∈ H := fun i hi => by
    obtain ⟨a, b, h1, h2, h3, -⟩ := cycle_ok hH t _ rfl i hi
    exact ⟨a, b, h1, h2, h3⟩
  have hwalk : ∀ m i a, (findOf H t)[i]? = some a → ∃ b, (findOf H t)[(i + m) % (findOf H t).length]? = some b ∧ Reaches H a b := by
    intro m
    induction m with
    | zero =>
      intro i a ha
      have := (List.getElem?_eq_some_iff.1 ha).1
      exact ⟨a, by rw [Nat.add_zero, Nat.mod_eq_of_lt this]; exact ha, .here a⟩
    | succ m ih =>
      intro i a ha
      obtain ⟨b, hb, hr⟩ := ih i a ha
      obtain ⟨a', b', h1, h2, h3⟩ := hstep _ (List.getElem?_eq_some_iff.1 hb).1
      rw [hb] at h1; cases h1
      refine ⟨b', ?_, hr.trans (.step h3 (.here _))⟩
      rw [← h2, Nat.mod_add_mod]; rfl
  obtain ⟨a, b, h1, h2, h3⟩ := hstep k hkl
  rw [hk] at h1; cases h1
  obtain ⟨c, h4, h5⟩ := hwalk ((findOf H t).length - 1) _ _ h2
  rw [Nat.mod_add_mod, show k + 1 + ((findOf H t).length - 1) = k + (findOf H t).length by omega, Nat.add_mod_right, Nat.mod_eq_of_lt hkl, hk] at h4
  cases h4
  exact (find_nil_iff hG y).1 he b (hs _ h3) (h5.mono hs)
/-- each who gives way is in a cycle -/
theorem vict_cycle {G : List Edge} (hG : Fine G) {t : Int} : ∀ (n : Nat) (H : List Edge), Fine H → (∀ e ∈ H, e ∈ G) → ∀ v ∈ victF t n H, findOf G v ≠ []
  | 0, H, _, _, v, hv => by rw [victF_zero] at hv; cases hv
  | n + 1, H, hH, hs, v, hv => by
    cases hf : findOf H t with
    | nil => rw [victF_nil hf] at hv; cases hv
    | cons x xs =>
      rw [victF_cons hf] at hv
      rcases List.mem_cons.1 hv with rfl | hv
      · exact find_ne hG hH hs (t := t) (by rw [hf]; exact maxFrom_mem xs x)
      · exact vict_cycle hG n _ (fine_without hH _) (fun e he => hs e (List.mem_filter.1 he).1) v hv
/-- without all of these -/
def withoutAll (vs : List Int) (G : List Edge) : List Edge := vs.foldl (fun H v => without v H) G
theorem withoutAll_snoc (vs : List Int) (v : Int) (G : List Edge) : withoutAll (vs ++ [v]) G = without v (withoutAll vs G) := by simp [withoutAll]
theorem withoutAll_length (vs : List Int) (G : List Edge) : (withoutAll vs G).length ≤ G.length := by
  induction vs generalizing G with
  | nil => exact Nat.le_refl _
  | cons v vs ih => exact Nat.le_trans (ih _) (List.length_filter_le _ _)
theorem withoutAll_filter (vs : List Int) (p : Edge → Bool) (G : List Edge) : (withoutAll vs G).filter p = withoutAll vs (G.filter p) := by
  induction vs generalizing G with
  | nil => rfl
  | cons v vs ih =>
    show (withoutAll vs (without v G)).filter p = withoutAll vs (without v (G.filter p))
    rw [ih]
    congr 1
    unfold without
    rw [List.filter_filter, List.filter_filter]
    congr 1
    funext e
    exact Bool.and_comm _ _
theorem vict_end {t : Int} : ∀ (n : Nat) (G : List Edge), Fine G → G.length ≤ n → findOf (withoutAll (victF t n G) G) t = []
  | 0, G, hG, hn => by
    obtain rfl : G = [] := List.eq_nil_of_length_eq_zero (by omega)
    rw [victF_zero]
    exact (find_nil_iff hG t).2 (by simp)
  | n + 1, G, hG, hn => by
    cases hf : findOf G t with
    | nil => rw [victF_nil hf]; exact hf
    | cons x xs =>
      rw [victF_cons hf]
      have hl := without_lt (findOf_touch hG (t := t) (y := maxFrom x xs) (by rw [hf]; exact maxFrom_mem xs x))
      exact vict_end n (without (maxFrom x xs) G) (fine_without hG _) (by omega)
theorem edgesOf_rest {l : List Edge} (hl : l.length ≤ 200) (vs : List Int) : edgesOf (withoutAll vs l) = withoutAll vs (edgesOf l) := by
  have := withoutAll_length vs l
  unfold edgesOf
  rw [List.take_of_length_le (by omega), List.take_of_length_le hl, withoutAll_filter]
theorem breaks_end {l : List Edge} (hl : l.length ≤ 200) (t : Int) : findOf (edgesOf (withoutAll (victF t 200 (edgesOf l)) l)) t = [] := by
  rw [edgesOf_rest hl]
  exact vict_end 200 _ (fine_edgesOf l) (fine_edgesOf l).few
theorem vict_head {G : List Edge} {t : Int} {c : List Int} (hc : findOf G t = c) (hne : c ≠ []) : ∃ v vs, victF t 200 G = v :: vs ∧ ∀ y ∈ c, y ≤ v := by
  cases c with
  | nil => exact absurd rfl hne
  | cons x xs => exact ⟨_, _, victF_cons hc, maxFrom_le xs x⟩
theorem vict_length {t : Int} : ∀ (n : Nat) (G : List Edge), (victF t n G).length ≤ n
  | 0, G => by rw [victF_zero]; exact Nat.le_refl _
  | n + 1, G => by
    cases hf : findOf G t with
    | nil => rw [victF_nil hf]; simp
    | cons x xs => rw [victF_cons hf]; simpa using vict_length n _
end Go.Proofs.Ytkfmgeddckcnkaa
