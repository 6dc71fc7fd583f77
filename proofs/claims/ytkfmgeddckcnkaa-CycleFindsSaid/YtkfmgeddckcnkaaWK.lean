/- works (7): the walk. -/
import Derived.Test.YtkfmgeddckcnkaaWF
import Derived.Test.YtkfmgeddckcnkaaIT
namespace Go.Proofs.Ytkfmgeddckcnkaa
open Go.RowKit
open Go.ChangeMaps (setBlock)
set_option linter.unusedVariables false
attribute [local irreducible] victF findOf edgesOf

theorem intsIn_lit (w : World) (l : List Int) (cs : Array Value) (hcs : cs = (l.map iv).toArray) (n : Nat) (hn : n = l.length) (hl : n ≤ 100) : IntsIn (fun k => k = w.heap.size) (w.alloc (.cells cs 3)) (.slice (some ⟨w.heap.size, 0, none⟩) n n) l := by
  subst hn hcs
  refine ⟨_, _, rfl, Nat.le_refl _, by unfold maxLen; omega, .inr ⟨w.heap.size, 0, rfl, rfl, fun j x hx => ?_⟩⟩
  have h := Go.heap_alloc_new w (.cells (l.map iv).toArray 3)
  unfold World.cell?
  rw [h]
  simp [hx]
abbrev cells3 : Obj := .cells #[iv 1, iv 2, iv 2, iv 3, iv 3, iv 1] 31
theorem edges_lit (w w' : World) (hk : w'.heap[w.heap.size]? = some cells3) (l : List Edge) (hl : ∃ n, l = three.take n) : EdgesIn (fun k => k = w.heap.size) w' (.slice (some ⟨w.heap.size, 0, none⟩) l.length 3) l := by
  obtain ⟨n, rfl⟩ := hl
  refine ⟨_, 3, rfl, by rw [List.length_take]; exact Nat.min_le_right _ _, by unfold maxLen; omega, .inr ⟨w.heap.size, 0, rfl, rfl, fun k e he => ?_⟩⟩
  have he2 : three[k]? = some e := by
    rw [List.getElem?_take] at he
    split at he
    · exact he
    · cases he
  unfold World.cell?
  show (match w'.heap[w.heap.size]? with | some (Obj.cells c elem frozen) => _ | x => none) = some (iv e.fst) ∧ (match w'.heap[w.heap.size]? with | some (Obj.cells c elem frozen) => _ | x => none) = some (iv e.snd)
  simp only [hk]
  match k, he2 with
  | 0, he2 => cases he2; exact ⟨rfl, rfl⟩
  | 1, he2 => cases he2; exact ⟨rfl, rfl⟩
  | 2, he2 => cases he2; exact ⟨rfl, rfl⟩

set_option maxRecDepth 100000 in
set_option maxHeartbeats 400000 in
theorem works_any (w : World) :
    Calls Try.prog 7 #[] w fun e w' => e = .returned (.bool true) ∧ Below w.heap.size w w' := by
  have hk0 : (w.alloc cells3).heap[w.heap.size]? = some cells3 := Go.heap_alloc_new w _
  have HK0 := Lib.hid hk0
  have h1 := cycleFind_any (edges_lit w (w.alloc cells3) hk0 three ⟨3, rfl⟩) (fun k hk => by subst hk; simp) 1
  rw [f3] at h1
  have H1 := Lib.hid h1
  clear h1 hk0
  go_enter Try.func7, Try.ntmps7
  go_wp2_with (first
    | (go_at_call 9; refine H5.out.mono ?_; rintro e w5 ⟨⟨r5, rfl, hi5⟩, hb5⟩; obtain ⟨a5, c5, rfl, -⟩ := hi5; have HB5 := Lib.hid ((below_drewN (HB3.out.alloc hz3' (.cells #[iv 3] 3)) n4).trans (hb5.mono (by simp [World.drewN]; omega))); clear hb5)
    | (go_at_call 8; refine H4.out.mono ?_; rintro e w4 ⟨rfl, n4, rfl⟩; have hk4 : ((w3.alloc (.cells #[iv 3] 3)).drewN n4).heap[w.heap.size]? = some cells3 := (Go.heap_alloc_old w3 _ hz3).trans HK3.out; have h5 := cycleFind_any (edges_lit w _ hk4 two ⟨2, rfl⟩) (fun k hk => by subst hk; simp [World.drewN]; omega) 1; rw [f2] at h5; have H5 := Lib.hid h5; clear hk4 h5)
    | (go_at_call 11; refine H3.out.mono ?_; rintro e w3 ⟨⟨r3, rfl, hi3⟩, hb3⟩; have hz3 : w.heap.size < w3.heap.size := (by have := hb3.size; simp [World.drewN] at this; omega); have hk3 : w3.heap[w.heap.size]? = some cells3 := (hb3.block _ (by simp [World.drewN]; omega)).trans HK2.out; have HK3 := Lib.hid hk3; have HB3 := Lib.hid ((below_drewN (HB1.out.alloc hz1' (.cells #[iv 1, iv 2, iv 3] 3)) n2).trans (hb3.mono (by simp [World.drewN]; omega))); have hz3' : w.heap.size ≤ w3.heap.size := Nat.le_of_lt hz3; have h4 := (ints_any [3] [3] _ _ _ _ (w3.alloc (.cells #[iv 3] 3)) ((hi3.mono (fun k hk => hk.2)).keep (w' := w3.alloc (.cells #[iv 3] 3)) (fun k hk => Go.heap_alloc_old w3 _ hk)) (intsIn_lit w3 [3] #[iv 3] rfl 1 rfl (by omega))); rw [show decide (([3] : List Int) = [3]) = true from by decide] at h4; have H4 := Lib.hid h4; clear hi3 hb3 hk3 h4)
    | (go_at_call 8; refine H2.out.mono ?_; rintro e w2 ⟨rfl, n2, rfl⟩; have hk2 : ((w1.alloc (.cells #[iv 1, iv 2, iv 3] 3)).drewN n2).heap[w.heap.size]? = some cells3 := (Go.heap_alloc_old w1 _ hz1).trans HK1.out; have HK2 := Lib.hid hk2; have h3 := victims_any (edges_lit w _ hk2 three ⟨3, rfl⟩) (fun k hk => by subst hk; simp [World.drewN]; omega) 1; rw [v3] at h3; have H3 := Lib.hid h3; clear hk2 h3)
    | (go_at_call 9; refine H1.out.mono ?_; rintro e w1 ⟨⟨r1, rfl, hi1⟩, hb1⟩; have hz1 : w.heap.size < w1.heap.size := (by have := hb1.size; simp at this; omega); have hk1 : w1.heap[w.heap.size]? = some cells3 := (hb1.block _ (by simp)).trans HK0.out; have HK1 := Lib.hid hk1; have HB1 := Lib.hid (((Below.refl w.heap.size w).alloc (Nat.le_refl _) cells3).trans (hb1.mono (by simp))); have hz1' : w.heap.size ≤ w1.heap.size := Nat.le_of_lt hz1; have h2 := (ints_any [1, 2, 3] [1, 2, 3] _ _ _ _ (w1.alloc (.cells #[iv 1, iv 2, iv 3] 3)) ((hi1.mono (fun k hk => hk.2)).keep (w' := w1.alloc (.cells #[iv 1, iv 2, iv 3] 3)) (fun k hk => Go.heap_alloc_old w1 _ hk)) (intsIn_lit w1 [1, 2, 3] #[iv 1, iv 2, iv 3] rfl 3 rfl (by omega))); rw [show decide (([1, 2, 3] : List Int) = [1, 2, 3]) = true from by decide] at h2; have H2 := Lib.hid h2; clear hi1 hb1 hk1 h2))
  go_ret
  exact ⟨rfl, HB5.out⟩
end Go.Proofs.Ytkfmgeddckcnkaa
