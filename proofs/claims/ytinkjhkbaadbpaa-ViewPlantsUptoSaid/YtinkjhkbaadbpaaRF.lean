/- A range over a function: the body may turn blocks of its own set, the iterator blocks that it laid itself (no program named). -/
import Derived.Test.YtinkjhkbaadbpaaS2
import Derived.RangeFuncNested
import Derived.RangeFuncBound
import Derived.RangeFuncCalls
import Derived.RangeFuncLeaves
import Derived.Shelf.Abstract
import Derived.Shelf.RegionOpen
import Derived.OwnWalkIn
import Derived.TacticsInMore
import Derived.LoopNIn
import Derived.LoopIn
namespace Go.Proofs.Ytinkjhkbaadbpaa
open Go.RowKit

theorem chg_putObj {M : Nat → Prop} {w : World} {l : Nat} (h : M l) (o : Obj) : Chg M w (w.putObj l o) :=
  ⟨rfl, rfl, rfl, by simp [World.putObj], fun k _ hn => World.putObj_heap_other (by rintro rfl; exact hn h)⟩

/-- J abides what an iterator does: it turns blocks from B on that are not the caller's, and lays new ones. -/
def Bears {α : Type} (B : Nat) (J : List α → (Nat → Prop) → World → Prop) : Prop :=
  ∀ pre M A A', J pre M A → Chg (fun k => B ≤ k ∧ ¬ M k) A A' → J pre M A'

/-- The iterator hands xs, one by one; it reads blocks of R, and turns none that lay before. -/
def Gives {α : Type} (F : Fence) (n : Nat) (P : Program) (g : Nat) (lb : Array Value) (encs : α → Array Value) (xs : List α) (R : Nat → Prop) (w : World) : Prop :=
  ∀ (l : Nat) (J Jx : List α → (Nat → Prop) → World → Prop) (M0 : Nat → Prop) (W : World), Keeps R w W → (∀ k, R k → k < W.heap.size) → Bears W.heap.size J → Bears W.heap.size Jx →
    (∀ k, M0 k → k < W.heap.size ∧ ¬ R k) →
    (∀ pre x M W1, pre ++ [x] <+: xs → W.heap.size ≤ W1.heap.size → J pre M W1 → YieldAt F (n - 1) P l (encs x) W1 fun e W' => ∃ M', Chg M W1 W' ∧ (∀ k, M' k → M k ∨ W1.heap.size ≤ k) ∧
      ((e = .returned (.bool true) ∧ J (pre ++ [x]) M' W') ∨ (e = .returned (.bool false) ∧ Jx (pre ++ [x]) M' W'))) →
    J [] M0 W →
    CallsIn F n P g (#[.func (.yield l) #[] #[]] ++ lb) W fun e W' => (∃ v, e = .returned v) ∧ ∃ M', (J xs M' W' ∨ ∃ pre, pre <+: xs ∧ Jx pre M' W')

theorem Gives.later {α : Type} {F : Fence} {n : Nat} {P : Program} {g : Nat} {lb : Array Value} {encs : α → Array Value} {xs : List α} {R : Nat → Prop} {w w' : World} (h : Gives F n P g lb encs xs R w) (hk : Keeps R w w') :
    Gives F n P g lb encs xs R w' := fun l J Jx M0 W hW hR hJ hJx hM hY h0 => h l J Jx M0 W (hk.trans hW) hR hJ hJx hM hY h0

def bodyPostM {α : Type} (I : List α → (Nat → Prop) → World → Prop) (Ix : Code → List α → (Nat → Prop) → World → Prop) (M : Nat → Prop) (pre : List α) (W : World) : Exit → Act → World → Prop
  | .normal, _, W' => ∃ M', Chg M W W' ∧ (∀ k, M' k → M k ∨ W.heap.size ≤ k) ∧ I pre M' W'
  | .ret, _, W' => ∃ M', Chg M W W' ∧ (∀ k, M' k → M k ∨ W.heap.size ≤ k) ∧ Ix .ret pre M' W'
  | .exit id, _, W' => ∃ M', Chg M W W' ∧ (∀ k, M' k → M k ∨ W.heap.size ≤ k) ∧ Ix (.exit id) pre M' W'
  | .goto t, _, W' => ∃ M', Chg M W W' ∧ (∀ k, M' k → M k ∨ W.heap.size ≤ k) ∧ Ix (.goto t) pre M' W'
  | .panic _, _, _ => False
  | .outgrown, _, _ => False

variable {F : Fence} {n : Nat} {P : Program}

theorem wpIn_rangeFunc_gives {α : Type} {g : Operand} {ps : Array Tmp} {assign body : Code} {Q : Exit → Act → World → Prop} {a : Act} {w : World}
    (hro : F.round = none) (h1 : 1 ≤ n) {gf : Nat} {lb : Array Value} (hg : a.eval g = .func (.func gf) #[] lb) (hFg : F.fn gf) (eg : ∀ args w, (callFunc gf args).run P w = .ok (.enter gf args) w)
    {encs : α → Array Value} {xs : List α} {R : Nat → Prop} {w0 : World} (hseq : Gives F (n - 1) P gf lb encs xs R w0) (hR : Keeps R w0 w) (hRl : ∀ k, R k → k < w.heap.size) (hps : ∀ x, (encs x).size = ps.size)
    (I : List α → (Nat → Prop) → World → Prop) (Ix : Code → List α → (Nat → Prop) → World → Prop) (hI : Bears w.heap.size I) (hIx : ∀ c, Bears w.heap.size (Ix c)) (M0 : Nat → Prop) (hM0 : ∀ k, M0 k → k < w.heap.size ∧ ¬ R k) (h0 : I [] M0 w) (a₁ : α → Act)
    (hassign : ∀ (l : Nat) (x : α) (W : World) (K : Act → World → Prop), K (a₁ x) W →
      assign.wpIn (F.inRound l) (n - 1 - 1) P (Exit.then K (fun _ _ _ => False)) { tmps := (ps.zip (encs x)).foldl (fun t (p, v) => t.setIfInBounds p v) a.tmps, defers := [] } W)
    (hbody : ∀ (l : Nat) (pre : List α) (x : α) (M : Nat → Prop) (W : World), pre ++ [x] <+: xs → w.heap.size ≤ W.heap.size → I pre M W → body.wpIn (F.inRound l) (n - 1 - 1) P (bodyPostM I Ix M (pre ++ [x]) W) (a₁ x) W)
    (hdone : ∀ (D : Nat) (M : Nat → Prop) (W : World), w.heap.size ≤ D → ¬ M D → I xs M W → W.heap[D]? = some (.deferred (some [])) → Q .normal { a with defers := { target := .collected D, args := #[] } :: a.defers } W)
    (hstop : ∀ (D : Nat) (c : Code) (pre : List α) (M : Nat → Prop) (W : World), w.heap.size ≤ D → ¬ M D → pre <+: xs → Ix c pre M W → W.heap[D]? = some (.deferred (some [])) → c.wpIn F n P Q { a with defers := { target := .collected D, args := #[] } :: a.defers } W) :
    (Code.rangeFunc g ps assign body).wpIn F n P Q a w := by
  refine wpIn_rangeFunc ?_
  intro fn hfn
  rw [hro]
  obtain ⟨rec, hrec⟩ : ∃ rec : LoopState → Option Code → Loop, rec = fun st pe => { state := st, pending := pe, fn, tmps := a.tmps, params := ps, assign, body, defers := w.heap.size } := ⟨_, rfl⟩
  obtain ⟨W1, hW1⟩ : ∃ W1, (w.alloc (.deferred (some []))).alloc (.loop (rec .ready none)) = W1 := ⟨_, rfl⟩
  have hL1 : W1.heap[w.heap.size + 1]? = some (.loop (rec .ready none)) := by
    rw [← hW1]; have := World.alloc_heap_new (w.alloc (.deferred (some []))) (.loop (rec .ready none)); rwa [World.size_alloc] at this
  have hK1 : W1.heap[w.heap.size]? = some (.deferred (some [])) := by
    rw [← hW1]; exact (Below.heap_alloc _ _ _ (by simp)).trans (World.alloc_heap_new w _)
  have hs1 : W1.heap.size = w.heap.size + 2 := by rw [← hW1]; simp
  have hc1 : ∀ M, Chg M w W1 := fun M => by rw [← hW1]; exact (chg_alloc _ _).trans (chg_alloc _ _)
  have hI1 : I [] M0 W1 := hI _ _ _ _ h0 (hc1 _)
  have hL0 : ∀ M : Nat → Prop, (∀ k, M k → k < w.heap.size ∧ ¬ R k) → ¬ M w.heap.size ∧ ¬ M (w.heap.size + 1) := fun M h => ⟨fun h' => by have := (h _ h').1; omega, fun h' => by have := (h _ h').1; omega⟩
  refine ⟨w.heap.size + 1, [{ target := .collected w.heap.size, args := #[] }], W1, { target := .fn (.func gf) lb, args := #[.func (.yield (w.heap.size + 1)) #[] #[]] }, W1, gf,
    #[.func (.yield (w.heap.size + 1)) #[] #[]] ++ lb, W1, ?_, ?_, ?_, ?_, fun _ => h1, ?_⟩
  · rw [← hW1, hrec]; exact run_enterLoop_outer _ _ _ _ _
  · simp only [resolve, hg]
    simp [go_sem]
  · intro f' hf'; simp [Target.leads] at hf'; subst hf'; exact hFg
  · simp [invoke, go_sem, eg]
  · have bears : ∀ (st : LoopState) (pe : Option Code) (X : List α → (Nat → Prop) → World → Prop), Bears w.heap.size X → Bears W1.heap.size (fun pre M W => ∃ Mi, X pre Mi W ∧ (∀ k, M k ↔ Mi k ∨ k = w.heap.size ∨ k = w.heap.size + 1) ∧ ¬ Mi w.heap.size ∧ ¬ Mi (w.heap.size + 1) ∧ W.heap[w.heap.size + 1]? = some (.loop (rec st pe)) ∧ W.heap[w.heap.size]? = some (.deferred (some []))) := by
      rintro st pe X hX pre M A A' ⟨Mi, hx, hm, hd, hl, h2, h3⟩ hc
      refine ⟨Mi, hX _ _ _ _ hx (hc.mono (fun k hk => ⟨by omega, fun hm' => hk.2 ((hm k).2 (.inl hm'))⟩)), hm, hd, hl, ?_, ?_⟩
      · exact (hc.block _ (Array.getElem?_eq_some_iff.1 h2).1 (fun h => h.2 ((hm _).2 (.inr (.inr rfl))))).trans h2
      · exact (hc.block _ (Array.getElem?_eq_some_iff.1 h3).1 (fun h => h.2 ((hm _).2 (.inr (.inl rfl))))).trans h3
    refine (hseq (w.heap.size + 1)
      (fun pre M W => ∃ Mi, I pre Mi W ∧ (∀ k, M k ↔ Mi k ∨ k = w.heap.size ∨ k = w.heap.size + 1) ∧ ¬ Mi w.heap.size ∧ ¬ Mi (w.heap.size + 1) ∧ W.heap[w.heap.size + 1]? = some (.loop (rec .ready none)) ∧ W.heap[w.heap.size]? = some (.deferred (some [])))
      (fun pre M W => ∃ c, ∃ Mi, Ix c pre Mi W ∧ (∀ k, M k ↔ Mi k ∨ k = w.heap.size ∨ k = w.heap.size + 1) ∧ ¬ Mi w.heap.size ∧ ¬ Mi (w.heap.size + 1) ∧ W.heap[w.heap.size + 1]? = some (.loop (rec .done (some c))) ∧ W.heap[w.heap.size]? = some (.deferred (some [])))
      (fun k => M0 k ∨ k = w.heap.size ∨ k = w.heap.size + 1) W1 (hR.trans ((hc1 (fun _ => False)).keeps (fun k hk => ⟨hRl k hk, fun f => f⟩))) (fun k hk => by have := hRl k hk; omega)
      (bears _ _ I hI)
      (fun pre M A A' ⟨c, hc⟩ hch => ⟨c, bears _ _ (Ix c) (hIx c) pre M A A' hc hch⟩)
      ?_ ?_ ⟨M0, hI1, fun _ => Iff.rfl, (hL0 M0 hM0).1, (hL0 M0 hM0).2, hL1, hK1⟩).mono ?_
    · rintro k (h | rfl | rfl)
      · have := hM0 k h
        exact ⟨by omega, this.2⟩
      · exact ⟨by omega, fun h => by have := hRl _ h; omega⟩
      · exact ⟨by omega, fun h => by have := hRl _ h; omega⟩
    · -- one round
      rintro pre x M W hpre hsz ⟨Mi, hi, hm, hnd, hnl, hl, hk⟩
      have hlt : w.heap.size + 1 < W.heap.size := (Array.getElem?_eq_some_iff.1 hl).1
      have hy := run_yield (P := P) (args := encs x) hl (by rw [hrec]; exact hps x)
      rw [hrec] at hy
      refine ⟨fn, _, assign, body, hy, roundIn_of_wpIn hfn (hassign _ x W _ ⟨_, run_beginRound hl (by rw [hrec]), ?_⟩)⟩
      obtain ⟨Wb, hWb⟩ : ∃ Wb, W.putObj (w.heap.size + 1) (.loop { rec .ready none with state := .busy }) = Wb := ⟨_, rfl⟩
      have hl2 : Wb.heap[w.heap.size + 1]? = some (.loop { rec .ready none with state := .busy }) := by rw [← hWb]; exact World.putObj_heap_same hlt
      have hk2 : Wb.heap[w.heap.size]? = some (.deferred (some [])) := by rw [← hWb]; exact (World.putObj_heap_other (by omega)).trans hk
      have hcb : ∀ M : Nat → Prop, M (w.heap.size + 1) → Chg M W Wb := fun M h => by rw [← hWb]; exact chg_putObj h _
      have hsb : Wb.heap.size = W.heap.size := by rw [← hWb]; simp [World.putObj]
      have hib : I pre Mi Wb := hI _ _ _ _ hi (hcb _ ⟨by omega, hnl⟩)
      have hgo := hbody (w.heap.size + 1) pre x Mi Wb hpre (by omega) hib
      rw [← hWb] at hgo
      refine wpIn_mono hgo ?_
      rw [hWb]
      have fin : ∀ (jump : Option Code) (X : List α → (Nat → Prop) → World → Prop) (hX : Bears w.heap.size X) (W3 : World) (M' : Nat → Prop), Chg Mi Wb W3 → (∀ k, M' k → Mi k ∨ Wb.heap.size ≤ k) → X (pre ++ [x]) M' W3 →
          ∃ W4, (Instr.endRound (w.heap.size + 1) jump).run P W3 = .ok (.bool jump.isNone) W4 ∧ Chg M W W4 ∧ (∀ k, (M' k ∨ k = w.heap.size ∨ k = w.heap.size + 1) → M k ∨ W.heap.size ≤ k) ∧ X (pre ++ [x]) M' W4 ∧ ¬ M' w.heap.size ∧ ¬ M' (w.heap.size + 1) ∧
          W4.heap[w.heap.size + 1]? = some (.loop (rec (if jump.isNone then .ready else .done) jump)) ∧ W4.heap[w.heap.size]? = some (.deferred (some [])) := fun jump X hX W3 M' hc hM' hx => by
        have hl3 := (hc.block _ (Array.getElem?_eq_some_iff.1 hl2).1 hnl).trans hl2
        have hk3 := (hc.block _ (Array.getElem?_eq_some_iff.1 hk2).1 hnd).trans hk2
        have hr := run_endRound (P := P) jump hl3
        rw [hrec] at hr hl3
        have h1' : ¬ M' w.heap.size := fun h => (hM' _ h).elim hnd (by omega)
        have h2' : ¬ M' (w.heap.size + 1) := fun h => (hM' _ h).elim hnl (by omega)
        refine ⟨_, hr, ?_, ?_, hX _ _ _ _ hx (chg_putObj ⟨by omega, h2'⟩ _), h1', h2', ?_, ?_⟩
        · exact ((hcb M ((hm _).2 (.inr (.inr rfl)))).trans (hc.mono (fun k hk => (hm k).2 (.inl hk)))).trans (chg_putObj ((hm _).2 (.inr (.inr rfl))) _)
        · rintro k (h | rfl | rfl)
          · rcases hM' k h with h | h
            · exact .inl ((hm k).2 (.inl h))
            · exact .inr (by omega)
          · exact .inl ((hm _).2 (.inr (.inl rfl)))
          · exact .inl ((hm _).2 (.inr (.inr rfl)))
        · rw [hrec]; exact World.putObj_heap_same (Array.getElem?_eq_some_iff.1 hl3).1
        · exact (World.putObj_heap_other (by omega)).trans hk3
      rintro e a3 W3 hp
      cases e with
      | normal =>
        obtain ⟨M', hc, hM', hi3⟩ := hp
        obtain ⟨W4, hr, h2, h3, h4, h5, h6, h7, h8⟩ := fin none I hI W3 M' hc hM' hi3
        exact ⟨_, _, hr, _, h2, h3, .inl ⟨rfl, M', h4, fun _ => Iff.rfl, h5, h6, h7, h8⟩⟩
      | ret =>
        obtain ⟨M', hc, hM', hi3⟩ := hp
        obtain ⟨W4, hr, h2, h3, h4, h5, h6, h7, h8⟩ := fin (some .ret) (Ix .ret) (hIx _) W3 M' hc hM' hi3
        exact ⟨_, _, hr, _, h2, h3, .inr ⟨rfl, .ret, M', h4, fun _ => Iff.rfl, h5, h6, h7, h8⟩⟩
      | exit id =>
        obtain ⟨M', hc, hM', hi3⟩ := hp
        obtain ⟨W4, hr, h2, h3, h4, h5, h6, h7, h8⟩ := fin (some (.exit id)) (Ix (.exit id)) (hIx _) W3 M' hc hM' hi3
        exact ⟨_, _, hr, _, h2, h3, .inr ⟨rfl, .exit id, M', h4, fun _ => Iff.rfl, h5, h6, h7, h8⟩⟩
      | goto t =>
        obtain ⟨M', hc, hM', hi3⟩ := hp
        obtain ⟨W4, hr, h2, h3, h4, h5, h6, h7, h8⟩ := fin (some (.goto t)) (Ix (.goto t)) (hIx _) W3 M' hc hM' hi3
        exact ⟨_, _, hr, _, h2, h3, .inr ⟨rfl, .goto t, M', h4, fun _ => Iff.rfl, h5, h6, h7, h8⟩⟩
      | panic ch => exact hp.elim
      | outgrown => exact hp.elim
    · -- behind the iterator
      rintro e W2 ⟨⟨v, rfl⟩, M, (⟨Mi, hi, hm, hnd, hnl, hl, hk⟩ | ⟨pre, hpre, c, Mi, hi, hm, hnd, hnl, hl, hk⟩)⟩
      · exact ⟨none, _, by have := run_endLoop (P := P) hl (by rw [hrec]; simp); rw [hrec] at this; exact this, hdone _ Mi _ (Nat.le_refl _) hnd (hI _ _ _ _ hi (chg_putObj ⟨by omega, hnl⟩ _)) ((World.putObj_heap_other (by omega)).trans hk)⟩
      · exact ⟨some c, _, by have := run_endLoop (P := P) hl (by rw [hrec]; simp); rw [hrec] at this; exact this, hstop _ c pre Mi _ (Nat.le_refl _) hnd hpre ((hIx c) _ _ _ _ hi (chg_putObj ⟨by omega, hnl⟩ _)) ((World.putObj_heap_other (by omega)).trans hk)⟩
end Go.Proofs.Ytinkjhkbaadbpaa
