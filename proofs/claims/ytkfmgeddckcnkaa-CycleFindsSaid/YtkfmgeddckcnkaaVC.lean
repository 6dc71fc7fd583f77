/- Victims (11). -/
import Derived.Test.YtkfmgeddckcnkaaDF
namespace Go.Proofs.Ytkfmgeddckcnkaa
open Go.RowKit
open Go.ChangeMaps (setBlock)
set_option linter.unusedVariables false

def victStep (o : List Int) (f : Int → List Int) : List Int :=
  match o with
  | [] => []
  | x :: xs => f (maxFrom x xs)
def victF (t : Int) : Nat → List Edge → List Int
  | 0, _ => []
  | n + 1, G => victStep (findOf G t) (fun v => v :: victF t n (without v G))
theorem victF_zero (t : Int) (G : List Edge) : victF t 0 G = [] := rfl
theorem victF_succ (t : Int) (n : Nat) (G : List Edge) : victF t (n + 1) G = victStep (findOf G t) (fun v => v :: victF t n (without v G)) := rfl
theorem victF_nil {t : Int} {n : Nat} {G : List Edge} (h : findOf G t = []) : victF t n G = [] := by
  cases n with
  | zero => rfl
  | succ n => rw [victF_succ, h]; rfl
theorem victF_cons {t : Int} {n : Nat} {G : List Edge} {x : Int} {xs : List Int} (h : findOf G t = x :: xs) : victF t (n + 1) G = maxFrom x xs :: victF t n (without (maxFrom x xs) G) := by
  rw [victF_succ, h]; rfl
theorem walkF_touch {G : List Edge} (hG : Fine G) (t : Int) : ∀ (n : Nat) (x y : Int), y ∈ walkF G t n x → ∃ e ∈ G, touches y e = true
  | 0, x, y, h => by rw [walkF_zero] at h; cases h
  | n + 1, x, y, h => by
    cases hf : (nextOf G x).find? (fun n' => decide (farOf G t n' = some (n + 1))) with
    | none =>
      rw [walkF_none hf] at h
      exact walkF_touch hG t n x y h
    | some z =>
      rw [walkF_some hf] at h
      rcases List.mem_cons.1 h with rfl | h
      · exact ⟨(x, y), (mem_nextOf hG).1 (List.mem_of_find?_eq_some hf), by simp [touches]⟩
      · exact walkF_touch hG t n z y h
theorem findOf_touch {G : List Edge} (hG : Fine G) {t y : Int} (h : y ∈ findOf G t) : ∃ e ∈ G, touches y e = true := by
  by_cases hb : bestOf G t = 0
  · have e : findOf G t = [] := by unfold findOf; rw [if_pos hb]
    rw [e] at h; cases h
  · have e : findOf G t = t :: walkF G t (bestOf G t) t := by unfold findOf; rw [if_neg hb]
    rw [e] at h
    rcases List.mem_cons.1 h with rfl | h
    · cases hn : nextOf G y with
      | nil => exact absurd (by unfold bestOf; rw [hn]; rfl) hb
      | cons z zs => exact ⟨(y, z), (mem_nextOf hG).1 (by rw [hn]; simp), by simp [touches]⟩
    · exact walkF_touch hG t _ _ _ h
theorem fine_without {G : List Edge} (h : Fine G) (v : Int) : Fine (without v G) := ⟨Nat.le_trans (List.length_filter_le _ _) h.few, fun e he => h.2 e (List.mem_filter.1 he).1⟩
theorem without_lt {G : List Edge} {v : Int} (h : ∃ e ∈ G, touches v e = true) : (without v G).length < G.length := by
  obtain ⟨e, he, ht⟩ := h
  exact List.length_filter_lt_length_iff_exists.2 ⟨e, he, by simp [ht]⟩

set_option maxRecDepth 100000 in
set_option maxHeartbeats 4000000 in
theorem victims_any {F : Nat → Prop} {w : World} {v : Value} {l : List Edge} (h : EdgesIn F w v l) (hF : ∀ k, F k → k < w.heap.size) (t : Int) :
    Calls Try.prog 11 #[v, .int .i64 t] w fun e w' => (∃ r, e = .returned r ∧ IntsIn (fun k => w.heap.size ≤ k ∧ k < w'.heap.size) w' r (victF t 200 (edgesOf l))) ∧ Below w.heap.size w w' := by
  have HO := Lib.hid (of_any h hF)
  obtain ⟨i0, hi, hz0, hz1, hz2⟩ := info_parts Try.info3
  have hmf : ∀ (fn : Fn) (first cap : Array Value) (w : World), (Instr.makeFunc fn first cap).run Try.prog w = .ok (.func fn first cap) w := fun _ _ _ _ => rfl
  clear h
  go_enter Try.func11, Try.ntmps11
  go_wp2_with (first
    | (go_at_call 14; refine HO.out.mono ?_; rintro e w1 ⟨rfl, hg, hlt, hb1⟩; have HB1 := Lib.hid hb1; have HG1 := Lib.hid hg; have HFI := Lib.hid (find_any hg (fine_edgesOf l) t); have hle := hb1.size; clear hg hb1)
    | (go_at_call 15; refine HFI.out.mono ?_; rintro e w2 ⟨⟨r, rfl, hi2⟩, hb2⟩; have HI := Lib.hid hi2; have HB2 := Lib.hid hb2; clear hi2 hb2))
  go_loopg [6, 7] 200 (fun g s6 s7 wx => ∃ (ov cv : Value) (G : List Edge) (acc : List Int), ov = s6 ∧ cv = s7 ∧ Fine G ∧ G.length ≤ g ∧ IntsIn (fun k => w.heap.size + 1 ≤ k) wx cv (findOf G t) ∧ Aside (acc ++ victF t g G = victF t 200 (edgesOf l)) ∧ acc.length + g ≤ 200 ∧
    wx.ownsRow (w.heap.size + 1) 3 1 ov acc.length (acc.map iv) ∧ GIs wx w.heap.size G ∧ Below w.heap.size w wx)
  case atStart => exact ⟨_, _, edgesOf l, [], rfl, rfl, fine_edgesOf l, (fine_edgesOf l).few, HI.out.mono (fun k hk => Nat.le_trans hlt hk.1), rfl, by simp, World.ownsRow_nil _ _ _ _, HG1.out.keep (HB2.out.block _ hlt), HB1.out.trans (HB2.out.mono hle)⟩
  case round =>
    obtain ⟨ov, cv, G, acc, rfl, rfl, hfine, hgl, hic, HA, hal, hrow, hgs, hbx⟩ := hrel
    have HROW := Lib.hid hrow
    have HGS := Lib.hid hgs
    have HBX := Lib.hid hbx
    have hmw : w.heap.size < wr.heap.size := hgs.lt
    have hcl := hic.len
    cases hfo : findOf G t with
    | nil =>
      rw [hfo] at hic
      obtain ⟨a, c, rfl, -⟩ := hic
      have HFO := Lib.hid hfo
      clear hrow hgs hbx hfo
      go_wp2
      go_ret
      refine ⟨⟨_, rfl, ?_⟩, HBX.out⟩
      rw [← HA.out, victF_nil HFO.out, List.append_nil]
      exact (intsIn_row HROW.out).bound.mono (fun k hk => ⟨Nat.le_of_succ_le hk.1, hk.2⟩)
    | cons x xs =>
      rw [hfo] at hic hcl
      have HMX := Lib.hid (max_any hic)
      obtain ⟨a, c, rfl, -⟩ := hic
      have hpos : (0 : Int) < ((x :: xs).length : Int) := by simp only [List.length_cons]; omega
      obtain ⟨y, hy⟩ : ∃ y, maxFrom x xs = y := ⟨_, rfl⟩
      obtain ⟨n, hn⟩ : ∃ n, (x :: xs).length = n := ⟨_, rfl⟩
      rw [hy, hn] at HMX
      rw [hn] at hpos hcl ⊢
      have htch : ∃ e ∈ G, touches y e = true := findOf_touch hfine (by rw [hfo, ← hy]; exact maxFrom_mem xs x)
      have hwl := without_lt htch
      have HFO := Lib.hid hfo
      have HY := Lib.hid hy
      obtain ⟨W0, rfl⟩ : ∃ W0, W0 = wr := ⟨wr, rfl⟩
      clear hrow hgs hbx hfo hy hn htch
      obtain ⟨g, rfl⟩ : ∃ g, gk = g + 1 := ⟨gk - 1, by omega⟩
      have hown1 := ownsRow_alloc (ownsRow_alloc HROW.out (.cells #[iv y] 3)) (.cells #[iv y] 3)
      have HOWN1 := Lib.hid hown1
      have hc1 : ∀ j u, [iv y][j]? = some u → ((W0.alloc (.cells #[iv y] 3)).alloc (.cells #[iv y] 3)).cell? ((⟨W0.heap.size + 1, 0, none⟩ : Addr).add j) = some u := (fun j u h => by have := cell_one_new (W0.alloc (.cells #[iv y] 3)) (iv y) 3 j u h; rw [World.size_alloc] at this; exact this)
      have HC1 := Lib.hid hc1
      have hob : ∀ k, ov.ownBlock = some k → w.heap.size + 1 ≤ k ∧ k < W0.heap.size := fun k e => ownsRow_base HROW.out e
      have HOB := Lib.hid hob
      have hal2 : acc.length ≤ 200 := by omega
      have HFW := Lib.hid (fine_without hfine y)
      clear hown1 hc1 hob
      go_wp2_with (first
        | (go_at_call 20; refine HMX.out.mono ?_; rintro e w' ⟨rfl, rfl⟩)
        | (at_builtin; refine wpList_append_own_at _ rfl _ _ 27 rfl (w.heap.size + 1) 3 i0 (.int .i64 0) 1 8 Try.underlying27 hi hz0 hz1 hz2 rfl (by decide) _ _ _ rfl HOWN1.out ⟨W0.heap.size + 1, 0, none⟩ 1 1 [iv y] rfl rfl HC1.out (by simp [Value.oneCell']) (by unfold maxLen; omega) (by omega) (by simp; omega) ?_; intro v' w6 hown6 hgrow hnil hloc; have hch6 : Chg (fun k => ov.ownBlock = some k) ((W0.alloc (.cells #[iv y] 3)).alloc (.cells #[iv y] 3)) w6 := chg_grown hgrow (fun k e => e); have hsz6 : W0.heap.size + 2 ≤ w6.heap.size := (by have := hch6.size; simp at this; omega); have hnew6 : w6.heap[W0.heap.size]? = some (.cells #[iv y] 3) := (hch6.block W0.heap.size (by simp; omega) (fun e => Nat.lt_irrefl _ (HOB.out _ e).2)).trans ((Go.heap_alloc_old _ _ (by simp)).trans (Go.heap_alloc_new W0 _)); have hold6 : ∀ k, k ≤ w.heap.size → w6.heap[k]? = W0.heap[k]? := (fun k hk => (hch6.block k (by simp; omega) (fun e => by have := (HOB.out _ e).1; omega)).trans ((Go.heap_alloc_old _ _ (by simp; omega)).trans (Go.heap_alloc_old W0 _ (by omega)))); have HB6 := Lib.hid (show Below w.heap.size W0 w6 from ⟨hch6.os, hch6.tape, hch6.output, by omega, fun k hk => hold6 k (by omega)⟩); have HDEL := Lib.hid (delete_any (HGS.out.keep (hold6 _ (Nat.le_refl _))) (c := ⟨W0.heap.size, 0, none⟩) (v := y) (by simp [World.cell?, hnew6]) (by simp; omega)); have HOWN6 := Lib.hid hown6; clear hown6 hgrow hnil hloc hch6 hnew6 hold6)
        | (go_at_call 21; refine HDEL.out.mono ?_; rintro e w7 ⟨rfl, hg7, hch7⟩; have HCH7 := Lib.hid hch7; have HG7 := Lib.hid hg7; have HFI7 := Lib.hid (find_any hg7 HFW.out t); have hsz7 := hch7.size; clear hg7 hch7)
        | (go_at_call 15; refine HFI7.out.mono ?_; rintro e w8 ⟨⟨r8, rfl, hi8⟩, hb8⟩; have HI8 := Lib.hid hi8; have HB8 := Lib.hid hb8; clear hi8 hb8))
      go_roundg g
      case rel =>
        have hb7 : Below w.heap.size w6 w7 := ⟨HCH7.out.os, HCH7.out.tape, HCH7.out.output, hsz7, fun k hk => HCH7.out.block k (by omega) (by omega)⟩
        have hb8 : Below w.heap.size w w8 := (HBX.out.trans (HB6.out.trans hb7)).trans (HB8.out.mono (by omega))
        have ho7 : w7.ownsRow (w.heap.size + 1) 3 1 v' (acc.length + 1) (acc.map iv ++ [iv y]) := ownsRow_keeps HOWN6.out (fun k hk => by
          have h1 := ownsRow_base HOWN6.out hk
          exact HCH7.out.block k h1.2 (by omega))
        have ho8 := ownsRow_keeps ho7 (fun k hk => HB8.out.block k (ownsRow_base ho7 hk).2)
        refine ⟨v', r8, without y G, acc ++ [y], rfl, rfl, HFW.out, by omega, HI8.out.mono (fun k hk => by omega), ?_, by simp; omega, ?_, HG7.out.keep (HB8.out.block _ (by omega)), hb8⟩
        · show (acc ++ [y]) ++ _ = _
          have h := HA.out
          rw [victF_cons HFO.out, HY.out] at h
          rw [← h]; simp
        · rw [List.length_append, List.map_append]
          exact ho8
      case measure => omega
end Go.Proofs.Ytkfmgeddckcnkaa
