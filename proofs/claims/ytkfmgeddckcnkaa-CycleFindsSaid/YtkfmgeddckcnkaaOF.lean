/- The graph of edges: of. -/
import Derived.Test.YtkfmgeddckcnkaaCB
namespace Go.Proofs.Ytkfmgeddckcnkaa
open Go.RowKit
open Go.ChangeMaps (setBlock)
set_option linter.unusedVariables false

abbrev Edge := Int × Int
/-- a slice of edges in memory, in a block of F -/
def EdgesIn (F : Nat → Prop) (w : World) (v : Value) (l : List Edge) : Prop :=
  ∃ a cap, v = .slice a l.length cap ∧ l.length ≤ cap ∧ cap ≤ maxLen ∧ (l = [] ∨ ∃ g off, a = some ⟨g, off, none⟩ ∧ F g ∧ ∀ (k : Nat) (e : Edge), l[k]? = some e → w.cell? ⟨g, off + k * 2, none⟩ = some (iv e.1) ∧ w.cell? ⟨g, off + k * 2 + 1, none⟩ = some (iv e.2))
theorem EdgesIn.keep {F : Nat → Prop} {w w' : World} {v : Value} {l : List Edge} (h : EdgesIn F w v l) (hk : Keeps F w w') : EdgesIn F w' v l := by
  obtain ⟨a, cap, rfl, h1, h2, rfl | ⟨g, off, rfl, hg, hc⟩⟩ := h
  · exact ⟨a, cap, rfl, h1, h2, .inl rfl⟩
  · exact ⟨_, cap, rfl, h1, h2, .inr ⟨g, off, rfl, hg, fun k e he => ⟨(hk.cell (p := ⟨g, off + k * 2, none⟩) hg).trans (hc k e he).1, (hk.cell (p := ⟨g, off + k * 2 + 1, none⟩) hg).trans (hc k e he).2⟩⟩⟩
def rightN (n : Int) : Bool := decide (1 ≤ n) && decide (n ≤ 1000)
def counts (e : Edge) : Bool := rightN e.1 && rightN e.2 && !decide (e.1 = e.2)
def edgesOf (l : List Edge) : List Edge := (l.take 200).filter counts
def gF (G : List Edge) (e : Edge) : Option Value := if e ∈ G then some (.bool true) else none
/-- block m is the graph of the edges G -/
abbrev GIs (w : World) (m : Nat) (G : List Edge) : Prop := MapIs pv w m (gF G)
theorem gF_snoc (G : List Edge) (e : Edge) : upd (gF G) e (some (.bool true)) = gF (G ++ [e]) := by
  funext x
  unfold upd gF
  by_cases h : x = e <;> simp [h]

theorem right_any (n : Int) (w : World) : Calls Try.prog 23 #[.int .i64 n] w fun e w' => e = .returned (.bool (rightN n)) ∧ w = w' := by
  by_cases h1 : 1 ≤ n
  · by_cases h2 : n ≤ 1000
    · go_enter Try.func23, Try.ntmps23
      go_wp2
      go_ret
      exact ⟨by simp [rightN, h1, h2], rfl⟩
    · go_enter Try.func23, Try.ntmps23
      go_wp2
      go_ret
      exact ⟨by simp [rightN, h1, h2], rfl⟩
  · go_enter Try.func23, Try.ntmps23
    go_wp2
    go_ret
    exact ⟨by simp [rightN]; omega, rfl⟩

set_option maxRecDepth 100000 in
set_option maxHeartbeats 4000000 in
theorem of_any {F : Nat → Prop} {w : World} {v : Value} {l : List Edge} (h : EdgesIn F w v l) (hF : ∀ k, F k → k < w.heap.size) :
    Calls Try.prog 14 #[v] w fun e w' => e = .returned (.map (some w.heap.size)) ∧ GIs w' w.heap.size (edgesOf l) ∧ w.heap.size < w'.heap.size ∧ Below w.heap.size w w' := by
  obtain ⟨a, cap, rfl, hlc, hcm, hx⟩ := h
  have hl2 : l.length ≤ 9223372036854775807 := by unfold maxLen at hcm; omega
  have hmm := @run_makeMap Try.prog
  obtain ⟨n, hn, hn1, hn2⟩ : ∃ n : Nat, n = min l.length 200 ∧ n ≤ l.length ∧ n ≤ 200 := ⟨_, rfl, by omega, by omega⟩
  have hmin : min (l.length : Int) 200 = (n : Int) := by omega
  have hncap : n ≤ cap := by omega
  have HX := Lib.hid hx
  have HN := Lib.hid hn
  have HF := Lib.hid hF
  have HM0 := Lib.hid (mapIs_new pv w)
  clear hx hn hF hlc hcm
  go_enter Try.func14, Try.ntmps14
  go_wp2
  go_loopw [14] (fun i wr => ∃ k : Nat, k ≤ n ∧ i = .int .i64 k ∧ GIs wr w.heap.size ((l.take k).filter counts) ∧ Below w.heap.size w wr) (fun i _ => n - (Lib.intOf i).toNat)
  case atStart => exact ⟨0, Nat.zero_le _, rfl, HM0.out.congr (fun x => by simp [gF]), (Below.refl _ _).alloc (Nat.le_refl _) _⟩
  case round =>
    obtain ⟨k, hk, rfl, hg, hbel⟩ := hrel
    have HG := Lib.hid hg
    have HBEL := Lib.hid hbel
    by_cases hlt : k < n
    · obtain ⟨e, hek⟩ : ∃ e, l[k]? = some e := ⟨_, List.getElem?_eq_getElem (by omega)⟩
      rcases HX.out with rfl | ⟨g, off, rfl, hgF, hc⟩
      · simp at hek
      obtain ⟨c0, c1⟩ := hc k e hek
      have hgl : g < w.heap.size := HF.out g hgF
      have d0 := (hbel.cell (p := ⟨g, off + k * 2, none⟩) hgl).trans c0
      have d1 := (hbel.cell (p := ⟨g, off + k * 2 + 1, none⟩) hgl).trans c1
      have hk0 : (0 : Int) ≤ (k : Int) := by omega
      have hkl : (k : Int) < (n : Int) := by omega
      have htk : l.take (k + 1) = l.take k ++ [e] := by rw [List.take_add_one, hek]; simp
      have HTK := Lib.hid htk
      have hsz : w.heap.size < wr.heap.size := hg.lt
      obtain ⟨x, y⟩ := e
      simp only at *
      have hbx : ∀ o, MapIs pv (wr.alloc o) w.heap.size (gF ((l.take k).filter counts)) := fun o => HG.out.keep (Go.heap_alloc_old _ _ hsz)
      have HBX := Lib.hid hbx
      clear hc hek hg hbel c0 c1 htk hbx
      have hnew : ∀ b, counts (x, y) = b → (l.take (k + 1)).filter counts = (l.take k).filter counts ++ (if b then [(x, y)] else []) := fun b hb => by
        rw [HTK.out, List.filter_append]
        cases b <;> simp [hb]
      have HNEW := Lib.hid hnew
      clear hnew
      obtain ⟨b1, hb1⟩ : ∃ b, rightN x = b := ⟨_, rfl⟩
      obtain ⟨b2, hb2⟩ : ∃ b, rightN y = b := ⟨_, rfl⟩
      have HB1 := Lib.hid hb1
      have HB2 := Lib.hid hb2
      clear hb1 hb2
      have hno : ∀ (hc : counts (x, y) = false), GIs (wr.alloc (.cells #[.int .i64 x, .int .i64 y] 31)) w.heap.size ((l.take (k + 1)).filter counts) := fun hc => by
        rw [HNEW.out false hc]
        simpa using HBX.out _
      have HNO := Lib.hid hno
      clear hno
      have hb3 : ∀ o, Below w.heap.size w (wr.alloc o) := fun o => HBEL.out.alloc HBEL.out.size _
      have HB3 := Lib.hid hb3
      clear hb3
      cases b1
      · have hcf := Lib.hid (show counts (x, y) = false by simp [counts, HB1.out])
        go_wp2_with (go_at_call 23; refine (right_any _ _).mono ?_; rintro e w' ⟨rfl, rfl⟩; rw [HB1.out])
        go_roundw
        case rel => exact ⟨k + 1, by omega, by go_num, HNO.out hcf.out, HB3.out _⟩
        case measure => simp [Lib.intOf]; omega
      · cases b2
        · have hcf := Lib.hid (show counts (x, y) = false by simp [counts, HB2.out])
          go_wp2_with (first | (go_at_call_of 23 (Value.int .i64 x); refine (right_any _ _).mono ?_; rintro e w' ⟨rfl, rfl⟩; rw [HB1.out]) | (go_at_call 23; refine (right_any _ _).mono ?_; rintro e w' ⟨rfl, rfl⟩; rw [HB2.out]))
          go_roundw
          case rel => exact ⟨k + 1, by omega, by go_num, HNO.out hcf.out, HB3.out _⟩
          case measure => simp [Lib.intOf]; omega
        · by_cases hxy : x = y
          · have hcf := Lib.hid (show counts (x, y) = false by simp [counts, hxy])
            subst hxy
            go_wp2_with (go_at_call 23; refine (right_any _ _).mono ?_; rintro e w' ⟨rfl, rfl⟩; rw [HB1.out])
            go_roundw
            case rel => exact ⟨k + 1, by omega, by go_num, HNO.out hcf.out, HB3.out _⟩
            case measure => simp [Lib.intOf]; omega
          · have hct := Lib.hid (show counts (x, y) = true by simp [counts, HB1.out, HB2.out, hxy])
            go_wp2_with (first
              | (go_at_call_of 23 (Value.int .i64 x); refine (right_any _ _).mono ?_; rintro e w' ⟨rfl, rfl⟩; rw [HB1.out])
              | (go_at_call 23; refine (right_any _ _).mono ?_; rintro e w' ⟨rfl, rfl⟩; rw [HB2.out])
              | (refine wpList_mapStore rfl _ _ _ 33 rfl key31 Try.underlying33 rfl (HBX.out _) (x, y) rfl (.bool true) rfl ?_; intro ob hmap))
            go_roundw
            case rel => exact ⟨k + 1, by omega, by go_num, by rw [HNEW.out true hct.out]; rw [gF_snoc] at hmap; exact hmap, (HB3.out _).trans ⟨rfl, rfl, rfl, by simp, fun j hj => heap_setBlock_other _ (by omega)⟩⟩
            case measure => simp [Lib.intOf]; omega
    · obtain rfl : k = n := by omega
      clear hg hbel
      go_wp2
      go_ret
      have hfin : (l.take k).filter counts = edgesOf l := by
        rw [HN.out, edgesOf]
        congr 1
        by_cases h : l.length ≤ 200
        · rw [Nat.min_eq_left h, List.take_length, List.take_of_length_le h]
        · rw [Nat.min_eq_right (by omega)]
      exact ⟨rfl, by rw [← hfin]; exact HG.out, HG.out.lt, HBEL.out⟩
end Go.Proofs.Ytkfmgeddckcnkaa
