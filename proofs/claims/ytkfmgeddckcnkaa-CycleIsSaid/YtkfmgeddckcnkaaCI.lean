/- CycleIs (4): the walk. -/
import Derived.Test.YtkfmgeddckcnkaaPC
import Derived.Test.YtkfmgeddckcnkaaWK
import Derived.Test.YtkfmgeddckcnkaaED
namespace Go.Proofs.Ytkfmgeddckcnkaa
open Go.RowKit
open Go.ChangeMaps (setBlock)
set_option linter.unusedVariables false

theorem mem_take_succ {G : List Edge} {j : Nat} {e : Edge} (h : G[j]? = some e) (x y : Int) : decide ((x, y) ∈ G.take (j + 1)) = (decide ((x, y) ∈ G.take j) || (e.1 == x && e.2 == y)) := by
  rw [List.take_add_one, h]
  obtain ⟨e1, e2⟩ := e
  rw [Bool.eq_iff_iff]
  simp only [Option.toList_some, List.mem_append, List.mem_singleton, decide_eq_true_eq, Bool.or_eq_true, Bool.and_eq_true, beq_iff_eq, Prod.mk.injEq]
  exact ⟨fun h => h.imp id fun ⟨a, b⟩ => ⟨a.symm, b.symm⟩, fun h => h.imp id fun ⟨a, b⟩ => ⟨a.symm, b.symm⟩⟩
theorem eql_pair (w : World) (a b a' b' : Int) : (binOp .eql 31 (.agg #[.int .i64 a, .int .i64 b]) (.agg #[.int .i64 a', .int .i64 b'])).run Try.prog w = .ok (.bool (a == a' && b == b')) w := by
  show (do pure (.bool (← Op.equal 31 _ _)) : Sem Value).run _ _ = _
  have h := equal_pair w a b a' b'
  unfold pv at h
  simp only [Sem.run_bind, Result.andThen] at h ⊢
  rw [h]
  show Result.ok (Value.bool _) w = _
  congr 2
  rw [Bool.eq_iff_iff]; simp
set_option maxRecDepth 100000 in
set_option maxHeartbeats 4000000 in
theorem cycleIs_any {F : Nat → Prop} {w : World} {v : Value} {l : List Edge} (h : EdgesIn F w v l) (hF : ∀ k, F k → k < w.heap.size) (t : Int) :
    Calls Try.prog 4 #[v, .int .i64 t] w fun e w' => e = .returned (.bool true) ∧ Below w.heap.size w w' := by
  have HE := Lib.hid h
  have HED := Lib.hid (edges_any h hF)
  have HW := Lib.hid works_any
  have HF := Lib.hid hF
  obtain ⟨a, cap, rfl, hlc, hcm, -⟩ := h
  clear hF hlc hcm
  by_cases hl : 200 < l.length
  · have hl' : (200 : Int) < (l.length : Int) := by omega
    go_enter Try.func4, Try.ntmps4
    go_wp2_with (go_at_call 7; refine (HW.out _).mono ?_; rintro e w' ⟨rfl, hb⟩)
    go_ret
    exact ⟨rfl, hb⟩
  · have hl' : ¬ ((200 : Int) < (l.length : Int)) := by omega
    go_enter Try.func4, Try.ntmps4
    go_wp2_with (first
      | (go_at_call 9; refine HFI.out.mono ?_; rintro e w2 ⟨⟨r2, rfl, hi2⟩, hb2⟩; obtain ⟨a2, c2, rfl, -, -, hx2⟩ := hi2; have HX2 := Lib.hid hx2; have HG2 := Lib.hid (HG1.out.keep (fun k hk => hb2.block k hk.2)); have HB2 := Lib.hid (HB1.out.trans (hb2.mono hbs)); have HZ := Lib.hid HB2.out.size; clear hx2 hb2)
      | (go_at_call 13; refine HED.out.mono ?_; rintro e w1 ⟨⟨r1, rfl, hi1⟩, hb1⟩; have HG1 := Lib.hid hi1; have HFI := Lib.hid (cycleFind_any (HE.out.keep (fun k hk => hb1.block k (HF.out k hk))) (fun k hk => Nat.lt_of_lt_of_le (HF.out k hk) hb1.size) t); have HB1 := Lib.hid hb1; have hbs := hb1.size; clear hi1 hb1))
    obtain ⟨a1, c1, rfl, -, -, hx1⟩ := HG2.out
    obtain ⟨G, hG⟩ : ∃ G, edgesOf l = G := ⟨_, rfl⟩
    have hfine : Fine G := by rw [← hG]; exact fine_edgesOf l
    obtain ⟨c, hc⟩ : ∃ c, findOf G t = c := ⟨_, rfl⟩
    rw [hG] at HX2 hx1 ⊢
    rw [hc] at HX2 ⊢
    have HOK := Lib.hid (cycle_ok hfine t c hc)
    have HX1 := Lib.hid hx1
    have hgl : G.length ≤ 200 := hfine.few
    have hcl : c.length ≤ 202 := by
      rcases find_spec hfine t with ⟨h, _⟩ | ⟨b, l', h, hb, hl2, hp, hd⟩
      · rw [← hc, h]; simp
      · rw [← hc, h]
        have := hd 0 _ (List.getElem?_eq_getElem (by omega))
        have := farOf_le this
        simp; omega
    clear hx1 hG hc
    go_loopw [7] (fun i wx => ∃ (k n : Nat), k ≤ c.length ∧ i = .int .i64 k ∧ w2.drewN n = wx) (fun i _ => c.length - (Lib.intOf i).toNat)
    case atStart => exact ⟨0, 0, Nat.zero_le _, rfl, rfl⟩
    case round =>
      obtain ⟨k, n, hk, rfl, hwn⟩ := hrel
      by_cases hlt : k < c.length
      · obtain ⟨x, y, hx, hy, hxy, hne, h0, h2⟩ := HOK.out k hlt
        rcases HX2.out with rfl | ⟨gb, off, rfl, -, hcc⟩
        · simp at hlt
        have dx : wr.cell? ⟨gb, off + k, none⟩ = some (iv x) := by rw [← hwn]; exact hcc k x hx
        have dy : wr.cell? ⟨gb, off + (k + 1) % c.length, none⟩ = some (iv y) := by rw [← hwn]; exact hcc _ y hy
        have HWN := Lib.hid hwn
        have HCC := Lib.hid hcc
        have HNE := Lib.hid hne
        have HXY := Lib.hid hxy
        have HXK := Lib.hid hx
        obtain ⟨q, hq⟩ : ∃ q, (k + 1) % c.length = q := ⟨_, rfl⟩
        have hql : q < c.length := by rw [← hq]; exact Nat.mod_lt _ (by omega)
        have hqi : ((k : Int) + 1).tmod (c.length : Int) = (q : Int) := by rw [← hq]; exact (Int.ofNat_tmod (k + 1) c.length).symm
        rw [hq] at dy
        have q0 : (0 : Int) ≤ (k : Int) := by omega
        have q1 : (k : Int) < (c.length : Int) := by omega
        have q2 : (0 : Int) ≤ (q : Int) := by omega
        have q3 : (q : Int) < (c.length : Int) := by omega
        have q4 : ¬ (c.length : Int) = 0 := by omega
        obtain ⟨W0, rfl⟩ : ∃ W0, W0 = wr := ⟨wr, rfl⟩
        clear hx hy hxy hne hcc hq hwn
        go_wp2
        go_loopw [9, 10] (fun b i wx => ∃ (j n' : Nat), j ≤ G.length ∧ i = .int .i64 j ∧ b = .bool (decide ((x, y) ∈ G.take j)) ∧ w2.drewN n' = wx) (fun _ i _ => G.length - (Lib.intOf i).toNat)
        case atStart => exact ⟨0, n, Nat.zero_le _, rfl, by simp, HWN.out⟩
        case round =>
          obtain ⟨j, n', hj, rfl, rfl, hwn'⟩ := hrel
          have HWN2 := Lib.hid hwn'
          by_cases hjl : j < G.length
          · rcases HX1.out with rfl | ⟨gm, off1, rfl, -, hcm⟩
            · simp at hjl
            obtain ⟨e, hej⟩ : ∃ e, G[j]? = some e := ⟨_, List.getElem?_eq_getElem hjl⟩
            have m0 : wr.cell? ⟨gm, off1 + j * 2, none⟩ = some (iv e.1) := by rw [← hwn']; exact (hcm j e hej).1
            have m1 : wr.cell? ⟨gm, off1 + j * 2 + 1, none⟩ = some (iv e.2) := by rw [← hwn']; exact (hcm j e hej).2
            have mx : wr.cell? ⟨gb, off + k, none⟩ = some (iv x) := by rw [← hwn']; exact HCC.out k x HXK.out
            have p0 : (0 : Int) ≤ (j : Int) := by omega
            have p1 : (j : Int) < (G.length : Int) := by omega
            have hst : decide ((x, y) ∈ G.take (j + 1)) = (decide ((x, y) ∈ G.take j) || (e.1 == x && e.2 == y)) := by
              exact mem_take_succ hej x y
            have HST := Lib.hid hst
            obtain ⟨b, hb⟩ : ∃ b, decide ((x, y) ∈ G.take j) = b := ⟨_, rfl⟩
            rw [hb] at HST ⊢
            clear hcm hej hst hb hwn'
            cases b with
            | true =>
              go_wp2_with fail
              go_quiet (fail)
              go_wp2
              go_roundw
              case rel => exact ⟨j + 1, _, by omega, by go_num, by rw [HST.out]; simp, by rw [← HWN2.out, drewN_drewN]⟩
              case measure => simp [Lib.intOf]; omega
            | false =>
              have hbq := fun w' => eql_pair w' e.1 e.2 x y
              go_wp2_with fail
              go_quiet (fail)
              clear hbq
              go_wp2
              go_roundw
              case rel => exact ⟨j + 1, _, by omega, by go_num, by rw [HST.out]; simp, by rw [← HWN2.out, drewN_drewN]⟩
              case measure => simp [Lib.intOf]; omega
          · obtain rfl : j = G.length := by omega
            have hb : decide ((x, y) ∈ G.take G.length) = true := by rw [List.take_length]; exact decide_eq_true HXY.out
            rw [hb]
            clear hb hwn'
            go_wp2
            obtain ⟨W1, rfl⟩ : ∃ W1, W1 = wr := ⟨wr, rfl⟩
            go_loopw [9, 11] (fun b i wx => ∃ (j n' : Nat), j ≤ k ∧ i = .int .i64 j ∧ b = .bool true ∧ w2.drewN n' = wx) (fun _ i _ => k - (Lib.intOf i).toNat)
            case atStart => exact ⟨0, n', Nat.zero_le _, rfl, rfl, HWN2.out⟩
            case round =>
              obtain ⟨j, n', hj, rfl, rfl, hwn'⟩ := hrel
              have HWN3 := Lib.hid hwn'
              by_cases hjl : j < k
              · obtain ⟨z, hz⟩ : ∃ z, c[j]? = some z := ⟨_, List.getElem?_eq_getElem (by omega)⟩
                have hzx : ¬ z = x := fun h => HNE.out j hjl (by rw [hz, h])
                have mz : wr.cell? ⟨gb, off + j, none⟩ = some (iv z) := by rw [← hwn']; exact HCC.out j z hz
                have mx : wr.cell? ⟨gb, off + k, none⟩ = some (iv x) := by rw [← hwn']; exact HCC.out k x HXK.out
                have p0 : (0 : Int) ≤ (j : Int) := by omega
                have p1 : (j : Int) < (k : Int) := by omega
                have p2 : (j : Int) < (c.length : Int) := by omega
                clear hz hwn'
                go_wp2_with fail
                go_quiet (fail)
                go_wp2
                go_roundw
                case rel => exact ⟨j + 1, _, by omega, by go_num, by rw [bne_iff_ne.2 hzx], by rw [← HWN3.out, drewN_drewN]⟩
                case measure => simp [Lib.intOf]; omega
              · obtain rfl : j = k := by omega
                have d0 : wr.cell? ⟨gb, off, none⟩ = some (iv t) := by rw [← hwn']; simpa using HCC.out 0 t h0
                have h2' : (2 : Int) ≤ (c.length : Int) := by omega
                have h2'' : (0 : Int) < (c.length : Int) := by omega
                clear hwn'
                go_wp2
                go_roundw
                case rel => exact ⟨j + 1, n', by omega, by go_num, HWN3.out⟩
                case measure => simp [Lib.intOf]; omega
      · obtain rfl : k = c.length := by omega
        go_wp2_with (go_at_call 7; refine (HW.out _).mono ?_; rintro e w' ⟨rfl, hb⟩)
        go_ret
        subst hwn; exact ⟨rfl, (below_drewN HB2.out n).trans (hb.mono HZ.out)⟩
end Go.Proofs.Ytkfmgeddckcnkaa
