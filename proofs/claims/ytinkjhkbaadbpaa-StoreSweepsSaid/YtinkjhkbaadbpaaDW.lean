/- The document's Sweep. -/
import Derived.Test.YtinkjhkbaadbpaaDP
namespace Go.Proofs.Ytinkjhkbaadbpaa
open Go.RowKit
set_option linter.unusedVariables false

def hits (T : Nat) (id : Int) (x : Ent) : Bool := decide (x.id = id) && decide (x.v.time ≤ T)
/-- does a sweep let an entry go, rest being those behind it? -/
def goes (T : Nat) (e : Ent) (rest : List Ent) : Bool := decide (e.v.time ≤ T) && (e.v.r.gone || rest.any (hits T e.id))
def keptTo (T : Nat) (L : List Ent) : Nat → List Ent
  | 0 => []
  | k + 1 => keptTo T L k ++ (match L[k]? with | some e => if goes T e (L.drop (k + 1)) then [] else [e] | none => [])
theorem keptTo_length (T : Nat) (L : List Ent) : ∀ k, (keptTo T L k).length ≤ k
  | 0 => Nat.le_refl _
  | k + 1 => by
    have := keptTo_length T L k
    simp only [keptTo, List.length_append]
    cases L[k]? with
    | none => simp; omega
    | some e => simp only; split <;> simp <;> omega
theorem keptTo_le (T : Nat) (L : List Ent) : ∀ k, k ≤ L.length → (keptTo T L k).length ≤ L.length := fun k hk => Nat.le_trans (keptTo_length T L k) hk
theorem takedrop_succ {L : List Ent} {j k : Nat} {x : Ent} (hx : L[j]? = some x) (hkj : k ≤ j) : (L.take (j + 1)).drop k = (L.take j).drop k ++ [x] := by
  rw [List.take_add_one, hx, List.drop_append_of_le_length (by rw [List.length_take]; have := (List.getElem?_eq_some_iff.1 hx).1; omega)]
  simp

def Doc.sweep (d : Doc) (T : Nat) : Doc := ⟨keptTo T d.L d.L.length, d.given, d.last⟩

set_option maxRecDepth 100000 in
set_option maxHeartbeats 8000000 in
theorem docSweep_any {R D : Nat → Prop} {w : World} {q : Value} {d : Doc} (h : DocIn R D w q d) (T : Nat) (hR : ∀ k, R k → k < w.heap.size) (hD : ∀ k, D k → k < w.heap.size) (hRD : ∀ k, R k → ¬ D k) (hl : d.L.length ≤ 500000000) :
    Calls Try.prog 89 #[q, .int .u64 T] w fun e w' => e = .returned (.int .i64 (d.L.length - (d.sweep T).L.length : Int)) ∧ Chg R w w' ∧ ∃ R', DocIn R' D w' q (d.sweep T) ∧ (∀ k, R' k → R k ∨ w.heap.size ≤ k) ∧ (∀ k, R' k → k < w'.heap.size) := by
  obtain ⟨s, a, cap, rfl, hsR, hb, hent⟩ := h.read
  obtain ⟨i0, hi, hz0, hz1, hz2⟩ := info_parts Try.info147
  have hslt : s < w.heap.size := (Array.getElem?_eq_some_iff.1 hb).1
  have c0 : w.cell? ⟨s, 0, none⟩ = some (.slice a d.L.length cap) := by simp [World.cell?, hb]
  have HE := Lib.hid hent
  have HB := Lib.hid hb
  have HR := Lib.hid hR
  have HD := Lib.hid hD
  have HRD := Lib.hid hRD
  clear h hent hb hR hD hRD
  go_enter Try.func89, Try.ntmps89
  go_wp2
  go_loopw [5, 6] (fun v i wr => ∃ k : Nat, k ≤ d.L.length ∧ i = .int .i64 k ∧ ∃ xs, wr.ownsRow w.heap.size 147 9 v (keptTo T d.L k).length xs ∧ EntsAre D wr (keptTo T d.L k) xs ∧ Below w.heap.size w wr) (fun _ i _ => d.L.length - (Lib.intOf i).toNat)
  case atStart => exact ⟨0, Nat.zero_le _, rfl, [], World.ownsRow_nil _ _ _ _, rfl, Below.refl _ _⟩
  case round =>
    obtain ⟨k, hk, rfl, xs, hown, hents, hbel⟩ := hrel
    have c0' : wr.cell? ⟨s, 0, none⟩ = some (.slice a d.L.length cap) := (hbel.cell (p := ⟨s, 0, none⟩) hslt).trans c0
    have HOWN := Lib.hid hown
    have HENTS := Lib.hid hents
    have HBEL := Lib.hid hbel
    have hkl0 := keptTo_le T d.L k hk
    by_cases hlt : k < d.L.length
    · obtain ⟨e, hek⟩ : ∃ e, d.L[k]? = some e := ⟨_, List.getElem?_eq_getElem hlt⟩
      obtain ⟨g, kv, av, rfl, -, -, hgl, ik, ia, hc⟩ := HE.out k e hek
      obtain ⟨e0, e1, e2, e3, e4, e5, e6, e7, e8⟩ := entCells hc (hbel.block g hgl)
      have hk0 : (0 : Int) ≤ k := by omega
      have hkl : (k : Int) < d.L.length := by omega
      have hnext : (goes T e (d.L.drop (k + 1)) = false → keptTo T d.L (k + 1) = keptTo T d.L k ++ [e]) ∧ (goes T e (d.L.drop (k + 1)) = true → keptTo T d.L (k + 1) = keptTo T d.L k) := by
        refine ⟨fun hh => ?_, fun hh => ?_⟩ <;> simp [keptTo, hek, hh]
      have HNEXT := Lib.hid hnext
      have IK := Lib.hid ik
      have IA := Lib.hid ia
      have hgt : goes T e (d.L.drop (k + 1)) = (decide (e.v.time ≤ T) && (e.v.r.gone || (d.L.drop (k + 1)).any (hits T e.id))) := rfl
      have HGT := Lib.hid hgt
      obtain ⟨ka, kc, rfl, -, -, -⟩ := ik
      obtain ⟨aa, ac, rfl, -, -, -⟩ := ia
      clear hc hek hown hents hbel hnext hgt
      obtain ⟨eid, tm, kind, name, text, parent, kids, attrs, gone⟩ := e
      simp only at *
      have hbox := Go.heap_alloc_new wr (.cells #[.int .i64 eid, .int .u64 tm, .int .i64 kind, .string name, .string text, .int .i64 parent, .slice ka kids.length kc, .slice aa attrs.length ac, .bool gone] 147)
      have hbw : Below wr.heap.size wr (wr.alloc (.cells #[.int .i64 eid, .int .u64 tm, .int .i64 kind, .string name, .string text, .int .i64 parent, .slice ka kids.length kc, .slice aa attrs.length ac, .bool gone] 147)) := (Below.refl _ _).alloc (Nat.le_refl _) _
      by_cases ht : tm ≤ T
      · have htd : decide (tm ≤ T) = true := decide_eq_true ht
        go_upto_region 7 with fail
        obtain ⟨W1, hW1⟩ : ∃ W1, wr.alloc (.cells #[.int .i64 eid, .int .u64 tm, .int .i64 kind, .string name, .string text, .int .i64 parent, .slice ka kids.length kc, .slice aa attrs.length ac, .bool gone] 147) = W1 := ⟨_, rfl⟩
        rw [hW1] at hbox hbw ⊢
        clear hW1
        have HBW := Lib.hid hbw
        have HBOX := Lib.hid hbox
        have b0 : W1.cell? ⟨wr.heap.size, 0, none⟩ = some (.int .i64 eid) := by simp [World.cell?, hbox]
        have b1 : W1.cell? ⟨wr.heap.size, 1, none⟩ = some (.int .u64 tm) := by simp [World.cell?, hbox]
        have b2 : W1.cell? ⟨wr.heap.size, 2, none⟩ = some (.int .i64 kind) := by simp [World.cell?, hbox]
        have b3 : W1.cell? ⟨wr.heap.size, 3, none⟩ = some (.string name) := by simp [World.cell?, hbox]
        have b4 : W1.cell? ⟨wr.heap.size, 4, none⟩ = some (.string text) := by simp [World.cell?, hbox]
        have b5 : W1.cell? ⟨wr.heap.size, 5, none⟩ = some (.int .i64 parent) := by simp [World.cell?, hbox]
        have b6 : W1.cell? ⟨wr.heap.size, 6, none⟩ = some (.slice ka kids.length kc) := by simp [World.cell?, hbox]
        have b7 : W1.cell? ⟨wr.heap.size, 7, none⟩ = some (.slice aa attrs.length ac) := by simp [World.cell?, hbox]
        have b8 : W1.cell? ⟨wr.heap.size, 8, none⟩ = some (.bool gone) := by simp [World.cell?, hbox]
        have b8' : W1.cell? ⟨wr.heap.size, 1 + 1 + 6, none⟩ = some (.bool gone) := b8
        have hs1 : W1.cell? ⟨s, 0, none⟩ = some (.slice (some ⟨g, 0, none⟩) d.L.length cap) := (hbw.cell (p := ⟨s, 0, none⟩) (Nat.lt_of_lt_of_le hslt HBEL.out.size)).trans c0'
        have HEW : Hid (∀ (j : Nat) (x : Ent), d.L[j]? = some x → W1.cell? ⟨g, j * 9, none⟩ = some (.int .i64 x.id) ∧ W1.cell? ⟨g, j * 9 + 1, none⟩ = some (.int .u64 x.v.time)) := fun j x hx => by
          obtain ⟨g', kv', av', eg, -, -, hgl', -, -, hc'⟩ := HE.out j x hx
          have eg := Option.some.inj eg
          cases eg
          have h := entCells hc' (w' := W1) ((HBW.out.block g (Nat.lt_of_lt_of_le hgl HBEL.out.size)).trans (HBEL.out.block g hgl))
          exact ⟨h.1, h.2.1⟩
        clear hbox hbw e0 e1 e2 e3 e4 e5 e6 e7 e8
        go_wp2
        go_loopw [8, 9] (fun b i wx => ∃ j N : Nat, k + 1 ≤ j ∧ j ≤ d.L.length ∧ i = .int .i64 j ∧ b = .bool (gone || ((d.L.take j).drop (k + 1)).any (hits T eid)) ∧ wx = W1.drewN N) (fun _ i _ => d.L.length - (Lib.intOf i).toNat)
        case atStart => exact ⟨k + 1, 0, Nat.le_refl _, by omega, by go_num, by simp, rfl⟩
        case round =>
          obtain ⟨j, N, hkj, hjl, rfl, rfl, rfl⟩ := hrel
          by_cases hjlt : j < d.L.length
          · obtain ⟨x, hjx⟩ : ∃ x, d.L[j]? = some x := ⟨_, List.getElem?_eq_getElem hjlt⟩
            obtain ⟨x0, x1⟩ := HEW.out j x hjx
            have hstep := takedrop_succ hjx hkj
            have hany : ((d.L.take (j + 1)).drop (k + 1)).any (hits T eid) = (((d.L.take j).drop (k + 1)).any (hits T eid) || hits T eid x) := by rw [hstep]; simp
            have HANY := Lib.hid hany
            clear hany hstep hjx
            have hj0 : (0 : Int) ≤ j := by omega
            have hjl' : (j : Int) < d.L.length := by omega
            obtain ⟨bb, hbb⟩ : ∃ bb, ((d.L.take j).drop (k + 1)).any (hits T eid) = bb := ⟨_, rfl⟩
            rw [hbb] at HANY ⊢
            clear hbb
            obtain ⟨b3v, hb3v⟩ : ∃ b3v, (gone || bb) = b3v := ⟨_, rfl⟩
            rw [hb3v]
            have HB3 := Lib.hid hb3v
            clear hb3v
            have fin : ∀ r : Bool, r = (b3v || hits T eid x) → (Value.bool r = .bool (gone || ((d.L.take (j + 1)).drop (k + 1)).any (hits T eid))) := fun r hr => by
              rw [HANY.out, hr, ← HB3.out, Bool.or_assoc]
            have FIN := Lib.hid fin
            clear fin
            cases b3v
            · by_cases hxi : x.id = eid
              · by_cases hxt : x.v.time ≤ T
                · have hd1 : decide (x.v.time ≤ T) = true := decide_eq_true hxt
                  have hit : hits T eid x = true := by simp [hits, hxi, hxt]
                  go_wp2_with fail
                  go_quiet (fail)
                  go_wp2
                  go_roundw
                  case rel => exact ⟨j + 1, _, by omega, by omega, by go_num, FIN.out _ (by rw [hit]; rfl), rfl⟩
                  case measure => simp [Lib.intOf]; omega
                · have hd1 : decide (x.v.time ≤ T) = false := decide_eq_false hxt
                  have hit : hits T eid x = false := by simp [hits, hxt]
                  go_wp2_with fail
                  go_quiet (fail)
                  go_wp2
                  go_roundw
                  case rel => exact ⟨j + 1, _, by omega, by omega, by go_num, FIN.out _ (by rw [hit]; rfl), rfl⟩
                  case measure => simp [Lib.intOf]; omega
              · have hit : hits T eid x = false := by simp [hits, hxi]
                go_wp2_with fail
                go_quiet (fail)
                go_wp2
                go_roundw
                case rel => exact ⟨j + 1, _, by omega, by omega, by go_num, FIN.out _ (by rw [hit]; rfl), rfl⟩
                case measure => simp [Lib.intOf]; omega
            · go_wp2_with fail
              go_quiet (fail)
              go_wp2
              go_roundw
              case rel => exact ⟨j + 1, _, by omega, by omega, by go_num, FIN.out _ (by simp), rfl⟩
              case measure => simp [Lib.intOf]; omega
          · obtain rfl : j = d.L.length := by omega
            rw [List.take_length]
            have HWW : Hid (Below wr.heap.size wr (W1.drewN N)) := below_drewN HBW.out N
            obtain ⟨WW, hWW⟩ : ∃ WW, W1.drewN N = WW := ⟨_, rfl⟩
            have q : ∀ j v, W1.cell? ⟨wr.heap.size, j, none⟩ = some v → WW.cell? ⟨wr.heap.size, j, none⟩ = some v := fun j v h => by rw [← hWW]; exact h
            have b0 := q _ _ b0
            have b1 := q _ _ b1
            have b2 := q _ _ b2
            have b3 := q _ _ b3
            have b4 := q _ _ b4
            have b5 := q _ _ b5
            have b6 := q _ _ b6
            have b7 := q _ _ b7
            have b8 := q _ _ b8
            have hs2 : WW.cell? ⟨s, 0, none⟩ = some (.slice (some ⟨g, 0, none⟩) d.L.length cap) := by rw [← hWW]; exact hs1
            rw [hWW] at HWW ⊢
            clear hWW q
            obtain ⟨bg, hbg⟩ : ∃ bg, (gone || (d.L.drop (k + 1)).any (hits T eid)) = bg := ⟨_, rfl⟩
            have hgo : goes T ⟨eid, ⟨tm, ⟨kind, name, text, parent, kids, attrs, gone⟩⟩⟩ (d.L.drop (k + 1)) = bg := by rw [HGT.out, htd, hbg]; rfl
            rw [hbg]
            have HGO := Lib.hid hgo
            clear hgo hbg
            cases bg
            · have hgo := HGO.out
              go_wp2_with ((at_builtin; refine wpList_append_own_at _ rfl _ _ 82 rfl w.heap.size 147 i0 (.agg #[.int .i64 0, .int .u64 0, .int .i64 0, .string ⟨#[]⟩, .string ⟨#[]⟩, .int .i64 0, .slice none 0 0, .slice none 0 0, .bool false]) 9 120 Try.underlying82 hi hz0 hz1 hz2 rfl (by decide) _ _ _ rfl (ownsRow_keeps HOWN.out (fun j hj => (Go.heap_alloc_old WW _ (Nat.lt_of_lt_of_le (ownsRow_base HOWN.out hj).2 HWW.out.size)).trans (HWW.out.block j (ownsRow_base HOWN.out hj).2))) ⟨WW.heap.size, 0, none⟩ 1 1 (entL ⟨eid, ⟨tm, ⟨kind, name, text, parent, kids, attrs, gone⟩⟩⟩ (.slice ka kids.length kc) (.slice aa attrs.length ac)) rfl rfl cells_new (by simp [Value.oneCell']) (by unfold maxLen; omega) (by omega) (by have h1 := HBEL.out.size; have h2 := HWW.out.size; simp; omega) ?_; intro v' w2 hown2 hgrow hnil hloc))
              go_roundw
              case rel =>
                have hnext : keptTo T d.L (k + 1) = keptTo T d.L k ++ [⟨eid, ⟨tm, ⟨kind, name, text, parent, kids, attrs, gone⟩⟩⟩] := HNEXT.out.1 hgo
                obtain ⟨hkp, hb2⟩ := keeps_grown HD.out (HWW.out.alloc HWW.out.size _) HBEL.out (fun k h => (ownsRow_base HOWN.out h).1) hgrow
                have hb20 : Keeps D w w2 := (keeps_below hb2).mono HD.out
                refine ⟨k + 1, by omega, by go_num, xs ++ entL ⟨eid, ⟨tm, ⟨kind, name, text, parent, kids, attrs, gone⟩⟩⟩ (.slice ka kids.length kc) (.slice aa attrs.length ac), ?_, ?_, hb2⟩
                · rw [hnext, List.length_append]; exact hown2
                · rw [hnext]; exact EntsAre.snoc (v := ⟨eid, ⟨tm, ⟨kind, name, text, parent, kids, attrs, gone⟩⟩⟩) (IK.out.keep hb20) (IA.out.keep hb20) (HENTS.out.keep hkp (fun _ h => h))
              case measure => simp [Lib.intOf]; omega
            · have hgo := HGO.out
              go_wp2
              go_roundw
              case rel =>
                have hnext : keptTo T d.L (k + 1) = keptTo T d.L k := HNEXT.out.2 hgo
                refine ⟨k + 1, by omega, by go_num, xs, ?_, ?_, HBEL.out.trans (HWW.out.mono HBEL.out.size)⟩
                · rw [hnext]; exact ownsRow_keeps HOWN.out (fun j hj => HWW.out.block j (ownsRow_base HOWN.out hj).2)
                · rw [hnext]; exact HENTS.out.keep (fun j hj => HWW.out.block j (Nat.lt_of_lt_of_le (HD.out j hj) HBEL.out.size)) (fun _ h => h)
              case measure => simp [Lib.intOf]; omega
      · have htd : decide (tm ≤ T) = false := decide_eq_false ht
        have hgo : goes T ⟨eid, ⟨tm, ⟨kind, name, text, parent, kids, attrs, gone⟩⟩⟩ (d.L.drop (k + 1)) = false := by rw [HGT.out, htd]; rfl
        have HGO := Lib.hid hgo
        clear hgo
        go_upto_region 7 with fail
        have HWW := Lib.hid hbw
        clear hbw
        obtain ⟨WW, hWW⟩ : ∃ WW, wr.alloc (.cells #[.int .i64 eid, .int .u64 tm, .int .i64 kind, .string name, .string text, .int .i64 parent, .slice ka kids.length kc, .slice aa attrs.length ac, .bool gone] 147) = WW := ⟨_, rfl⟩
        rw [hWW] at hbox HWW ⊢
        clear hWW
        have b0 : WW.cell? ⟨wr.heap.size, 0, none⟩ = some (.int .i64 eid) := by simp [World.cell?, hbox]
        have b1 : WW.cell? ⟨wr.heap.size, 1, none⟩ = some (.int .u64 tm) := by simp [World.cell?, hbox]
        have b2 : WW.cell? ⟨wr.heap.size, 2, none⟩ = some (.int .i64 kind) := by simp [World.cell?, hbox]
        have b3 : WW.cell? ⟨wr.heap.size, 3, none⟩ = some (.string name) := by simp [World.cell?, hbox]
        have b4 : WW.cell? ⟨wr.heap.size, 4, none⟩ = some (.string text) := by simp [World.cell?, hbox]
        have b5 : WW.cell? ⟨wr.heap.size, 5, none⟩ = some (.int .i64 parent) := by simp [World.cell?, hbox]
        have b6 : WW.cell? ⟨wr.heap.size, 6, none⟩ = some (.slice ka kids.length kc) := by simp [World.cell?, hbox]
        have b7 : WW.cell? ⟨wr.heap.size, 7, none⟩ = some (.slice aa attrs.length ac) := by simp [World.cell?, hbox]
        have b8 : WW.cell? ⟨wr.heap.size, 8, none⟩ = some (.bool gone) := by simp [World.cell?, hbox]
        clear hbox
        have hgo := HGO.out
        go_wp2_with ((at_builtin; refine wpList_append_own_at _ rfl _ _ 82 rfl w.heap.size 147 i0 (.agg #[.int .i64 0, .int .u64 0, .int .i64 0, .string ⟨#[]⟩, .string ⟨#[]⟩, .int .i64 0, .slice none 0 0, .slice none 0 0, .bool false]) 9 120 Try.underlying82 hi hz0 hz1 hz2 rfl (by decide) _ _ _ rfl (ownsRow_keeps HOWN.out (fun j hj => (Go.heap_alloc_old WW _ (Nat.lt_of_lt_of_le (ownsRow_base HOWN.out hj).2 HWW.out.size)).trans (HWW.out.block j (ownsRow_base HOWN.out hj).2))) ⟨WW.heap.size, 0, none⟩ 1 1 (entL ⟨eid, ⟨tm, ⟨kind, name, text, parent, kids, attrs, gone⟩⟩⟩ (.slice ka kids.length kc) (.slice aa attrs.length ac)) rfl rfl cells_new (by simp [Value.oneCell']) (by unfold maxLen; omega) (by omega) (by have h1 := HBEL.out.size; have h2 := HWW.out.size; simp; omega) ?_; intro v' w2 hown2 hgrow hnil hloc))
        go_roundw
        case rel =>
          have hnext : keptTo T d.L (k + 1) = keptTo T d.L k ++ [⟨eid, ⟨tm, ⟨kind, name, text, parent, kids, attrs, gone⟩⟩⟩] := HNEXT.out.1 hgo
          obtain ⟨hkp, hb2⟩ := keeps_grown HD.out (HWW.out.alloc HWW.out.size _) HBEL.out (fun k h => (ownsRow_base HOWN.out h).1) hgrow
          have hb20 : Keeps D w w2 := (keeps_below hb2).mono HD.out
          refine ⟨k + 1, by omega, by go_num, xs ++ entL ⟨eid, ⟨tm, ⟨kind, name, text, parent, kids, attrs, gone⟩⟩⟩ (.slice ka kids.length kc) (.slice aa attrs.length ac), ?_, ?_, hb2⟩
          · rw [hnext, List.length_append]; exact hown2
          · rw [hnext]; exact EntsAre.snoc (v := ⟨eid, ⟨tm, ⟨kind, name, text, parent, kids, attrs, gone⟩⟩⟩) (IK.out.keep hb20) (IA.out.keep hb20) (HENTS.out.keep hkp (fun _ h => h))
        case measure => simp [Lib.intOf]; omega
    · obtain rfl : k = d.L.length := by omega
      have f0 : wr.frozen? ⟨s, 0, none⟩ = false := free_block ((hbel.block s hslt).trans HB.out) 0
      have hkt : (d.sweep T).L.length = (keptTo T d.L d.L.length).length := rfl
      have HSW : Hid (wr.ownsRow w.heap.size 147 9 u5 (d.sweep T).L.length xs ∧ EntsAre D wr (d.sweep T).L xs) := ⟨HOWN.out, HENTS.out⟩
      rw [← hkt] at hkl0
      have HKL := Lib.hid hkl0
      have hform : ∃ a' cap', u5 = .slice a' (d.sweep T).L.length cap' := by
        rcases HSW.out.1.2 with ⟨rfl, h0⟩ | ⟨g', cap', cur, rfl, _⟩
        · rw [h0]; exact ⟨none, 0, rfl⟩
        · exact ⟨_, cap', rfl⟩
      clear hown hents hbel HOWN HENTS hkt
      obtain ⟨a', cap', rfl⟩ := hform
      go_wp2
      go_ret
      have hch : Chg R w wr := chg_new HBEL.out
      have hown := HSW.out.1
      have hs3 := (HBEL.out.block s hslt).trans HB.out
      have hKD : Keeps D w (wr.setCell ⟨s, 0, none⟩ (.slice a' (d.sweep T).L.length cap')) := (hch.trans (chg_set hsR 0 _)).keeps (fun k hk => ⟨HD.out k hk, fun h => HRD.out k h hk⟩)
      have hs' : Value.ownBlock (.slice a' (d.sweep T).L.length cap') ≠ some s := fun h => by have := (ownsRow_base hown h).1; omega
      refine ⟨rfl, hch.trans (chg_set hsR 0 _), fun k => R k ∨ Value.ownBlock (.slice a' (d.sweep T).L.length cap') = some k, ⟨s, _, xs, rfl, .inl hsR, ?_, ?_, ?_, fun k h => .inr h⟩, ?_, ?_⟩
      · have := heap_setCell_same wr s 0 _ _ (.slice a' (d.sweep T).L.length cap') hs3
        simpa [Doc.sweep] using this
      · refine ⟨hown.1, ?_⟩
        rcases hown.2 with h | ⟨g, cp, cur, e, hbg, hg, h1, h2, h3, h4⟩
        · exact .inl h
        · exact .inr ⟨g, cp, cur, e, Nat.zero_le _, (heap_setCell_other _ _ _ _ (by rintro rfl; exact hs' (by rw [e]; rfl))).trans hg, h1, h2, h3, h4⟩
      · exact HSW.out.2.keep (fun k hk => heap_setCell_other _ _ _ _ (by rintro rfl; exact HRD.out _ hsR hk)) (fun _ h => h)
      · rintro k (h | h)
        · exact .inl h
        · exact .inr (ownsRow_base hown h).1
      · rintro k (h | h)
        · have := Nat.lt_of_lt_of_le (HR.out k h) HBEL.out.size
          simpa [World.setCell] using this
        · have := (ownsRow_base hown h).2
          simpa [World.setCell] using this
end Go.Proofs.Ytinkjhkbaadbpaa
