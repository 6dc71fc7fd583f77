/- The reference's Sort (59); both views read alike after the calls. -/
import Derived.Test.YtinkjhkbaadbpaaV3
namespace Go.Proofs.Ytinkjhkbaadbpaa
open Go.RowKit
set_option linter.unusedVariables false
set_option linter.unusedSimpArgs false

theorem sort_take {zs all : List Int} {k : Nat} {x : Int} (h : all[k]? = some x) : (all.take (k + 1)).filter (fun x => decide (x ∈ zs)) = (all.take k).filter (fun x => decide (x ∈ zs)) ++ (if x ∈ zs then [x] else []) := by
  rw [List.take_add_one, h, Option.toList_some, List.filter_append, List.filter_cons, List.filter_nil]
  by_cases hx : x ∈ zs <;> simp [hx]
set_option maxRecDepth 100000 in
set_option maxHeartbeats 4000000 in
theorem rsort_any {w : World} {v : Nat} {g : Int → Option Rec} {keys : List Int} (hR : ReadsN 76 w v g) (hk : KeysOf g keys) (hkl : keys.length ≤ 1000000000) {lv : Value} {zs : List Int} (hz : IntsIn (Old w.heap.size) w lv zs) :
    Calls Try.prog 59 #[ptr v, lv] w (AxPost w (sortF g (keys.length + 1) zs)) := by
  obtain ⟨i0, hi, hz0, hz1, hz2⟩ := info_parts Try.info3
  have hall := rall_any hR hk hkl
  have hal9 := Nat.le_trans (allF_len hk) hkl
  have HRES := Lib.hid (show sortF g (keys.length + 1) zs = (allF g (keys.length + 1)).filter (fun x => decide (x ∈ zs)) from rfl)
  obtain ⟨all, hal⟩ : ∃ all, allF g (keys.length + 1) = all := ⟨_, rfl⟩
  rw [hal] at hall hal9 HRES
  have HALL := Lib.hid hall
  have HZ := Lib.hid hz
  obtain ⟨a, c, rfl, -, -, -⟩ := hz
  clear hR hk hall hal hkl
  go_enter Try.func59, Try.ntmps59
  go_wp2_with fail
  refine HALL.out.mono ?_
  rintro e w1 ⟨⟨u, rfl, hu⟩, hb1⟩
  have HU := Lib.hid hu
  obtain ⟨au, cu, rfl, -, -, hxu⟩ := hu
  have HXU := Lib.hid hxu
  have HB1 := Lib.hid hb1
  have hai : (all.length : Int) ≤ 1000000000 := by omega
  clear hxu hb1
  go_wp2_with fail
  go_loopw [6, 7] (fun m i wr => ∃ k : Nat, k ≤ all.length ∧ i = .int .i64 k ∧ wr.ownsRow w1.heap.size 3 1 m ((all.take k).filter (fun x => decide (x ∈ zs))).length (((all.take k).filter (fun x => decide (x ∈ zs))).map iv) ∧ Below w1.heap.size w1 wr) (fun _ i _ => all.length - (Lib.intOf i).toNat)
  case atStart => exact ⟨0, Nat.zero_le _, rfl, World.ownsRow_nil _ _ _ _, Below.refl _ _⟩
  case round =>
    obtain ⟨k, hk, rfl, hown, hbr⟩ := hrel
    have hlm : ((all.take k).filter (fun x => decide (x ∈ zs))).length ≤ k := Nat.le_trans (List.length_filter_le _ _) (by rw [List.length_take]; omega)
    by_cases hlt : k < all.length
    · obtain ⟨x, hx⟩ : ∃ x, all[k]? = some x := ⟨_, List.getElem?_eq_getElem hlt⟩
      obtain ⟨gb, off, rfl, hFg, hc⟩ : ∃ g off, au = some ⟨g, off, none⟩ ∧ Old w1.heap.size g ∧ ∀ j x, all[j]? = some x → w1.cell? ⟨g, off + j, none⟩ = some (.int .i64 x) := by
        rcases HXU.out with h | h
        · rw [h] at hlt; simp at hlt
        · exact h
      have hck : wr.cell? ⟨gb, off + k, none⟩ = some (.int .i64 x) := (hbr.cell (p := ⟨gb, off + k, none⟩) hFg).trans (hc k x hx)
      have hsucc := sort_take (zs := zs) hx
      obtain ⟨out, hout⟩ : ∃ out, (all.take k).filter (fun x => decide (x ∈ zs)) = out := ⟨_, rfl⟩
      rw [hout] at hown hsucc hlm
      obtain ⟨am, cm, rfl⟩ := shape3 hown
      have hzr := HZ.out.later (HB1.out.trans (hbr.mono HB1.out.size))
      have HHAS := Lib.hid (rhas_any zs _ _ x wr hzr)
      have HOWN := Lib.hid hown
      have HBR := Lib.hid hbr
      have hsz := hbr.size
      have hk0 : (0 : Int) ≤ k := by omega
      have hki : (k : Int) < all.length := by omega
      by_cases hin : x ∈ zs
      · rw [if_pos hin] at hsucc
        rw [decide_eq_true hin] at HHAS
        have HS := Lib.hid hsucc
        clear hc hx hsucc hout hown hbr hzr hin
        go_wp2_with (first
          | (go_at_call 30; refine HHAS.out.mono ?_; rintro e w2 ⟨rfl, rfl⟩)
          | (at_builtin; refine wpList_append_own_at _ rfl _ _ 33 rfl w1.heap.size 3 i0 (.int .i64 0) 1 8 Try.underlying33 hi hz0 hz1 hz2 rfl (by decide) _ _ _ rfl (ownsRow_alloc HOWN.out _) ⟨wr.heap.size, 0, none⟩ 1 1 [iv x] rfl rfl (cell_one_new _ _ _) (by simp [Value.oneCell']) (by unfold maxLen; omega) (by omega) (by simp; omega) ?_; intro v' w8 hown8 hgrow hnil hloc; have HO8 := Lib.hid hown8; have HB8 := Lib.hid (keeps_grown (D := fun _ => False) (fun _ h => h.elim) ((Below.refl _ _).alloc (Nat.le_refl _) _) HBR.out (fun k h => (ownsRow_base HOWN.out h).1) hgrow).2; obtain ⟨a8, c8, rfl⟩ := ownsRow_shape hown8; clear hown8 hgrow hloc))
        go_roundw
        case rel => exact ⟨k + 1, by omega, by go_num, by rw [HS.out]; simpa using HO8.out, HB8.out⟩
        case measure => simp [Lib.intOf]; omega
      · rw [if_neg hin, List.append_nil] at hsucc
        rw [decide_eq_false hin] at HHAS
        have HS := Lib.hid hsucc
        clear hc hx hsucc hout hown hbr hzr hin
        go_wp2_with (go_at_call 30; refine HHAS.out.mono ?_; rintro e w2 ⟨rfl, rfl⟩)
        go_roundw
        case rel => exact ⟨k + 1, by omega, by go_num, by rw [HS.out]; exact HOWN.out, HBR.out⟩
        case measure => simp [Lib.intOf]; omega
    · obtain rfl : k = all.length := by omega
      rw [List.take_length] at hown
      have HOWN := Lib.hid hown
      have HBR := Lib.hid hbr
      obtain ⟨am, cm, rfl⟩ := shape3 hown
      clear hown hbr hlm
      go_wp2_with fail
      go_ret
      exact ⟨⟨_, rfl, by rw [HRES.out]; exact (intsIn_row HOWN.out).old⟩, HB1.out.trans (HBR.out.mono HB1.out.size)⟩
/-- both views read alike, after the calls -/
theorem step_both {R Ds Rd Dd : Nat → Prop} {n1 : Nat} {w : World} {v m s v2 s2 : Nat} {S : Store} {d : Doc} {L : Nat} {G : Int} {t : Tr} (h : StepSt R Ds Rd Dd n1 w v m s v2 s2 S d L G) (hm : Mid t S d) (hsz : t.size ≤ 100000000) (hL : L ≤ 500000000) :
    ∃ (Rb : Nat → Prop) (g : Int → Option Rec) (keys : List Int), Ax Rb w v g keys ∧ ReadsN 76 w v2 g := by
  obtain ⟨o, L2, gv, hd, hown, hlen, hg0, hg1⟩ := h
  have hwf : ({ S with given := gv } : Store).Wf := ⟨hm.wf.rise, hm.wf.last, hm.wf.ok, hm.wf.len⟩
  have hax := step_ax_of hd hm hown hlen hsz hL hwf
  obtain ⟨Rb, keys, hax⟩ := hax
  have hr := hd.rreadsN (by show L2.length ≤ _; omega) (by show d.L.length ≤ _; have := hm.len.1; omega)
  have e : (⟨L2, 3⟩ : RVw).get { d with given := gv } = (⟨o, 3⟩ : Vw).get { S with given := gv } := by
    funext id
    unfold RVw.get Vw.get
    simp only
    rw [hown]
    have h9 : ({ d with given := gv } : Doc).at id 3 = ({ S with given := gv } : Store).at id 3 := at_same (fun id => hm.N id) id 3
    rw [h9]
    cases o id <;> rfl
  rw [e] at hr
  exact ⟨Rb, _, keys, hax, hr⟩
end Go.Proofs.Ytinkjhkbaadbpaa
