/- Both stores in memory, side by side; a call of each. -/
import Derived.Test.YtinkjhkbaadbpaaLW
namespace Go.Proofs.Ytinkjhkbaadbpaa
open Go.RowKit
set_option linter.unusedVariables false

structure Both (n0 : Nat) (R D Rd : Nat → Prop) (w : World) (p q : Value) (S : Store) (d : Doc) : Prop where
  st : StoreAt R D w p S
  dc : DocIn Rd (Old n0) w q d
  rn : ∀ k, R k → n0 ≤ k
  dn : ∀ k, D k → n0 ≤ k
  rdn : ∀ k, Rd k → n0 ≤ k ∧ k < w.heap.size
  apart : ∀ k, Rd k → ¬ R k ∧ ¬ D k
  le : n0 ≤ w.heap.size
  says : Says S d
  wf : S.Wf
  keys : S.Keys
/-- few steps only -/
structure Few (S : Store) (d : Doc) (j : Nat) : Prop where
  small : j ≤ 90
  g0 : 1 ≤ S.given
  g : S.given ≤ 1 + j
  N : ∀ id, (S.N id).length ≤ 1 + j
  L : d.L.length ≤ 1 + 100 * j
theorem Both.below {n0 : Nat} {R D Rd : Nat → Prop} {w w' : World} {p q : Value} {S : Store} {d : Doc} (h : Both n0 R D Rd w p q S d) (hb : Below w.heap.size w w') : Both n0 R D Rd w' p q S d :=
  ⟨⟨h.st.is.keep ((keeps_below hb).mono h.st.rlt) ((keeps_below hb).mono h.st.dlt), fun k hk => Nat.lt_of_lt_of_le (h.st.rlt k hk) hb.size, fun k hk => Nat.lt_of_lt_of_le (h.st.dlt k hk) hb.size, h.st.rd⟩,
    h.dc.keep ((keeps_below hb).mono (fun k hk => (h.rdn k hk).2)) ((keeps_below hb).mono (fun k hk => Nat.lt_of_lt_of_le hk h.le)),
    h.rn, h.dn, fun k hk => ⟨(h.rdn k hk).1, Nat.lt_of_lt_of_le (h.rdn k hk).2 hb.size⟩, h.apart, Nat.le_trans h.le hb.size, h.says, h.wf, h.keys⟩
theorem Both.rold {n0 : Nat} {R D Rd : Nat → Prop} {w : World} {p q : Value} {S : Store} {d : Doc} (h : Both n0 R D Rd w p q S d) : ∀ k, Rd k → ¬ Old n0 k := fun k hk ho => by
  have := (h.rdn k hk).1
  have : k < n0 := ho
  omega

/-- what stands behind a step -/
def Done (n0 : Nat) (Rx : Nat → Prop) (W : World) (p q : Value) (j : Nat) (w' : World) : Prop :=
  Chg Rx W w' ∧ ∃ R' D' Rd' S' d', Both n0 R' D' Rd' w' p q S' d' ∧ Few S' d' j
/-- Two calls, of the store and of the document's, hand back the same, and leave both the same. -/
def Pair (n0 : Nat) (Rx : Nat → Prop) (W : World) (p q : Value) (j f1 f2 : Nat) (a1 a2 : Array Value) : Prop :=
  ∃ (r : Int) (P1 : World → Prop), Calls Try.prog f1 a1 W (fun e w' => e = .returned (.int .i64 r) ∧ P1 w') ∧ ∀ w', P1 w' → Chg Rx W w' ∧ Calls Try.prog f2 a2 w' (fun e w'' => e = .returned (.int .i64 r) ∧ Done n0 Rx W p q j w'')

theorem pair_fresh {n0 j : Nat} {R D Rd : Nat → Prop} {w : World} {p q : Value} {S : Store} {d : Doc} (h : Both n0 R D Rd w p q S d) (hf : Few S d j) (hj : j + 1 ≤ 90) : Pair n0 (fun k => R k ∨ Rd k) w p q (j + 1) 54 88 #[p] #[q] := by
  have hg := hf.g
  have hg0 := hf.g0
  refine ⟨S.given + 1, fun w' => StoreIn R D w' p { S with given := S.given + 1 } ∧ Chg R w w', fresh_any h.st.is h.st.rd (by omega) (by have := hf.small; omega), fun w' ⟨hs, hc⟩ => ⟨hc.mono (fun k hk => .inl hk), ?_⟩⟩
  have hd : DocIn Rd (Old n0) w' q d := h.dc.keep (fun k hk => hc.block k (h.rdn k hk).2 (h.apart k hk).1) (fun k hk => hc.block k (Nat.lt_of_lt_of_le hk h.le) (fun hr => by have := h.rn k hr; have : k < n0 := hk; omega))
  refine (docFresh_any hd h.rold (by rw [← h.says.given]; omega) (by rw [← h.says.given]; have := hf.small; omega)).mono ?_
  rintro e w'' ⟨rfl, hd2, hc2⟩
  refine ⟨by rw [h.says.given], (hc.mono (fun k hk => .inl hk)).trans (hc2.mono (fun k hk => .inr hk)), R, D, Rd, _, _, ⟨⟨?_, ?_, ?_, h.st.rd⟩, hd2, h.rn, h.dn, ?_, h.apart, ?_, h.says.giveOne, ?_, ?_⟩, ?_⟩
  · exact hs.keep (fun k hk => hc2.block k (Nat.lt_of_lt_of_le (h.st.rlt k hk) hc.size) (fun hr => (h.apart k hr).1 hk)) (fun k hk => hc2.block k (Nat.lt_of_lt_of_le (h.st.dlt k hk) hc.size) (fun hr => (h.apart k hr).2 hk))
  · intro k hk; exact Nat.lt_of_lt_of_le (h.st.rlt k hk) (Nat.le_trans hc.size hc2.size)
  · intro k hk; exact Nat.lt_of_lt_of_le (h.st.dlt k hk) (Nat.le_trans hc.size hc2.size)
  · intro k hk; exact ⟨(h.rdn k hk).1, Nat.lt_of_lt_of_le (h.rdn k hk).2 (Nat.le_trans hc.size hc2.size)⟩
  · exact Nat.le_trans h.le (Nat.le_trans hc.size hc2.size)
  · exact ⟨h.wf.rise, h.wf.last, h.wf.ok, h.wf.len⟩
  · intro id hn
    have := h.keys id hn
    exact ⟨this.1, by show id ≤ S.given + 1; omega⟩
  · exact ⟨hj, by show (1 : Int) ≤ S.given + 1; omega, by show S.given + 1 ≤ 1 + ((j + 1 : Nat) : Int); push_cast; omega, fun id => by have := hf.N id; show (S.N id).length ≤ _; omega, by have := hf.L; show d.L.length ≤ _; omega⟩

theorem pair_sweep {n0 j : Nat} {R D Rd : Nat → Prop} {w : World} {p q : Value} {S : Store} {d : Doc} (h : Both n0 R D Rd w p q S d) (hf : Few S d j) (hj : j + 1 ≤ 90) (T : Nat) : Pair n0 (fun k => R k ∨ Rd k) w p q (j + 1) 52 89 #[p, .int .u64 T] #[q, .int .u64 T] := by
  have hg := hf.g
  have hg0 := hf.g0
  have hsm := hf.small
  refine ⟨(d.L.length : Int) - ((d.sweep T).L.length : Int), fun w' => Chg R w w' ∧ ∃ R', StoreAt R' D w' p (S.sweep T) ∧ (∀ k, R' k → R k ∨ w.heap.size ≤ k),
    (sweep_any h.st.is h.wf T h.keys h.st.rlt h.st.dlt h.st.rd (by omega) (by omega) (fun id => by have := hf.N id; omega)).mono (fun e w' ⟨⟨zs, hz, he⟩, hc, hr⟩ => ⟨by rw [he, h.says.sum h.wf hz T], hc, hr⟩), ?_⟩
  rintro w' ⟨hc, R', hs, hR'⟩
  refine ⟨hc.mono (fun k hk => .inl hk), ?_⟩
  have hd : DocIn Rd (Old n0) w' q d := h.dc.keep (fun k hk => hc.block k (h.rdn k hk).2 (h.apart k hk).1) (fun k hk => hc.block k (Nat.lt_of_lt_of_le hk h.le) (fun hr => by have := h.rn k hr; have : k < n0 := hk; omega))
  refine (docSweep_any hd T (fun k hk => Nat.lt_of_lt_of_le (h.rdn k hk).2 hc.size) (fun k hk => Nat.lt_of_lt_of_le hk (Nat.le_trans h.le hc.size)) h.rold (by have := hf.L; omega)).mono ?_
  rintro e w'' ⟨rfl, hc2, Rd', hd2, hRd', hRdl⟩
  have hap : ∀ k, Rd' k → ¬ R' k ∧ ¬ D k := fun k hk => by
    rcases hRd' k hk with h1 | h1
    · refine ⟨fun hr => ?_, (h.apart k h1).2⟩
      rcases hR' k hr with h2 | h2
      · exact (h.apart k h1).1 h2
      · have := (h.rdn k h1).2; omega
    · exact ⟨fun hr => by have := hs.rlt k hr; omega, fun hd => by have := hs.dlt k hd; omega⟩
  refine ⟨rfl, (hc.mono (fun k hk => .inl hk)).trans (hc2.mono (fun k hk => .inr hk)), R', D, Rd', _, _, ⟨⟨?_, ?_, ?_, hs.rd⟩, hd2, ?_, h.dn, ?_, hap, ?_, h.says.sweep h.wf T, sweep_wf h.wf T, sweep_keys h.keys T⟩, ?_⟩
  · exact hs.is.keep (fun k hk => hc2.block k (hs.rlt k hk) (fun hr => by
      rcases hR' k hk with h2 | h2
      · exact (h.apart k hr).1 h2
      · have := (h.rdn k hr).2; omega)) (fun k hk => hc2.block k (hs.dlt k hk) (fun hr => (h.apart k hr).2 hk))
  · intro k hk; exact Nat.lt_of_lt_of_le (hs.rlt k hk) hc2.size
  · intro k hk; exact Nat.lt_of_lt_of_le (hs.dlt k hk) hc2.size
  · intro k hk
    rcases hR' k hk with h2 | h2
    · exact h.rn k h2
    · exact Nat.le_trans h.le h2
  · intro k hk
    refine ⟨?_, hRdl k hk⟩
    rcases hRd' k hk with h2 | h2
    · exact (h.rdn k h2).1
    · exact Nat.le_trans h.le (Nat.le_trans hc.size h2)
  · exact Nat.le_trans h.le (Nat.le_trans hc.size hc2.size)
  · refine ⟨hj, hg0, by show S.given ≤ _; push_cast; omega, fun id => ?_, ?_⟩
    · have := hf.N id
      show ((S.N id).drop _).length ≤ _
      rw [List.length_drop]; omega
    · have := hf.L
      have h2 := keptTo_length T d.L d.L.length
      show (keptTo T d.L d.L.length).length ≤ _
      omega

theorem pair_install {n0 j : Nat} {R D Rd : Nat → Prop} {w : World} {p q : Value} {S : Store} {d : Doc} (h : Both n0 R D Rd w p q S d) (hf : Few S d j) (hj : j + 1 ≤ 90) (T : Nat) (v : Value) (cs : List Chn) (hv : ChnsIn (Old n0) w v cs) (hok : ∀ c ∈ cs, RecOk c.r) :
    Pair n0 (fun k => R k ∨ Rd k) w p q (j + 1) 42 43 #[p, .int .u64 T, v] #[q, .int .u64 T, v] := by
  have hg := hf.g
  have hg0 := hf.g0
  have hsm := hf.small
  have hfew : Few S d (j + 1) := ⟨hj, hg0, by push_cast; omega, fun id => by have := hf.N id; omega, by have := hf.L; omega⟩
  have hF : ∀ k, Old n0 k → k < w.heap.size ∧ ¬ R k := fun k hk => ⟨Nat.lt_of_lt_of_le hk h.le, fun hr => by have := h.rn k hr; have : k < n0 := hk; omega⟩
  by_cases hT : T ≤ S.last
  · refine ⟨43, fun w' => w = w', install_time h.st.is T hT v, ?_⟩
    rintro w' rfl
    refine ⟨Chg.refl _ _, (docInstall_time h.dc T (by rw [← h.says.last]; exact hT) v).mono ?_⟩
    rintro e w'' ⟨rfl, rfl⟩
    exact ⟨rfl, Chg.refl _ _, R, D, Rd, S, d, h, hfew⟩
  · have hT' : S.last < T := by omega
    have hlenN : ∀ id, (S.N id).length ≤ 1000000 := fun id => by have := hf.N id; omega
    have hin := install_any h.st.is h.wf T hT' cs v hv hF h.st.rlt h.st.dlt h.st.rd hlenN hok
    have hgd : d.given = S.given := h.says.given.symm
    cases hb : okL S.given [] cs with
    | false =>
      refine ⟨2, fun w' => Below w.heap.size w w', hin.mono (fun e w' hr => ?_), fun w' hbl => ⟨chg_new hbl, ?_⟩⟩
      · rcases hr with ⟨_, he, hbl⟩ | ⟨ht, _⟩
        · exact ⟨he, hbl⟩
        · rw [hb] at ht; cases ht
      · have h2 := h.below hbl
        refine (docInstall_any h2.dc T (by rw [← h.says.last]; exact hT') cs v (hv.keep ((keeps_below hbl).mono (fun k hk => (hF k hk).1))) (fun k hk => hk) (fun k hk => (h2.rdn k hk).2) (fun k hk => Nat.lt_of_lt_of_le hk h2.le) h2.rold (by have := hf.L; omega) (by rw [hgd]; omega) (by rw [hgd]; omega)).mono ?_
        rintro e w'' (⟨_, rfl, hbl2⟩ | ⟨ht, _⟩)
        · exact ⟨rfl, (chg_new hbl).trans (chg_new hbl2), R, D, Rd, S, d, h2.below hbl2, hfew⟩
        · rw [hgd, hb] at ht; cases ht
    | true =>
      have hcl := okL_length (by omega) hb
      refine ⟨0, fun w' => Chg R w w' ∧ ∃ R' D', StoreAt R' D' w' p (S.put T cs) ∧ (∀ k, R' k → R k ∨ w.heap.size ≤ k) ∧ (∀ k, D' k → D k ∨ w.heap.size ≤ k), hin.mono (fun e w' hr => ?_), ?_⟩
      · rcases hr with ⟨ht, _⟩ | ⟨_, he, hc, hr⟩
        · rw [hb] at ht; cases ht
        · exact ⟨he, hc, hr⟩
      · rintro w' ⟨hc, R', D', hs, hR', hD'⟩
        refine ⟨hc.mono (fun k hk => .inl hk), ?_⟩
        have hkO : Keeps (Old n0) w w' := fun k hk => hc.block k (hF k hk).1 (hF k hk).2
        have hd : DocIn Rd (Old n0) w' q d := h.dc.keep (fun k hk => hc.block k (h.rdn k hk).2 (h.apart k hk).1) hkO
        refine (docInstall_any hd T (by rw [← h.says.last]; exact hT') cs v (hv.keep hkO) (fun k hk => hk) (fun k hk => Nat.lt_of_lt_of_le (h.rdn k hk).2 hc.size) (fun k hk => Nat.lt_of_lt_of_le hk (Nat.le_trans h.le hc.size)) h.rold (by have := hf.L; omega) (by rw [hgd]; omega) (by rw [hgd]; omega)).mono ?_
        rintro e w'' (⟨ht, _⟩ | ⟨_, rfl, hc2, Rd', hd2, hRd', hRdl⟩)
        · rw [hgd, hb] at ht; cases ht
        · have hap : ∀ k, Rd' k → ¬ R' k ∧ ¬ D' k := fun k hk => by
            rcases hRd' k hk with h1 | h1
            · have hl := (h.rdn k h1).2
              refine ⟨fun hr => ?_, fun hr => ?_⟩
              · rcases hR' k hr with h2 | h2
                · exact (h.apart k h1).1 h2
                · omega
              · rcases hD' k hr with h2 | h2
                · exact (h.apart k h1).2 h2
                · omega
            · exact ⟨fun hr => by have := hs.rlt k hr; omega, fun hd => by have := hs.dlt k hd; omega⟩
          have hap2 : ∀ k, Rd k → ¬ R' k ∧ ¬ D' k := fun k h1 => by
            have hl := (h.rdn k h1).2
            refine ⟨fun hr => ?_, fun hr => ?_⟩
            · rcases hR' k hr with h2 | h2
              · exact (h.apart k h1).1 h2
              · omega
            · rcases hD' k hr with h2 | h2
              · exact (h.apart k h1).2 h2
              · omega
          refine ⟨rfl, (hc.mono (fun k hk => .inl hk)).trans (hc2.mono (fun k hk => .inr hk)), R', D', Rd', _, _, ⟨⟨?_, ?_, ?_, hs.rd⟩, hd2, ?_, ?_, ?_, hap, ?_, h.says.put T cs, put_wf h.wf hT' hb hok hlenN, put_keys h.keys hb⟩, ?_⟩
          · exact hs.is.keep (fun k hk => hc2.block k (hs.rlt k hk) (fun hr => (hap2 k hr).1 hk)) (fun k hk => hc2.block k (hs.dlt k hk) (fun hr => (hap2 k hr).2 hk))
          · intro k hk; exact Nat.lt_of_lt_of_le (hs.rlt k hk) hc2.size
          · intro k hk; exact Nat.lt_of_lt_of_le (hs.dlt k hk) hc2.size
          · intro k hk
            rcases hR' k hk with h2 | h2
            · exact h.rn k h2
            · exact Nat.le_trans h.le h2
          · intro k hk
            rcases hD' k hk with h2 | h2
            · exact h.dn k h2
            · exact Nat.le_trans h.le h2
          · intro k hk
            refine ⟨?_, hRdl k hk⟩
            rcases hRd' k hk with h2 | h2
            · exact (h.rdn k h2).1
            · exact Nat.le_trans h.le (Nat.le_trans hc.size h2)
          · exact Nat.le_trans h.le (Nat.le_trans hc.size hc2.size)
          · refine ⟨hj, hg0, by show S.given ≤ _; push_cast; omega, fun id => ?_, ?_⟩
            · show (cs.foldl (putN T) S.N id).length ≤ _
              have := hf.N id
              rcases put_N (T := T) (N := S.N) id hb with ⟨h2, _⟩ | ⟨c, _, _, h2⟩
              · rw [h2]; omega
              · rw [h2]; simp; omega
            · have := hf.L
              show (d.L ++ cs.map (entOf T)).length ≤ _
              simp only [List.length_append, List.length_map]
              omega
end Go.Proofs.Ytinkjhkbaadbpaa
