/- served (59), and its grants (68). -/
import Derived.Test.YtamjopgpmeeheaaAS
import Derived.Test.YtamjopgpmeeheaaTB
import Derived.Test.YtamjopgpmeeheaaSQ
import Derived.Test.YtamjopgpmeeheaaL2
import Derived.Deep.RegionHeld3
import Derived.Deep.RegionWith
namespace Go.Proofs.Ytamjopgpmeeheaa
open Go.RowKit Go.Shelf
open Go.ChangeMaps (setBlock)
set_option linter.unusedVariables false
attribute [local go_sem] Oper.semAt_some

theorem served_any (p : Value) (hp : ∃ a, p = .pointer a) (w : World) : Calls Try.prog 59 #[p] w fun e w' => e = .returned (.func (.func 68) #[] #[.pointer (some ⟨w.heap.size, 0, none⟩)]) ∧ (w.alloc (.cells #[p] 23)) = w' := by
  obtain ⟨a, rfl⟩ := hp
  have hmf : ∀ (fn : Fn) (first cap : Array Value) (w : World), (Instr.makeFunc fn first cap).run Try.prog w = .ok (.func fn first cap) w := fun _ _ _ _ => rfl
  go_enter Try.func59, Try.ntmps59
  go_wp2
  go_ret
  exact ⟨rfl, rfl⟩
theorem MapIs.len {P : Program} {w : World} {b : Nat} {f : Int → Option Value} (h : MapIs iv w b f) {t k e : TypeId} (ht : P.underlying t = some (.map k e)) {ks : List Int} (hk : ∀ x, (f x).isSome → x ∈ ks) :
    ∃ N : Nat, N ≤ ks.length ∧ (N = 0 ↔ ∀ x, f x = none) ∧ ∀ ty (w' : World), w'.heap[b]? = w.heap[b]? → (Builtin.len_ #[t] ty #[.map (some b)]).run P w' = .ok (goInt N) w' := by
  obtain ⟨es, clock, hb, hv⟩ := h
  have hkey : ∀ a ∈ es.toList, ∃ y, a.key = iv y ∧ y ∈ ks := fun a ha => by
    obtain ⟨y, hy⟩ := hv.2.1 a ha
    exact ⟨y, hy, hk y (by rw [(hv.2.2 y a.val).2 ⟨a, ha, hy, rfl⟩]; rfl)⟩
  refine ⟨es.size, ?_, ?_, fun ty w' hw => ?_⟩
  · have h1 : (es.toList.map (fun a => intOf a.key)).Nodup := by
      have h2 := hv.1.2.2
      rw [List.nodup_iff_pairwise_ne, List.pairwise_map] at h2 ⊢
      refine h2.imp_of_mem ?_
      intro a c ha hc hne he
      obtain ⟨y, hy, -⟩ := hkey a ha
      obtain ⟨z, hz, -⟩ := hkey c hc
      rw [hy, hz] at he hne
      simp [intOf] at he
      exact hne (by rw [he])
    have := nodup_sub_length h1 (m := ks) (fun x hx => by
      obtain ⟨a, ha, rfl⟩ := List.mem_map.1 hx
      obtain ⟨y, hy, hyk⟩ := hkey a ha
      rw [hy]; simpa [intOf] using hyk)
    simpa using this
  · constructor
    · intro h0 x
      cases hf : f x with
      | none => rfl
      | some v =>
        obtain ⟨a, ha, -⟩ := (hv.2.2 x v).1 hf
        have : es.toList = [] := List.eq_nil_of_length_eq_zero (by simpa using h0)
        rw [this] at ha; cases ha
    · intro hn
      cases hl : es.toList with
      | nil => simpa using congrArg List.length hl
      | cons a r =>
        obtain ⟨y, hy⟩ := hv.2.1 a (by rw [hl]; simp)
        have := (hv.2.2 y a.val).2 ⟨a, by rw [hl]; simp, hy, rfl⟩
        rw [hn] at this; cases this
  · have hb' := hw.trans hb
    simp [Builtin.len_, run_underlying ht, MapKept.run_getObj_map hb', Result.andThen]
/-- the numbers of a table's nodes -/
def RiseKeys (f : Int → Option Value) (ks : List Int) : Prop := ks.Pairwise (· < ·) ∧ ∀ x, x ∈ ks ↔ (f x).isSome

/-- between two nodes -/
def SvInv (J : List G3 → (Nat → Prop) → World → Prop) (M0 M R : Nat → Prop) (T : Tb) (zs : List Int) (s m c Bt : Nat) (W w2 : World) (k : Nat) (wr : World) : Prop :=
  ∃ (Mc : Nat → Prop) (f' : Int → Option Value) (Tc : Tb), J (grantsT T (zs.take k)) Mc wr ∧ TabF M R wr s m f' Tc c ∧ (∀ id ∈ zs.take k, Tc id = servedN (T id)) ∧
    (∀ id ∈ zs.drop k, Tc id = T id ∧ (f' id).isSome) ∧ (∀ id, id ∉ zs → Tc id = Nd.nil) ∧ (∀ b, Mc b → M0 b ∨ (w2.heap.size ≤ b ∧ b < wr.heap.size)) ∧ Keeps (fun b => b = Bt ∨ (W.heap.size ≤ b ∧ b < w2.heap.size)) w2 wr ∧ w2.heap.size ≤ wr.heap.size
theorem sv_next {J : List G3 → (Nat → Prop) → World → Prop} {M0 M R : Nat → Prop} {T : Tb} {zs : List Int} {s m c Bt : Nat} {W w2 : World} {k : Nat} {wr : World} {x : Int} (hx : zs[k]? = some x) (hz : zs.Pairwise (· < ·))
    {Md : Nat → Prop} {f' f3 : Int → Option Value} {Tc T3 : Tb} (hj : J (grantsT T (zs.take k) ++ grantsN x (T x)) Md wr) (ht : TabF M R wr s m f3 T3 c) (hTx : T3 x = servedN (T x)) (hoth : ∀ id, id ≠ x → T3 id = Tc id ∧ ((f' id).isSome → (f3 id).isSome))
    (hdone : ∀ id ∈ zs.take k, Tc id = servedN (T id)) (hleft : ∀ id ∈ zs.drop k, Tc id = T id ∧ (f' id).isSome) (hnil : ∀ id, id ∉ zs → Tc id = Nd.nil) (hM : ∀ b, Md b → M0 b ∨ (w2.heap.size ≤ b ∧ b < wr.heap.size)) (hk : Keeps (fun b => b = Bt ∨ (W.heap.size ≤ b ∧ b < w2.heap.size)) w2 wr) (hs : w2.heap.size ≤ wr.heap.size) :
    SvInv J M0 M R T zs s m c Bt W w2 (k + 1) wr := by
  obtain ⟨hkl, hxe⟩ := List.getElem?_eq_some_iff.1 hx
  have htk : zs.take (k + 1) = zs.take k ++ [x] := by rw [List.take_add_one, hx]; rfl
  have hdk : zs.drop k = x :: zs.drop (k + 1) := by rw [List.drop_eq_getElem_cons hkl, hxe]
  have hsp : zs = zs.take k ++ (x :: zs.drop (k + 1)) := by rw [← hdk]; exact (List.take_append_drop k zs).symm
  have hp := hz
  rw [hsp] at hp
  obtain ⟨-, hp2, hp3⟩ := List.pairwise_append.1 hp
  obtain ⟨hp4, -⟩ := List.pairwise_cons.1 hp2
  refine ⟨Md, f3, T3, by rw [htk, grantsT_snoc]; exact hj, ht, fun id hid => ?_, fun id hid => ?_, fun id hid => ?_, hM, hk, hs⟩
  · rw [htk] at hid
    rcases List.mem_append.1 hid with h | h
    · have := hp3 id h x (by simp)
      rw [(hoth id (by omega)).1]; exact hdone id h
    · simp at h; rw [h]; exact hTx
  · have := hp4 id hid
    have h1 := hleft id (by rw [hdk]; exact List.mem_cons_of_mem _ hid)
    have h2 := hoth id (by omega)
    exact ⟨h2.1.trans h1.1, h2.2 h1.2⟩
  · have hne : id ≠ x := fun e => hid (by rw [e]; exact List.mem_of_getElem? hx)
    rw [(hoth id hne).1]; exact hnil id hid
theorem okW_put {hs : List W2} {t m : Int} (h : ∀ x ∈ hs, okW x) (ht : okW (t, m)) : ∀ x ∈ putH hs t m, okW x := fun x hx => (mem_putH hx).elim (fun e => by rw [e]; exact ht) (h x)
theorem hF_empty {hs : List W2} : (∀ x, hF hs x = none) ↔ hs = [] := by
  constructor
  · intro h
    cases hs with
    | nil => rfl
    | cons a r =>
      have := h a.1
      unfold hF at this
      rw [findH_cons, if_pos rfl] at this
      cases this
  · rintro rfl x; rfl
theorem hF_keys {hs : List W2} : ∀ x, (hF hs x).isSome → x ∈ hs.map (·.1) := by
  intro x hx
  unfold hF at hx
  rw [Option.isSome_map] at hx
  obtain ⟨v, hv⟩ := Option.isSome_iff_exists.1 hx
  exact List.mem_map.2 ⟨_, findH_mem hv, rfl⟩

theorem sv_fin {J : List G3 → (Nat → Prop) → World → Prop} {M0 M R : Nat → Prop} {T : Tb} {zs : List Int} {s m c Bt : Nat} {W w2 WR wr W' : World} {k b5 : Nat} {x : Int} (hx : zs[k]? = some x) (hz : zs.Pairwise (· < ·))
    (hJ : Bears M W.heap.size J) (hM0 : ∀ k, M0 k → k < W.heap.size ∧ ¬ (k = Bt ∨ R k) ∧ ¬ M k) (hMl : ∀ k, M k → k < W.heap.size) (hW2 : W.heap.size ≤ w2.heap.size) (hBM : ¬ M Bt) (hBtl : Bt < W.heap.size) (hmM : M m)
    {Mc Md : Nat → Prop} {f' f2 f3 : Int → Option Value} {Tc T2 : Tb} {done hs1 q1 : List W2} (hMc : ∀ b, Mc b → M0 b ∨ (w2.heap.size ≤ b ∧ b < WR.heap.size)) (hMd : ∀ b, Md b → Mc b ∨ (b5 + 1 ≤ b ∧ b < wr.heap.size)) (hWR : WR.heap.size = b5) (hb5 : w2.heap.size ≤ b5) (hb5l : b5 < wr.heap.size)
    (hj4 : J (grantsT T (zs.take k) ++ done.map (fun e => (e.1, x, e.2))) Md wr) (hserve : serveQ (T x).hs (T x).q = (done, hs1, q1)) (hT2 : T2 x = ⟨hs1, q1⟩) (hoth : ∀ id, id ≠ x → T2 id = Tc id ∧ ((f' id).isSome → (f2 id).isSome)) (hf3 : ∀ id, id ≠ x → (f2 id).isSome → (f3 id).isSome)
    (hdone : ∀ id ∈ zs.take k, Tc id = servedN (T id)) (hleft : ∀ id ∈ zs.drop k, Tc id = T id ∧ (f' id).isSome) (hnil : ∀ id, id ∉ zs → Tc id = Nd.nil) (hkp : Keeps (fun b => b = Bt ∨ (W.heap.size ≤ b ∧ b < w2.heap.size)) w2 wr)
    (hc : Chg (fun b => b = m) wr W') (htab : TabF M R W' s m f3 T2 c) : SvInv J M0 M R T zs s m c Bt W w2 (k + 1) W' := by
  have hs := hc.size
  have hml := hMl m hmM
  have hnm : ¬ Md m := fun h => by
    rcases hMd m h with h | h
    · rcases hMc m h with h | h
      · exact (hM0 m h).2.2 hmM
      · omega
    · omega
  refine sv_next hx hz (Md := Md) (T3 := T2) (f3 := f3) (f' := f') (Tc := Tc) ?_ htab ?_ (fun id hid => ⟨(hoth id hid).1, fun h => hf3 id hid ((hoth id hid).2 h)⟩) hdone hleft hnil (fun b hb => ?_) ?_ (by omega)
  · have : grantsN x (T x) = done.map (fun e => (e.1, x, e.2)) := by unfold grantsN; rw [hserve]
    rw [this]
    exact hJ _ _ _ _ hj4 (hc.mono (fun b hb => by subst hb; exact ⟨.inr hmM, hnm⟩))
  · rw [hT2]; unfold servedN; rw [hserve]
  · rcases hMd b hb with h | h
    · exact (hMc b h).imp id (fun h => by omega)
    · exact .inr (by omega)
  · refine hkp.trans (fun b hb => hc.block b ?_ ?_)
    · rcases hb with h | h <;> omega
    · rintro rfl
      rcases hb with h | h
      · exact hBM (h ▸ hmM)
      · omega
theorem slice_tail {A : Type} (l : List A) (a : A) : ((a :: l).length : Int) - 1 = (l.length : Int) := by simp

set_option maxRecDepth 100000 in
set_option maxHeartbeats 4000000 in
theorem served_gives (n : Nat) (hn : 1 ≤ n) {M R : Nat → Prop} {w : World} {Bt s m : Nat} {f : Int → Option Value} {T : Tb} {c : Nat} (h : TabF M R w s m f T c) (hBt : w.cell? ⟨Bt, 0, none⟩ = some (.pointer (some ⟨s, 0, none⟩))) (hMR : ∀ k, R k → ¬ M k) (hBM : ¬ M Bt) (hOK : ∀ id, NdOk (T id)) (hc : c ≤ 1000000) :
    Gives Fence.wide n Try.prog 68 #[.pointer (some ⟨Bt, 0, none⟩)] (fun x : G3 => #[.agg #[iv x.1, iv x.2.1, iv x.2.2]]) (fun pre => ∃ ks, RiseKeys f ks ∧ pre <+: grantsT T ks) (fun xs => ∃ ks, RiseKeys f ks ∧ xs = grantsT T ks) (fun k => k = Bt ∨ R k) M
      (fun _ W' => ∃ f', TabF M R W' s m f' (serveT T) c) w := by
  intro l J Jx M0 W hW hWT hR hT hJ hJx hM hY h0
  have hc0 : W.cell? ⟨Bt, 0, none⟩ = some (.pointer (some ⟨s, 0, none⟩)) := (hW.cell (p := ⟨Bt, 0, none⟩) (.inl rfl)).trans hBt
  have ht := h.keep (w' := W) hWT (fun k hk => hW k (.inr hk))
  have hBtl := hR Bt (.inl rfl)
  have hms := hT s h.ms
  have hmm := hT m h.mm
  have c1 : W.cell? ⟨s, 0, none⟩ = some (.map (some m)) := by simp [World.cell?, ht.cell]
  have hfew : ∀ xs, KeysOk f xs → xs.length ≤ 1099511627776 := fun xs hx => by
    obtain ⟨ks, h1, h2⟩ := h.few
    have := keysOk_few h2 hx
    omega
  have b0 : Below W.heap.size W (W.alloc (.cells #[.map (some m)] 49)) := (Below.refl _ W).alloc (Nat.le_refl _) _
  have hso := sorted49_any (w := W.alloc (.cells #[.map (some m)] 49)) (B := W.heap.size) (m := m) (f := f) (by have := Go.heap_alloc_new W (.cells #[.map (some m)] 49); simp only [World.cell?, this]; rfl) (ht.map.keep (b0.block m hmm)) (by simp) hfew
  refine callsIn_of_wp Try.func68 rfl trivial ?_ rfl
  simp only [Try.ntmps68, List.size_toArray, List.length_cons, List.length_nil, Nat.reduceAdd, Nat.reduceSub, Array.replicate_succ, Array.replicate_zero, List.push_toArray, List.append_toArray, List.nil_append, List.cons_append]
  have HT := Lib.hid ht
  have HY := Lib.hid hY
  have HR := Lib.hid hR
  have HTl := Lib.hid hT
  have HM := Lib.hid hM
  have HJ := Lib.hid hJ
  have HJX := Lib.hid hJx
  have HSO := Lib.hid hso
  have HMR := Lib.hid hMR
  have HOK := Lib.hid hOK
  have HFEW := Lib.hid hfew
  clear hY hR hM hJ hJx hBt hW hWT hT h ht hso hMR hfew hOK
  gi_wp2_with (first
    | (refine ⟨trivial, ?_⟩; gi_at_call 69; refine (callsIn_wide.2 (keys49_any m W)).mono ?_; rintro e w' ⟨rfl, rfl⟩)
    | (refine ⟨trivial, ?_⟩; gi_at_call 40; refine (callsIn_wide.2 HSO.out).mono ?_; rintro e w2 ⟨⟨v, zs, rfl, hi2, hr2, hk2⟩, hb2⟩; have HB2 := Lib.hid (b0.trans (hb2.mono (by simp))); have HI2 := Lib.hid hi2; obtain ⟨az, cz, rfl, -, -, hxz⟩ := hi2; have HXZ := Lib.hid hxz; have HRK := Lib.hid (show RiseKeys f zs from ⟨hr2, hk2⟩); clear hxz hr2 hk2 hb2))
  have hs2 := HB2.out.size
  have hj2 : J [] M0 w2 := HJ.out _ _ _ _ h0 ⟨HB2.out.os, HB2.out.tape, HB2.out.output, HB2.out.size, fun k hk _ => HB2.out.block k hk⟩
  have htab2 : TabF M R w2 s m f T c := HT.out.keepNew HTl.out (fun k hk => HR.out k (.inr hk)) HB2.out
  have hcB2 := (HB2.out.cell (p := ⟨Bt, 0, none⟩) hBtl).trans hc0
  have HJ2 := Lib.hid hj2
  have HTAB2 := Lib.hid htab2
  have HCB2 := Lib.hid hcB2
  clear h0 hj2 htab2 hcB2 hc0 c1
  gi_loopw [14] (fun i wr => ∃ (k : Nat), k ≤ zs.length ∧ i = .int .i64 k ∧ SvInv J M0 M R T zs s m c Bt W w2 k wr) (fun i _ => zs.length - (intOf i).toNat)
  case atStart =>
    refine ⟨0, Nat.zero_le _, rfl, M0, f, T, HJ2.out, HTAB2.out, by simp, fun id hid => ⟨rfl, (HRK.out.2 id).1 (by simpa using hid)⟩, fun id hn => HT.out.none id ?_, fun b hb => .inl hb, Keeps.refl _ _, Nat.le_refl _⟩
    cases hf : f id with
    | none => rfl
    | some v => exact absurd ((HRK.out.2 id).2 (by rw [hf]; rfl)) hn
  case round =>
    obtain ⟨k, hk, rfl, Mc, f', Tc, hjs, htab, hdone, hleft, hnil, hMc, hkp, hsz⟩ := hrel
    have HJS := Lib.hid hjs
    have HTAB := Lib.hid htab
    have HDN := Lib.hid hdone
    have HLF := Lib.hid hleft
    have HNL := Lib.hid hnil
    have HMC := Lib.hid hMc
    have HKP := Lib.hid hkp
    clear hjs htab hdone hleft hnil hMc hkp
    by_cases hlt : k < zs.length
    · obtain ⟨x, hx⟩ : ∃ x, zs[k]? = some x := ⟨_, List.getElem?_eq_getElem hlt⟩
      have hxd : x ∈ zs.drop k := List.mem_of_getElem? (i := 0) (by rw [List.getElem?_drop]; simpa using hx)
      obtain ⟨hTx, hfx⟩ := HLF.out x hxd
      obtain ⟨v, hv⟩ := Option.isSome_iff_exists.1 hfx
      obtain ⟨hb, qv, rfl, hnM, hns, hnm, hnmap, hqin⟩ := HTAB.out.node x v hv
      obtain ⟨aq, cq, rfl, -, -, -⟩ := hqin
      rcases HXZ.out with h | ⟨gz, offz, rfl, hgz, hcz⟩
      · rw [h] at hlt; simp at hlt
      have dx : wr.cell? ⟨gz, offz + k, none⟩ = some (iv x) := (HKP.out.cell (p := ⟨gz, offz + k, none⟩) (.inr (by have := hgz.1; simp at this; exact ⟨by show W.heap.size ≤ gz; omega, hgz.2⟩))).trans (hcz k x hx)
      have dB : wr.cell? ⟨Bt, 0, none⟩ = some (.pointer (some ⟨s, 0, none⟩)) := (HKP.out.cell (p := ⟨Bt, 0, none⟩) (.inl rfl)).trans HCB2.out
      have ds : wr.cell? ⟨s, 0, none⟩ = some (.map (some m)) := by simp [World.cell?, HTAB.out.cell]
      have hlk := HTAB.out.map.look key3 Try.underlying49 Try.zero60 x false
      rw [hv] at hlk
      simp only [Bool.false_eq_true, if_false, Option.getD_some] at hlk
      have k0 : (0 : Int) ≤ (k : Int) := by omega
      have k1 : (k : Int) < (zs.length : Int) := by omega
      have HX := Lib.hid hx
      have HTX := Lib.hid hTx
      have HV := Lib.hid hv
      have hzl : zs.length ≤ 1099511627776 := HFEW.out zs ⟨HRK.out.1.imp (fun h => Int.ne_of_lt h), fun y hy => (HRK.out.2 y).1 hy⟩
      clear hx hTx hfx hv hcz hxd hnmap
      gi_wp2
      have hMw : ∀ b, M b → b < wr.heap.size := fun b hb => by have := HTl.out b hb; omega
      have hRw : ∀ b, R b → b < wr.heap.size ∧ ¬ M b := fun b hb => ⟨by have := HR.out b (.inr hb); omega, HMR.out b hb⟩
      have hMcw : ∀ b, Mc b → b < wr.heap.size := fun b hb => by rcases HMC.out b hb with h | h; have := (HM.out b h).1; omega; exact h.2
      obtain ⟨box, hbox⟩ : ∃ box, Obj.cells #[.map (some hb), .slice aq (Tc x).q.length cq] 60 = box := ⟨_, rfl⟩
      obtain ⟨W3, hW3⟩ : ∃ W3, wr.alloc box = W3 := ⟨_, rfl⟩
      have hb3 : Below wr.heap.size wr W3 := by rw [← hW3]; exact (Below.refl _ _).alloc (Nat.le_refl _) _
      have hs3 : W3.heap.size = wr.heap.size + 1 := by rw [← hW3]; simp
      have hbx3 : W3.heap[wr.heap.size]? = some (.cells #[.map (some hb), .slice aq (Tc x).q.length cq] 60) := by rw [← hW3, ← hbox]; exact Go.heap_alloc_new _ _
      have htab3 : TabF M R W3 s m f' Tc c := HTAB.out.keepNew hMw (fun b hb => (hRw b hb).1) hb3
      have hj3 : J (grantsT T (zs.take k)) Mc W3 := HJ.out _ _ _ _ HJS.out ⟨hb3.os, hb3.tape, hb3.output, hb3.size, fun b hb _ => hb3.block b hb⟩
      have hrise : NdOk ⟨(Tc x).hs, (Tc x).q⟩ := by rw [HTX.out]; exact HOK.out x
      have hkp3 : Keeps (fun b => b = Bt ∨ (W.heap.size ≤ b ∧ b < w2.heap.size)) w2 W3 := HKP.out.trans (fun b hb => hb3.block b (by rcases hb with h | h <;> omega))
      obtain ⟨b5, hb5⟩ : ∃ b5, wr.heap.size = b5 := ⟨_, rfl⟩
      rw [hbox, hW3, hb5]
      rw [hb5] at hMw hRw hMcw hs3 hbx3 hsz
      obtain ⟨WR, rfl⟩ : ∃ WR, WR = wr := ⟨wr, rfl⟩
      have HBX3 := Lib.hid hbx3
      have HTAB3 := Lib.hid htab3
      have HJ3 := Lib.hid hj3
      have HRISE := Lib.hid hrise
      have HKP3 := Lib.hid hkp3
      have HMW := Lib.hid hMw
      have HRW := Lib.hid hRw
      have HMCW := Lib.hid hMcw
      have HB5 := Lib.hid hb5
      clear hbx3 htab3 hj3 hrise hkp3 hb3 hMw hRw hMcw hbox hW3 hb5 dx dB ds hlk
      gi_loopg [6] (Tc x).q.length (fun g _ wx => ∃ (done hs1 q1 : List W2) (Md : Nat → Prop) (f2 : Int → Option Value) (T2 : Tb) (a1 : Option Addr) (c1 : Nat), q1.length = g ∧ serveQ (T x).hs (T x).q = (done ++ (serveQ hs1 q1).1, (serveQ hs1 q1).2) ∧
        J (grantsT T (zs.take k) ++ done.map (fun e => (e.1, x, e.2))) Md wx ∧ TabF M R wx s m f2 T2 c ∧ T2 x = ⟨hs1, q1⟩ ∧ f2 x = some (.agg #[.map (some hb), .slice a1 q1.length c1]) ∧ (∀ id, id ≠ x → T2 id = Tc id ∧ ((f' id).isSome → (f2 id).isSome)) ∧
        wx.heap[b5]? = some (.cells #[.map (some hb), .slice a1 q1.length c1] 60) ∧ (∀ b, Md b → Mc b ∨ (b5 + 1 ≤ b ∧ b < wx.heap.size)) ∧ Keeps (fun b => b = Bt ∨ (W.heap.size ≤ b ∧ b < w2.heap.size)) w2 wx ∧ b5 < wx.heap.size ∧ NdOk ⟨hs1, q1⟩)
      case atStart =>
        exact ⟨[], (Tc x).hs, (Tc x).q, Mc, f', Tc, aq, cq, rfl, by rw [HTX.out]; rfl, by simpa using HJ3.out, HTAB3.out, rfl, HV.out, fun id _ => ⟨rfl, fun h => h⟩, HBX3.out, fun b hb => .inl hb, HKP3.out, by omega, HRISE.out⟩
      case round =>
        obtain ⟨done, hs1, q1, Md, f2, T2, a1, c1, hql, hserve, hj4, htab4, hT2, hf2, hoth, hbx4, hMd, hkp4, hb5l, hrise4⟩ := hrel
        have e0 : wr.cell? ⟨b5, 0, none⟩ = some (.map (some hb)) := by simp [World.cell?, hbx4]
        have e1 : wr.cell? ⟨b5, 1, none⟩ = some (.slice a1 q1.length c1) := by simp [World.cell?, hbx4]
        have HSERVE := Lib.hid hserve
        have HQL := Lib.hid hql
        have HJ4 := Lib.hid hj4
        have HTAB4 := Lib.hid htab4
        have HT2 := Lib.hid hT2
        have HF2 := Lib.hid hf2
        have HOTH := Lib.hid hoth
        have HBX4 := Lib.hid hbx4
        have HMD := Lib.hid hMd
        have HKP4 := Lib.hid hkp4
        have HRISE4 := Lib.hid hrise4
        clear hql hserve hj4 htab4 hT2 hf2 hoth hbx4 hMd hkp4 hrise4
        cases q1 with
        | nil =>
          obtain ⟨N, hN1, hN0, hlen⟩ := (HTAB4.out.node x _ HF2.out).elim fun hb' h => h.elim fun qv' h => by
            obtain ⟨e3, -, -, -, hmp, -⟩ := h
            simp only [Value.agg.injEq, Array.mk.injEq, List.cons.injEq, Value.map.injEq, Option.some.injEq] at e3
            obtain ⟨rfl, -⟩ := e3
            rw [HT2.out] at hmp
            exact MapIs.len hmp Try.underlying57 (hF_keys (hs := hs1))
          have hs1000 := HRISE4.out.few_hs
          simp only [List.length_map] at hN1
          rw [hF_empty] at hN0
          have hlenq : ∀ ty n, (Builtin.len_ #[57] ty #[.map (some hb)]).run Try.prog (wr.drewN n) = .ok (.int .i64 N) (wr.drewN n) := fun ty n => hlen ty _ rfl
          have HS0 := HSERVE.out
          rw [serveQ_nil, List.append_nil] at HS0
          have HSV := Lib.hid HS0
          have HLQ := Lib.hid hlenq
          have HN0 := Lib.hid hN0
          have hN2 : N ≤ 1000 := by simp only at hs1000; omega
          have dB4 : wr.cell? ⟨Bt, 0, none⟩ = some (.pointer (some ⟨s, 0, none⟩)) := (HKP4.out.cell (p := ⟨Bt, 0, none⟩) (.inl rfl)).trans HCB2.out
          have ds4 : wr.cell? ⟨s, 0, none⟩ = some (.map (some m)) := by simp [World.cell?, HTAB4.out.cell]
          clear hlen hlenq HS0 hN0
          by_cases hh : hs1 = []
          · have hN : N = 0 := HN0.out.2 hh
            subst hN hh
            gi_wp2_with fail
            refine wpIn_wide.2 ?_
            go_quiet (fail)
            have hlenq := HLQ.out
            gi_wp2_with (refine wpListIn_mapDrop rfl _ _ 49 3 rfl key3 Try.underlying49 rfl (show MapIs iv _ m f2 from HTAB4.out.map) x rfl ?_; intro ob hmap; have HMP := Lib.hid hmap; clear hmap)
            go_roundw
            case rel =>
              have hch : Chg (fun b => b = m) wr (setBlock (wr.drewN nq) m ob) := (chg_drewN (M := fun b => b = m) wr nq).trans (chg_setBlock (M := fun b => b = m) (w := wr.drewN nq) (b := m) rfl ob)
              have htd := tab_del HTAB4.out (id := x) (by rw [HT2.out]; rfl) (fun b hb => by have := HMW.out b hb; omega) (fun b hb => ⟨by have := (HRW.out b hb).1; omega, (HRW.out b hb).2⟩) hch HMP.out
              refine ⟨k + 1, by omega, by simp, ?_⟩
              exact sv_fin HX.out HRK.out.1 HJ.out HM.out HTl.out hs2 hBM hBtl HT.out.mm HMC.out HMD.out HB5.out hsz hb5l HJ4.out HSV.out HT2.out HOTH.out (fun id hid h => by rw [upd_other _ _ hid]; exact h) HDN.out HLF.out HNL.out HKP4.out hch htd
            case measure => simp [intOf]; omega
          · have hN : N ≠ 0 := fun h => hh (HN0.out.1 h)
            gi_wp2_with fail
            refine wpIn_wide.2 ?_
            go_quiet (fail)
            have hlenq := HLQ.out
            gi_wp2
            have hch : Chg (fun b => b = m) wr (wr.drewN nq) := chg_drewN wr nq
            refine ⟨⟨k + 1, by omega, by simp, ?_⟩, by simp [intOf]; omega⟩
            exact sv_fin HX.out HRK.out.1 HJ.out HM.out HTl.out hs2 hBM hBtl HT.out.mm HMC.out HMD.out HB5.out hsz hb5l HJ4.out HSV.out HT2.out HOTH.out (fun id hid h => h) HDN.out HLF.out HNL.out HKP4.out hch (HTAB4.out.keep (fun _ _ => rfl) (fun _ _ => rfl))
        | cons e q2 =>
          obtain ⟨et, em⟩ := e
          obtain ⟨hbq, qvq, eqq, hbM, hbs, hbm, hmapq, hqq⟩ := HTAB4.out.node x _ HF2.out
          simp only [Value.agg.injEq, Array.mk.injEq, List.cons.injEq, Value.map.injEq, Option.some.injEq] at eqq
          obtain ⟨rfl, rfl, -⟩ := eqq
          rw [HT2.out] at hmapq hqq
          obtain ⟨aq1, cq1, eqq, hq1, hq2, hqc⟩ := hqq
          obtain ⟨rfl, -, rfl⟩ : a1 = aq1 ∧ True ∧ c1 = cq1 := by simpa using eqq
          rcases hqc with h | ⟨g, off, rfl, hgR, hqc⟩
          · cases h
          obtain ⟨d0, d1⟩ := hqc 0 (et, em) rfl
          simp only [Nat.zero_mul, Nat.add_zero] at d0 d1
          have HQC := Lib.hid hqc
          have HMAPQ := Lib.hid hmapq
          have hgl : g < wr.heap.size := by have := (HRW.out g hgR).1; omega
          have hbl : hb < wr.heap.size := by have := HMW.out hb hbM; omega
          obtain ⟨cb, hcb⟩ : ∃ cb, canB hs1 et em = cb := ⟨_, rfl⟩
          have HCB := Lib.hid hcb
          have hcan : ∀ w', Below wr.heap.size wr w' → Calls Try.prog 32 #[.agg #[.map (some hb), .slice (some ⟨g, off, none⟩) ((et, em) :: q2).length c1], iv et, iv em] w' fun e w'' => e = .returned (.bool cb) ∧ Below w'.heap.size w' w'' := fun w' h => by
            have := can_any (HMAPQ.out.keep (h.block hb hbl)) HRISE4.out.rise (.slice (some ⟨g, off, none⟩) ((et, em) :: q2).length c1) et em
            rw [HCB.out] at this; exact this
          have HCAN := Lib.hid hcan
          have hcur : Below wr.heap.size wr wr.drew := below_drewN (Below.refl _ wr) 1
          have hss : ∀ w', Below wr.heap.size wr w' → w'.cell? ⟨b5, 0, none⟩ = some (.map (some hb)) ∧ w'.cell? ⟨b5, 1, none⟩ = some (.slice (some ⟨g, off, none⟩) ((et, em) :: q2).length c1) ∧ w'.cell? ⟨g, off, none⟩ = some (iv et) ∧ w'.cell? ⟨g, off + 1, none⟩ = some (iv em) := fun w' h =>
            ⟨(h.cell (p := ⟨b5, 0, none⟩) hb5l).trans e0, (h.cell (p := ⟨b5, 1, none⟩) hb5l).trans e1, (h.cell (p := ⟨g, off, none⟩) hgl).trans d0, (h.cell (p := ⟨g, off + 1, none⟩) hgl).trans d1⟩
          have HSS := Lib.hid hss
          simp only [List.length_cons] at HSS HCAN e1 hq1
          have HE := Lib.hid (And.intro e0 (And.intro e1 (And.intro d0 d1)))
          have hp1 : (0 : Int) < ((q2.length + 1 : Nat) : Int) := by omega
          clear hqc hmapq hcb hcan hss e0 e1 d0 d1
          cases cb with
          | false =>
            gi_wp2_with fail
            refine wpIn_wide.2 ?_
            go_region_held3 (fun w' => w'.cell? ⟨b5, 0, none⟩ = some (.map (some hb)) ∧ w'.cell? ⟨b5, 1, none⟩ = some (.slice (some ⟨g, off, none⟩) (q2.length + 1) c1) ∧ w'.cell? ⟨g, off, none⟩ = some (iv et) ∧ w'.cell? ⟨g, off + 1, none⟩ = some (iv em))
              (exact HSS.out _ hcur)
              ((go_at_call 32; refine (HCAN.out _ hcur).mono ?_; rintro e w3 ⟨rfl, hb3⟩; have hcur := hcur.trans (hb3.mono hcur.size); clear hb3))
            have hs3 := hcur.size
            obtain ⟨f0, f1, -, -⟩ := HSS.out _ hcur
            obtain ⟨N, hN1, -, hlen⟩ := MapIs.len HMAPQ.out Try.underlying57 (hF_keys (hs := hs1))
            have hs1000 := HRISE4.out.few_hs
            have hq1000 := HRISE4.out.few_q
            simp only [List.length_map, List.length_cons] at hN1 hs1000 hq1000
            have hlenq : ∀ ty, (Builtin.len_ #[57] ty #[.map (some hb)]).run Try.prog w3 = .ok (.int .i64 N) w3 := fun ty => hlen ty _ (hcur.block hb hbl)
            have HS0 := HSERVE.out
            rw [serveQ_no HCB.out, List.append_nil] at HS0
            have HSV := Lib.hid HS0
            have HCUR := Lib.hid hcur
            have hN2 : N ≤ 1000 := by omega
            clear hlen HS0 hcur
            gi_wp2
            have hch : Chg (fun b => b = m) wr w3 := chg_new HCUR.out
            refine ⟨⟨k + 1, by omega, by simp, ?_⟩, by simp [intOf]; omega⟩
            exact sv_fin HX.out HRK.out.1 HJ.out HM.out HTl.out hs2 hBM hBtl HT.out.mm HMC.out HMD.out HB5.out hsz hb5l HJ4.out HSV.out HT2.out HOTH.out (fun id hid h => h) HDN.out HLF.out HNL.out HKP4.out hch (HTAB4.out.keepNew (fun b hb => by have := HMW.out b hb; omega) (fun b hb => by have := (HRW.out b hb).1; omega) HCUR.out)
          | true =>
            gi_wp2_with fail
            refine wpIn_wide.2 ?_
            go_region_held3 (fun w' => w'.cell? ⟨b5, 0, none⟩ = some (.map (some hb)) ∧ w'.cell? ⟨b5, 1, none⟩ = some (.slice (some ⟨g, off, none⟩) (q2.length + 1) c1) ∧ w'.cell? ⟨g, off, none⟩ = some (iv et) ∧ w'.cell? ⟨g, off + 1, none⟩ = some (iv em))
              (exact HSS.out _ hcur)
              ((go_at_call 32; refine (HCAN.out _ hcur).mono ?_; rintro e w3 ⟨rfl, hb3⟩; have hcur := hcur.trans (hb3.mono hcur.size); clear hb3))
            have hs3 := hcur.size
            obtain ⟨f0, f1, f2', f3'⟩ := HSS.out _ hcur
            have hbx3 := (hcur.block b5 hb5l).trans HBX4.out
            have z1 := free_block hbx3 1
            have HBX5 := Lib.hid hbx3
            have HCUR := Lib.hid hcur
            have hb53 : b5 < w3.heap.size := by omega
            have hnb : hb ≠ b5 := fun e => by have := HMW.out hb hbM; omega
            have q01 : (1 : Int) ≤ ((q2.length + 1 : Nat) : Int) := by omega
            have q02 : ((q2.length + 1 : Nat) : Int) ≤ (c1 : Int) := by omega
            clear hbx3 hcur
            have hsq : c1 = 1 ∨ (1 : Int) < (c1 : Int) := by omega
            have hq1' : q2.length + 1 ≤ c1 := hq1
            have HQ1 := Lib.hid hq1'
            have HQ2 := Lib.hid hq2
            clear hq1' hq1 hq2
            rcases hsq with hc1 | hc1
            case' inl =>
              subst hc1
              gi_wp2_with (refine wpListIn_mapStore rfl _ _ _ 57 rfl key3 Try.underlying57 rfl (HMAPQ.out.keep ((Go.heap_alloc_old _ _ (by simp [World.setCell]; omega)).trans ((heap_setCell_other _ _ _ _ hnb).trans (HCUR.out.block hb hbl)))) et rfl (iv em) rfl ?_; intro ob hmap; have HMP := Lib.hid hmap; clear hmap)
              obtain ⟨a2, c2, hsv, hpq⟩ : ∃ a2 c2, Value.slice (some ⟨g, off, none⟩) q2.length 0 = .slice a2 q2.length c2 ∧ PairsIn R wr (.slice a2 q2.length c2) q2 := by
                have := HQ1.out
                have h0 : q2.length = 0 := by omega
                exact ⟨some ⟨g, off, none⟩, 0, rfl, some ⟨g, off, none⟩, 0, rfl, by omega, by simp, .inl (List.eq_nil_of_length_eq_zero h0)⟩
              rw [hsv] at HMP ⊢
            case' inr =>
              gi_wp2_with (refine wpListIn_mapStore rfl _ _ _ 57 rfl key3 Try.underlying57 rfl (HMAPQ.out.keep ((Go.heap_alloc_old _ _ (by simp [World.setCell]; omega)).trans ((heap_setCell_other _ _ _ _ hnb).trans (HCUR.out.block hb hbl)))) et rfl (iv em) rfl ?_; intro ob hmap; have HMP := Lib.hid hmap; clear hmap)
              obtain ⟨a2, c2, hsv, hpq⟩ : ∃ a2 c2, Value.slice (some ⟨g, off + 2, none⟩) q2.length (c1 - 1) = .slice a2 q2.length c2 ∧ PairsIn R wr (.slice a2 q2.length c2) q2 := by
                have := HQ1.out
                have := HQ2.out
                refine ⟨some ⟨g, off + 2, none⟩, c1 - 1, rfl, some ⟨g, off + 2, none⟩, c1 - 1, rfl, by omega, by omega, .inr ⟨g, off + 2, rfl, hgR, fun j e he => ?_⟩⟩
                have := HQC.out (j + 1) e he
                rw [show off + (j + 1) * 2 = off + 2 + j * 2 by omega] at this
                exact this
              rw [hsv] at HMP ⊢
            all_goals
              have HPQ := Lib.hid hpq
              clear hsv hpq
              obtain ⟨Wa, hWa⟩ : ∃ Wa, w3.setCell ⟨b5, 1, none⟩ (.slice a2 q2.length c2) = Wa := ⟨_, rfl⟩
              obtain ⟨Wb, hWb⟩ : ∃ Wb, Wa.alloc (.cells #[.int .i64 et, .int .i64 em] 63) = Wb := ⟨_, rfl⟩
              obtain ⟨W5, hW5⟩ : ∃ W5, setBlock Wb hb ob = W5 := ⟨_, rfl⟩
              rw [hWa, hWb, hW5] at HMP ⊢
              have hca : Chg (fun b => b = b5) w3 Wa := by rw [← hWa]; exact chg_set (M := fun b => b = b5) rfl 1 _
              have hcb : Chg (fun b => b = b5) w3 Wb := by rw [← hWb]; exact hca.trans (chg_alloc _ _)
              have hc5 : Chg (fun b => b = hb) Wb W5 := by rw [← hW5]; exact chg_setBlock (M := fun b => b = hb) rfl ob
              have hbxa : Wa.heap[b5]? = some (.cells #[.map (some hb), .slice a2 q2.length c2] 60) := by rw [← hWa]; exact heap_setCell_same _ _ _ _ _ _ HBX5.out
              have hsa : Wa.heap.size = w3.heap.size := by rw [← hWa]; simp [World.setCell]
              have hsb : Wb.heap.size = w3.heap.size + 1 := by rw [← hWb, World.size_alloc, hsa]
              have hbxb : Wb.heap[w3.heap.size]? = some (.cells #[.int .i64 et, .int .i64 em] 63) := by rw [← hWb, ← hsa]; exact Go.heap_alloc_new _ _
              have hbx5 : W5.heap[b5]? = some (.cells #[.map (some hb), .slice a2 q2.length c2] 60) := (hc5.block b5 (by omega) (fun e => hnb e.symm)).trans (by rw [← hWb]; exact (Go.heap_alloc_old _ _ (by omega)).trans hbxa)
              have hbx6 : W5.heap[w3.heap.size]? = some (.cells #[.int .i64 et, .int .i64 em] 63) := (hc5.block _ (by omega) (by omega)).trans hbxb
              have hs5 : W5.heap.size = w3.heap.size + 1 := by rw [← hW5]; simpa using hsb
              have hcw : Chg (fun b => b = b5) wr Wb := (chg_new HCUR.out).trans hcb
              have htb := HTAB4.out.keepChg (fun b hb => by have := HMW.out b hb; omega) (fun b hb => by have := (HRW.out b hb).1; omega) hcw (fun b hb => by subst hb; exact ⟨fun h => by have := HMW.out _ h; omega, fun h => by have := (HRW.out _ h).1; omega⟩)
              have ht5 := tab_h htb HF2.out (hs' := putH hs1 et em) (fun b hb => by have := HMW.out b hb; omega) (fun b hb => ⟨by have := (HRW.out b hb).1; omega, (HRW.out b hb).2⟩) hc5 (by rw [hF_put]; exact HMP.out)
              have hmx : m < W5.heap.size := by have := HMW.out m HT.out.mm; omega
              obtain ⟨es6, ck6, hmu, hview⟩ := (ht5.map.keep (w' := W5.drew) rfl).store key3 Try.underlying49 x (.agg #[.map (some hb), .slice a2 q2.length c2])
              obtain ⟨W6, hW6⟩ : ∃ W6, setBlock W5.drew m (.map es6 ck6) = W6 := ⟨_, rfl⟩
              have hmap6 : MapIs iv W6 m (upd f2 x (some (.agg #[.map (some hb), .slice a2 q2.length c2]))) := by rw [← hW6]; exact ⟨es6, ck6, heap_setBlock_same (by simpa using hmx) _, hview⟩
              have hc6 : Chg (fun b => b = m) W5 W6 := by rw [← hW6]; exact (chg_drewN (M := fun j => j = m) W5 1).trans (chg_setBlock (M := fun j => j = m) (w := W5.drewN 1) (b := m) rfl _)
              have hcall : Chg (fun b => b = b5 ∨ b = hb ∨ b = m) wr W6 := ((hcw.mono (fun b h => .inl h)).trans (hc5.mono (fun b h => .inr (.inl h)))).trans (hc6.mono (fun b h => .inr (.inr h)))
              rw [hW6] at hmu
              have hs6 := hc6.size
              have hmb : m ≠ b5 := fun e => by have := HMW.out m HT.out.mm; omega
              have hp6 : PairsIn R W6 (.slice a2 q2.length c2) q2 := HPQ.out.keep (fun b h => hcall.block b (by have := (HRW.out b h).1; omega) (by
                rintro (e | e | e)
                · have := (HRW.out b h).1; omega
                · exact (HRW.out b h).2 (e ▸ hbM)
                · exact (HRW.out b h).2 (e ▸ HT.out.mm)))
              have ht6 := tab_q ht5 HF2.out (fun b hb => by have := HMW.out b hb; omega) (fun b hb => ⟨by have := (HRW.out b hb).1; omega, (HRW.out b hb).2⟩) hc6 hmap6 hp6 (fun _ h => h)
              have hMdd : ∀ b, Md b → ¬ M b ∧ ¬ R b ∧ b ≠ b5 ∧ b ≠ Bt ∧ ¬ (W.heap.size ≤ b ∧ b < w2.heap.size) := fun b h => by
                have k1 := HTl.out b
                have k2 := HR.out b
                rcases HMD.out b h with h | h
                · have k3 := HMCW.out b h
                  rcases HMC.out b h with h | h
                  · have := HM.out b h
                    exact ⟨this.2.2, fun hr => this.2.1 (.inr hr), by omega, fun e => this.2.1 (.inl e), by omega⟩
                  · exact ⟨fun hm => by have := k1 hm; omega, fun hr => by have := k2 (.inr hr); omega, by omega, by omega, by omega⟩
                · exact ⟨fun hm => by have := k1 hm; omega, fun hr => by have := k2 (.inr hr); omega, by omega, by omega, by omega⟩
              have hj6 := HJ.out _ _ _ W6 HJ4.out (hcall.mono (fun b h => by
                rcases h with h | h | h
                · exact ⟨.inl (by omega), fun hm => (hMdd b hm).2.2.1 h⟩
                · exact ⟨.inr (h ▸ hbM), fun hm => (hMdd b hm).1 (h ▸ hbM)⟩
                · exact ⟨.inr (h ▸ HT.out.mm), fun hm => (hMdd b hm).1 (h ▸ HT.out.mm)⟩))
              have hserve2 : serveQ (T x).hs (T x).q = ((done ++ [(et, em)]) ++ (serveQ (putH hs1 et em) q2).1, (serveQ (putH hs1 et em) q2).2) := by
                rw [HSERVE.out, serveQ_yes HCB.out]; simp
              have hpre : grantsT T (zs.take k) ++ done.map (fun e => (e.1, x, e.2)) ++ [(et, x, em)] <+: grantsT T zs := by
                rw [List.append_assoc]
                refine grantsT_step HX.out ?_
                unfold grantsN
                rw [hserve2]
                refine ⟨(serveQ (putH hs1 et em) q2).1.map (fun e => (e.1, x, e.2)), by simp⟩
              obtain ⟨fn, tmps, assign, body, hy, hRR⟩ := HY.out _ (et, x, em) Md W6 ⟨zs, HRK.out, hpre⟩ (by omega) hj6
              have y0 : W6.cell? ⟨w3.heap.size, 0, none⟩ = some (.int .i64 et) := by simp [World.cell?, (hc6.block w3.heap.size (by omega) (by have := HMW.out m HT.out.mm; omega)).trans hbx6]
              have y1 : W6.cell? ⟨w3.heap.size, 1, none⟩ = some (.int .i64 em) := by simp [World.cell?, (hc6.block w3.heap.size (by omega) (by have := HMW.out m HT.out.mm; omega)).trans hbx6]
              have hbx7 := (hc6.block b5 (by omega) (fun e => hmb e.symm)).trans hbx5
              have x0 : W5.cell? ⟨b5, 0, none⟩ = some (.map (some hb)) := by simp [World.cell?, hbx5]
              have x1 : W5.cell? ⟨b5, 1, none⟩ = some (.slice a2 q2.length c2) := by simp [World.cell?, hbx5]
              have xs : W5.cell? ⟨s, 0, none⟩ = some (.map (some m)) := by simp [World.cell?, ht5.cell]
              have xB : W5.cell? ⟨Bt, 0, none⟩ = some (.pointer (some ⟨s, 0, none⟩)) := by
                have k0 := (HKP4.out.cell (p := ⟨Bt, 0, none⟩) (.inl rfl)).trans HCB2.out
                have k1 : W5.heap[Bt]? = wr.heap[Bt]? := (hc5.block Bt (by omega) (fun e => hBM (e ▸ hbM))).trans (hcw.block Bt (by omega) (by omega))
                unfold World.cell? at k0 ⊢
                rw [k1]; exact k0
              have hkp6 : Keeps (fun b => b = Bt ∨ (W.heap.size ≤ b ∧ b < w2.heap.size)) w2 W6 := HKP4.out.trans (fun b hb' => hcall.block b (by rcases hb' with h | h <;> omega) (by
                have k1 := HTl.out hb hbM
                have k2 := HTl.out m HT.out.mm
                rintro (e | e | e)
                · rcases hb' with h | h <;> omega
                · rcases hb' with h | h
                  · exact hBM (by rw [← h, e]; exact hbM)
                  · omega
                · rcases hb' with h | h
                  · exact hBM (by rw [← h, e]; exact HT.out.mm)
                  · omega))
              have HKP6 := Lib.hid hkp6
              have HT6 := Lib.hid ht6
              have HMDD := Lib.hid hMdd
              have HSV2 := Lib.hid hserve2
              have HPRE := Lib.hid hpre
              have HBX7 := Lib.hid hbx7
              have HCALL := Lib.hid hcall
              have HW6 := Lib.hid hW6
              clear hWa hWb hW5 hW6 hca hcb hc5 hbxa hbxb hbx5 hbx6 hcw htb ht5 hview hmap6 hc6 hcall hp6 ht6 hkp6 hMdd hj6 hserve2 hpre hbx7 f0 f1 f2' f3' z1
              refine wpIn_wide.2 ?_
              go_region
              all_goals
                gi_wp2
                refine hRR.mono ?_
                rintro e W7 ⟨M', hch, hM', (⟨rfl, hJ7⟩ | ⟨rfl, hJ7⟩)⟩
                · have hs7 := hch.size
                  gi_wp2
                  go_roundg q2.length
                  case rel =>
                    refine ⟨done ++ [(et, em)], putH hs1 et em, q2, M', _, _, a2, c2, rfl, HSV2.out, by rw [List.map_append, ← List.append_assoc]; exact hJ7, HT6.out.keepChg (fun b h => by have := HMW.out b h; omega) (fun b h => by have := (HRW.out b h).1; omega) hch (fun b h => ⟨(HMDD.out b h).1, (HMDD.out b h).2.1⟩), by rw [setT_same, setT_same], upd_same _ _ _, fun id hid => ⟨?_, fun h => ?_⟩, (hch.block b5 (by omega) (fun h => (HMDD.out b5 h).2.2.1 rfl)).trans HBX7.out, fun b h => ?_, HKP6.out.trans (fun b h => hch.block b ?_ (fun h' => ?_)), by omega, ?_⟩
                    · rw [setT_other _ _ hid, setT_other _ _ hid]; exact (HOTH.out id hid).1
                    · rw [upd_other _ _ hid]; exact (HOTH.out id hid).2 h
                    · rcases hM' b h with h | h
                      · exact (HMD.out b h).imp id (fun h => by omega)
                      · exact .inr (by omega)
                    · rcases h with h | h <;> omega
                    · have := HMDD.out b h'
                      rcases h with h | h
                      · exact this.2.2.2.1 h
                      · exact this.2.2.2.2 h
                    · exact ⟨rise_put HRISE4.out.rise, okW_put HRISE4.out.held (HRISE4.out.wait (et, em) (List.mem_cons_self ..)), fun y hy => HRISE4.out.wait y (List.mem_cons_of_mem _ hy), (List.nodup_cons.1 HRISE4.out.once).2⟩
                  case measure => have := HQL.out; simp only [List.length_cons] at this; omega
                · gi_wp2
                  refine bodyPost_ret (results_none rfl _ _ _) rfl ?_
                  refine ⟨⟨_, rfl⟩, _, M', .inr ⟨⟨zs, HRK.out, HPRE.out⟩, hJ7⟩, fun j hj => ?_⟩
                  rcases hM' j hj with h | h
                  · rcases HMD.out j h with h | h
                    · exact (HMC.out j h).imp id (fun h => by omega)
                    · exact .inr (by omega)
                  · exact .inr (by omega)
    · obtain rfl : k = zs.length := by omega
      rw [List.take_length] at HJS HDN
      gi_wp2
      refine bodyPost_end (results_none rfl _ _ _) rfl ?_
      refine ⟨⟨_, rfl⟩, grantsT T zs, Mc, .inl ⟨⟨zs, HRK.out, rfl⟩, HJS.out, f', ?_⟩, fun j hj => (HMC.out j hj).imp id (fun h => by omega)⟩
      have e : Tc = serveT T := by
        funext id
        by_cases hid : id ∈ zs
        · exact HDN.out id hid
        · have h0 : T id = Nd.nil := HT.out.none id (by
            cases hf : f id with
            | none => rfl
            | some v => exact absurd ((HRK.out.2 id).2 (by rw [hf]; rfl)) hid)
          rw [HNL.out id hid]
          unfold serveT
          rw [h0, servedN_nil]
      rw [← e]; exact HTAB.out
end Go.Proofs.Ytamjopgpmeeheaa
