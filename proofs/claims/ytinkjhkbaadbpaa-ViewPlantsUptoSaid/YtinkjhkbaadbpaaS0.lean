/- store.behind, sort.Search over it; what the rows of a store's versions hold. -/
import Derived.Test.YtinkjhkbaadbpaaR5
namespace Go.Proofs.Ytinkjhkbaadbpaa
open Go.RowKit

/-- closure of store.behind: is version k's time above? -/
theorem behind1_any (k : Nat) (ts : Nat → Nat) (T : Nat) (n cap g off B1 B2 : Nat) (w : World) (hk : k < n)
    (c1 : w.cell? ⟨B1, 0, none⟩ = some (.slice (some ⟨g, off, none⟩) n cap)) (c2 : w.cell? ⟨B2, 0, none⟩ = some (.int .u64 T))
    (hc : w.cell? ⟨g, off + k * 8, none⟩ = some (.int .u64 (ts k))) :
    Calls Try.prog 128 #[.int .i64 k, .pointer (some ⟨B1, 0, none⟩), .pointer (some ⟨B2, 0, none⟩)] w fun e w' => e = .returned (.bool (decide (T < ts k))) ∧ ∃ m, w' = w.drewN m := by
  have h0 : (0 : Int) ≤ (k : Int) := by omega
  have h1 : (k : Int) < (n : Int) := by omega
  go_enter Try.func128, Try.ntmps128
  go_wp2_with fail
  go_quiet (fail)
  go_wp2
  go_ret
  exact ⟨rfl, _, rfl⟩

theorem drewN_drewN (w : World) (a b : Nat) : (w.drewN a).drewN b = w.drewN (a + b) := by simp [World.drewN, Nat.add_assoc]
theorem search_any (ts : Nat → Nat) (T : Nat) (n cap g off B1 B2 : Nat) (w : World) (hn : n ≤ 4611686018427387904)
    (hmono : ∀ i j, i ≤ j → j < n → T < ts i → T < ts j)
    (c1 : w.cell? ⟨B1, 0, none⟩ = some (.slice (some ⟨g, off, none⟩) n cap)) (c2 : w.cell? ⟨B2, 0, none⟩ = some (.int .u64 T))
    (hc : ∀ k, k < n → w.cell? ⟨g, off + k * 8, none⟩ = some (.int .u64 (ts k))) :
    Calls Try.prog 127 #[.int .i64 n, .func (.func 128) #[] #[.pointer (some ⟨B1, 0, none⟩), .pointer (some ⟨B2, 0, none⟩)]] w fun e w' =>
      (∃ m : Nat, m ≤ n ∧ e = .returned (.int .i64 m) ∧ (∀ k, k < m → ts k ≤ T) ∧ ∀ k, m ≤ k → k < n → T < ts k) ∧ ∃ d, w' = w.drewN d := by
  have HM := Lib.hid hmono
  have HC := Lib.hid hc
  clear hmono hc
  go_enter Try.func127, Try.ntmps127
  go_wp2
  go_loopw [5, 6] (fun a b wr => ∃ i j d : Nat, i ≤ j ∧ j ≤ n ∧ a = .int .i64 i ∧ b = .int .i64 j ∧ (∀ k, k < i → ts k ≤ T) ∧ (∀ k, j ≤ k → k < n → T < ts k) ∧ wr = w.drewN d) (fun a b _ => (intOf b).toNat - (intOf a).toNat)
  case atStart => exact ⟨0, n, 0, by omega, by omega, rfl, rfl, fun k hk => by omega, fun k h1 h2 => by omega, rfl⟩
  case round =>
    obtain ⟨i, j, d, hij, hj, rfl, rfl, hlo, hhi, rfl⟩ := hrel
    have HL := Lib.hid hlo
    have HH := Lib.hid hhi
    clear hlo hhi
    by_cases hlt : i < j
    · go_wp2_with fail
      obtain ⟨m, hm1, hm2, hm3⟩ : ∃ m : Nat, ((i : Int) + (j : Int)) / 2 = (m : Int) ∧ i ≤ m ∧ m < j := ⟨(i + j) / 2, by omega, by omega, by omega⟩
      rw [hm1]
      clear hm1
      refine (behind1_any m ts T n cap g off B1 B2 (w.drewN d) (by omega) c1 c2 (HC.out m (by omega))).mono ?_
      rintro e w' ⟨rfl, d', rfl⟩
      by_cases hp : T < ts m
      · have hgo := Lib.hid (fun k (h1 : m ≤ k) (h2 : k < n) => HM.out m k h1 h2 hp)
        go_wp2
        go_roundw
        case rel => exact ⟨i, m, d + d', by omega, by omega, rfl, rfl, HL.out, hgo.out, rfl⟩
        case measure => simp [intOf]; omega
      · have hgo : Hid (∀ k, k < m + 1 → ts k ≤ T) := by
          intro k hk
          by_cases h : T < ts k
          · exact absurd (HM.out k m (by omega) (by omega) h) hp
          · omega
        go_wp2
        go_roundw
        case rel => exact ⟨m + 1, j, d + d', by omega, by omega, by go_num, rfl, hgo.out, HH.out, rfl⟩
        case measure => simp [intOf]; omega
    · obtain rfl : i = j := by omega
      go_wp2
      go_ret
      exact ⟨⟨i, hj, rfl, HL.out, HH.out⟩, d, rfl⟩

/-- store.behind: how many versions are not above T. -/
theorem behind_any (ts : Nat → Nat) (T : Nat) (n cap g off : Nat) (w : World) (hn : n ≤ 4611686018427387904)
    (hmono : ∀ i j, i ≤ j → j < n → T < ts i → T < ts j) (hg : g < w.heap.size)
    (hc : ∀ k, k < n → w.cell? ⟨g, off + k * 8, none⟩ = some (.int .u64 (ts k))) :
    Calls Try.prog 95 #[.slice (some ⟨g, off, none⟩) n cap, .int .u64 T] w fun e w' =>
      (∃ m : Nat, m ≤ n ∧ e = .returned (.int .i64 m) ∧ (∀ k, k < m → ts k ≤ T) ∧ ∀ k, m ≤ k → k < n → T < ts k) ∧ Below w.heap.size w w' := by
  have hmf : ∀ (fn : Fn) (first cap : Array Value) (w : World), (Instr.makeFunc fn first cap).run Try.prog w = .ok (.func fn first cap) w := fun _ _ _ _ => rfl
  have hb : Below w.heap.size w ((w.alloc (.cells #[.slice (some ⟨g, off, none⟩) n cap] 79)).alloc (.cells #[.int .u64 T] 66)) := ((Below.refl _ _).alloc (Nat.le_refl _) _).alloc (by simp) _
  have hS := search_any ts T n cap g off w.heap.size (w.heap.size + 1) ((w.alloc (.cells #[.slice (some ⟨g, off, none⟩) n cap] 79)).alloc (.cells #[.int .u64 T] 66)) hn hmono (by simp [go_sem]) (by simp [go_sem])
    (fun k hk => (hb.cell (p := ⟨g, off + k * 8, none⟩) hg).trans (hc k hk))
  have HS := Lib.hid hS
  clear hS hmono hc
  go_enter Try.func95, Try.ntmps95
  go_wp2_with (go_at_call 127; refine HS.out.mono ?_; rintro e w' ⟨⟨m, hm, rfl, h1, h2⟩, d, rfl⟩)
  go_ret
  exact ⟨⟨m, hm, rfl, h1, h2⟩, below_drewN hb _⟩

theorem behind_nil (T : Nat) (w : World) :
    Calls Try.prog 95 #[.slice none 0 0, .int .u64 T] w fun e w' => e = .returned (.int .i64 0) ∧ Below w.heap.size w w' := by
  have hmf : ∀ (fn : Fn) (first cap : Array Value) (w : World), (Instr.makeFunc fn first cap).run Try.prog w = .ok (.func fn first cap) w := fun _ _ _ _ => rfl
  have hb : Below w.heap.size w ((w.alloc (.cells #[.slice none 0 0] 79)).alloc (.cells #[.int .u64 T] 66)) := ((Below.refl _ _).alloc (Nat.le_refl _) _).alloc (by simp) _
  have hS : Calls Try.prog 127 #[.int .i64 0, .func (.func 128) #[] #[.pointer (some ⟨w.heap.size, 0, none⟩), .pointer (some ⟨w.heap.size + 1, 0, none⟩)]] ((w.alloc (.cells #[.slice none 0 0] 79)).alloc (.cells #[.int .u64 T] 66)) fun e w' =>
      e = .returned (.int .i64 0) ∧ (w.alloc (.cells #[.slice none 0 0] 79)).alloc (.cells #[.int .u64 T] 66) = w' := by
    generalize ((w.alloc (.cells #[.slice none 0 0] 79)).alloc (.cells #[.int .u64 T] 66)) = W
    go_enter Try.func127, Try.ntmps127
    go_wp2
    refine wp_loop_rounds 1 ?_
    rw [rounds_succ]
    go_wp2
    go_ret
    exact ⟨rfl, rfl⟩
  have HS := Lib.hid hS
  clear hS
  go_enter Try.func95, Try.ntmps95
  go_wp2_with (go_at_call 127; refine HS.out.mono ?_; rintro e w' ⟨rfl, rfl⟩)
  go_ret
  exact ⟨rfl, hb⟩

/-! ### what a store holds -/
structure Ver where
  time : Nat
  r : Rec
abbrev verL (v : Ver) (kv av : Value) : List Value := .int .u64 v.time :: recL v.r kv av

/-- The cells xs are the versions vs, whose lists lie in blocks of D. -/
def VersAre (D : Nat → Prop) (w : World) : List Ver → List Value → Prop
  | [], xs => xs = []
  | v :: vs, xs => ∃ kv av rest, xs = verL v kv av ++ rest ∧ IntsIn D w kv v.r.kids ∧ IntsIn D w av v.r.attrs ∧ VersAre D w vs rest
theorem VersAre.keep {D D' : Nat → Prop} {w w' : World} (hk : Keeps D w w') (hD : ∀ k, D k → D' k) : ∀ {vs : List Ver} {xs : List Value}, VersAre D w vs xs → VersAre D' w' vs xs
  | [], _, h => h
  | _ :: _, _, ⟨kv, av, rest, e, h1, h2, h3⟩ => ⟨kv, av, rest, e, (h1.keep hk).mono hD, (h2.keep hk).mono hD, VersAre.keep hk hD h3⟩
theorem VersAre.length {D : Nat → Prop} {w : World} : ∀ {vs : List Ver} {xs : List Value}, VersAre D w vs xs → xs.length = vs.length * 8
  | [], _, h => by cases h; rfl
  | _ :: vs, _, ⟨kv, av, rest, e, h1, h2, h3⟩ => by have := VersAre.length h3; subst e; simp [this]; omega
theorem VersAre.snoc {D : Nat → Prop} {w : World} {v : Ver} {kv av : Value} (h1 : IntsIn D w kv v.r.kids) (h2 : IntsIn D w av v.r.attrs) : ∀ {vs : List Ver} {xs : List Value}, VersAre D w vs xs → VersAre D w (vs ++ [v]) (xs ++ verL v kv av)
  | [], _, h => by cases h; exact ⟨kv, av, [], by simp, h1, h2, rfl⟩
  | _ :: _, _, ⟨kv', av', rest, e, h1', h2', h3'⟩ => ⟨kv', av', rest ++ verL v kv av, by rw [e, List.append_assoc], h1', h2', VersAre.snoc h1 h2 h3'⟩
theorem VersAre.drop {D : Nat → Prop} {w : World} : ∀ (n : Nat) {vs : List Ver} {xs : List Value}, VersAre D w vs xs → VersAre D w (vs.drop n) (xs.drop (n * 8))
  | 0, _, _, h => by simpa using h
  | n + 1, [], _, h => by cases h; simp [VersAre]
  | n + 1, _ :: _, _, ⟨kv, av, rest, e, _, _, h3⟩ => by
    have := VersAre.drop n h3
    subst e
    have e : (n + 1) * 8 = n * 8 + 8 := by omega
    simpa [e, List.drop_append] using this
theorem VersAre.get {D : Nat → Prop} {w : World} : ∀ {vs : List Ver} {xs : List Value}, VersAre D w vs xs → ∀ (k : Nat) (v : Ver), vs[k]? = some v →
    ∃ kv av, IntsIn D w kv v.r.kids ∧ IntsIn D w av v.r.attrs ∧ ∀ c, c < 8 → xs[k * 8 + c]? = (verL v kv av)[c]?
  | [], _, _, k, v, hv => by simp at hv
  | v0 :: vs, _, ⟨kv, av, rest, e, h1, h2, h3⟩, 0, v, hv => by
    simp at hv; subst hv; subst e
    exact ⟨kv, av, h1, h2, fun c hc => by rw [List.getElem?_append_left (by simpa using hc)]; simp⟩
  | v0 :: vs, _, ⟨kv, av, rest, e, h1, h2, h3⟩, k + 1, v, hv => by
    obtain ⟨kv', av', i1, i2, hc⟩ := VersAre.get h3 k v (by simpa using hv)
    subst e
    refine ⟨kv', av', i1, i2, fun c hcc => ?_⟩
    rw [← hc c hcc]
    have e : (k + 1) * 8 + c = (k * 8 + c) + 8 := by omega
    rw [e]
    simp
end Go.Proofs.Ytinkjhkbaadbpaa
