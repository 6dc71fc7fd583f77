/- How queues are served (plain). -/
import Derived.Test.YtamjopgpmeeheaaL1
namespace Go.Proofs.Ytamjopgpmeeheaa
set_option linter.unusedVariables false

/-- a grant: who, where, what -/
abbrev G3 := Int × Int × Int
def onQ (b : Bool) (x y : List W2 × List W2 × List W2) : List W2 × List W2 × List W2 := if b then x else y
/-- those who are served, who then holds, and who then waits -/
def serveQ : List W2 → List W2 → List W2 × List W2 × List W2
  | hs, [] => ([], hs, [])
  | hs, e :: q => onQ (canB hs e.1 e.2) (e :: (serveQ (putH hs e.1 e.2) q).1, (serveQ (putH hs e.1 e.2) q).2) ([], hs, e :: q)
theorem serveQ_nil (hs : List W2) : serveQ hs [] = ([], hs, []) := rfl
theorem serveQ_yes {hs q : List W2} {e : W2} (h : canB hs e.1 e.2 = true) : serveQ hs (e :: q) = (e :: (serveQ (putH hs e.1 e.2) q).1, (serveQ (putH hs e.1 e.2) q).2) := by
  rw [serveQ, h]; rfl
theorem serveQ_no {hs q : List W2} {e : W2} (h : canB hs e.1 e.2 = false) : serveQ hs (e :: q) = ([], hs, e :: q) := by
  rw [serveQ, h]; rfl
def servedN (n : Nd) : Nd := ⟨(serveQ n.hs n.q).2.1, (serveQ n.hs n.q).2.2⟩
def serveT (T : Tb) : Tb := fun id => servedN (T id)
def grantsN (id : Int) (n : Nd) : List G3 := (serveQ n.hs n.q).1.map (fun w => (w.1, id, w.2))
def grantsT (T : Tb) (ks : List Int) : List G3 := ks.flatMap (fun id => grantsN id (T id))
theorem servedN_nil : servedN Nd.nil = Nd.nil := rfl
theorem grantsT_snoc (T : Tb) (ks : List Int) (id : Int) : grantsT T (ks ++ [id]) = grantsT T ks ++ grantsN id (T id) := by simp [grantsT]
theorem grantsT_take_prefix (T : Tb) (ks : List Int) (k : Nat) : grantsT T (ks.take k) <+: grantsT T ks := by
  conv => rhs; rw [← List.take_append_drop k ks]
  unfold grantsT
  rw [List.flatMap_append]
  exact List.prefix_append _ _
theorem grantsT_step {T : Tb} {ks : List Int} {k : Nat} {id : Int} (h : ks[k]? = some id) {l : List G3} (hl : l <+: grantsN id (T id)) : grantsT T (ks.take k) ++ l <+: grantsT T ks := by
  have h1 : ks.take (k + 1) = ks.take k ++ [id] := by rw [List.take_add_one, h]; rfl
  have h2 := grantsT_take_prefix T ks (k + 1)
  rw [h1, grantsT_snoc] at h2
  exact ((List.prefix_append_right_inj _).2 hl).trans h2
end Go.Proofs.Ytamjopgpmeeheaa
