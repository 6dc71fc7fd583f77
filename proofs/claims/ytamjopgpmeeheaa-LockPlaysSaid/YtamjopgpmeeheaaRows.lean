/-
  No cell of these rows narrows 'for every input' (looked for: loops, veiled, ifaces, maps, wideKeys, modest, calm, conditions, laid).
  DERIVED. THE GIVEN ROWS OF THIS SEAT. 5 by the template 'for every input the law returns true; each argument reads behind the call as it read before'; 0 by the template 'total and deterministic' (their statements: YtamjopgpmeeheaaTotals.lean).
  GIVEN WITH THE SEED: the statements are not yours to turn. If you find one false, say at which input.
  Laid BY PROGRAM, IN A SANDBOX (cutbox-rows.mjs): the forced cells as the released guide's own fill.sh prints them over the translation 6dbb47b7d60131d0… (all of the seat's roots in one cut). By AI agents, Wed Nov 11 2026. No macro, syntax, notation, axiom, sorry.
-/
import Derived.Test.YtamjopgpmeeheaaChecked
import GoSem.Claim
import GoSem.ClaimJoined
import GoSem.ClaimMapViews
import Derived.JoinedTies
import Derived.KernelRfl
namespace Go.Proofs.Ytamjopgpmeeheaa
/- THE CELL 'sum', in the pinned program and in every row, IS THE sha256 OF THE DUMP (.gsa) THAT YtamjopgpmeeheaaProg.lean LOADS. Nothing in Lean hashes anything: it is a label: what it is worth is what the hold of that sum in a sandbox is worth. -/
noncomputable def Try.pinned : Pinned := { name := "ytamjopgpmeeheaa", sum := "6dbb47b7d60131d05fe785a3b2bf77df587c529cffdc073cdba8fa70f4e1cea4", checked := Try.checked }
namespace Rows
def none {H : Type} : Left H := { results := [], args := [] }

/-- 'breviarylaw21.LockFair': WHATEVER THE INPUT: true; the input reads as it did. -/
def lockFairSpec : ChangeSpec := { name := "lockFair", fn := fun _ => fun
  | [d1, d2] => { results := [.lit (.bool true)], args := [d1, d2] }
  | _ => none }
def lockFairRow : OpenClaim := { program := "ytamjopgpmeeheaa", sum := "6dbb47b7d60131d05fe785a3b2bf77df587c529cffdc073cdba8fa70f4e1cea4", func := "breviary/breviarylaw21.LockFair", spec := "lockFair", inPlace := ["slices.overlaps[breviary/lock.want]"], unfollowed := true, recurses := true, apart := false }
def LockFairSaid : Prop := lockFairRow.holds Try.pinned (OpenSpec.ofChange lockFairSpec)

/-- ITS FALSE NEIGHBOUR: 'it returns false'. Refute it at one input. -/
def lockFairWrong : ChangeSpec := { name := "lockFair", fn := fun _ => fun
  | [d1, d2] => { results := [.lit (.bool false)], args := [d1, d2] }
  | _ => none }
def LockFairWrongFalsely : Prop := lockFairRow.holds Try.pinned (OpenSpec.ofChange lockFairWrong)

/-- 'breviarylaw21.LockFrees': WHATEVER THE INPUT: true; the input reads as it did. -/
def lockFreesSpec : ChangeSpec := { name := "lockFrees", fn := fun _ => fun
  | [d] => { results := [.lit (.bool true)], args := [d] }
  | _ => none }
def lockFreesRow : OpenClaim := { program := "ytamjopgpmeeheaa", sum := "6dbb47b7d60131d05fe785a3b2bf77df587c529cffdc073cdba8fa70f4e1cea4", func := "breviary/breviarylaw21.LockFrees", spec := "lockFrees", inPlace := ["slices.overlaps[breviary/lock.want]"], unfollowed := true, recurses := true, apart := false }
def LockFreesSaid : Prop := lockFreesRow.holds Try.pinned (OpenSpec.ofChange lockFreesSpec)

/-- ITS FALSE NEIGHBOUR: 'it returns false'. Refute it at one input. -/
def lockFreesWrong : ChangeSpec := { name := "lockFrees", fn := fun _ => fun
  | [d] => { results := [.lit (.bool false)], args := [d] }
  | _ => none }
def LockFreesWrongFalsely : Prop := lockFreesRow.holds Try.pinned (OpenSpec.ofChange lockFreesWrong)

/-- 'breviarylaw21.LockSafe': WHATEVER THE INPUT: true; the input reads as it did. -/
def lockSafeSpec : ChangeSpec := { name := "lockSafe", fn := fun _ => fun
  | [d] => { results := [.lit (.bool true)], args := [d] }
  | _ => none }
def lockSafeRow : OpenClaim := { program := "ytamjopgpmeeheaa", sum := "6dbb47b7d60131d05fe785a3b2bf77df587c529cffdc073cdba8fa70f4e1cea4", func := "breviary/breviarylaw21.LockSafe", spec := "lockSafe", inPlace := ["slices.overlaps[breviary/lock.want]"], unfollowed := true, recurses := true, apart := false }
def LockSafeSaid : Prop := lockSafeRow.holds Try.pinned (OpenSpec.ofChange lockSafeSpec)

/-- ITS FALSE NEIGHBOUR: 'it returns false'. Refute it at one input. -/
def lockSafeWrong : ChangeSpec := { name := "lockSafe", fn := fun _ => fun
  | [d] => { results := [.lit (.bool false)], args := [d] }
  | _ => none }
def LockSafeWrongFalsely : Prop := lockSafeRow.holds Try.pinned (OpenSpec.ofChange lockSafeWrong)

/-- 'breviarylaw21.LockPlays': WHATEVER THE INPUT: true; the input reads as it did. -/
def lockPlaysSpec : ChangeSpec := { name := "lockPlays", fn := fun _ => fun
  | [d] => { results := [.lit (.bool true)], args := [d] }
  | _ => none }
def lockPlaysRow : OpenClaim := { program := "ytamjopgpmeeheaa", sum := "6dbb47b7d60131d05fe785a3b2bf77df587c529cffdc073cdba8fa70f4e1cea4", func := "breviary/breviarylaw21.LockPlays", spec := "lockPlays", inPlace := ["slices.overlaps[breviary/lock.want]"], unfollowed := true, recurses := true, apart := false }
def LockPlaysSaid : Prop := lockPlaysRow.holds Try.pinned (OpenSpec.ofChange lockPlaysSpec)

/-- ITS FALSE NEIGHBOUR: 'it returns false'. Refute it at one input. -/
def lockPlaysWrong : ChangeSpec := { name := "lockPlays", fn := fun _ => fun
  | [d] => { results := [.lit (.bool false)], args := [d] }
  | _ => none }
def LockPlaysWrongFalsely : Prop := lockPlaysRow.holds Try.pinned (OpenSpec.ofChange lockPlaysWrong)

/-- 'breviarylaw21.LockNone': WHATEVER THE INPUT: true; the input reads as it did. -/
def lockNoneSpec : ChangeSpec := { name := "lockNone", fn := fun _ => fun
  | [d] => { results := [.lit (.bool true)], args := [d] }
  | _ => none }
def lockNoneRow : OpenClaim := { program := "ytamjopgpmeeheaa", sum := "6dbb47b7d60131d05fe785a3b2bf77df587c529cffdc073cdba8fa70f4e1cea4", func := "breviary/breviarylaw21.LockNone", spec := "lockNone", inPlace := ["slices.overlaps[breviary/lock.want]"], unfollowed := true, recurses := true, apart := false }
def LockNoneSaid : Prop := lockNoneRow.holds Try.pinned (OpenSpec.ofChange lockNoneSpec)

/-- ITS FALSE NEIGHBOUR: 'it returns false'. Refute it at one input. -/
def lockNoneWrong : ChangeSpec := { name := "lockNone", fn := fun _ => fun
  | [d] => { results := [.lit (.bool false)], args := [d] }
  | _ => none }
def LockNoneWrongFalsely : Prop := lockNoneRow.holds Try.pinned (OpenSpec.ofChange lockNoneWrong)

/- THE SECOND FORM. 'bulk': how many values and letters a reading holds, each counted each time it is reached (what is shared counts as often as it is met; a slice's spare places count too). A statement '..UptoSaid' is the law's where the arguments, and the package variables that the reading takes, are together of bulk at most 1048576: NARROWER than '..Said'. Prove '..Said' where nothing that the law and all that it calls make is longer than what came in: it says more and counts as full. Else prove '..UptoSaid'. A law counts once. -/
mutual
def uptoBulk {H : Type} : DataW H → Nat
  | .lit (.string bytes) => bytes.length + 1
  | .lit _ => 1
  | .nil => 1
  | .ptr d => uptoBulk d + 1
  | .slice elems spare => uptoBulkAll elems + uptoBulkAll spare + 1
  | .agg parts => uptoBulkAll parts + 1
  | .iface _ d => uptoBulk d + 1
  | .map entries => uptoBulkEntries entries + 1
  | .held _ => 1
def uptoBulkAll {H : Type} : List (DataW H) → Nat
  | [] => 0
  | d :: r => uptoBulk d + uptoBulkAll r
def uptoBulkEntries {H : Type} : List (Lit × DataW H) → Nat
  | [] => 0
  | x :: r => uptoBulkEntry x + uptoBulkEntries r
def uptoBulkEntry {H : Type} : Lit × DataW H → Nat
  | (.string bytes, d) => bytes.length + uptoBulk d + 1
  | (_, d) => uptoBulk d + 1
 end
def uptoSmall : (H : Type) → List (DataW H) → Bool := fun _ ds => decide (uptoBulkAll ds ≤ 1048576)
def OpenSpec.upto (s : _root_.Go.ChangeSpec) : _root_.Go.OpenSpec := { _root_.Go.OpenSpec.ofChange s with cond := some uptoSmall }

/-- 'breviarylaw21.LockFair', WHERE WHAT IT READS IS OF BULK AT MOST 1048576: true; the input reads as it did. -/
def lockFairUptoRow : OpenClaim := { program := "ytamjopgpmeeheaa", sum := "6dbb47b7d60131d05fe785a3b2bf77df587c529cffdc073cdba8fa70f4e1cea4", func := "breviary/breviarylaw21.LockFair", spec := "lockFair", inPlace := ["slices.overlaps[breviary/lock.want]"], unfollowed := true, recurses := true, apart := false, narrowed := true }
def LockFairUptoSaid : Prop := lockFairUptoRow.holds Try.pinned (OpenSpec.upto lockFairSpec)

/-- 'breviarylaw21.LockFrees', WHERE WHAT IT READS IS OF BULK AT MOST 1048576: true; the input reads as it did. -/
def lockFreesUptoRow : OpenClaim := { program := "ytamjopgpmeeheaa", sum := "6dbb47b7d60131d05fe785a3b2bf77df587c529cffdc073cdba8fa70f4e1cea4", func := "breviary/breviarylaw21.LockFrees", spec := "lockFrees", inPlace := ["slices.overlaps[breviary/lock.want]"], unfollowed := true, recurses := true, apart := false, narrowed := true }
def LockFreesUptoSaid : Prop := lockFreesUptoRow.holds Try.pinned (OpenSpec.upto lockFreesSpec)

/-- 'breviarylaw21.LockSafe', WHERE WHAT IT READS IS OF BULK AT MOST 1048576: true; the input reads as it did. -/
def lockSafeUptoRow : OpenClaim := { program := "ytamjopgpmeeheaa", sum := "6dbb47b7d60131d05fe785a3b2bf77df587c529cffdc073cdba8fa70f4e1cea4", func := "breviary/breviarylaw21.LockSafe", spec := "lockSafe", inPlace := ["slices.overlaps[breviary/lock.want]"], unfollowed := true, recurses := true, apart := false, narrowed := true }
def LockSafeUptoSaid : Prop := lockSafeUptoRow.holds Try.pinned (OpenSpec.upto lockSafeSpec)

/-- 'breviarylaw21.LockPlays', WHERE WHAT IT READS IS OF BULK AT MOST 1048576: true; the input reads as it did. -/
def lockPlaysUptoRow : OpenClaim := { program := "ytamjopgpmeeheaa", sum := "6dbb47b7d60131d05fe785a3b2bf77df587c529cffdc073cdba8fa70f4e1cea4", func := "breviary/breviarylaw21.LockPlays", spec := "lockPlays", inPlace := ["slices.overlaps[breviary/lock.want]"], unfollowed := true, recurses := true, apart := false, narrowed := true }
def LockPlaysUptoSaid : Prop := lockPlaysUptoRow.holds Try.pinned (OpenSpec.upto lockPlaysSpec)

/-- 'breviarylaw21.LockNone', WHERE WHAT IT READS IS OF BULK AT MOST 1048576: true; the input reads as it did. -/
def lockNoneUptoRow : OpenClaim := { program := "ytamjopgpmeeheaa", sum := "6dbb47b7d60131d05fe785a3b2bf77df587c529cffdc073cdba8fa70f4e1cea4", func := "breviary/breviarylaw21.LockNone", spec := "lockNone", inPlace := ["slices.overlaps[breviary/lock.want]"], unfollowed := true, recurses := true, apart := false, narrowed := true }
def LockNoneUptoSaid : Prop := lockNoneUptoRow.holds Try.pinned (OpenSpec.upto lockNoneSpec)

end Rows
end Go.Proofs.Ytamjopgpmeeheaa
