/-
  No cell of these rows narrows 'for every input' (looked for: loops, veiled, ifaces, maps, wideKeys, modest, calm, conditions, laid).
  DERIVED. THE GIVEN ROWS OF THIS SEAT. 3 by the template 'for every input the law returns true; each argument reads behind the call as it read before'; 0 by the template 'total and deterministic' (their statements: YtenllaeempeggaaTotals.lean).
  GIVEN WITH THE SEED: the statements are not yours to turn. If you find one false, say at which input.
  Laid BY PROGRAM, IN A SANDBOX (cutbox-rows.mjs): the forced cells as the released guide's own fill.sh prints them over the translation dcbc09c6e2c6a2e4… (all of the seat's roots in one cut). By AI agents, Wed Nov 11 2026. No macro, syntax, notation, axiom, sorry.
-/
import Derived.Test.YtenllaeempeggaaChecked
import GoSem.Claim
import GoSem.ClaimJoined
import GoSem.ClaimMapViews
import Derived.JoinedTies
import Derived.KernelRfl
namespace Go.Proofs.Ytenllaeempeggaa
/- THE CELL 'sum', in the pinned program and in every row, IS THE sha256 OF THE DUMP (.gsa) THAT YtenllaeempeggaaProg.lean LOADS. Nothing in Lean hashes anything: it is a label: what it is worth is what the hold of that sum in a sandbox is worth. -/
noncomputable def Try.pinned : Pinned := { name := "ytenllaeempeggaa", sum := "dcbc09c6e2c6a2e46869c6bd76a9b39e28547ab1b8f611ec63528b658a010186", checked := Try.checked }
namespace Rows
def none {H : Type} : Left H := { results := [], args := [] }

/-- 'breviarylaw20.ModeTables': WHATEVER THE INPUT: true; the input reads as it did. -/
def modeTablesSpec : ChangeSpec := { name := "modeTables", fn := fun _ => fun
  | [d1, d2] => { results := [.lit (.bool true)], args := [d1, d2] }
  | _ => none }
def modeTablesRow : OpenClaim := { program := "ytenllaeempeggaa", sum := "dcbc09c6e2c6a2e46869c6bd76a9b39e28547ab1b8f611ec63528b658a010186", func := "breviary/breviarylaw20.ModeTables", spec := "modeTables", unfollowed := true, recurses := true, apart := false }
def ModeTablesSaid : Prop := modeTablesRow.holds Try.pinned (OpenSpec.ofChange modeTablesSpec)

/-- ITS FALSE NEIGHBOUR: 'it returns false'. Refute it at one input. -/
def modeTablesWrong : ChangeSpec := { name := "modeTables", fn := fun _ => fun
  | [d1, d2] => { results := [.lit (.bool false)], args := [d1, d2] }
  | _ => none }
def ModeTablesWrongFalsely : Prop := modeTablesRow.holds Try.pinned (OpenSpec.ofChange modeTablesWrong)

/-- 'breviarylaw20.ModeLaws': WHATEVER THE INPUT: true; the input reads as it did. -/
def modeLawsSpec : ChangeSpec := { name := "modeLaws", fn := fun _ => fun
  | [d1, d2, d3] => { results := [.lit (.bool true)], args := [d1, d2, d3] }
  | _ => none }
def modeLawsRow : OpenClaim := { program := "ytenllaeempeggaa", sum := "dcbc09c6e2c6a2e46869c6bd76a9b39e28547ab1b8f611ec63528b658a010186", func := "breviary/breviarylaw20.ModeLaws", spec := "modeLaws", unfollowed := true, recurses := true, apart := false }
def ModeLawsSaid : Prop := modeLawsRow.holds Try.pinned (OpenSpec.ofChange modeLawsSpec)

/-- ITS FALSE NEIGHBOUR: 'it returns false'. Refute it at one input. -/
def modeLawsWrong : ChangeSpec := { name := "modeLaws", fn := fun _ => fun
  | [d1, d2, d3] => { results := [.lit (.bool false)], args := [d1, d2, d3] }
  | _ => none }
def ModeLawsWrongFalsely : Prop := modeLawsRow.holds Try.pinned (OpenSpec.ofChange modeLawsWrong)

/-- 'breviarylaw20.ModeDoes': WHATEVER THE INPUT: true; the input reads as it did. -/
def modeDoesSpec : ChangeSpec := { name := "modeDoes", fn := fun _ => fun
  | [d1, d2] => { results := [.lit (.bool true)], args := [d1, d2] }
  | _ => none }
def modeDoesRow : OpenClaim := { program := "ytenllaeempeggaa", sum := "dcbc09c6e2c6a2e46869c6bd76a9b39e28547ab1b8f611ec63528b658a010186", func := "breviary/breviarylaw20.ModeDoes", spec := "modeDoes", unfollowed := true, recurses := true, apart := false }
def ModeDoesSaid : Prop := modeDoesRow.holds Try.pinned (OpenSpec.ofChange modeDoesSpec)

/-- ITS FALSE NEIGHBOUR: 'it returns false'. Refute it at one input. -/
def modeDoesWrong : ChangeSpec := { name := "modeDoes", fn := fun _ => fun
  | [d1, d2] => { results := [.lit (.bool false)], args := [d1, d2] }
  | _ => none }
def ModeDoesWrongFalsely : Prop := modeDoesRow.holds Try.pinned (OpenSpec.ofChange modeDoesWrong)

/- THE SECOND FORM. 'bulk': how many values and letters a reading holds, each counted each time it is reached (what is shared counts as often as it is met; a slice's spare places count too). A statement '..UptoSaid' is the law's where the arguments, and the package variables that the reading takes, are together of bulk at most 1048576: NARROWER than '..Said'. Prove '..Said' where nothing that the law and all that it calls make is longer than what came in: it says more and counts as full. Else prove '..UptoSaid'. A law counts once. -/
mutual
def uptoBulk {H : Type} : DataW H → Nat
  | .lit (.string bytes) => bytes.length + 1
  | .lit _ => 1
  | .nil => 1
  | .ptr d => uptoBulk d + 1
  | .slice elems spare => uptoBulkAll elems + uptoBulkAll spare + 1
  | .agg parts => uptoBulkAll parts + 1
  | .iface _ d => uptoBulk d + 1
  | .map entries => uptoBulkEntries entries + 1
  | .held _ => 1
def uptoBulkAll {H : Type} : List (DataW H) → Nat
  | [] => 0
  | d :: r => uptoBulk d + uptoBulkAll r
def uptoBulkEntries {H : Type} : List (Lit × DataW H) → Nat
  | [] => 0
  | x :: r => uptoBulkEntry x + uptoBulkEntries r
def uptoBulkEntry {H : Type} : Lit × DataW H → Nat
  | (.string bytes, d) => bytes.length + uptoBulk d + 1
  | (_, d) => uptoBulk d + 1
 end
def uptoSmall : (H : Type) → List (DataW H) → Bool := fun _ ds => decide (uptoBulkAll ds ≤ 1048576)
def OpenSpec.upto (s : _root_.Go.ChangeSpec) : _root_.Go.OpenSpec := { _root_.Go.OpenSpec.ofChange s with cond := some uptoSmall }

/-- 'breviarylaw20.ModeTables', WHERE WHAT IT READS IS OF BULK AT MOST 1048576: true; the input reads as it did. -/
def modeTablesUptoRow : OpenClaim := { program := "ytenllaeempeggaa", sum := "dcbc09c6e2c6a2e46869c6bd76a9b39e28547ab1b8f611ec63528b658a010186", func := "breviary/breviarylaw20.ModeTables", spec := "modeTables", unfollowed := true, recurses := true, apart := false, narrowed := true }
def ModeTablesUptoSaid : Prop := modeTablesUptoRow.holds Try.pinned (OpenSpec.upto modeTablesSpec)

/-- 'breviarylaw20.ModeLaws', WHERE WHAT IT READS IS OF BULK AT MOST 1048576: true; the input reads as it did. -/
def modeLawsUptoRow : OpenClaim := { program := "ytenllaeempeggaa", sum := "dcbc09c6e2c6a2e46869c6bd76a9b39e28547ab1b8f611ec63528b658a010186", func := "breviary/breviarylaw20.ModeLaws", spec := "modeLaws", unfollowed := true, recurses := true, apart := false, narrowed := true }
def ModeLawsUptoSaid : Prop := modeLawsUptoRow.holds Try.pinned (OpenSpec.upto modeLawsSpec)

/-- 'breviarylaw20.ModeDoes', WHERE WHAT IT READS IS OF BULK AT MOST 1048576: true; the input reads as it did. -/
def modeDoesUptoRow : OpenClaim := { program := "ytenllaeempeggaa", sum := "dcbc09c6e2c6a2e46869c6bd76a9b39e28547ab1b8f611ec63528b658a010186", func := "breviary/breviarylaw20.ModeDoes", spec := "modeDoes", unfollowed := true, recurses := true, apart := false, narrowed := true }
def ModeDoesUptoSaid : Prop := modeDoesUptoRow.holds Try.pinned (OpenSpec.upto modeDoesSpec)

end Rows
end Go.Proofs.Ytenllaeempeggaa
