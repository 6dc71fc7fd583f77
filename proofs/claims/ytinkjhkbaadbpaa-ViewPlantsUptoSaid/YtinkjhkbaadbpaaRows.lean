/-
  NARROWER THAN 'FOR EVERY INPUT', by the rows' own cells (each row's printed sentence says how): AxisGoes: loops · AxisTests: loops · AxisTurns: loops · AxisParts: loops · ViewOrders: loops · ViewSorts: loops · ViewPlants: loops · ViewNone: loops · ViewApart: loops.
  DERIVED. THE GIVEN ROWS OF THIS SEAT. 15 by the template 'for every input the law returns true; each argument reads behind the call as it read before'; 0 by the template 'total and deterministic' (their statements: YtinkjhkbaadbpaaTotals.lean).
  GIVEN WITH THE SEED: the statements are not yours to turn. If you find one false, say at which input.
  Laid BY PROGRAM, IN A SANDBOX (cutbox-rows.mjs): the forced cells as the released guide's own fill.sh prints them over the translation 77086d2719e93f18… (all of the seat's roots in one cut). By AI agents, Wed Nov 11 2026. No macro, syntax, notation, axiom, sorry.
-/
import Derived.Test.YtinkjhkbaadbpaaChecked
import GoSem.Claim
import GoSem.ClaimJoined
import GoSem.ClaimMapViews
import Derived.JoinedTies
import Derived.KernelRfl
namespace Go.Proofs.Ytinkjhkbaadbpaa
/- THE CELL 'sum', in the pinned program and in every row, IS THE sha256 OF THE DUMP (.gsa) THAT YtinkjhkbaadbpaaProg.lean LOADS. Nothing in Lean hashes anything: it is a label: what it is worth is what the hold of that sum in a sandbox is worth. -/
noncomputable def Try.pinned : Pinned := { name := "ytinkjhkbaadbpaa", sum := "77086d2719e93f18faf977b7cc17578c8aeeddb0911805c55109f34e612bdff1", checked := Try.checked }
namespace Rows
def none {H : Type} : Left H := { results := [], args := [] }

/-- 'breviarylaw11.AxisGoes': WHATEVER THE INPUT: true; the input reads as it did. -/
def axisGoesSpec : ChangeSpec := { name := "axisGoes", fn := fun _ => fun
  | [d1, d2, d3] => { results := [.lit (.bool true)], args := [d1, d2, d3] }
  | _ => none }
def axisGoesRow : OpenClaim := { program := "ytinkjhkbaadbpaa", sum := "77086d2719e93f18faf977b7cc17578c8aeeddb0911805c55109f34e612bdff1", func := "breviary/breviarylaw11.AxisGoes", spec := "axisGoes", unfollowed := true, recurses := true, loops := true, apart := false }
def AxisGoesSaid : Prop := axisGoesRow.holds Try.pinned (OpenSpec.ofChange axisGoesSpec)

/-- ITS FALSE NEIGHBOUR: 'it returns false'. Refute it at one input. -/
def axisGoesWrong : ChangeSpec := { name := "axisGoes", fn := fun _ => fun
  | [d1, d2, d3] => { results := [.lit (.bool false)], args := [d1, d2, d3] }
  | _ => none }
def AxisGoesWrongFalsely : Prop := axisGoesRow.holds Try.pinned (OpenSpec.ofChange axisGoesWrong)

/-- 'breviarylaw11.AxisTests': WHATEVER THE INPUT: true; the input reads as it did. -/
def axisTestsSpec : ChangeSpec := { name := "axisTests", fn := fun _ => fun
  | [d1, d2, d3] => { results := [.lit (.bool true)], args := [d1, d2, d3] }
  | _ => none }
def axisTestsRow : OpenClaim := { program := "ytinkjhkbaadbpaa", sum := "77086d2719e93f18faf977b7cc17578c8aeeddb0911805c55109f34e612bdff1", func := "breviary/breviarylaw11.AxisTests", spec := "axisTests", unfollowed := true, recurses := true, loops := true, apart := false }
def AxisTestsSaid : Prop := axisTestsRow.holds Try.pinned (OpenSpec.ofChange axisTestsSpec)

/-- ITS FALSE NEIGHBOUR: 'it returns false'. Refute it at one input. -/
def axisTestsWrong : ChangeSpec := { name := "axisTests", fn := fun _ => fun
  | [d1, d2, d3] => { results := [.lit (.bool false)], args := [d1, d2, d3] }
  | _ => none }
def AxisTestsWrongFalsely : Prop := axisTestsRow.holds Try.pinned (OpenSpec.ofChange axisTestsWrong)

/-- 'breviarylaw11.AxisTurns': WHATEVER THE INPUT: true; the input reads as it did. -/
def axisTurnsSpec : ChangeSpec := { name := "axisTurns", fn := fun _ => fun
  | [d1, d2, d3] => { results := [.lit (.bool true)], args := [d1, d2, d3] }
  | _ => none }
def axisTurnsRow : OpenClaim := { program := "ytinkjhkbaadbpaa", sum := "77086d2719e93f18faf977b7cc17578c8aeeddb0911805c55109f34e612bdff1", func := "breviary/breviarylaw11.AxisTurns", spec := "axisTurns", unfollowed := true, recurses := true, loops := true, apart := false }
def AxisTurnsSaid : Prop := axisTurnsRow.holds Try.pinned (OpenSpec.ofChange axisTurnsSpec)

/-- ITS FALSE NEIGHBOUR: 'it returns false'. Refute it at one input. -/
def axisTurnsWrong : ChangeSpec := { name := "axisTurns", fn := fun _ => fun
  | [d1, d2, d3] => { results := [.lit (.bool false)], args := [d1, d2, d3] }
  | _ => none }
def AxisTurnsWrongFalsely : Prop := axisTurnsRow.holds Try.pinned (OpenSpec.ofChange axisTurnsWrong)

/-- 'breviarylaw11.AxisNames': WHATEVER THE INPUT: true; the input reads as it did. -/
def axisNamesSpec : ChangeSpec := { name := "axisNames", fn := fun _ => fun
  | [d1, d2] => { results := [.lit (.bool true)], args := [d1, d2] }
  | _ => none }
def axisNamesRow : OpenClaim := { program := "ytinkjhkbaadbpaa", sum := "77086d2719e93f18faf977b7cc17578c8aeeddb0911805c55109f34e612bdff1", func := "breviary/breviarylaw11.AxisNames", spec := "axisNames", unfollowed := true, recurses := true, apart := false }
def AxisNamesSaid : Prop := axisNamesRow.holds Try.pinned (OpenSpec.ofChange axisNamesSpec)

/-- ITS FALSE NEIGHBOUR: 'it returns false'. Refute it at one input. -/
def axisNamesWrong : ChangeSpec := { name := "axisNames", fn := fun _ => fun
  | [d1, d2] => { results := [.lit (.bool false)], args := [d1, d2] }
  | _ => none }
def AxisNamesWrongFalsely : Prop := axisNamesRow.holds Try.pinned (OpenSpec.ofChange axisNamesWrong)

/-- 'breviarylaw11.AxisParts': WHATEVER THE INPUT: true; the input reads as it did. -/
def axisPartsSpec : ChangeSpec := { name := "axisParts", fn := fun _ => fun
  | [d1, d2] => { results := [.lit (.bool true)], args := [d1, d2] }
  | _ => none }
def axisPartsRow : OpenClaim := { program := "ytinkjhkbaadbpaa", sum := "77086d2719e93f18faf977b7cc17578c8aeeddb0911805c55109f34e612bdff1", func := "breviary/breviarylaw11.AxisParts", spec := "axisParts", unfollowed := true, recurses := true, loops := true, apart := false }
def AxisPartsSaid : Prop := axisPartsRow.holds Try.pinned (OpenSpec.ofChange axisPartsSpec)

/-- ITS FALSE NEIGHBOUR: 'it returns false'. Refute it at one input. -/
def axisPartsWrong : ChangeSpec := { name := "axisParts", fn := fun _ => fun
  | [d1, d2] => { results := [.lit (.bool false)], args := [d1, d2] }
  | _ => none }
def AxisPartsWrongFalsely : Prop := axisPartsRow.holds Try.pinned (OpenSpec.ofChange axisPartsWrong)

/-- 'breviarylaw09.StoreRights': WHATEVER THE INPUT: true; the input reads as it did. -/
def storeRightsSpec : ChangeSpec := { name := "storeRights", fn := fun _ => fun
  | [d] => { results := [.lit (.bool true)], args := [d] }
  | _ => none }
def storeRightsRow : OpenClaim := { program := "ytinkjhkbaadbpaa", sum := "77086d2719e93f18faf977b7cc17578c8aeeddb0911805c55109f34e612bdff1", func := "breviary/breviarylaw09.StoreRights", spec := "storeRights", unfollowed := true, recurses := true, apart := false }
def StoreRightsSaid : Prop := storeRightsRow.holds Try.pinned (OpenSpec.ofChange storeRightsSpec)

/-- ITS FALSE NEIGHBOUR: 'it returns false'. Refute it at one input. -/
def storeRightsWrong : ChangeSpec := { name := "storeRights", fn := fun _ => fun
  | [d] => { results := [.lit (.bool false)], args := [d] }
  | _ => none }
def StoreRightsWrongFalsely : Prop := storeRightsRow.holds Try.pinned (OpenSpec.ofChange storeRightsWrong)

/-- 'breviarylaw09.StoreRefuses': WHATEVER THE INPUT: true; the input reads as it did. -/
def storeRefusesSpec : ChangeSpec := { name := "storeRefuses", fn := fun _ => fun
  | [d1, d2, d3] => { results := [.lit (.bool true)], args := [d1, d2, d3] }
  | _ => none }
def storeRefusesRow : OpenClaim := { program := "ytinkjhkbaadbpaa", sum := "77086d2719e93f18faf977b7cc17578c8aeeddb0911805c55109f34e612bdff1", func := "breviary/breviarylaw09.StoreRefuses", spec := "storeRefuses", unfollowed := true, recurses := true, apart := false }
def StoreRefusesSaid : Prop := storeRefusesRow.holds Try.pinned (OpenSpec.ofChange storeRefusesSpec)

/-- ITS FALSE NEIGHBOUR: 'it returns false'. Refute it at one input. -/
def storeRefusesWrong : ChangeSpec := { name := "storeRefuses", fn := fun _ => fun
  | [d1, d2, d3] => { results := [.lit (.bool false)], args := [d1, d2, d3] }
  | _ => none }
def StoreRefusesWrongFalsely : Prop := storeRefusesRow.holds Try.pinned (OpenSpec.ofChange storeRefusesWrong)

/-- 'breviarylaw09.StoreSweeps': WHATEVER THE INPUT: true; the input reads as it did. -/
def storeSweepsSpec : ChangeSpec := { name := "storeSweeps", fn := fun _ => fun
  | [d1, d2, d3] => { results := [.lit (.bool true)], args := [d1, d2, d3] }
  | _ => none }
def storeSweepsRow : OpenClaim := { program := "ytinkjhkbaadbpaa", sum := "77086d2719e93f18faf977b7cc17578c8aeeddb0911805c55109f34e612bdff1", func := "breviary/breviarylaw09.StoreSweeps", spec := "storeSweeps", unfollowed := true, recurses := true, apart := false }
def StoreSweepsSaid : Prop := storeSweepsRow.holds Try.pinned (OpenSpec.ofChange storeSweepsSpec)

/-- ITS FALSE NEIGHBOUR: 'it returns false'. Refute it at one input. -/
def storeSweepsWrong : ChangeSpec := { name := "storeSweeps", fn := fun _ => fun
  | [d1, d2, d3] => { results := [.lit (.bool false)], args := [d1, d2, d3] }
  | _ => none }
def StoreSweepsWrongFalsely : Prop := storeSweepsRow.holds Try.pinned (OpenSpec.ofChange storeSweepsWrong)

/-- 'breviarylaw09.StorePlays': WHATEVER THE INPUT: true; the input reads as it did. -/
def storePlaysSpec : ChangeSpec := { name := "storePlays", fn := fun _ => fun
  | [d] => { results := [.lit (.bool true)], args := [d] }
  | _ => none }
def storePlaysRow : OpenClaim := { program := "ytinkjhkbaadbpaa", sum := "77086d2719e93f18faf977b7cc17578c8aeeddb0911805c55109f34e612bdff1", func := "breviary/breviarylaw09.StorePlays", spec := "storePlays", unfollowed := true, recurses := true, apart := false }
def StorePlaysSaid : Prop := storePlaysRow.holds Try.pinned (OpenSpec.ofChange storePlaysSpec)

/-- ITS FALSE NEIGHBOUR: 'it returns false'. Refute it at one input. -/
def storePlaysWrong : ChangeSpec := { name := "storePlays", fn := fun _ => fun
  | [d] => { results := [.lit (.bool false)], args := [d] }
  | _ => none }
def StorePlaysWrongFalsely : Prop := storePlaysRow.holds Try.pinned (OpenSpec.ofChange storePlaysWrong)

/-- 'breviarylaw09.StoreNone': WHATEVER THE INPUT: true; the input reads as it did. -/
def storeNoneSpec : ChangeSpec := { name := "storeNone", fn := fun _ => fun
  | [d] => { results := [.lit (.bool true)], args := [d] }
  | _ => none }
def storeNoneRow : OpenClaim := { program := "ytinkjhkbaadbpaa", sum := "77086d2719e93f18faf977b7cc17578c8aeeddb0911805c55109f34e612bdff1", func := "breviary/breviarylaw09.StoreNone", spec := "storeNone", unfollowed := true, recurses := true, apart := false }
def StoreNoneSaid : Prop := storeNoneRow.holds Try.pinned (OpenSpec.ofChange storeNoneSpec)

/-- ITS FALSE NEIGHBOUR: 'it returns false'. Refute it at one input. -/
def storeNoneWrong : ChangeSpec := { name := "storeNone", fn := fun _ => fun
  | [d] => { results := [.lit (.bool false)], args := [d] }
  | _ => none }
def StoreNoneWrongFalsely : Prop := storeNoneRow.holds Try.pinned (OpenSpec.ofChange storeNoneWrong)

/-- 'breviarylaw10.ViewOrders': WHATEVER THE INPUT: true; the input reads as it did. -/
def viewOrdersSpec : ChangeSpec := { name := "viewOrders", fn := fun _ => fun
  | [d1, d2, d3] => { results := [.lit (.bool true)], args := [d1, d2, d3] }
  | _ => none }
def viewOrdersRow : OpenClaim := { program := "ytinkjhkbaadbpaa", sum := "77086d2719e93f18faf977b7cc17578c8aeeddb0911805c55109f34e612bdff1", func := "breviary/breviarylaw10.ViewOrders", spec := "viewOrders", inPlace := ["internal/abi.NoEscape"], unfollowed := true, recurses := true, loops := true, apart := false }
def ViewOrdersSaid : Prop := viewOrdersRow.holds Try.pinned (OpenSpec.ofChange viewOrdersSpec)

/-- ITS FALSE NEIGHBOUR: 'it returns false'. Refute it at one input. -/
def viewOrdersWrong : ChangeSpec := { name := "viewOrders", fn := fun _ => fun
  | [d1, d2, d3] => { results := [.lit (.bool false)], args := [d1, d2, d3] }
  | _ => none }
def ViewOrdersWrongFalsely : Prop := viewOrdersRow.holds Try.pinned (OpenSpec.ofChange viewOrdersWrong)

/-- 'breviarylaw10.ViewSorts': WHATEVER THE INPUT: true; the input reads as it did. -/
def viewSortsSpec : ChangeSpec := { name := "viewSorts", fn := fun _ => fun
  | [d1, d2, d3] => { results := [.lit (.bool true)], args := [d1, d2, d3] }
  | _ => none }
def viewSortsRow : OpenClaim := { program := "ytinkjhkbaadbpaa", sum := "77086d2719e93f18faf977b7cc17578c8aeeddb0911805c55109f34e612bdff1", func := "breviary/breviarylaw10.ViewSorts", spec := "viewSorts", inPlace := ["internal/abi.NoEscape"], unfollowed := true, recurses := true, loops := true, apart := false }
def ViewSortsSaid : Prop := viewSortsRow.holds Try.pinned (OpenSpec.ofChange viewSortsSpec)

/-- ITS FALSE NEIGHBOUR: 'it returns false'. Refute it at one input. -/
def viewSortsWrong : ChangeSpec := { name := "viewSorts", fn := fun _ => fun
  | [d1, d2, d3] => { results := [.lit (.bool false)], args := [d1, d2, d3] }
  | _ => none }
def ViewSortsWrongFalsely : Prop := viewSortsRow.holds Try.pinned (OpenSpec.ofChange viewSortsWrong)

/-- 'breviarylaw10.ViewPlants': WHATEVER THE INPUT: true; the input reads as it did. -/
def viewPlantsSpec : ChangeSpec := { name := "viewPlants", fn := fun _ => fun
  | [d1, d2] => { results := [.lit (.bool true)], args := [d1, d2] }
  | _ => none }
def viewPlantsRow : OpenClaim := { program := "ytinkjhkbaadbpaa", sum := "77086d2719e93f18faf977b7cc17578c8aeeddb0911805c55109f34e612bdff1", func := "breviary/breviarylaw10.ViewPlants", spec := "viewPlants", inPlace := ["internal/abi.NoEscape"], unfollowed := true, recurses := true, loops := true, apart := false }
def ViewPlantsSaid : Prop := viewPlantsRow.holds Try.pinned (OpenSpec.ofChange viewPlantsSpec)

/-- ITS FALSE NEIGHBOUR: 'it returns false'. Refute it at one input. -/
def viewPlantsWrong : ChangeSpec := { name := "viewPlants", fn := fun _ => fun
  | [d1, d2] => { results := [.lit (.bool false)], args := [d1, d2] }
  | _ => none }
def ViewPlantsWrongFalsely : Prop := viewPlantsRow.holds Try.pinned (OpenSpec.ofChange viewPlantsWrong)

/-- 'breviarylaw10.ViewNone': WHATEVER THE INPUT: true; the input reads as it did. -/
def viewNoneSpec : ChangeSpec := { name := "viewNone", fn := fun _ => fun
  | [d] => { results := [.lit (.bool true)], args := [d] }
  | _ => none }
def viewNoneRow : OpenClaim := { program := "ytinkjhkbaadbpaa", sum := "77086d2719e93f18faf977b7cc17578c8aeeddb0911805c55109f34e612bdff1", func := "breviary/breviarylaw10.ViewNone", spec := "viewNone", inPlace := ["internal/abi.NoEscape"], unfollowed := true, recurses := true, loops := true, apart := false }
def ViewNoneSaid : Prop := viewNoneRow.holds Try.pinned (OpenSpec.ofChange viewNoneSpec)

/-- ITS FALSE NEIGHBOUR: 'it returns false'. Refute it at one input. -/
def viewNoneWrong : ChangeSpec := { name := "viewNone", fn := fun _ => fun
  | [d] => { results := [.lit (.bool false)], args := [d] }
  | _ => none }
def ViewNoneWrongFalsely : Prop := viewNoneRow.holds Try.pinned (OpenSpec.ofChange viewNoneWrong)

/-- 'breviarylaw10.ViewApart': WHATEVER THE INPUT: true; the input reads as it did. -/
def viewApartSpec : ChangeSpec := { name := "viewApart", fn := fun _ => fun
  | [d1, d2] => { results := [.lit (.bool true)], args := [d1, d2] }
  | _ => none }
def viewApartRow : OpenClaim := { program := "ytinkjhkbaadbpaa", sum := "77086d2719e93f18faf977b7cc17578c8aeeddb0911805c55109f34e612bdff1", func := "breviary/breviarylaw10.ViewApart", spec := "viewApart", inPlace := ["internal/abi.NoEscape"], unfollowed := true, recurses := true, loops := true, apart := false }
def ViewApartSaid : Prop := viewApartRow.holds Try.pinned (OpenSpec.ofChange viewApartSpec)

/-- ITS FALSE NEIGHBOUR: 'it returns false'. Refute it at one input. -/
def viewApartWrong : ChangeSpec := { name := "viewApart", fn := fun _ => fun
  | [d1, d2] => { results := [.lit (.bool false)], args := [d1, d2] }
  | _ => none }
def ViewApartWrongFalsely : Prop := viewApartRow.holds Try.pinned (OpenSpec.ofChange viewApartWrong)

/- THE SECOND FORM. 'bulk': how many values and letters a reading holds, each counted each time it is reached (what is shared counts as often as it is met; a slice's spare places count too). A statement '..UptoSaid' is the law's where the arguments, and the package variables that the reading takes, are together of bulk at most 1048576: NARROWER than '..Said'. Prove '..Said' where nothing that the law and all that it calls make is longer than what came in: it says more and counts as full. Else prove '..UptoSaid'. A law counts once. -/
mutual
def uptoBulk {H : Type} : DataW H → Nat
  | .lit (.string bytes) => bytes.length + 1
  | .lit _ => 1
  | .nil => 1
  | .ptr d => uptoBulk d + 1
  | .slice elems spare => uptoBulkAll elems + uptoBulkAll spare + 1
  | .agg parts => uptoBulkAll parts + 1
  | .iface _ d => uptoBulk d + 1
  | .map entries => uptoBulkEntries entries + 1
  | .held _ => 1
def uptoBulkAll {H : Type} : List (DataW H) → Nat
  | [] => 0
  | d :: r => uptoBulk d + uptoBulkAll r
def uptoBulkEntries {H : Type} : List (Lit × DataW H) → Nat
  | [] => 0
  | x :: r => uptoBulkEntry x + uptoBulkEntries r
def uptoBulkEntry {H : Type} : Lit × DataW H → Nat
  | (.string bytes, d) => bytes.length + uptoBulk d + 1
  | (_, d) => uptoBulk d + 1
 end
def uptoSmall : (H : Type) → List (DataW H) → Bool := fun _ ds => decide (uptoBulkAll ds ≤ 1048576)
def OpenSpec.upto (s : _root_.Go.ChangeSpec) : _root_.Go.OpenSpec := { _root_.Go.OpenSpec.ofChange s with cond := some uptoSmall }

/-- 'breviarylaw11.AxisGoes', WHERE WHAT IT READS IS OF BULK AT MOST 1048576: true; the input reads as it did. -/
def axisGoesUptoRow : OpenClaim := { program := "ytinkjhkbaadbpaa", sum := "77086d2719e93f18faf977b7cc17578c8aeeddb0911805c55109f34e612bdff1", func := "breviary/breviarylaw11.AxisGoes", spec := "axisGoes", unfollowed := true, recurses := true, loops := true, apart := false, narrowed := true }
def AxisGoesUptoSaid : Prop := axisGoesUptoRow.holds Try.pinned (OpenSpec.upto axisGoesSpec)

/-- 'breviarylaw11.AxisTests', WHERE WHAT IT READS IS OF BULK AT MOST 1048576: true; the input reads as it did. -/
def axisTestsUptoRow : OpenClaim := { program := "ytinkjhkbaadbpaa", sum := "77086d2719e93f18faf977b7cc17578c8aeeddb0911805c55109f34e612bdff1", func := "breviary/breviarylaw11.AxisTests", spec := "axisTests", unfollowed := true, recurses := true, loops := true, apart := false, narrowed := true }
def AxisTestsUptoSaid : Prop := axisTestsUptoRow.holds Try.pinned (OpenSpec.upto axisTestsSpec)

/-- 'breviarylaw11.AxisTurns', WHERE WHAT IT READS IS OF BULK AT MOST 1048576: true; the input reads as it did. -/
def axisTurnsUptoRow : OpenClaim := { program := "ytinkjhkbaadbpaa", sum := "77086d2719e93f18faf977b7cc17578c8aeeddb0911805c55109f34e612bdff1", func := "breviary/breviarylaw11.AxisTurns", spec := "axisTurns", unfollowed := true, recurses := true, loops := true, apart := false, narrowed := true }
def AxisTurnsUptoSaid : Prop := axisTurnsUptoRow.holds Try.pinned (OpenSpec.upto axisTurnsSpec)

/-- 'breviarylaw11.AxisNames', WHERE WHAT IT READS IS OF BULK AT MOST 1048576: true; the input reads as it did. -/
def axisNamesUptoRow : OpenClaim := { program := "ytinkjhkbaadbpaa", sum := "77086d2719e93f18faf977b7cc17578c8aeeddb0911805c55109f34e612bdff1", func := "breviary/breviarylaw11.AxisNames", spec := "axisNames", unfollowed := true, recurses := true, apart := false, narrowed := true }
def AxisNamesUptoSaid : Prop := axisNamesUptoRow.holds Try.pinned (OpenSpec.upto axisNamesSpec)

/-- 'breviarylaw11.AxisParts', WHERE WHAT IT READS IS OF BULK AT MOST 1048576: true; the input reads as it did. -/
def axisPartsUptoRow : OpenClaim := { program := "ytinkjhkbaadbpaa", sum := "77086d2719e93f18faf977b7cc17578c8aeeddb0911805c55109f34e612bdff1", func := "breviary/breviarylaw11.AxisParts", spec := "axisParts", unfollowed := true, recurses := true, loops := true, apart := false, narrowed := true }
def AxisPartsUptoSaid : Prop := axisPartsUptoRow.holds Try.pinned (OpenSpec.upto axisPartsSpec)

/-- 'breviarylaw09.StoreRights', WHERE WHAT IT READS IS OF BULK AT MOST 1048576: true; the input reads as it did. -/
def storeRightsUptoRow : OpenClaim := { program := "ytinkjhkbaadbpaa", sum := "77086d2719e93f18faf977b7cc17578c8aeeddb0911805c55109f34e612bdff1", func := "breviary/breviarylaw09.StoreRights", spec := "storeRights", unfollowed := true, recurses := true, apart := false, narrowed := true }
def StoreRightsUptoSaid : Prop := storeRightsUptoRow.holds Try.pinned (OpenSpec.upto storeRightsSpec)

/-- 'breviarylaw09.StoreRefuses', WHERE WHAT IT READS IS OF BULK AT MOST 1048576: true; the input reads as it did. -/
def storeRefusesUptoRow : OpenClaim := { program := "ytinkjhkbaadbpaa", sum := "77086d2719e93f18faf977b7cc17578c8aeeddb0911805c55109f34e612bdff1", func := "breviary/breviarylaw09.StoreRefuses", spec := "storeRefuses", unfollowed := true, recurses := true, apart := false, narrowed := true }
def StoreRefusesUptoSaid : Prop := storeRefusesUptoRow.holds Try.pinned (OpenSpec.upto storeRefusesSpec)

/-- 'breviarylaw09.StoreSweeps', WHERE WHAT IT READS IS OF BULK AT MOST 1048576: true; the input reads as it did. -/
def storeSweepsUptoRow : OpenClaim := { program := "ytinkjhkbaadbpaa", sum := "77086d2719e93f18faf977b7cc17578c8aeeddb0911805c55109f34e612bdff1", func := "breviary/breviarylaw09.StoreSweeps", spec := "storeSweeps", unfollowed := true, recurses := true, apart := false, narrowed := true }
def StoreSweepsUptoSaid : Prop := storeSweepsUptoRow.holds Try.pinned (OpenSpec.upto storeSweepsSpec)

/-- 'breviarylaw09.StorePlays', WHERE WHAT IT READS IS OF BULK AT MOST 1048576: true; the input reads as it did. -/
def storePlaysUptoRow : OpenClaim := { program := "ytinkjhkbaadbpaa", sum := "77086d2719e93f18faf977b7cc17578c8aeeddb0911805c55109f34e612bdff1", func := "breviary/breviarylaw09.StorePlays", spec := "storePlays", unfollowed := true, recurses := true, apart := false, narrowed := true }
def StorePlaysUptoSaid : Prop := storePlaysUptoRow.holds Try.pinned (OpenSpec.upto storePlaysSpec)

/-- 'breviarylaw09.StoreNone', WHERE WHAT IT READS IS OF BULK AT MOST 1048576: true; the input reads as it did. -/
def storeNoneUptoRow : OpenClaim := { program := "ytinkjhkbaadbpaa", sum := "77086d2719e93f18faf977b7cc17578c8aeeddb0911805c55109f34e612bdff1", func := "breviary/breviarylaw09.StoreNone", spec := "storeNone", unfollowed := true, recurses := true, apart := false, narrowed := true }
def StoreNoneUptoSaid : Prop := storeNoneUptoRow.holds Try.pinned (OpenSpec.upto storeNoneSpec)

/-- 'breviarylaw10.ViewOrders', WHERE WHAT IT READS IS OF BULK AT MOST 1048576: true; the input reads as it did. -/
def viewOrdersUptoRow : OpenClaim := { program := "ytinkjhkbaadbpaa", sum := "77086d2719e93f18faf977b7cc17578c8aeeddb0911805c55109f34e612bdff1", func := "breviary/breviarylaw10.ViewOrders", spec := "viewOrders", inPlace := ["internal/abi.NoEscape"], unfollowed := true, recurses := true, loops := true, apart := false, narrowed := true }
def ViewOrdersUptoSaid : Prop := viewOrdersUptoRow.holds Try.pinned (OpenSpec.upto viewOrdersSpec)

/-- 'breviarylaw10.ViewSorts', WHERE WHAT IT READS IS OF BULK AT MOST 1048576: true; the input reads as it did. -/
def viewSortsUptoRow : OpenClaim := { program := "ytinkjhkbaadbpaa", sum := "77086d2719e93f18faf977b7cc17578c8aeeddb0911805c55109f34e612bdff1", func := "breviary/breviarylaw10.ViewSorts", spec := "viewSorts", inPlace := ["internal/abi.NoEscape"], unfollowed := true, recurses := true, loops := true, apart := false, narrowed := true }
def ViewSortsUptoSaid : Prop := viewSortsUptoRow.holds Try.pinned (OpenSpec.upto viewSortsSpec)

/-- 'breviarylaw10.ViewPlants', WHERE WHAT IT READS IS OF BULK AT MOST 1048576: true; the input reads as it did. -/
def viewPlantsUptoRow : OpenClaim := { program := "ytinkjhkbaadbpaa", sum := "77086d2719e93f18faf977b7cc17578c8aeeddb0911805c55109f34e612bdff1", func := "breviary/breviarylaw10.ViewPlants", spec := "viewPlants", inPlace := ["internal/abi.NoEscape"], unfollowed := true, recurses := true, loops := true, apart := false, narrowed := true }
def ViewPlantsUptoSaid : Prop := viewPlantsUptoRow.holds Try.pinned (OpenSpec.upto viewPlantsSpec)

/-- 'breviarylaw10.ViewNone', WHERE WHAT IT READS IS OF BULK AT MOST 1048576: true; the input reads as it did. -/
def viewNoneUptoRow : OpenClaim := { program := "ytinkjhkbaadbpaa", sum := "77086d2719e93f18faf977b7cc17578c8aeeddb0911805c55109f34e612bdff1", func := "breviary/breviarylaw10.ViewNone", spec := "viewNone", inPlace := ["internal/abi.NoEscape"], unfollowed := true, recurses := true, loops := true, apart := false, narrowed := true }
def ViewNoneUptoSaid : Prop := viewNoneUptoRow.holds Try.pinned (OpenSpec.upto viewNoneSpec)

/-- 'breviarylaw10.ViewApart', WHERE WHAT IT READS IS OF BULK AT MOST 1048576: true; the input reads as it did. -/
def viewApartUptoRow : OpenClaim := { program := "ytinkjhkbaadbpaa", sum := "77086d2719e93f18faf977b7cc17578c8aeeddb0911805c55109f34e612bdff1", func := "breviary/breviarylaw10.ViewApart", spec := "viewApart", inPlace := ["internal/abi.NoEscape"], unfollowed := true, recurses := true, loops := true, apart := false, narrowed := true }
def ViewApartUptoSaid : Prop := viewApartUptoRow.holds Try.pinned (OpenSpec.upto viewApartSpec)

end Rows
end Go.Proofs.Ytinkjhkbaadbpaa
