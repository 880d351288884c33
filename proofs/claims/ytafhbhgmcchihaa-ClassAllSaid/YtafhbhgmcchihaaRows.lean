/-
  No cell of these rows narrows 'for every input' (looked for: loops, veiled, ifaces, maps, wideKeys, modest, calm, conditions, laid).
  DERIVED. THE GIVEN ROWS OF THIS SEAT. 6 by the template 'for every input the law returns true; each argument reads behind the call as it read before'; 0 by the template 'total and deterministic' (their statements: YtafhbhgmcchihaaTotals.lean).
  GIVEN WITH THE SEED: the statements are not yours to turn. If you find one false, say at which input.
  Laid BY PROGRAM, IN A SANDBOX (cutbox-rows.mjs): the forced cells as the released guide's own fill.sh prints them over the translation 8ae8b59a273344dc… (all of the seat's roots in one cut). By AI agents, Wed Nov 11 2026. No macro, syntax, notation, axiom, sorry.
-/
import Derived.Test.YtafhbhgmcchihaaChecked
import GoSem.Claim
import GoSem.ClaimJoined
import GoSem.ClaimMapViews
import Derived.JoinedTies
import Derived.KernelRfl
namespace Go.Proofs.Ytafhbhgmcchihaa
/- THE CELL 'sum', in the pinned program and in every row, IS THE sha256 OF THE DUMP (.gsa) THAT YtafhbhgmcchihaaProg.lean LOADS. Nothing in Lean hashes anything: it is a label: what it is worth is what the hold of that sum in a sandbox is worth. -/
noncomputable def Try.pinned : Pinned := { name := "ytafhbhgmcchihaa", sum := "8ae8b59a273344dc7ecfec1c4038dd9ffd4c702b4947c0bd02387d7a11b5f009", checked := Try.checked }
namespace Rows
def none {H : Type} : Left H := { results := [], args := [] }

/-- 'hearthlaw4.ClassTable': WHATEVER THE INPUT: true; the input reads as it did. -/
def classTableSpec : ChangeSpec := { name := "classTable", fn := fun _ => fun
  | [] => { results := [.lit (.bool true)], args := [] }
  | _ => none }
def classTableRow : OpenClaim := { program := "ytafhbhgmcchihaa", sum := "8ae8b59a273344dc7ecfec1c4038dd9ffd4c702b4947c0bd02387d7a11b5f009", func := "hearth/hearthlaw4.ClassTable", spec := "classTable", apart := false }
def ClassTableSaid : Prop := classTableRow.holds Try.pinned (OpenSpec.ofChange classTableSpec)

/-- ITS FALSE NEIGHBOUR: 'it returns false'. Refute it at one input. -/
def classTableWrong : ChangeSpec := { name := "classTable", fn := fun _ => fun
  | [] => { results := [.lit (.bool false)], args := [] }
  | _ => none }
def ClassTableWrongFalsely : Prop := classTableRow.holds Try.pinned (OpenSpec.ofChange classTableWrong)

/-- 'hearthlaw4.ClassSizes': WHATEVER THE INPUT: true; the input reads as it did. -/
def classSizesSpec : ChangeSpec := { name := "classSizes", fn := fun _ => fun
  | [d] => { results := [.lit (.bool true)], args := [d] }
  | _ => none }
def classSizesRow : OpenClaim := { program := "ytafhbhgmcchihaa", sum := "8ae8b59a273344dc7ecfec1c4038dd9ffd4c702b4947c0bd02387d7a11b5f009", func := "hearth/hearthlaw4.ClassSizes", spec := "classSizes", apart := false }
def ClassSizesSaid : Prop := classSizesRow.holds Try.pinned (OpenSpec.ofChange classSizesSpec)

/-- ITS FALSE NEIGHBOUR: 'it returns false'. Refute it at one input. -/
def classSizesWrong : ChangeSpec := { name := "classSizes", fn := fun _ => fun
  | [d] => { results := [.lit (.bool false)], args := [d] }
  | _ => none }
def ClassSizesWrongFalsely : Prop := classSizesRow.holds Try.pinned (OpenSpec.ofChange classSizesWrong)

/-- 'hearthlaw4.ClassHolds': WHATEVER THE INPUT: true; the input reads as it did. -/
def classHoldsSpec : ChangeSpec := { name := "classHolds", fn := fun _ => fun
  | [d] => { results := [.lit (.bool true)], args := [d] }
  | _ => none }
def classHoldsRow : OpenClaim := { program := "ytafhbhgmcchihaa", sum := "8ae8b59a273344dc7ecfec1c4038dd9ffd4c702b4947c0bd02387d7a11b5f009", func := "hearth/hearthlaw4.ClassHolds", spec := "classHolds", apart := false }
def ClassHoldsSaid : Prop := classHoldsRow.holds Try.pinned (OpenSpec.ofChange classHoldsSpec)

/-- ITS FALSE NEIGHBOUR: 'it returns false'. Refute it at one input. -/
def classHoldsWrong : ChangeSpec := { name := "classHolds", fn := fun _ => fun
  | [d] => { results := [.lit (.bool false)], args := [d] }
  | _ => none }
def ClassHoldsWrongFalsely : Prop := classHoldsRow.holds Try.pinned (OpenSpec.ofChange classHoldsWrong)

/-- 'hearthlaw4.ClassPlaces': WHATEVER THE INPUT: true; the input reads as it did. -/
def classPlacesSpec : ChangeSpec := { name := "classPlaces", fn := fun _ => fun
  | [d1, d2, d3] => { results := [.lit (.bool true)], args := [d1, d2, d3] }
  | _ => none }
def classPlacesRow : OpenClaim := { program := "ytafhbhgmcchihaa", sum := "8ae8b59a273344dc7ecfec1c4038dd9ffd4c702b4947c0bd02387d7a11b5f009", func := "hearth/hearthlaw4.ClassPlaces", spec := "classPlaces", apart := false }
def ClassPlacesSaid : Prop := classPlacesRow.holds Try.pinned (OpenSpec.ofChange classPlacesSpec)

/-- ITS FALSE NEIGHBOUR: 'it returns false'. Refute it at one input. -/
def classPlacesWrong : ChangeSpec := { name := "classPlaces", fn := fun _ => fun
  | [d1, d2, d3] => { results := [.lit (.bool false)], args := [d1, d2, d3] }
  | _ => none }
def ClassPlacesWrongFalsely : Prop := classPlacesRow.holds Try.pinned (OpenSpec.ofChange classPlacesWrong)

/-- 'hearthlaw4.ClassAll': WHATEVER THE INPUT: true; the input reads as it did. -/
def classAllSpec : ChangeSpec := { name := "classAll", fn := fun _ => fun
  | [d] => { results := [.lit (.bool true)], args := [d] }
  | _ => none }
def classAllRow : OpenClaim := { program := "ytafhbhgmcchihaa", sum := "8ae8b59a273344dc7ecfec1c4038dd9ffd4c702b4947c0bd02387d7a11b5f009", func := "hearth/hearthlaw4.ClassAll", spec := "classAll", apart := false }
def ClassAllSaid : Prop := classAllRow.holds Try.pinned (OpenSpec.ofChange classAllSpec)

/-- ITS FALSE NEIGHBOUR: 'it returns false'. Refute it at one input. -/
def classAllWrong : ChangeSpec := { name := "classAll", fn := fun _ => fun
  | [d] => { results := [.lit (.bool false)], args := [d] }
  | _ => none }
def ClassAllWrongFalsely : Prop := classAllRow.holds Try.pinned (OpenSpec.ofChange classAllWrong)

/-- 'hearthlaw4.ClassTiles': WHATEVER THE INPUT: true; the input reads as it did. -/
def classTilesSpec : ChangeSpec := { name := "classTiles", fn := fun _ => fun
  | [d1, d2] => { results := [.lit (.bool true)], args := [d1, d2] }
  | _ => none }
def classTilesRow : OpenClaim := { program := "ytafhbhgmcchihaa", sum := "8ae8b59a273344dc7ecfec1c4038dd9ffd4c702b4947c0bd02387d7a11b5f009", func := "hearth/hearthlaw4.ClassTiles", spec := "classTiles", apart := false }
def ClassTilesSaid : Prop := classTilesRow.holds Try.pinned (OpenSpec.ofChange classTilesSpec)

/-- ITS FALSE NEIGHBOUR: 'it returns false'. Refute it at one input. -/
def classTilesWrong : ChangeSpec := { name := "classTiles", fn := fun _ => fun
  | [d1, d2] => { results := [.lit (.bool false)], args := [d1, d2] }
  | _ => none }
def ClassTilesWrongFalsely : Prop := classTilesRow.holds Try.pinned (OpenSpec.ofChange classTilesWrong)

/- THE SECOND FORM. 'bulk': how many values and letters a reading holds, each counted each time it is reached (what is shared counts as often as it is met; a slice's spare places count too). A statement '..UptoSaid' is the law's where the arguments, and the package variables that the reading takes, are together of bulk at most 1048576: NARROWER than '..Said'. Prove '..Said' where nothing that the law and all that it calls make is longer than what came in: it says more and counts as full. Else prove '..UptoSaid'. A law counts once. -/
mutual
def uptoBulk {H : Type} : DataW H → Nat
  | .lit (.string bytes) => bytes.length + 1
  | .lit _ => 1
  | .nil => 1
  | .ptr d => uptoBulk d + 1
  | .slice elems spare => uptoBulkAll elems + uptoBulkAll spare + 1
  | .agg parts => uptoBulkAll parts + 1
  | .iface _ d => uptoBulk d + 1
  | .map entries => uptoBulkEntries entries + 1
  | .held _ => 1
def uptoBulkAll {H : Type} : List (DataW H) → Nat
  | [] => 0
  | d :: r => uptoBulk d + uptoBulkAll r
def uptoBulkEntries {H : Type} : List (Lit × DataW H) → Nat
  | [] => 0
  | x :: r => uptoBulkEntry x + uptoBulkEntries r
def uptoBulkEntry {H : Type} : Lit × DataW H → Nat
  | (.string bytes, d) => bytes.length + uptoBulk d + 1
  | (_, d) => uptoBulk d + 1
 end
def uptoSmall : (H : Type) → List (DataW H) → Bool := fun _ ds => decide (uptoBulkAll ds ≤ 1048576)
def OpenSpec.upto (s : _root_.Go.ChangeSpec) : _root_.Go.OpenSpec := { _root_.Go.OpenSpec.ofChange s with cond := some uptoSmall }

/-- 'hearthlaw4.ClassTable', WHERE WHAT IT READS IS OF BULK AT MOST 1048576: true; the input reads as it did. -/
def classTableUptoRow : OpenClaim := { program := "ytafhbhgmcchihaa", sum := "8ae8b59a273344dc7ecfec1c4038dd9ffd4c702b4947c0bd02387d7a11b5f009", func := "hearth/hearthlaw4.ClassTable", spec := "classTable", apart := false, narrowed := true }
def ClassTableUptoSaid : Prop := classTableUptoRow.holds Try.pinned (OpenSpec.upto classTableSpec)

/-- 'hearthlaw4.ClassSizes', WHERE WHAT IT READS IS OF BULK AT MOST 1048576: true; the input reads as it did. -/
def classSizesUptoRow : OpenClaim := { program := "ytafhbhgmcchihaa", sum := "8ae8b59a273344dc7ecfec1c4038dd9ffd4c702b4947c0bd02387d7a11b5f009", func := "hearth/hearthlaw4.ClassSizes", spec := "classSizes", apart := false, narrowed := true }
def ClassSizesUptoSaid : Prop := classSizesUptoRow.holds Try.pinned (OpenSpec.upto classSizesSpec)

/-- 'hearthlaw4.ClassHolds', WHERE WHAT IT READS IS OF BULK AT MOST 1048576: true; the input reads as it did. -/
def classHoldsUptoRow : OpenClaim := { program := "ytafhbhgmcchihaa", sum := "8ae8b59a273344dc7ecfec1c4038dd9ffd4c702b4947c0bd02387d7a11b5f009", func := "hearth/hearthlaw4.ClassHolds", spec := "classHolds", apart := false, narrowed := true }
def ClassHoldsUptoSaid : Prop := classHoldsUptoRow.holds Try.pinned (OpenSpec.upto classHoldsSpec)

/-- 'hearthlaw4.ClassPlaces', WHERE WHAT IT READS IS OF BULK AT MOST 1048576: true; the input reads as it did. -/
def classPlacesUptoRow : OpenClaim := { program := "ytafhbhgmcchihaa", sum := "8ae8b59a273344dc7ecfec1c4038dd9ffd4c702b4947c0bd02387d7a11b5f009", func := "hearth/hearthlaw4.ClassPlaces", spec := "classPlaces", apart := false, narrowed := true }
def ClassPlacesUptoSaid : Prop := classPlacesUptoRow.holds Try.pinned (OpenSpec.upto classPlacesSpec)

/-- 'hearthlaw4.ClassAll', WHERE WHAT IT READS IS OF BULK AT MOST 1048576: true; the input reads as it did. -/
def classAllUptoRow : OpenClaim := { program := "ytafhbhgmcchihaa", sum := "8ae8b59a273344dc7ecfec1c4038dd9ffd4c702b4947c0bd02387d7a11b5f009", func := "hearth/hearthlaw4.ClassAll", spec := "classAll", apart := false, narrowed := true }
def ClassAllUptoSaid : Prop := classAllUptoRow.holds Try.pinned (OpenSpec.upto classAllSpec)

/-- 'hearthlaw4.ClassTiles', WHERE WHAT IT READS IS OF BULK AT MOST 1048576: true; the input reads as it did. -/
def classTilesUptoRow : OpenClaim := { program := "ytafhbhgmcchihaa", sum := "8ae8b59a273344dc7ecfec1c4038dd9ffd4c702b4947c0bd02387d7a11b5f009", func := "hearth/hearthlaw4.ClassTiles", spec := "classTiles", apart := false, narrowed := true }
def ClassTilesUptoSaid : Prop := classTilesUptoRow.holds Try.pinned (OpenSpec.upto classTilesSpec)

end Rows
end Go.Proofs.Ytafhbhgmcchihaa
