/-
  No cell of these rows narrows 'for every input' (looked for: loops, veiled, ifaces, maps, wideKeys, modest, calm, conditions, laid).
  DERIVED. THE GIVEN ROWS OF THIS SEAT. 12 by the template 'for every input the law returns true; each argument reads behind the call as it read before'; 0 by the template 'total and deterministic' (their statements: YtmglobbidgoebaaTotals.lean).
  GIVEN WITH THE SEED: the statements are not yours to turn. If you find one false, say at which input.
  Laid BY PROGRAM, IN A SANDBOX (cutbox-rows.mjs): the forced cells as the released guide's own fill.sh prints them over the translation b4555d9633713a45… (all of the seat's roots in one cut). By AI agents, Wed Nov 11 2026. No macro, syntax, notation, axiom, sorry.
-/
import Derived.Test.YtmglobbidgoebaaChecked
import GoSem.Claim
import GoSem.ClaimJoined
import GoSem.ClaimMapViews
import Derived.JoinedTies
import Derived.KernelRfl
namespace Go.Proofs.Ytmglobbidgoebaa
/- THE CELL 'sum', in the pinned program and in every row, IS THE sha256 OF THE DUMP (.gsa) THAT YtmglobbidgoebaaProg.lean LOADS. Nothing in Lean hashes anything: it is a label: what it is worth is what the hold of that sum in a sandbox is worth. -/
noncomputable def Try.pinned : Pinned := { name := "ytmglobbidgoebaa", sum := "b4555d9633713a455b2a036140cad05ba9cbaef62529d9fe440f19cec247ce78", checked := Try.checked }
namespace Rows
def none {H : Type} : Left H := { results := [], args := [] }

/-- 'laws.FnExactIsString': WHATEVER THE INPUT: true; the input reads as it did. -/
def fnExactIsStringSpec : ChangeSpec := { name := "fnExactIsString", fn := fun _ => fun
  | [d] => { results := [.lit (.bool true)], args := [d] }
  | _ => none }
def fnExactIsStringRow : OpenClaim := { program := "ytmglobbidgoebaa", sum := "b4555d9633713a455b2a036140cad05ba9cbaef62529d9fe440f19cec247ce78", func := "loop.example/g03113/laws.FnExactIsString", spec := "fnExactIsString", apart := false }
def FnExactIsStringSaid : Prop := fnExactIsStringRow.holds Try.pinned (OpenSpec.ofChange fnExactIsStringSpec)

/-- ITS FALSE NEIGHBOUR: 'it returns false'. Refute it at one input. -/
def fnExactIsStringWrong : ChangeSpec := { name := "fnExactIsString", fn := fun _ => fun
  | [d] => { results := [.lit (.bool false)], args := [d] }
  | _ => none }
def FnExactIsStringWrongFalsely : Prop := fnExactIsStringRow.holds Try.pinned (OpenSpec.ofChange fnExactIsStringWrong)

/-- 'laws.FnExactIsInBox': WHATEVER THE INPUT: true; the input reads as it did. -/
def fnExactIsInBoxSpec : ChangeSpec := { name := "fnExactIsInBox", fn := fun _ => fun
  | [d1, d2, d3] => { results := [.lit (.bool true)], args := [d1, d2, d3] }
  | _ => none }
def fnExactIsInBoxRow : OpenClaim := { program := "ytmglobbidgoebaa", sum := "b4555d9633713a455b2a036140cad05ba9cbaef62529d9fe440f19cec247ce78", func := "loop.example/g03113/laws.FnExactIsInBox", spec := "fnExactIsInBox", apart := false }
def FnExactIsInBoxSaid : Prop := fnExactIsInBoxRow.holds Try.pinned (OpenSpec.ofChange fnExactIsInBoxSpec)

/-- ITS FALSE NEIGHBOUR: 'it returns false'. Refute it at one input. -/
def fnExactIsInBoxWrong : ChangeSpec := { name := "fnExactIsInBox", fn := fun _ => fun
  | [d1, d2, d3] => { results := [.lit (.bool false)], args := [d1, d2, d3] }
  | _ => none }
def FnExactIsInBoxWrongFalsely : Prop := fnExactIsInBoxRow.holds Try.pinned (OpenSpec.ofChange fnExactIsInBoxWrong)

/-- 'laws.FnExactRotateString': WHATEVER THE INPUT: true; the input reads as it did. -/
def fnExactRotateStringSpec : ChangeSpec := { name := "fnExactRotateString", fn := fun _ => fun
  | [d] => { results := [.lit (.bool true)], args := [d] }
  | _ => none }
def fnExactRotateStringRow : OpenClaim := { program := "ytmglobbidgoebaa", sum := "b4555d9633713a455b2a036140cad05ba9cbaef62529d9fe440f19cec247ce78", func := "loop.example/g03113/laws.FnExactRotateString", spec := "fnExactRotateString", apart := false }
def FnExactRotateStringSaid : Prop := fnExactRotateStringRow.holds Try.pinned (OpenSpec.ofChange fnExactRotateStringSpec)

/-- ITS FALSE NEIGHBOUR: 'it returns false'. Refute it at one input. -/
def fnExactRotateStringWrong : ChangeSpec := { name := "fnExactRotateString", fn := fun _ => fun
  | [d] => { results := [.lit (.bool false)], args := [d] }
  | _ => none }
def FnExactRotateStringWrongFalsely : Prop := fnExactRotateStringRow.holds Try.pinned (OpenSpec.ofChange fnExactRotateStringWrong)

/-- 'laws.FnExactMatrixOk': WHATEVER THE INPUT: true; the input reads as it did. -/
def fnExactMatrixOkSpec : ChangeSpec := { name := "fnExactMatrixOk", fn := fun _ => fun
  | [d] => { results := [.lit (.bool true)], args := [d] }
  | _ => none }
def fnExactMatrixOkRow : OpenClaim := { program := "ytmglobbidgoebaa", sum := "b4555d9633713a455b2a036140cad05ba9cbaef62529d9fe440f19cec247ce78", func := "loop.example/g03113/laws.FnExactMatrixOk", spec := "fnExactMatrixOk", apart := false }
def FnExactMatrixOkSaid : Prop := fnExactMatrixOkRow.holds Try.pinned (OpenSpec.ofChange fnExactMatrixOkSpec)

/-- ITS FALSE NEIGHBOUR: 'it returns false'. Refute it at one input. -/
def fnExactMatrixOkWrong : ChangeSpec := { name := "fnExactMatrixOk", fn := fun _ => fun
  | [d] => { results := [.lit (.bool false)], args := [d] }
  | _ => none }
def FnExactMatrixOkWrongFalsely : Prop := fnExactMatrixOkRow.holds Try.pinned (OpenSpec.ofChange fnExactMatrixOkWrong)

/-- 'laws.FnExactCountSpaces': WHATEVER THE INPUT: true; the input reads as it did. -/
def fnExactCountSpacesSpec : ChangeSpec := { name := "fnExactCountSpaces", fn := fun _ => fun
  | [d1, d2, d3] => { results := [.lit (.bool true)], args := [d1, d2, d3] }
  | _ => none }
def fnExactCountSpacesRow : OpenClaim := { program := "ytmglobbidgoebaa", sum := "b4555d9633713a455b2a036140cad05ba9cbaef62529d9fe440f19cec247ce78", func := "loop.example/g03113/laws.FnExactCountSpaces", spec := "fnExactCountSpaces", recurses := true, apart := false }
def FnExactCountSpacesSaid : Prop := fnExactCountSpacesRow.holds Try.pinned (OpenSpec.ofChange fnExactCountSpacesSpec)

/-- ITS FALSE NEIGHBOUR: 'it returns false'. Refute it at one input. -/
def fnExactCountSpacesWrong : ChangeSpec := { name := "fnExactCountSpaces", fn := fun _ => fun
  | [d1, d2, d3] => { results := [.lit (.bool false)], args := [d1, d2, d3] }
  | _ => none }
def FnExactCountSpacesWrongFalsely : Prop := fnExactCountSpacesRow.holds Try.pinned (OpenSpec.ofChange fnExactCountSpacesWrong)

/-- 'laws.FnExactGaussCounts': WHATEVER THE INPUT: true; the input reads as it did. -/
def fnExactGaussCountsSpec : ChangeSpec := { name := "fnExactGaussCounts", fn := fun _ => fun
  | [d1, d2] => { results := [.lit (.bool true)], args := [d1, d2] }
  | _ => none }
def fnExactGaussCountsRow : OpenClaim := { program := "ytmglobbidgoebaa", sum := "b4555d9633713a455b2a036140cad05ba9cbaef62529d9fe440f19cec247ce78", func := "loop.example/g03113/laws.FnExactGaussCounts", spec := "fnExactGaussCounts", recurses := true, apart := false }
def FnExactGaussCountsSaid : Prop := fnExactGaussCountsRow.holds Try.pinned (OpenSpec.ofChange fnExactGaussCountsSpec)

/-- ITS FALSE NEIGHBOUR: 'it returns false'. Refute it at one input. -/
def fnExactGaussCountsWrong : ChangeSpec := { name := "fnExactGaussCounts", fn := fun _ => fun
  | [d1, d2] => { results := [.lit (.bool false)], args := [d1, d2] }
  | _ => none }
def FnExactGaussCountsWrongFalsely : Prop := fnExactGaussCountsRow.holds Try.pinned (OpenSpec.ofChange fnExactGaussCountsWrong)

/-- 'laws.FnGauss': WHATEVER THE INPUT: true; the input reads as it did. -/
def fnGaussSpec : ChangeSpec := { name := "fnGauss", fn := fun _ => fun
  | [d] => { results := [.lit (.bool true)], args := [d] }
  | _ => none }
def fnGaussRow : OpenClaim := { program := "ytmglobbidgoebaa", sum := "b4555d9633713a455b2a036140cad05ba9cbaef62529d9fe440f19cec247ce78", func := "loop.example/g03113/laws.FnGauss", spec := "fnGauss", recurses := true, apart := false }
def FnGaussSaid : Prop := fnGaussRow.holds Try.pinned (OpenSpec.ofChange fnGaussSpec)

/-- ITS FALSE NEIGHBOUR: 'it returns false'. Refute it at one input. -/
def fnGaussWrong : ChangeSpec := { name := "fnGauss", fn := fun _ => fun
  | [d] => { results := [.lit (.bool false)], args := [d] }
  | _ => none }
def FnGaussWrongFalsely : Prop := fnGaussRow.holds Try.pinned (OpenSpec.ofChange fnGaussWrong)

/-- 'laws.FnExactDualShape': WHATEVER THE INPUT: true; the input reads as it did. -/
def fnExactDualShapeSpec : ChangeSpec := { name := "fnExactDualShape", fn := fun _ => fun
  | [d1, d2, d3] => { results := [.lit (.bool true)], args := [d1, d2, d3] }
  | _ => none }
def fnExactDualShapeRow : OpenClaim := { program := "ytmglobbidgoebaa", sum := "b4555d9633713a455b2a036140cad05ba9cbaef62529d9fe440f19cec247ce78", func := "loop.example/g03113/laws.FnExactDualShape", spec := "fnExactDualShape", apart := false }
def FnExactDualShapeSaid : Prop := fnExactDualShapeRow.holds Try.pinned (OpenSpec.ofChange fnExactDualShapeSpec)

/-- ITS FALSE NEIGHBOUR: 'it returns false'. Refute it at one input. -/
def fnExactDualShapeWrong : ChangeSpec := { name := "fnExactDualShape", fn := fun _ => fun
  | [d1, d2, d3] => { results := [.lit (.bool false)], args := [d1, d2, d3] }
  | _ => none }
def FnExactDualShapeWrongFalsely : Prop := fnExactDualShapeRow.holds Try.pinned (OpenSpec.ofChange fnExactDualShapeWrong)

/-- 'laws.FnExactShapeOfString': WHATEVER THE INPUT: true; the input reads as it did. -/
def fnExactShapeOfStringSpec : ChangeSpec := { name := "fnExactShapeOfString", fn := fun _ => fun
  | [d] => { results := [.lit (.bool true)], args := [d] }
  | _ => none }
def fnExactShapeOfStringRow : OpenClaim := { program := "ytmglobbidgoebaa", sum := "b4555d9633713a455b2a036140cad05ba9cbaef62529d9fe440f19cec247ce78", func := "loop.example/g03113/laws.FnExactShapeOfString", spec := "fnExactShapeOfString", apart := false }
def FnExactShapeOfStringSaid : Prop := fnExactShapeOfStringRow.holds Try.pinned (OpenSpec.ofChange fnExactShapeOfStringSpec)

/-- ITS FALSE NEIGHBOUR: 'it returns false'. Refute it at one input. -/
def fnExactShapeOfStringWrong : ChangeSpec := { name := "fnExactShapeOfString", fn := fun _ => fun
  | [d] => { results := [.lit (.bool false)], args := [d] }
  | _ => none }
def FnExactShapeOfStringWrongFalsely : Prop := fnExactShapeOfStringRow.holds Try.pinned (OpenSpec.ofChange fnExactShapeOfStringWrong)

/-- 'laws.FnExactStringOfShape': WHATEVER THE INPUT: true; the input reads as it did. -/
def fnExactStringOfShapeSpec : ChangeSpec := { name := "fnExactStringOfShape", fn := fun _ => fun
  | [d1, d2, d3] => { results := [.lit (.bool true)], args := [d1, d2, d3] }
  | _ => none }
def fnExactStringOfShapeRow : OpenClaim := { program := "ytmglobbidgoebaa", sum := "b4555d9633713a455b2a036140cad05ba9cbaef62529d9fe440f19cec247ce78", func := "loop.example/g03113/laws.FnExactStringOfShape", spec := "fnExactStringOfShape", apart := false }
def FnExactStringOfShapeSaid : Prop := fnExactStringOfShapeRow.holds Try.pinned (OpenSpec.ofChange fnExactStringOfShapeSpec)

/-- ITS FALSE NEIGHBOUR: 'it returns false'. Refute it at one input. -/
def fnExactStringOfShapeWrong : ChangeSpec := { name := "fnExactStringOfShape", fn := fun _ => fun
  | [d1, d2, d3] => { results := [.lit (.bool false)], args := [d1, d2, d3] }
  | _ => none }
def FnExactStringOfShapeWrongFalsely : Prop := fnExactStringOfShapeRow.holds Try.pinned (OpenSpec.ofChange fnExactStringOfShapeWrong)

/-- 'laws.FnExactGrassmannianPerm': WHATEVER THE INPUT: true; the input reads as it did. -/
def fnExactGrassmannianPermSpec : ChangeSpec := { name := "fnExactGrassmannianPerm", fn := fun _ => fun
  | [d1, d2, d3] => { results := [.lit (.bool true)], args := [d1, d2, d3] }
  | _ => none }
def fnExactGrassmannianPermRow : OpenClaim := { program := "ytmglobbidgoebaa", sum := "b4555d9633713a455b2a036140cad05ba9cbaef62529d9fe440f19cec247ce78", func := "loop.example/g03113/laws.FnExactGrassmannianPerm", spec := "fnExactGrassmannianPerm", apart := false }
def FnExactGrassmannianPermSaid : Prop := fnExactGrassmannianPermRow.holds Try.pinned (OpenSpec.ofChange fnExactGrassmannianPermSpec)

/-- ITS FALSE NEIGHBOUR: 'it returns false'. Refute it at one input. -/
def fnExactGrassmannianPermWrong : ChangeSpec := { name := "fnExactGrassmannianPerm", fn := fun _ => fun
  | [d1, d2, d3] => { results := [.lit (.bool false)], args := [d1, d2, d3] }
  | _ => none }
def FnExactGrassmannianPermWrongFalsely : Prop := fnExactGrassmannianPermRow.holds Try.pinned (OpenSpec.ofChange fnExactGrassmannianPermWrong)

/-- 'laws.FnExactDegreeOfGr': WHATEVER THE INPUT: true; the input reads as it did. -/
def fnExactDegreeOfGrSpec : ChangeSpec := { name := "fnExactDegreeOfGr", fn := fun _ => fun
  | [d1, d2] => { results := [.lit (.bool true)], args := [d1, d2] }
  | _ => none }
def fnExactDegreeOfGrRow : OpenClaim := { program := "ytmglobbidgoebaa", sum := "b4555d9633713a455b2a036140cad05ba9cbaef62529d9fe440f19cec247ce78", func := "loop.example/g03113/laws.FnExactDegreeOfGr", spec := "fnExactDegreeOfGr", apart := false }
def FnExactDegreeOfGrSaid : Prop := fnExactDegreeOfGrRow.holds Try.pinned (OpenSpec.ofChange fnExactDegreeOfGrSpec)

/-- ITS FALSE NEIGHBOUR: 'it returns false'. Refute it at one input. -/
def fnExactDegreeOfGrWrong : ChangeSpec := { name := "fnExactDegreeOfGr", fn := fun _ => fun
  | [d1, d2] => { results := [.lit (.bool false)], args := [d1, d2] }
  | _ => none }
def FnExactDegreeOfGrWrongFalsely : Prop := fnExactDegreeOfGrRow.holds Try.pinned (OpenSpec.ofChange fnExactDegreeOfGrWrong)

/- THE SECOND FORM. 'bulk': how many values and letters a reading holds, each counted each time it is reached (what is shared counts as often as it is met; a slice's spare places count too). A statement '..UptoSaid' is the law's where the arguments, and the package variables that the reading takes, are together of bulk at most 1048576: NARROWER than '..Said'. Prove '..Said' where nothing that the law and all that it calls make is longer than what came in: it says more and counts as full. Else prove '..UptoSaid'. A law counts once. -/
mutual
def uptoBulk {H : Type} : DataW H → Nat
  | .lit (.string bytes) => bytes.length + 1
  | .lit _ => 1
  | .nil => 1
  | .ptr d => uptoBulk d + 1
  | .slice elems spare => uptoBulkAll elems + uptoBulkAll spare + 1
  | .agg parts => uptoBulkAll parts + 1
  | .iface _ d => uptoBulk d + 1
  | .map entries => uptoBulkEntries entries + 1
  | .held _ => 1
def uptoBulkAll {H : Type} : List (DataW H) → Nat
  | [] => 0
  | d :: r => uptoBulk d + uptoBulkAll r
def uptoBulkEntries {H : Type} : List (Lit × DataW H) → Nat
  | [] => 0
  | x :: r => uptoBulkEntry x + uptoBulkEntries r
def uptoBulkEntry {H : Type} : Lit × DataW H → Nat
  | (.string bytes, d) => bytes.length + uptoBulk d + 1
  | (_, d) => uptoBulk d + 1
 end
def uptoSmall : (H : Type) → List (DataW H) → Bool := fun _ ds => decide (uptoBulkAll ds ≤ 1048576)
def OpenSpec.upto (s : _root_.Go.ChangeSpec) : _root_.Go.OpenSpec := { _root_.Go.OpenSpec.ofChange s with cond := some uptoSmall }

/-- 'laws.FnExactIsString', WHERE WHAT IT READS IS OF BULK AT MOST 1048576: true; the input reads as it did. -/
def fnExactIsStringUptoRow : OpenClaim := { program := "ytmglobbidgoebaa", sum := "b4555d9633713a455b2a036140cad05ba9cbaef62529d9fe440f19cec247ce78", func := "loop.example/g03113/laws.FnExactIsString", spec := "fnExactIsString", apart := false, narrowed := true }
def FnExactIsStringUptoSaid : Prop := fnExactIsStringUptoRow.holds Try.pinned (OpenSpec.upto fnExactIsStringSpec)

/-- 'laws.FnExactIsInBox', WHERE WHAT IT READS IS OF BULK AT MOST 1048576: true; the input reads as it did. -/
def fnExactIsInBoxUptoRow : OpenClaim := { program := "ytmglobbidgoebaa", sum := "b4555d9633713a455b2a036140cad05ba9cbaef62529d9fe440f19cec247ce78", func := "loop.example/g03113/laws.FnExactIsInBox", spec := "fnExactIsInBox", apart := false, narrowed := true }
def FnExactIsInBoxUptoSaid : Prop := fnExactIsInBoxUptoRow.holds Try.pinned (OpenSpec.upto fnExactIsInBoxSpec)

/-- 'laws.FnExactRotateString', WHERE WHAT IT READS IS OF BULK AT MOST 1048576: true; the input reads as it did. -/
def fnExactRotateStringUptoRow : OpenClaim := { program := "ytmglobbidgoebaa", sum := "b4555d9633713a455b2a036140cad05ba9cbaef62529d9fe440f19cec247ce78", func := "loop.example/g03113/laws.FnExactRotateString", spec := "fnExactRotateString", apart := false, narrowed := true }
def FnExactRotateStringUptoSaid : Prop := fnExactRotateStringUptoRow.holds Try.pinned (OpenSpec.upto fnExactRotateStringSpec)

/-- 'laws.FnExactMatrixOk', WHERE WHAT IT READS IS OF BULK AT MOST 1048576: true; the input reads as it did. -/
def fnExactMatrixOkUptoRow : OpenClaim := { program := "ytmglobbidgoebaa", sum := "b4555d9633713a455b2a036140cad05ba9cbaef62529d9fe440f19cec247ce78", func := "loop.example/g03113/laws.FnExactMatrixOk", spec := "fnExactMatrixOk", apart := false, narrowed := true }
def FnExactMatrixOkUptoSaid : Prop := fnExactMatrixOkUptoRow.holds Try.pinned (OpenSpec.upto fnExactMatrixOkSpec)

/-- 'laws.FnExactCountSpaces', WHERE WHAT IT READS IS OF BULK AT MOST 1048576: true; the input reads as it did. -/
def fnExactCountSpacesUptoRow : OpenClaim := { program := "ytmglobbidgoebaa", sum := "b4555d9633713a455b2a036140cad05ba9cbaef62529d9fe440f19cec247ce78", func := "loop.example/g03113/laws.FnExactCountSpaces", spec := "fnExactCountSpaces", recurses := true, apart := false, narrowed := true }
def FnExactCountSpacesUptoSaid : Prop := fnExactCountSpacesUptoRow.holds Try.pinned (OpenSpec.upto fnExactCountSpacesSpec)

/-- 'laws.FnExactGaussCounts', WHERE WHAT IT READS IS OF BULK AT MOST 1048576: true; the input reads as it did. -/
def fnExactGaussCountsUptoRow : OpenClaim := { program := "ytmglobbidgoebaa", sum := "b4555d9633713a455b2a036140cad05ba9cbaef62529d9fe440f19cec247ce78", func := "loop.example/g03113/laws.FnExactGaussCounts", spec := "fnExactGaussCounts", recurses := true, apart := false, narrowed := true }
def FnExactGaussCountsUptoSaid : Prop := fnExactGaussCountsUptoRow.holds Try.pinned (OpenSpec.upto fnExactGaussCountsSpec)

/-- 'laws.FnGauss', WHERE WHAT IT READS IS OF BULK AT MOST 1048576: true; the input reads as it did. -/
def fnGaussUptoRow : OpenClaim := { program := "ytmglobbidgoebaa", sum := "b4555d9633713a455b2a036140cad05ba9cbaef62529d9fe440f19cec247ce78", func := "loop.example/g03113/laws.FnGauss", spec := "fnGauss", recurses := true, apart := false, narrowed := true }
def FnGaussUptoSaid : Prop := fnGaussUptoRow.holds Try.pinned (OpenSpec.upto fnGaussSpec)

/-- 'laws.FnExactDualShape', WHERE WHAT IT READS IS OF BULK AT MOST 1048576: true; the input reads as it did. -/
def fnExactDualShapeUptoRow : OpenClaim := { program := "ytmglobbidgoebaa", sum := "b4555d9633713a455b2a036140cad05ba9cbaef62529d9fe440f19cec247ce78", func := "loop.example/g03113/laws.FnExactDualShape", spec := "fnExactDualShape", apart := false, narrowed := true }
def FnExactDualShapeUptoSaid : Prop := fnExactDualShapeUptoRow.holds Try.pinned (OpenSpec.upto fnExactDualShapeSpec)

/-- 'laws.FnExactShapeOfString', WHERE WHAT IT READS IS OF BULK AT MOST 1048576: true; the input reads as it did. -/
def fnExactShapeOfStringUptoRow : OpenClaim := { program := "ytmglobbidgoebaa", sum := "b4555d9633713a455b2a036140cad05ba9cbaef62529d9fe440f19cec247ce78", func := "loop.example/g03113/laws.FnExactShapeOfString", spec := "fnExactShapeOfString", apart := false, narrowed := true }
def FnExactShapeOfStringUptoSaid : Prop := fnExactShapeOfStringUptoRow.holds Try.pinned (OpenSpec.upto fnExactShapeOfStringSpec)

/-- 'laws.FnExactStringOfShape', WHERE WHAT IT READS IS OF BULK AT MOST 1048576: true; the input reads as it did. -/
def fnExactStringOfShapeUptoRow : OpenClaim := { program := "ytmglobbidgoebaa", sum := "b4555d9633713a455b2a036140cad05ba9cbaef62529d9fe440f19cec247ce78", func := "loop.example/g03113/laws.FnExactStringOfShape", spec := "fnExactStringOfShape", apart := false, narrowed := true }
def FnExactStringOfShapeUptoSaid : Prop := fnExactStringOfShapeUptoRow.holds Try.pinned (OpenSpec.upto fnExactStringOfShapeSpec)

/-- 'laws.FnExactGrassmannianPerm', WHERE WHAT IT READS IS OF BULK AT MOST 1048576: true; the input reads as it did. -/
def fnExactGrassmannianPermUptoRow : OpenClaim := { program := "ytmglobbidgoebaa", sum := "b4555d9633713a455b2a036140cad05ba9cbaef62529d9fe440f19cec247ce78", func := "loop.example/g03113/laws.FnExactGrassmannianPerm", spec := "fnExactGrassmannianPerm", apart := false, narrowed := true }
def FnExactGrassmannianPermUptoSaid : Prop := fnExactGrassmannianPermUptoRow.holds Try.pinned (OpenSpec.upto fnExactGrassmannianPermSpec)

/-- 'laws.FnExactDegreeOfGr', WHERE WHAT IT READS IS OF BULK AT MOST 1048576: true; the input reads as it did. -/
def fnExactDegreeOfGrUptoRow : OpenClaim := { program := "ytmglobbidgoebaa", sum := "b4555d9633713a455b2a036140cad05ba9cbaef62529d9fe440f19cec247ce78", func := "loop.example/g03113/laws.FnExactDegreeOfGr", spec := "fnExactDegreeOfGr", apart := false, narrowed := true }
def FnExactDegreeOfGrUptoSaid : Prop := fnExactDegreeOfGrUptoRow.holds Try.pinned (OpenSpec.upto fnExactDegreeOfGrSpec)

end Rows
end Go.Proofs.Ytmglobbidgoebaa
