/-
  No cell of these rows narrows 'for every input' (looked for: loops, veiled, ifaces, maps, wideKeys, modest, calm, conditions, laid).
  DERIVED. THE GIVEN ROWS OF THIS SEAT. 12 by the template 'for every input the law returns true; each argument reads behind the call as it read before'; 0 by the template 'total and deterministic' (their statements: YtemafljipkcgcaaTotals.lean).
  GIVEN WITH THE SEED: the statements are not yours to turn. If you find one false, say at which input.
  Laid BY PROGRAM, IN A SANDBOX (cutbox-rows.mjs): the forced cells as the released guide's own fill.sh prints them over the translation 047e8667b810c284… (all of the seat's roots in one cut). By AI agents, Wed Nov 11 2026. No macro, syntax, notation, axiom, sorry.
-/
import Derived.Test.YtemafljipkcgcaaChecked
import GoSem.Claim
import GoSem.ClaimJoined
import GoSem.ClaimMapViews
import Derived.JoinedTies
import Derived.KernelRfl
namespace Go.Proofs.Ytemafljipkcgcaa
/- THE CELL 'sum', in the pinned program and in every row, IS THE sha256 OF THE DUMP (.gsa) THAT YtemafljipkcgcaaProg.lean LOADS. Nothing in Lean hashes anything: it is a label: what it is worth is what the hold of that sum in a sandbox is worth. -/
noncomputable def Try.pinned : Pinned := { name := "ytemafljipkcgcaa", sum := "047e8667b810c284ba7bbceea39f59ed1ec475ef8dd0c906d8b78963c6b281c6", checked := Try.checked }
namespace Rows
def none {H : Type} : Left H := { results := [], args := [] }

/-- 'laws.FnExactPuzzleOk': WHATEVER THE INPUT: true; the input reads as it did. -/
def fnExactPuzzleOkSpec : ChangeSpec := { name := "fnExactPuzzleOk", fn := fun _ => fun
  | [d] => { results := [.lit (.bool true)], args := [d] }
  | _ => none }
def fnExactPuzzleOkRow : OpenClaim := { program := "ytemafljipkcgcaa", sum := "047e8667b810c284ba7bbceea39f59ed1ec475ef8dd0c906d8b78963c6b281c6", func := "loop.example/g03113/laws.FnExactPuzzleOk", spec := "fnExactPuzzleOk", apart := false }
def FnExactPuzzleOkSaid : Prop := fnExactPuzzleOkRow.holds Try.pinned (OpenSpec.ofChange fnExactPuzzleOkSpec)

/-- ITS FALSE NEIGHBOUR: 'it returns false'. Refute it at one input. -/
def fnExactPuzzleOkWrong : ChangeSpec := { name := "fnExactPuzzleOk", fn := fun _ => fun
  | [d] => { results := [.lit (.bool false)], args := [d] }
  | _ => none }
def FnExactPuzzleOkWrongFalsely : Prop := fnExactPuzzleOkRow.holds Try.pinned (OpenSpec.ofChange fnExactPuzzleOkWrong)

/-- 'laws.FnExactWeightedOk': WHATEVER THE INPUT: true; the input reads as it did. -/
def fnExactWeightedOkSpec : ChangeSpec := { name := "fnExactWeightedOk", fn := fun _ => fun
  | [d] => { results := [.lit (.bool true)], args := [d] }
  | _ => none }
def fnExactWeightedOkRow : OpenClaim := { program := "ytemafljipkcgcaa", sum := "047e8667b810c284ba7bbceea39f59ed1ec475ef8dd0c906d8b78963c6b281c6", func := "loop.example/g03113/laws.FnExactWeightedOk", spec := "fnExactWeightedOk", apart := false }
def FnExactWeightedOkSaid : Prop := fnExactWeightedOkRow.holds Try.pinned (OpenSpec.ofChange fnExactWeightedOkSpec)

/-- ITS FALSE NEIGHBOUR: 'it returns false'. Refute it at one input. -/
def fnExactWeightedOkWrong : ChangeSpec := { name := "fnExactWeightedOk", fn := fun _ => fun
  | [d] => { results := [.lit (.bool false)], args := [d] }
  | _ => none }
def FnExactWeightedOkWrongFalsely : Prop := fnExactWeightedOkRow.holds Try.pinned (OpenSpec.ofChange fnExactWeightedOkWrong)

/-- 'laws.FnExactPuzzleWeight': WHATEVER THE INPUT: true; the input reads as it did. -/
def fnExactPuzzleWeightSpec : ChangeSpec := { name := "fnExactPuzzleWeight", fn := fun _ => fun
  | [d1, d2] => { results := [.lit (.bool true)], args := [d1, d2] }
  | _ => none }
def fnExactPuzzleWeightRow : OpenClaim := { program := "ytemafljipkcgcaa", sum := "047e8667b810c284ba7bbceea39f59ed1ec475ef8dd0c906d8b78963c6b281c6", func := "loop.example/g03113/laws.FnExactPuzzleWeight", spec := "fnExactPuzzleWeight", apart := false }
def FnExactPuzzleWeightSaid : Prop := fnExactPuzzleWeightRow.holds Try.pinned (OpenSpec.ofChange fnExactPuzzleWeightSpec)

/-- ITS FALSE NEIGHBOUR: 'it returns false'. Refute it at one input. -/
def fnExactPuzzleWeightWrong : ChangeSpec := { name := "fnExactPuzzleWeight", fn := fun _ => fun
  | [d1, d2] => { results := [.lit (.bool false)], args := [d1, d2] }
  | _ => none }
def FnExactPuzzleWeightWrongFalsely : Prop := fnExactPuzzleWeightRow.holds Try.pinned (OpenSpec.ofChange fnExactPuzzleWeightWrong)

/-- 'laws.FnExactSidesOf': WHATEVER THE INPUT: true; the input reads as it did. -/
def fnExactSidesOfSpec : ChangeSpec := { name := "fnExactSidesOf", fn := fun _ => fun
  | [d] => { results := [.lit (.bool true)], args := [d] }
  | _ => none }
def fnExactSidesOfRow : OpenClaim := { program := "ytemafljipkcgcaa", sum := "047e8667b810c284ba7bbceea39f59ed1ec475ef8dd0c906d8b78963c6b281c6", func := "loop.example/g03113/laws.FnExactSidesOf", spec := "fnExactSidesOf", apart := false }
def FnExactSidesOfSaid : Prop := fnExactSidesOfRow.holds Try.pinned (OpenSpec.ofChange fnExactSidesOfSpec)

/-- ITS FALSE NEIGHBOUR: 'it returns false'. Refute it at one input. -/
def fnExactSidesOfWrong : ChangeSpec := { name := "fnExactSidesOf", fn := fun _ => fun
  | [d] => { results := [.lit (.bool false)], args := [d] }
  | _ => none }
def FnExactSidesOfWrongFalsely : Prop := fnExactSidesOfRow.holds Try.pinned (OpenSpec.ofChange fnExactSidesOfWrong)

/-- 'laws.FnExactRotatePuzzle': WHATEVER THE INPUT: true; the input reads as it did. -/
def fnExactRotatePuzzleSpec : ChangeSpec := { name := "fnExactRotatePuzzle", fn := fun _ => fun
  | [d] => { results := [.lit (.bool true)], args := [d] }
  | _ => none }
def fnExactRotatePuzzleRow : OpenClaim := { program := "ytemafljipkcgcaa", sum := "047e8667b810c284ba7bbceea39f59ed1ec475ef8dd0c906d8b78963c6b281c6", func := "loop.example/g03113/laws.FnExactRotatePuzzle", spec := "fnExactRotatePuzzle", apart := false }
def FnExactRotatePuzzleSaid : Prop := fnExactRotatePuzzleRow.holds Try.pinned (OpenSpec.ofChange fnExactRotatePuzzleSpec)

/-- ITS FALSE NEIGHBOUR: 'it returns false'. Refute it at one input. -/
def fnExactRotatePuzzleWrong : ChangeSpec := { name := "fnExactRotatePuzzle", fn := fun _ => fun
  | [d] => { results := [.lit (.bool false)], args := [d] }
  | _ => none }
def FnExactRotatePuzzleWrongFalsely : Prop := fnExactRotatePuzzleRow.holds Try.pinned (OpenSpec.ofChange fnExactRotatePuzzleWrong)

/-- 'laws.FnExactMirrorPuzzle': WHATEVER THE INPUT: true; the input reads as it did. -/
def fnExactMirrorPuzzleSpec : ChangeSpec := { name := "fnExactMirrorPuzzle", fn := fun _ => fun
  | [d] => { results := [.lit (.bool true)], args := [d] }
  | _ => none }
def fnExactMirrorPuzzleRow : OpenClaim := { program := "ytemafljipkcgcaa", sum := "047e8667b810c284ba7bbceea39f59ed1ec475ef8dd0c906d8b78963c6b281c6", func := "loop.example/g03113/laws.FnExactMirrorPuzzle", spec := "fnExactMirrorPuzzle", apart := false }
def FnExactMirrorPuzzleSaid : Prop := fnExactMirrorPuzzleRow.holds Try.pinned (OpenSpec.ofChange fnExactMirrorPuzzleSpec)

/-- ITS FALSE NEIGHBOUR: 'it returns false'. Refute it at one input. -/
def fnExactMirrorPuzzleWrong : ChangeSpec := { name := "fnExactMirrorPuzzle", fn := fun _ => fun
  | [d] => { results := [.lit (.bool false)], args := [d] }
  | _ => none }
def FnExactMirrorPuzzleWrongFalsely : Prop := fnExactMirrorPuzzleRow.holds Try.pinned (OpenSpec.ofChange fnExactMirrorPuzzleWrong)

/-- 'laws.FnExactFormatPuzzle': WHATEVER THE INPUT: true; the input reads as it did. -/
def fnExactFormatPuzzleSpec : ChangeSpec := { name := "fnExactFormatPuzzle", fn := fun _ => fun
  | [d] => { results := [.lit (.bool true)], args := [d] }
  | _ => none }
def fnExactFormatPuzzleRow : OpenClaim := { program := "ytemafljipkcgcaa", sum := "047e8667b810c284ba7bbceea39f59ed1ec475ef8dd0c906d8b78963c6b281c6", func := "loop.example/g03113/laws.FnExactFormatPuzzle", spec := "fnExactFormatPuzzle", inPlace := ["internal/abi.NoEscape", "internal/bytealg.MakeNoZero"], recurses := true, apart := false }
def FnExactFormatPuzzleSaid : Prop := fnExactFormatPuzzleRow.holds Try.pinned (OpenSpec.ofChange fnExactFormatPuzzleSpec)

/-- ITS FALSE NEIGHBOUR: 'it returns false'. Refute it at one input. -/
def fnExactFormatPuzzleWrong : ChangeSpec := { name := "fnExactFormatPuzzle", fn := fun _ => fun
  | [d] => { results := [.lit (.bool false)], args := [d] }
  | _ => none }
def FnExactFormatPuzzleWrongFalsely : Prop := fnExactFormatPuzzleRow.holds Try.pinned (OpenSpec.ofChange fnExactFormatPuzzleWrong)

/-- 'laws.FnExactFormatQParts': WHATEVER THE INPUT: true; the input reads as it did. -/
def fnExactFormatQPartsSpec : ChangeSpec := { name := "fnExactFormatQParts", fn := fun _ => fun
  | [d] => { results := [.lit (.bool true)], args := [d] }
  | _ => none }
def fnExactFormatQPartsRow : OpenClaim := { program := "ytemafljipkcgcaa", sum := "047e8667b810c284ba7bbceea39f59ed1ec475ef8dd0c906d8b78963c6b281c6", func := "loop.example/g03113/laws.FnExactFormatQParts", spec := "fnExactFormatQParts", inPlace := ["internal/abi.NoEscape", "internal/bytealg.MakeNoZero"], recurses := true, apart := false }
def FnExactFormatQPartsSaid : Prop := fnExactFormatQPartsRow.holds Try.pinned (OpenSpec.ofChange fnExactFormatQPartsSpec)

/-- ITS FALSE NEIGHBOUR: 'it returns false'. Refute it at one input. -/
def fnExactFormatQPartsWrong : ChangeSpec := { name := "fnExactFormatQParts", fn := fun _ => fun
  | [d] => { results := [.lit (.bool false)], args := [d] }
  | _ => none }
def FnExactFormatQPartsWrongFalsely : Prop := fnExactFormatQPartsRow.holds Try.pinned (OpenSpec.ofChange fnExactFormatQPartsWrong)

/-- 'laws.FnBoxed': WHATEVER THE INPUT: true; the input reads as it did. -/
def fnBoxedSpec : ChangeSpec := { name := "fnBoxed", fn := fun _ => fun
  | [d] => { results := [.lit (.bool true)], args := [d] }
  | _ => none }
def fnBoxedRow : OpenClaim := { program := "ytemafljipkcgcaa", sum := "047e8667b810c284ba7bbceea39f59ed1ec475ef8dd0c906d8b78963c6b281c6", func := "loop.example/g03113/laws.FnBoxed", spec := "fnBoxed", apart := false }
def FnBoxedSaid : Prop := fnBoxedRow.holds Try.pinned (OpenSpec.ofChange fnBoxedSpec)

/-- ITS FALSE NEIGHBOUR: 'it returns false'. Refute it at one input. -/
def fnBoxedWrong : ChangeSpec := { name := "fnBoxed", fn := fun _ => fun
  | [d] => { results := [.lit (.bool false)], args := [d] }
  | _ => none }
def FnBoxedWrongFalsely : Prop := fnBoxedRow.holds Try.pinned (OpenSpec.ofChange fnBoxedWrong)

/-- 'laws.FnExactPieriShapes': WHATEVER THE INPUT: true; the input reads as it did. -/
def fnExactPieriShapesSpec : ChangeSpec := { name := "fnExactPieriShapes", fn := fun _ => fun
  | [d1, d2, d3, d4] => { results := [.lit (.bool true)], args := [d1, d2, d3, d4] }
  | _ => none }
def fnExactPieriShapesRow : OpenClaim := { program := "ytemafljipkcgcaa", sum := "047e8667b810c284ba7bbceea39f59ed1ec475ef8dd0c906d8b78963c6b281c6", func := "loop.example/g03113/laws.FnExactPieriShapes", spec := "fnExactPieriShapes", recurses := true, apart := false }
def FnExactPieriShapesSaid : Prop := fnExactPieriShapesRow.holds Try.pinned (OpenSpec.ofChange fnExactPieriShapesSpec)

/-- ITS FALSE NEIGHBOUR: 'it returns false'. Refute it at one input. -/
def fnExactPieriShapesWrong : ChangeSpec := { name := "fnExactPieriShapes", fn := fun _ => fun
  | [d1, d2, d3, d4] => { results := [.lit (.bool false)], args := [d1, d2, d3, d4] }
  | _ => none }
def FnExactPieriShapesWrongFalsely : Prop := fnExactPieriShapesRow.holds Try.pinned (OpenSpec.ofChange fnExactPieriShapesWrong)

/-- 'laws.FnExactQuantumPieri': WHATEVER THE INPUT: true; the input reads as it did. -/
def fnExactQuantumPieriSpec : ChangeSpec := { name := "fnExactQuantumPieri", fn := fun _ => fun
  | [d1, d2, d3, d4] => { results := [.lit (.bool true)], args := [d1, d2, d3, d4] }
  | _ => none }
def fnExactQuantumPieriRow : OpenClaim := { program := "ytemafljipkcgcaa", sum := "047e8667b810c284ba7bbceea39f59ed1ec475ef8dd0c906d8b78963c6b281c6", func := "loop.example/g03113/laws.FnExactQuantumPieri", spec := "fnExactQuantumPieri", recurses := true, apart := false }
def FnExactQuantumPieriSaid : Prop := fnExactQuantumPieriRow.holds Try.pinned (OpenSpec.ofChange fnExactQuantumPieriSpec)

/-- ITS FALSE NEIGHBOUR: 'it returns false'. Refute it at one input. -/
def fnExactQuantumPieriWrong : ChangeSpec := { name := "fnExactQuantumPieri", fn := fun _ => fun
  | [d1, d2, d3, d4] => { results := [.lit (.bool false)], args := [d1, d2, d3, d4] }
  | _ => none }
def FnExactQuantumPieriWrongFalsely : Prop := fnExactQuantumPieriRow.holds Try.pinned (OpenSpec.ofChange fnExactQuantumPieriWrong)

/-- 'laws.FnExactWrapShape': WHATEVER THE INPUT: true; the input reads as it did. -/
def fnExactWrapShapeSpec : ChangeSpec := { name := "fnExactWrapShape", fn := fun _ => fun
  | [d1, d2, d3] => { results := [.lit (.bool true)], args := [d1, d2, d3] }
  | _ => none }
def fnExactWrapShapeRow : OpenClaim := { program := "ytemafljipkcgcaa", sum := "047e8667b810c284ba7bbceea39f59ed1ec475ef8dd0c906d8b78963c6b281c6", func := "loop.example/g03113/laws.FnExactWrapShape", spec := "fnExactWrapShape", recurses := true, apart := false }
def FnExactWrapShapeSaid : Prop := fnExactWrapShapeRow.holds Try.pinned (OpenSpec.ofChange fnExactWrapShapeSpec)

/-- ITS FALSE NEIGHBOUR: 'it returns false'. Refute it at one input. -/
def fnExactWrapShapeWrong : ChangeSpec := { name := "fnExactWrapShape", fn := fun _ => fun
  | [d1, d2, d3] => { results := [.lit (.bool false)], args := [d1, d2, d3] }
  | _ => none }
def FnExactWrapShapeWrongFalsely : Prop := fnExactWrapShapeRow.holds Try.pinned (OpenSpec.ofChange fnExactWrapShapeWrong)

/- THE SECOND FORM. 'bulk': how many values and letters a reading holds, each counted each time it is reached (what is shared counts as often as it is met; a slice's spare places count too). A statement '..UptoSaid' is the law's where the arguments, and the package variables that the reading takes, are together of bulk at most 1048576: NARROWER than '..Said'. Prove '..Said' where nothing that the law and all that it calls make is longer than what came in: it says more and counts as full. Else prove '..UptoSaid'. A law counts once. -/
mutual
def uptoBulk {H : Type} : DataW H → Nat
  | .lit (.string bytes) => bytes.length + 1
  | .lit _ => 1
  | .nil => 1
  | .ptr d => uptoBulk d + 1
  | .slice elems spare => uptoBulkAll elems + uptoBulkAll spare + 1
  | .agg parts => uptoBulkAll parts + 1
  | .iface _ d => uptoBulk d + 1
  | .map entries => uptoBulkEntries entries + 1
  | .held _ => 1
def uptoBulkAll {H : Type} : List (DataW H) → Nat
  | [] => 0
  | d :: r => uptoBulk d + uptoBulkAll r
def uptoBulkEntries {H : Type} : List (Lit × DataW H) → Nat
  | [] => 0
  | x :: r => uptoBulkEntry x + uptoBulkEntries r
def uptoBulkEntry {H : Type} : Lit × DataW H → Nat
  | (.string bytes, d) => bytes.length + uptoBulk d + 1
  | (_, d) => uptoBulk d + 1
 end
def uptoSmall : (H : Type) → List (DataW H) → Bool := fun _ ds => decide (uptoBulkAll ds ≤ 1048576)
def OpenSpec.upto (s : _root_.Go.ChangeSpec) : _root_.Go.OpenSpec := { _root_.Go.OpenSpec.ofChange s with cond := some uptoSmall }

/-- 'laws.FnExactPuzzleOk', WHERE WHAT IT READS IS OF BULK AT MOST 1048576: true; the input reads as it did. -/
def fnExactPuzzleOkUptoRow : OpenClaim := { program := "ytemafljipkcgcaa", sum := "047e8667b810c284ba7bbceea39f59ed1ec475ef8dd0c906d8b78963c6b281c6", func := "loop.example/g03113/laws.FnExactPuzzleOk", spec := "fnExactPuzzleOk", apart := false, narrowed := true }
def FnExactPuzzleOkUptoSaid : Prop := fnExactPuzzleOkUptoRow.holds Try.pinned (OpenSpec.upto fnExactPuzzleOkSpec)

/-- 'laws.FnExactWeightedOk', WHERE WHAT IT READS IS OF BULK AT MOST 1048576: true; the input reads as it did. -/
def fnExactWeightedOkUptoRow : OpenClaim := { program := "ytemafljipkcgcaa", sum := "047e8667b810c284ba7bbceea39f59ed1ec475ef8dd0c906d8b78963c6b281c6", func := "loop.example/g03113/laws.FnExactWeightedOk", spec := "fnExactWeightedOk", apart := false, narrowed := true }
def FnExactWeightedOkUptoSaid : Prop := fnExactWeightedOkUptoRow.holds Try.pinned (OpenSpec.upto fnExactWeightedOkSpec)

/-- 'laws.FnExactPuzzleWeight', WHERE WHAT IT READS IS OF BULK AT MOST 1048576: true; the input reads as it did. -/
def fnExactPuzzleWeightUptoRow : OpenClaim := { program := "ytemafljipkcgcaa", sum := "047e8667b810c284ba7bbceea39f59ed1ec475ef8dd0c906d8b78963c6b281c6", func := "loop.example/g03113/laws.FnExactPuzzleWeight", spec := "fnExactPuzzleWeight", apart := false, narrowed := true }
def FnExactPuzzleWeightUptoSaid : Prop := fnExactPuzzleWeightUptoRow.holds Try.pinned (OpenSpec.upto fnExactPuzzleWeightSpec)

/-- 'laws.FnExactSidesOf', WHERE WHAT IT READS IS OF BULK AT MOST 1048576: true; the input reads as it did. -/
def fnExactSidesOfUptoRow : OpenClaim := { program := "ytemafljipkcgcaa", sum := "047e8667b810c284ba7bbceea39f59ed1ec475ef8dd0c906d8b78963c6b281c6", func := "loop.example/g03113/laws.FnExactSidesOf", spec := "fnExactSidesOf", apart := false, narrowed := true }
def FnExactSidesOfUptoSaid : Prop := fnExactSidesOfUptoRow.holds Try.pinned (OpenSpec.upto fnExactSidesOfSpec)

/-- 'laws.FnExactRotatePuzzle', WHERE WHAT IT READS IS OF BULK AT MOST 1048576: true; the input reads as it did. -/
def fnExactRotatePuzzleUptoRow : OpenClaim := { program := "ytemafljipkcgcaa", sum := "047e8667b810c284ba7bbceea39f59ed1ec475ef8dd0c906d8b78963c6b281c6", func := "loop.example/g03113/laws.FnExactRotatePuzzle", spec := "fnExactRotatePuzzle", apart := false, narrowed := true }
def FnExactRotatePuzzleUptoSaid : Prop := fnExactRotatePuzzleUptoRow.holds Try.pinned (OpenSpec.upto fnExactRotatePuzzleSpec)

/-- 'laws.FnExactMirrorPuzzle', WHERE WHAT IT READS IS OF BULK AT MOST 1048576: true; the input reads as it did. -/
def fnExactMirrorPuzzleUptoRow : OpenClaim := { program := "ytemafljipkcgcaa", sum := "047e8667b810c284ba7bbceea39f59ed1ec475ef8dd0c906d8b78963c6b281c6", func := "loop.example/g03113/laws.FnExactMirrorPuzzle", spec := "fnExactMirrorPuzzle", apart := false, narrowed := true }
def FnExactMirrorPuzzleUptoSaid : Prop := fnExactMirrorPuzzleUptoRow.holds Try.pinned (OpenSpec.upto fnExactMirrorPuzzleSpec)

/-- 'laws.FnExactFormatPuzzle', WHERE WHAT IT READS IS OF BULK AT MOST 1048576: true; the input reads as it did. -/
def fnExactFormatPuzzleUptoRow : OpenClaim := { program := "ytemafljipkcgcaa", sum := "047e8667b810c284ba7bbceea39f59ed1ec475ef8dd0c906d8b78963c6b281c6", func := "loop.example/g03113/laws.FnExactFormatPuzzle", spec := "fnExactFormatPuzzle", inPlace := ["internal/abi.NoEscape", "internal/bytealg.MakeNoZero"], recurses := true, apart := false, narrowed := true }
def FnExactFormatPuzzleUptoSaid : Prop := fnExactFormatPuzzleUptoRow.holds Try.pinned (OpenSpec.upto fnExactFormatPuzzleSpec)

/-- 'laws.FnExactFormatQParts', WHERE WHAT IT READS IS OF BULK AT MOST 1048576: true; the input reads as it did. -/
def fnExactFormatQPartsUptoRow : OpenClaim := { program := "ytemafljipkcgcaa", sum := "047e8667b810c284ba7bbceea39f59ed1ec475ef8dd0c906d8b78963c6b281c6", func := "loop.example/g03113/laws.FnExactFormatQParts", spec := "fnExactFormatQParts", inPlace := ["internal/abi.NoEscape", "internal/bytealg.MakeNoZero"], recurses := true, apart := false, narrowed := true }
def FnExactFormatQPartsUptoSaid : Prop := fnExactFormatQPartsUptoRow.holds Try.pinned (OpenSpec.upto fnExactFormatQPartsSpec)

/-- 'laws.FnBoxed', WHERE WHAT IT READS IS OF BULK AT MOST 1048576: true; the input reads as it did. -/
def fnBoxedUptoRow : OpenClaim := { program := "ytemafljipkcgcaa", sum := "047e8667b810c284ba7bbceea39f59ed1ec475ef8dd0c906d8b78963c6b281c6", func := "loop.example/g03113/laws.FnBoxed", spec := "fnBoxed", apart := false, narrowed := true }
def FnBoxedUptoSaid : Prop := fnBoxedUptoRow.holds Try.pinned (OpenSpec.upto fnBoxedSpec)

/-- 'laws.FnExactPieriShapes', WHERE WHAT IT READS IS OF BULK AT MOST 1048576: true; the input reads as it did. -/
def fnExactPieriShapesUptoRow : OpenClaim := { program := "ytemafljipkcgcaa", sum := "047e8667b810c284ba7bbceea39f59ed1ec475ef8dd0c906d8b78963c6b281c6", func := "loop.example/g03113/laws.FnExactPieriShapes", spec := "fnExactPieriShapes", recurses := true, apart := false, narrowed := true }
def FnExactPieriShapesUptoSaid : Prop := fnExactPieriShapesUptoRow.holds Try.pinned (OpenSpec.upto fnExactPieriShapesSpec)

/-- 'laws.FnExactQuantumPieri', WHERE WHAT IT READS IS OF BULK AT MOST 1048576: true; the input reads as it did. -/
def fnExactQuantumPieriUptoRow : OpenClaim := { program := "ytemafljipkcgcaa", sum := "047e8667b810c284ba7bbceea39f59ed1ec475ef8dd0c906d8b78963c6b281c6", func := "loop.example/g03113/laws.FnExactQuantumPieri", spec := "fnExactQuantumPieri", recurses := true, apart := false, narrowed := true }
def FnExactQuantumPieriUptoSaid : Prop := fnExactQuantumPieriUptoRow.holds Try.pinned (OpenSpec.upto fnExactQuantumPieriSpec)

/-- 'laws.FnExactWrapShape', WHERE WHAT IT READS IS OF BULK AT MOST 1048576: true; the input reads as it did. -/
def fnExactWrapShapeUptoRow : OpenClaim := { program := "ytemafljipkcgcaa", sum := "047e8667b810c284ba7bbceea39f59ed1ec475ef8dd0c906d8b78963c6b281c6", func := "loop.example/g03113/laws.FnExactWrapShape", spec := "fnExactWrapShape", recurses := true, apart := false, narrowed := true }
def FnExactWrapShapeUptoSaid : Prop := fnExactWrapShapeUptoRow.holds Try.pinned (OpenSpec.upto fnExactWrapShapeSpec)

end Rows
end Go.Proofs.Ytemafljipkcgcaa
