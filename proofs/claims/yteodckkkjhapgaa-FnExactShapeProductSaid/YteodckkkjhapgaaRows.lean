/-
  No cell of these rows narrows 'for every input' (looked for: loops, veiled, ifaces, maps, wideKeys, modest, calm, conditions, laid).
  DERIVED. THE GIVEN ROWS OF THIS SEAT. 12 by the template 'for every input the law returns true; each argument reads behind the call as it read before'; 0 by the template 'total and deterministic' (their statements: YteodckkkjhapgaaTotals.lean).
  GIVEN WITH THE SEED: the statements are not yours to turn. If you find one false, say at which input.
  Laid BY PROGRAM, IN A SANDBOX (cutbox-rows.mjs): the forced cells as the released guide's own fill.sh prints them over the translation c19b857f4b83448e… (all of the seat's roots in one cut). By AI agents, Wed Nov 11 2026. No macro, syntax, notation, axiom, sorry.
-/
import Derived.Test.YteodckkkjhapgaaChecked
import GoSem.Claim
import GoSem.ClaimJoined
import GoSem.ClaimMapViews
import Derived.JoinedTies
import Derived.KernelRfl
namespace Go.Proofs.Yteodckkkjhapgaa
/- THE CELL 'sum', in the pinned program and in every row, IS THE sha256 OF THE DUMP (.gsa) THAT YteodckkkjhapgaaProg.lean LOADS. Nothing in Lean hashes anything: it is a label: what it is worth is what the hold of that sum in a sandbox is worth. -/
noncomputable def Try.pinned : Pinned := { name := "yteodckkkjhapgaa", sum := "c19b857f4b83448ec6ab7d0086944feeed88f89dc8733231ef2db7168392846b", checked := Try.checked }
namespace Rows
def none {H : Type} : Left H := { results := [], args := [] }

/-- 'laws.FnExactDegreeOfGr': WHATEVER THE INPUT: true; the input reads as it did. -/
def fnExactDegreeOfGrSpec : ChangeSpec := { name := "fnExactDegreeOfGr", fn := fun _ => fun
  | [d1, d2] => { results := [.lit (.bool true)], args := [d1, d2] }
  | _ => none }
def fnExactDegreeOfGrRow : OpenClaim := { program := "yteodckkkjhapgaa", sum := "c19b857f4b83448ec6ab7d0086944feeed88f89dc8733231ef2db7168392846b", func := "loop.example/g03113/laws.FnExactDegreeOfGr", spec := "fnExactDegreeOfGr", apart := false }
def FnExactDegreeOfGrSaid : Prop := fnExactDegreeOfGrRow.holds Try.pinned (OpenSpec.ofChange fnExactDegreeOfGrSpec)

/-- ITS FALSE NEIGHBOUR: 'it returns false'. Refute it at one input. -/
def fnExactDegreeOfGrWrong : ChangeSpec := { name := "fnExactDegreeOfGr", fn := fun _ => fun
  | [d1, d2] => { results := [.lit (.bool false)], args := [d1, d2] }
  | _ => none }
def FnExactDegreeOfGrWrongFalsely : Prop := fnExactDegreeOfGrRow.holds Try.pinned (OpenSpec.ofChange fnExactDegreeOfGrWrong)

/-- 'laws.FnGauss': WHATEVER THE INPUT: true; the input reads as it did. -/
def fnGaussSpec : ChangeSpec := { name := "fnGauss", fn := fun _ => fun
  | [d] => { results := [.lit (.bool true)], args := [d] }
  | _ => none }
def fnGaussRow : OpenClaim := { program := "yteodckkkjhapgaa", sum := "c19b857f4b83448ec6ab7d0086944feeed88f89dc8733231ef2db7168392846b", func := "loop.example/g03113/laws.FnGauss", spec := "fnGauss", recurses := true, apart := false }
def FnGaussSaid : Prop := fnGaussRow.holds Try.pinned (OpenSpec.ofChange fnGaussSpec)

/-- ITS FALSE NEIGHBOUR: 'it returns false'. Refute it at one input. -/
def fnGaussWrong : ChangeSpec := { name := "fnGauss", fn := fun _ => fun
  | [d] => { results := [.lit (.bool false)], args := [d] }
  | _ => none }
def FnGaussWrongFalsely : Prop := fnGaussRow.holds Try.pinned (OpenSpec.ofChange fnGaussWrong)

/-- 'laws.FnBoxed': WHATEVER THE INPUT: true; the input reads as it did. -/
def fnBoxedSpec : ChangeSpec := { name := "fnBoxed", fn := fun _ => fun
  | [d] => { results := [.lit (.bool true)], args := [d] }
  | _ => none }
def fnBoxedRow : OpenClaim := { program := "yteodckkkjhapgaa", sum := "c19b857f4b83448ec6ab7d0086944feeed88f89dc8733231ef2db7168392846b", func := "loop.example/g03113/laws.FnBoxed", spec := "fnBoxed", apart := false }
def FnBoxedSaid : Prop := fnBoxedRow.holds Try.pinned (OpenSpec.ofChange fnBoxedSpec)

/-- ITS FALSE NEIGHBOUR: 'it returns false'. Refute it at one input. -/
def fnBoxedWrong : ChangeSpec := { name := "fnBoxed", fn := fun _ => fun
  | [d] => { results := [.lit (.bool false)], args := [d] }
  | _ => none }
def FnBoxedWrongFalsely : Prop := fnBoxedRow.holds Try.pinned (OpenSpec.ofChange fnBoxedWrong)

/-- 'laws.FnExactQuantumPieri': WHATEVER THE INPUT: true; the input reads as it did. -/
def fnExactQuantumPieriSpec : ChangeSpec := { name := "fnExactQuantumPieri", fn := fun _ => fun
  | [d1, d2, d3, d4] => { results := [.lit (.bool true)], args := [d1, d2, d3, d4] }
  | _ => none }
def fnExactQuantumPieriRow : OpenClaim := { program := "yteodckkkjhapgaa", sum := "c19b857f4b83448ec6ab7d0086944feeed88f89dc8733231ef2db7168392846b", func := "loop.example/g03113/laws.FnExactQuantumPieri", spec := "fnExactQuantumPieri", recurses := true, apart := false }
def FnExactQuantumPieriSaid : Prop := fnExactQuantumPieriRow.holds Try.pinned (OpenSpec.ofChange fnExactQuantumPieriSpec)

/-- ITS FALSE NEIGHBOUR: 'it returns false'. Refute it at one input. -/
def fnExactQuantumPieriWrong : ChangeSpec := { name := "fnExactQuantumPieri", fn := fun _ => fun
  | [d1, d2, d3, d4] => { results := [.lit (.bool false)], args := [d1, d2, d3, d4] }
  | _ => none }
def FnExactQuantumPieriWrongFalsely : Prop := fnExactQuantumPieriRow.holds Try.pinned (OpenSpec.ofChange fnExactQuantumPieriWrong)

/-- 'laws.FnExactWrapShape': WHATEVER THE INPUT: true; the input reads as it did. -/
def fnExactWrapShapeSpec : ChangeSpec := { name := "fnExactWrapShape", fn := fun _ => fun
  | [d1, d2, d3] => { results := [.lit (.bool true)], args := [d1, d2, d3] }
  | _ => none }
def fnExactWrapShapeRow : OpenClaim := { program := "yteodckkkjhapgaa", sum := "c19b857f4b83448ec6ab7d0086944feeed88f89dc8733231ef2db7168392846b", func := "loop.example/g03113/laws.FnExactWrapShape", spec := "fnExactWrapShape", recurses := true, apart := false }
def FnExactWrapShapeSaid : Prop := fnExactWrapShapeRow.holds Try.pinned (OpenSpec.ofChange fnExactWrapShapeSpec)

/-- ITS FALSE NEIGHBOUR: 'it returns false'. Refute it at one input. -/
def fnExactWrapShapeWrong : ChangeSpec := { name := "fnExactWrapShape", fn := fun _ => fun
  | [d1, d2, d3] => { results := [.lit (.bool false)], args := [d1, d2, d3] }
  | _ => none }
def FnExactWrapShapeWrongFalsely : Prop := fnExactWrapShapeRow.holds Try.pinned (OpenSpec.ofChange fnExactWrapShapeWrong)

/-- 'laws.FnExactShapeProduct': WHATEVER THE INPUT: true; the input reads as it did. -/
def fnExactShapeProductSpec : ChangeSpec := { name := "fnExactShapeProduct", fn := fun _ => fun
  | [d1, d2] => { results := [.lit (.bool true)], args := [d1, d2] }
  | _ => none }
def fnExactShapeProductRow : OpenClaim := { program := "yteodckkkjhapgaa", sum := "c19b857f4b83448ec6ab7d0086944feeed88f89dc8733231ef2db7168392846b", func := "loop.example/g03113/laws.FnExactShapeProduct", spec := "fnExactShapeProduct", inPlace := ["slices.overlaps[loop.example/g03113/impl.Part]"], unfollowed := true, recurses := true, apart := false }
def FnExactShapeProductSaid : Prop := fnExactShapeProductRow.holds Try.pinned (OpenSpec.ofChange fnExactShapeProductSpec)

/-- ITS FALSE NEIGHBOUR: 'it returns false'. Refute it at one input. -/
def fnExactShapeProductWrong : ChangeSpec := { name := "fnExactShapeProduct", fn := fun _ => fun
  | [d1, d2] => { results := [.lit (.bool false)], args := [d1, d2] }
  | _ => none }
def FnExactShapeProductWrongFalsely : Prop := fnExactShapeProductRow.holds Try.pinned (OpenSpec.ofChange fnExactShapeProductWrong)

/-- 'laws.FnExactGrProduct': WHATEVER THE INPUT: true; the input reads as it did. -/
def fnExactGrProductSpec : ChangeSpec := { name := "fnExactGrProduct", fn := fun _ => fun
  | [d1, d2, d3, d4] => { results := [.lit (.bool true)], args := [d1, d2, d3, d4] }
  | _ => none }
def fnExactGrProductRow : OpenClaim := { program := "yteodckkkjhapgaa", sum := "c19b857f4b83448ec6ab7d0086944feeed88f89dc8733231ef2db7168392846b", func := "loop.example/g03113/laws.FnExactGrProduct", spec := "fnExactGrProduct", inPlace := ["slices.overlaps[loop.example/g03113/impl.Part]"], unfollowed := true, recurses := true, apart := false }
def FnExactGrProductSaid : Prop := fnExactGrProductRow.holds Try.pinned (OpenSpec.ofChange fnExactGrProductSpec)

/-- ITS FALSE NEIGHBOUR: 'it returns false'. Refute it at one input. -/
def fnExactGrProductWrong : ChangeSpec := { name := "fnExactGrProduct", fn := fun _ => fun
  | [d1, d2, d3, d4] => { results := [.lit (.bool false)], args := [d1, d2, d3, d4] }
  | _ => none }
def FnExactGrProductWrongFalsely : Prop := fnExactGrProductRow.holds Try.pinned (OpenSpec.ofChange fnExactGrProductWrong)

/-- 'laws.FnExactIntersectionNumber': WHATEVER THE INPUT: true; the input reads as it did. -/
def fnExactIntersectionNumberSpec : ChangeSpec := { name := "fnExactIntersectionNumber", fn := fun _ => fun
  | [d1, d2, d3] => { results := [.lit (.bool true)], args := [d1, d2, d3] }
  | _ => none }
def fnExactIntersectionNumberRow : OpenClaim := { program := "yteodckkkjhapgaa", sum := "c19b857f4b83448ec6ab7d0086944feeed88f89dc8733231ef2db7168392846b", func := "loop.example/g03113/laws.FnExactIntersectionNumber", spec := "fnExactIntersectionNumber", inPlace := ["slices.overlaps[loop.example/g03113/impl.Part]"], unfollowed := true, recurses := true, apart := false }
def FnExactIntersectionNumberSaid : Prop := fnExactIntersectionNumberRow.holds Try.pinned (OpenSpec.ofChange fnExactIntersectionNumberSpec)

/-- ITS FALSE NEIGHBOUR: 'it returns false'. Refute it at one input. -/
def fnExactIntersectionNumberWrong : ChangeSpec := { name := "fnExactIntersectionNumber", fn := fun _ => fun
  | [d1, d2, d3] => { results := [.lit (.bool false)], args := [d1, d2, d3] }
  | _ => none }
def FnExactIntersectionNumberWrongFalsely : Prop := fnExactIntersectionNumberRow.holds Try.pinned (OpenSpec.ofChange fnExactIntersectionNumberWrong)

/-- 'laws.FnMeets': WHATEVER THE INPUT: true; the input reads as it did. -/
def fnMeetsSpec : ChangeSpec := { name := "fnMeets", fn := fun _ => fun
  | [d] => { results := [.lit (.bool true)], args := [d] }
  | _ => none }
def fnMeetsRow : OpenClaim := { program := "yteodckkkjhapgaa", sum := "c19b857f4b83448ec6ab7d0086944feeed88f89dc8733231ef2db7168392846b", func := "loop.example/g03113/laws.FnMeets", spec := "fnMeets", inPlace := ["slices.overlaps[loop.example/g03113/impl.Part]"], unfollowed := true, recurses := true, apart := false }
def FnMeetsSaid : Prop := fnMeetsRow.holds Try.pinned (OpenSpec.ofChange fnMeetsSpec)

/-- ITS FALSE NEIGHBOUR: 'it returns false'. Refute it at one input. -/
def fnMeetsWrong : ChangeSpec := { name := "fnMeets", fn := fun _ => fun
  | [d] => { results := [.lit (.bool false)], args := [d] }
  | _ => none }
def FnMeetsWrongFalsely : Prop := fnMeetsRow.holds Try.pinned (OpenSpec.ofChange fnMeetsWrong)

/-- 'laws.FnPieri': WHATEVER THE INPUT: true; the input reads as it did. -/
def fnPieriSpec : ChangeSpec := { name := "fnPieri", fn := fun _ => fun
  | [d] => { results := [.lit (.bool true)], args := [d] }
  | _ => none }
def fnPieriRow : OpenClaim := { program := "yteodckkkjhapgaa", sum := "c19b857f4b83448ec6ab7d0086944feeed88f89dc8733231ef2db7168392846b", func := "loop.example/g03113/laws.FnPieri", spec := "fnPieri", inPlace := ["slices.overlaps[loop.example/g03113/impl.Part]"], unfollowed := true, recurses := true, apart := false }
def FnPieriSaid : Prop := fnPieriRow.holds Try.pinned (OpenSpec.ofChange fnPieriSpec)

/-- ITS FALSE NEIGHBOUR: 'it returns false'. Refute it at one input. -/
def fnPieriWrong : ChangeSpec := { name := "fnPieri", fn := fun _ => fun
  | [d] => { results := [.lit (.bool false)], args := [d] }
  | _ => none }
def FnPieriWrongFalsely : Prop := fnPieriRow.holds Try.pinned (OpenSpec.ofChange fnPieriWrong)

/-- 'laws.FnExactQuantumProduct': WHATEVER THE INPUT: true; the input reads as it did. -/
def fnExactQuantumProductSpec : ChangeSpec := { name := "fnExactQuantumProduct", fn := fun _ => fun
  | [d1, d2, d3, d4] => { results := [.lit (.bool true)], args := [d1, d2, d3, d4] }
  | _ => none }
def fnExactQuantumProductRow : OpenClaim := { program := "yteodckkkjhapgaa", sum := "c19b857f4b83448ec6ab7d0086944feeed88f89dc8733231ef2db7168392846b", func := "loop.example/g03113/laws.FnExactQuantumProduct", spec := "fnExactQuantumProduct", inPlace := ["slices.overlaps[loop.example/g03113/impl.Part]", "slices.overlaps[loop.example/g03113/impl.QPart]"], unfollowed := true, recurses := true, apart := false }
def FnExactQuantumProductSaid : Prop := fnExactQuantumProductRow.holds Try.pinned (OpenSpec.ofChange fnExactQuantumProductSpec)

/-- ITS FALSE NEIGHBOUR: 'it returns false'. Refute it at one input. -/
def fnExactQuantumProductWrong : ChangeSpec := { name := "fnExactQuantumProduct", fn := fun _ => fun
  | [d1, d2, d3, d4] => { results := [.lit (.bool false)], args := [d1, d2, d3, d4] }
  | _ => none }
def FnExactQuantumProductWrongFalsely : Prop := fnExactQuantumProductRow.holds Try.pinned (OpenSpec.ofChange fnExactQuantumProductWrong)

/-- 'laws.FnExactGromovWitten': WHATEVER THE INPUT: true; the input reads as it did. -/
def fnExactGromovWittenSpec : ChangeSpec := { name := "fnExactGromovWitten", fn := fun _ => fun
  | [d1, d2, d3, d4, d5, d6] => { results := [.lit (.bool true)], args := [d1, d2, d3, d4, d5, d6] }
  | _ => none }
def fnExactGromovWittenRow : OpenClaim := { program := "yteodckkkjhapgaa", sum := "c19b857f4b83448ec6ab7d0086944feeed88f89dc8733231ef2db7168392846b", func := "loop.example/g03113/laws.FnExactGromovWitten", spec := "fnExactGromovWitten", inPlace := ["slices.overlaps[loop.example/g03113/impl.Part]", "slices.overlaps[loop.example/g03113/impl.QPart]"], unfollowed := true, recurses := true, apart := false }
def FnExactGromovWittenSaid : Prop := fnExactGromovWittenRow.holds Try.pinned (OpenSpec.ofChange fnExactGromovWittenSpec)

/-- ITS FALSE NEIGHBOUR: 'it returns false'. Refute it at one input. -/
def fnExactGromovWittenWrong : ChangeSpec := { name := "fnExactGromovWitten", fn := fun _ => fun
  | [d1, d2, d3, d4, d5, d6] => { results := [.lit (.bool false)], args := [d1, d2, d3, d4, d5, d6] }
  | _ => none }
def FnExactGromovWittenWrongFalsely : Prop := fnExactGromovWittenRow.holds Try.pinned (OpenSpec.ofChange fnExactGromovWittenWrong)

/- THE SECOND FORM. 'bulk': how many values and letters a reading holds, each counted each time it is reached (what is shared counts as often as it is met; a slice's spare places count too). A statement '..UptoSaid' is the law's where the arguments, and the package variables that the reading takes, are together of bulk at most 1048576: NARROWER than '..Said'. Prove '..Said' where nothing that the law and all that it calls make is longer than what came in: it says more and counts as full. Else prove '..UptoSaid'. A law counts once. -/
mutual
def uptoBulk {H : Type} : DataW H → Nat
  | .lit (.string bytes) => bytes.length + 1
  | .lit _ => 1
  | .nil => 1
  | .ptr d => uptoBulk d + 1
  | .slice elems spare => uptoBulkAll elems + uptoBulkAll spare + 1
  | .agg parts => uptoBulkAll parts + 1
  | .iface _ d => uptoBulk d + 1
  | .map entries => uptoBulkEntries entries + 1
  | .held _ => 1
def uptoBulkAll {H : Type} : List (DataW H) → Nat
  | [] => 0
  | d :: r => uptoBulk d + uptoBulkAll r
def uptoBulkEntries {H : Type} : List (Lit × DataW H) → Nat
  | [] => 0
  | x :: r => uptoBulkEntry x + uptoBulkEntries r
def uptoBulkEntry {H : Type} : Lit × DataW H → Nat
  | (.string bytes, d) => bytes.length + uptoBulk d + 1
  | (_, d) => uptoBulk d + 1
 end
def uptoSmall : (H : Type) → List (DataW H) → Bool := fun _ ds => decide (uptoBulkAll ds ≤ 1048576)
def OpenSpec.upto (s : _root_.Go.ChangeSpec) : _root_.Go.OpenSpec := { _root_.Go.OpenSpec.ofChange s with cond := some uptoSmall }

/-- 'laws.FnExactDegreeOfGr', WHERE WHAT IT READS IS OF BULK AT MOST 1048576: true; the input reads as it did. -/
def fnExactDegreeOfGrUptoRow : OpenClaim := { program := "yteodckkkjhapgaa", sum := "c19b857f4b83448ec6ab7d0086944feeed88f89dc8733231ef2db7168392846b", func := "loop.example/g03113/laws.FnExactDegreeOfGr", spec := "fnExactDegreeOfGr", apart := false, narrowed := true }
def FnExactDegreeOfGrUptoSaid : Prop := fnExactDegreeOfGrUptoRow.holds Try.pinned (OpenSpec.upto fnExactDegreeOfGrSpec)

/-- 'laws.FnGauss', WHERE WHAT IT READS IS OF BULK AT MOST 1048576: true; the input reads as it did. -/
def fnGaussUptoRow : OpenClaim := { program := "yteodckkkjhapgaa", sum := "c19b857f4b83448ec6ab7d0086944feeed88f89dc8733231ef2db7168392846b", func := "loop.example/g03113/laws.FnGauss", spec := "fnGauss", recurses := true, apart := false, narrowed := true }
def FnGaussUptoSaid : Prop := fnGaussUptoRow.holds Try.pinned (OpenSpec.upto fnGaussSpec)

/-- 'laws.FnBoxed', WHERE WHAT IT READS IS OF BULK AT MOST 1048576: true; the input reads as it did. -/
def fnBoxedUptoRow : OpenClaim := { program := "yteodckkkjhapgaa", sum := "c19b857f4b83448ec6ab7d0086944feeed88f89dc8733231ef2db7168392846b", func := "loop.example/g03113/laws.FnBoxed", spec := "fnBoxed", apart := false, narrowed := true }
def FnBoxedUptoSaid : Prop := fnBoxedUptoRow.holds Try.pinned (OpenSpec.upto fnBoxedSpec)

/-- 'laws.FnExactQuantumPieri', WHERE WHAT IT READS IS OF BULK AT MOST 1048576: true; the input reads as it did. -/
def fnExactQuantumPieriUptoRow : OpenClaim := { program := "yteodckkkjhapgaa", sum := "c19b857f4b83448ec6ab7d0086944feeed88f89dc8733231ef2db7168392846b", func := "loop.example/g03113/laws.FnExactQuantumPieri", spec := "fnExactQuantumPieri", recurses := true, apart := false, narrowed := true }
def FnExactQuantumPieriUptoSaid : Prop := fnExactQuantumPieriUptoRow.holds Try.pinned (OpenSpec.upto fnExactQuantumPieriSpec)

/-- 'laws.FnExactWrapShape', WHERE WHAT IT READS IS OF BULK AT MOST 1048576: true; the input reads as it did. -/
def fnExactWrapShapeUptoRow : OpenClaim := { program := "yteodckkkjhapgaa", sum := "c19b857f4b83448ec6ab7d0086944feeed88f89dc8733231ef2db7168392846b", func := "loop.example/g03113/laws.FnExactWrapShape", spec := "fnExactWrapShape", recurses := true, apart := false, narrowed := true }
def FnExactWrapShapeUptoSaid : Prop := fnExactWrapShapeUptoRow.holds Try.pinned (OpenSpec.upto fnExactWrapShapeSpec)

/-- 'laws.FnExactShapeProduct', WHERE WHAT IT READS IS OF BULK AT MOST 1048576: true; the input reads as it did. -/
def fnExactShapeProductUptoRow : OpenClaim := { program := "yteodckkkjhapgaa", sum := "c19b857f4b83448ec6ab7d0086944feeed88f89dc8733231ef2db7168392846b", func := "loop.example/g03113/laws.FnExactShapeProduct", spec := "fnExactShapeProduct", inPlace := ["slices.overlaps[loop.example/g03113/impl.Part]"], unfollowed := true, recurses := true, apart := false, narrowed := true }
def FnExactShapeProductUptoSaid : Prop := fnExactShapeProductUptoRow.holds Try.pinned (OpenSpec.upto fnExactShapeProductSpec)

/-- 'laws.FnExactGrProduct', WHERE WHAT IT READS IS OF BULK AT MOST 1048576: true; the input reads as it did. -/
def fnExactGrProductUptoRow : OpenClaim := { program := "yteodckkkjhapgaa", sum := "c19b857f4b83448ec6ab7d0086944feeed88f89dc8733231ef2db7168392846b", func := "loop.example/g03113/laws.FnExactGrProduct", spec := "fnExactGrProduct", inPlace := ["slices.overlaps[loop.example/g03113/impl.Part]"], unfollowed := true, recurses := true, apart := false, narrowed := true }
def FnExactGrProductUptoSaid : Prop := fnExactGrProductUptoRow.holds Try.pinned (OpenSpec.upto fnExactGrProductSpec)

/-- 'laws.FnExactIntersectionNumber', WHERE WHAT IT READS IS OF BULK AT MOST 1048576: true; the input reads as it did. -/
def fnExactIntersectionNumberUptoRow : OpenClaim := { program := "yteodckkkjhapgaa", sum := "c19b857f4b83448ec6ab7d0086944feeed88f89dc8733231ef2db7168392846b", func := "loop.example/g03113/laws.FnExactIntersectionNumber", spec := "fnExactIntersectionNumber", inPlace := ["slices.overlaps[loop.example/g03113/impl.Part]"], unfollowed := true, recurses := true, apart := false, narrowed := true }
def FnExactIntersectionNumberUptoSaid : Prop := fnExactIntersectionNumberUptoRow.holds Try.pinned (OpenSpec.upto fnExactIntersectionNumberSpec)

/-- 'laws.FnMeets', WHERE WHAT IT READS IS OF BULK AT MOST 1048576: true; the input reads as it did. -/
def fnMeetsUptoRow : OpenClaim := { program := "yteodckkkjhapgaa", sum := "c19b857f4b83448ec6ab7d0086944feeed88f89dc8733231ef2db7168392846b", func := "loop.example/g03113/laws.FnMeets", spec := "fnMeets", inPlace := ["slices.overlaps[loop.example/g03113/impl.Part]"], unfollowed := true, recurses := true, apart := false, narrowed := true }
def FnMeetsUptoSaid : Prop := fnMeetsUptoRow.holds Try.pinned (OpenSpec.upto fnMeetsSpec)

/-- 'laws.FnPieri', WHERE WHAT IT READS IS OF BULK AT MOST 1048576: true; the input reads as it did. -/
def fnPieriUptoRow : OpenClaim := { program := "yteodckkkjhapgaa", sum := "c19b857f4b83448ec6ab7d0086944feeed88f89dc8733231ef2db7168392846b", func := "loop.example/g03113/laws.FnPieri", spec := "fnPieri", inPlace := ["slices.overlaps[loop.example/g03113/impl.Part]"], unfollowed := true, recurses := true, apart := false, narrowed := true }
def FnPieriUptoSaid : Prop := fnPieriUptoRow.holds Try.pinned (OpenSpec.upto fnPieriSpec)

/-- 'laws.FnExactQuantumProduct', WHERE WHAT IT READS IS OF BULK AT MOST 1048576: true; the input reads as it did. -/
def fnExactQuantumProductUptoRow : OpenClaim := { program := "yteodckkkjhapgaa", sum := "c19b857f4b83448ec6ab7d0086944feeed88f89dc8733231ef2db7168392846b", func := "loop.example/g03113/laws.FnExactQuantumProduct", spec := "fnExactQuantumProduct", inPlace := ["slices.overlaps[loop.example/g03113/impl.Part]", "slices.overlaps[loop.example/g03113/impl.QPart]"], unfollowed := true, recurses := true, apart := false, narrowed := true }
def FnExactQuantumProductUptoSaid : Prop := fnExactQuantumProductUptoRow.holds Try.pinned (OpenSpec.upto fnExactQuantumProductSpec)

/-- 'laws.FnExactGromovWitten', WHERE WHAT IT READS IS OF BULK AT MOST 1048576: true; the input reads as it did. -/
def fnExactGromovWittenUptoRow : OpenClaim := { program := "yteodckkkjhapgaa", sum := "c19b857f4b83448ec6ab7d0086944feeed88f89dc8733231ef2db7168392846b", func := "loop.example/g03113/laws.FnExactGromovWitten", spec := "fnExactGromovWitten", inPlace := ["slices.overlaps[loop.example/g03113/impl.Part]", "slices.overlaps[loop.example/g03113/impl.QPart]"], unfollowed := true, recurses := true, apart := false, narrowed := true }
def FnExactGromovWittenUptoSaid : Prop := fnExactGromovWittenUptoRow.holds Try.pinned (OpenSpec.upto fnExactGromovWittenSpec)

end Rows
end Go.Proofs.Yteodckkkjhapgaa
