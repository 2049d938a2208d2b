/-
  No cell of these rows narrows 'for every input' (looked for: loops, veiled, ifaces, maps, wideKeys, modest, calm, conditions, laid).
  DERIVED. THE GIVEN ROWS OF THIS SEAT. 9 by the template 'for every input the law returns true; each argument reads behind the call as it read before'; 0 by the template 'total and deterministic' (their statements: YtnljlophgolejaaTotals.lean).
  GIVEN WITH THE SEED: the statements are not yours to turn. If you find one false, say at which input.
  Laid BY PROGRAM, IN A SANDBOX (cutbox-rows.mjs): the forced cells as the released guide's own fill.sh prints them over the translation c5a2217d706b4def… (all of the seat's roots in one cut). By AI agents, Wed Nov 11 2026. No macro, syntax, notation, axiom, sorry.
-/
import Derived.Test.YtnljlophgolejaaChecked
import GoSem.Claim
import GoSem.ClaimJoined
import GoSem.ClaimMapViews
import Derived.JoinedTies
import Derived.KernelRfl
namespace Go.Proofs.Ytnljlophgolejaa
/- THE CELL 'sum', in the pinned program and in every row, IS THE sha256 OF THE DUMP (.gsa) THAT YtnljlophgolejaaProg.lean LOADS. Nothing in Lean hashes anything: it is a label: what it is worth is what the hold of that sum in a sandbox is worth. -/
noncomputable def Try.pinned : Pinned := { name := "ytnljlophgolejaa", sum := "c5a2217d706b4defc57d9039aa75811f29e33a244c8e68e1a6c5af964a38ca24", checked := Try.checked }
namespace Rows
def none {H : Type} : Left H := { results := [], args := [] }

/-- 'laws.FnExactCountPuzzles': WHATEVER THE INPUT: true; the input reads as it did. -/
def fnExactCountPuzzlesSpec : ChangeSpec := { name := "fnExactCountPuzzles", fn := fun _ => fun
  | [d1, d2, d3] => { results := [.lit (.bool true)], args := [d1, d2, d3] }
  | _ => none }
def fnExactCountPuzzlesRow : OpenClaim := { program := "ytnljlophgolejaa", sum := "c5a2217d706b4defc57d9039aa75811f29e33a244c8e68e1a6c5af964a38ca24", func := "loop.example/g03113/laws.FnExactCountPuzzles", spec := "fnExactCountPuzzles", unfollowed := true, recurses := true, apart := false }
def FnExactCountPuzzlesSaid : Prop := fnExactCountPuzzlesRow.holds Try.pinned (OpenSpec.ofChange fnExactCountPuzzlesSpec)

/-- ITS FALSE NEIGHBOUR: 'it returns false'. Refute it at one input. -/
def fnExactCountPuzzlesWrong : ChangeSpec := { name := "fnExactCountPuzzles", fn := fun _ => fun
  | [d1, d2, d3] => { results := [.lit (.bool false)], args := [d1, d2, d3] }
  | _ => none }
def FnExactCountPuzzlesWrongFalsely : Prop := fnExactCountPuzzlesRow.holds Try.pinned (OpenSpec.ofChange fnExactCountPuzzlesWrong)

/-- 'laws.FnExactPuzzlesOf': WHATEVER THE INPUT: true; the input reads as it did. -/
def fnExactPuzzlesOfSpec : ChangeSpec := { name := "fnExactPuzzlesOf", fn := fun _ => fun
  | [d1, d2] => { results := [.lit (.bool true)], args := [d1, d2] }
  | _ => none }
def fnExactPuzzlesOfRow : OpenClaim := { program := "ytnljlophgolejaa", sum := "c5a2217d706b4defc57d9039aa75811f29e33a244c8e68e1a6c5af964a38ca24", func := "loop.example/g03113/laws.FnExactPuzzlesOf", spec := "fnExactPuzzlesOf", unfollowed := true, recurses := true, apart := false }
def FnExactPuzzlesOfSaid : Prop := fnExactPuzzlesOfRow.holds Try.pinned (OpenSpec.ofChange fnExactPuzzlesOfSpec)

/-- ITS FALSE NEIGHBOUR: 'it returns false'. Refute it at one input. -/
def fnExactPuzzlesOfWrong : ChangeSpec := { name := "fnExactPuzzlesOf", fn := fun _ => fun
  | [d1, d2] => { results := [.lit (.bool false)], args := [d1, d2] }
  | _ => none }
def FnExactPuzzlesOfWrongFalsely : Prop := fnExactPuzzlesOfRow.holds Try.pinned (OpenSpec.ofChange fnExactPuzzlesOfWrong)

/-- 'laws.FnExactWeightedPuzzles': WHATEVER THE INPUT: true; the input reads as it did. -/
def fnExactWeightedPuzzlesSpec : ChangeSpec := { name := "fnExactWeightedPuzzles", fn := fun _ => fun
  | [d1, d2] => { results := [.lit (.bool true)], args := [d1, d2] }
  | _ => none }
def fnExactWeightedPuzzlesRow : OpenClaim := { program := "ytnljlophgolejaa", sum := "c5a2217d706b4defc57d9039aa75811f29e33a244c8e68e1a6c5af964a38ca24", func := "loop.example/g03113/laws.FnExactWeightedPuzzles", spec := "fnExactWeightedPuzzles", unfollowed := true, recurses := true, apart := false }
def FnExactWeightedPuzzlesSaid : Prop := fnExactWeightedPuzzlesRow.holds Try.pinned (OpenSpec.ofChange fnExactWeightedPuzzlesSpec)

/-- ITS FALSE NEIGHBOUR: 'it returns false'. Refute it at one input. -/
def fnExactWeightedPuzzlesWrong : ChangeSpec := { name := "fnExactWeightedPuzzles", fn := fun _ => fun
  | [d1, d2] => { results := [.lit (.bool false)], args := [d1, d2] }
  | _ => none }
def FnExactWeightedPuzzlesWrongFalsely : Prop := fnExactWeightedPuzzlesRow.holds Try.pinned (OpenSpec.ofChange fnExactWeightedPuzzlesWrong)

/-- 'laws.FnExactPuzzleProduct': WHATEVER THE INPUT: true; the input reads as it did. -/
def fnExactPuzzleProductSpec : ChangeSpec := { name := "fnExactPuzzleProduct", fn := fun _ => fun
  | [d1, d2] => { results := [.lit (.bool true)], args := [d1, d2] }
  | _ => none }
def fnExactPuzzleProductRow : OpenClaim := { program := "ytnljlophgolejaa", sum := "c5a2217d706b4defc57d9039aa75811f29e33a244c8e68e1a6c5af964a38ca24", func := "loop.example/g03113/laws.FnExactPuzzleProduct", spec := "fnExactPuzzleProduct", inPlace := ["slices.overlaps[loop.example/g03113/impl.Part]"], unfollowed := true, recurses := true, apart := false }
def FnExactPuzzleProductSaid : Prop := fnExactPuzzleProductRow.holds Try.pinned (OpenSpec.ofChange fnExactPuzzleProductSpec)

/-- ITS FALSE NEIGHBOUR: 'it returns false'. Refute it at one input. -/
def fnExactPuzzleProductWrong : ChangeSpec := { name := "fnExactPuzzleProduct", fn := fun _ => fun
  | [d1, d2] => { results := [.lit (.bool false)], args := [d1, d2] }
  | _ => none }
def FnExactPuzzleProductWrongFalsely : Prop := fnExactPuzzleProductRow.holds Try.pinned (OpenSpec.ofChange fnExactPuzzleProductWrong)

/-- 'laws.FnExactWeightedProduct': WHATEVER THE INPUT: true; the input reads as it did. -/
def fnExactWeightedProductSpec : ChangeSpec := { name := "fnExactWeightedProduct", fn := fun _ => fun
  | [d1, d2, d3] => { results := [.lit (.bool true)], args := [d1, d2, d3] }
  | _ => none }
def fnExactWeightedProductRow : OpenClaim := { program := "ytnljlophgolejaa", sum := "c5a2217d706b4defc57d9039aa75811f29e33a244c8e68e1a6c5af964a38ca24", func := "loop.example/g03113/laws.FnExactWeightedProduct", spec := "fnExactWeightedProduct", inPlace := ["slices.overlaps[loop.example/g03113/impl.Part]"], unfollowed := true, recurses := true, apart := false }
def FnExactWeightedProductSaid : Prop := fnExactWeightedProductRow.holds Try.pinned (OpenSpec.ofChange fnExactWeightedProductSpec)

/-- ITS FALSE NEIGHBOUR: 'it returns false'. Refute it at one input. -/
def fnExactWeightedProductWrong : ChangeSpec := { name := "fnExactWeightedProduct", fn := fun _ => fun
  | [d1, d2, d3] => { results := [.lit (.bool false)], args := [d1, d2, d3] }
  | _ => none }
def FnExactWeightedProductWrongFalsely : Prop := fnExactWeightedProductRow.holds Try.pinned (OpenSpec.ofChange fnExactWeightedProductWrong)

/-- 'laws.FnPuzzleTurns': WHATEVER THE INPUT: true; the input reads as it did. -/
def fnPuzzleTurnsSpec : ChangeSpec := { name := "fnPuzzleTurns", fn := fun _ => fun
  | [d] => { results := [.lit (.bool true)], args := [d] }
  | _ => none }
def fnPuzzleTurnsRow : OpenClaim := { program := "ytnljlophgolejaa", sum := "c5a2217d706b4defc57d9039aa75811f29e33a244c8e68e1a6c5af964a38ca24", func := "loop.example/g03113/laws.FnPuzzleTurns", spec := "fnPuzzleTurns", unfollowed := true, recurses := true, apart := false }
def FnPuzzleTurnsSaid : Prop := fnPuzzleTurnsRow.holds Try.pinned (OpenSpec.ofChange fnPuzzleTurnsSpec)

/-- ITS FALSE NEIGHBOUR: 'it returns false'. Refute it at one input. -/
def fnPuzzleTurnsWrong : ChangeSpec := { name := "fnPuzzleTurns", fn := fun _ => fun
  | [d] => { results := [.lit (.bool false)], args := [d] }
  | _ => none }
def FnPuzzleTurnsWrongFalsely : Prop := fnPuzzleTurnsRow.holds Try.pinned (OpenSpec.ofChange fnPuzzleTurnsWrong)

/-- 'laws.FnPuzzleProduct': WHATEVER THE INPUT: true; the input reads as it did. -/
def fnPuzzleProductSpec : ChangeSpec := { name := "fnPuzzleProduct", fn := fun _ => fun
  | [d] => { results := [.lit (.bool true)], args := [d] }
  | _ => none }
def fnPuzzleProductRow : OpenClaim := { program := "ytnljlophgolejaa", sum := "c5a2217d706b4defc57d9039aa75811f29e33a244c8e68e1a6c5af964a38ca24", func := "loop.example/g03113/laws.FnPuzzleProduct", spec := "fnPuzzleProduct", inPlace := ["slices.overlaps[loop.example/g03113/impl.Part]"], unfollowed := true, recurses := true, apart := false }
def FnPuzzleProductSaid : Prop := fnPuzzleProductRow.holds Try.pinned (OpenSpec.ofChange fnPuzzleProductSpec)

/-- ITS FALSE NEIGHBOUR: 'it returns false'. Refute it at one input. -/
def fnPuzzleProductWrong : ChangeSpec := { name := "fnPuzzleProduct", fn := fun _ => fun
  | [d] => { results := [.lit (.bool false)], args := [d] }
  | _ => none }
def FnPuzzleProductWrongFalsely : Prop := fnPuzzleProductRow.holds Try.pinned (OpenSpec.ofChange fnPuzzleProductWrong)

/-- 'laws.FnPuzzleSides': WHATEVER THE INPUT: true; the input reads as it did. -/
def fnPuzzleSidesSpec : ChangeSpec := { name := "fnPuzzleSides", fn := fun _ => fun
  | [d] => { results := [.lit (.bool true)], args := [d] }
  | _ => none }
def fnPuzzleSidesRow : OpenClaim := { program := "ytnljlophgolejaa", sum := "c5a2217d706b4defc57d9039aa75811f29e33a244c8e68e1a6c5af964a38ca24", func := "loop.example/g03113/laws.FnPuzzleSides", spec := "fnPuzzleSides", unfollowed := true, recurses := true, apart := false }
def FnPuzzleSidesSaid : Prop := fnPuzzleSidesRow.holds Try.pinned (OpenSpec.ofChange fnPuzzleSidesSpec)

/-- ITS FALSE NEIGHBOUR: 'it returns false'. Refute it at one input. -/
def fnPuzzleSidesWrong : ChangeSpec := { name := "fnPuzzleSides", fn := fun _ => fun
  | [d] => { results := [.lit (.bool false)], args := [d] }
  | _ => none }
def FnPuzzleSidesWrongFalsely : Prop := fnPuzzleSidesRow.holds Try.pinned (OpenSpec.ofChange fnPuzzleSidesWrong)

/-- 'laws.FnWeights': WHATEVER THE INPUT: true; the input reads as it did. -/
def fnWeightsSpec : ChangeSpec := { name := "fnWeights", fn := fun _ => fun
  | [d] => { results := [.lit (.bool true)], args := [d] }
  | _ => none }
def fnWeightsRow : OpenClaim := { program := "ytnljlophgolejaa", sum := "c5a2217d706b4defc57d9039aa75811f29e33a244c8e68e1a6c5af964a38ca24", func := "loop.example/g03113/laws.FnWeights", spec := "fnWeights", inPlace := ["slices.overlaps[loop.example/g03113/impl.Part]"], unfollowed := true, recurses := true, apart := false }
def FnWeightsSaid : Prop := fnWeightsRow.holds Try.pinned (OpenSpec.ofChange fnWeightsSpec)

/-- ITS FALSE NEIGHBOUR: 'it returns false'. Refute it at one input. -/
def fnWeightsWrong : ChangeSpec := { name := "fnWeights", fn := fun _ => fun
  | [d] => { results := [.lit (.bool false)], args := [d] }
  | _ => none }
def FnWeightsWrongFalsely : Prop := fnWeightsRow.holds Try.pinned (OpenSpec.ofChange fnWeightsWrong)

/- THE SECOND FORM. 'bulk': how many values and letters a reading holds, each counted each time it is reached (what is shared counts as often as it is met; a slice's spare places count too). A statement '..UptoSaid' is the law's where the arguments, and the package variables that the reading takes, are together of bulk at most 1048576: NARROWER than '..Said'. Prove '..Said' where nothing that the law and all that it calls make is longer than what came in: it says more and counts as full. Else prove '..UptoSaid'. A law counts once. -/
mutual
def uptoBulk {H : Type} : DataW H → Nat
  | .lit (.string bytes) => bytes.length + 1
  | .lit _ => 1
  | .nil => 1
  | .ptr d => uptoBulk d + 1
  | .slice elems spare => uptoBulkAll elems + uptoBulkAll spare + 1
  | .agg parts => uptoBulkAll parts + 1
  | .iface _ d => uptoBulk d + 1
  | .map entries => uptoBulkEntries entries + 1
  | .held _ => 1
def uptoBulkAll {H : Type} : List (DataW H) → Nat
  | [] => 0
  | d :: r => uptoBulk d + uptoBulkAll r
def uptoBulkEntries {H : Type} : List (Lit × DataW H) → Nat
  | [] => 0
  | x :: r => uptoBulkEntry x + uptoBulkEntries r
def uptoBulkEntry {H : Type} : Lit × DataW H → Nat
  | (.string bytes, d) => bytes.length + uptoBulk d + 1
  | (_, d) => uptoBulk d + 1
 end
def uptoSmall : (H : Type) → List (DataW H) → Bool := fun _ ds => decide (uptoBulkAll ds ≤ 1048576)
def OpenSpec.upto (s : _root_.Go.ChangeSpec) : _root_.Go.OpenSpec := { _root_.Go.OpenSpec.ofChange s with cond := some uptoSmall }

/-- 'laws.FnExactCountPuzzles', WHERE WHAT IT READS IS OF BULK AT MOST 1048576: true; the input reads as it did. -/
def fnExactCountPuzzlesUptoRow : OpenClaim := { program := "ytnljlophgolejaa", sum := "c5a2217d706b4defc57d9039aa75811f29e33a244c8e68e1a6c5af964a38ca24", func := "loop.example/g03113/laws.FnExactCountPuzzles", spec := "fnExactCountPuzzles", unfollowed := true, recurses := true, apart := false, narrowed := true }
def FnExactCountPuzzlesUptoSaid : Prop := fnExactCountPuzzlesUptoRow.holds Try.pinned (OpenSpec.upto fnExactCountPuzzlesSpec)

/-- 'laws.FnExactPuzzlesOf', WHERE WHAT IT READS IS OF BULK AT MOST 1048576: true; the input reads as it did. -/
def fnExactPuzzlesOfUptoRow : OpenClaim := { program := "ytnljlophgolejaa", sum := "c5a2217d706b4defc57d9039aa75811f29e33a244c8e68e1a6c5af964a38ca24", func := "loop.example/g03113/laws.FnExactPuzzlesOf", spec := "fnExactPuzzlesOf", unfollowed := true, recurses := true, apart := false, narrowed := true }
def FnExactPuzzlesOfUptoSaid : Prop := fnExactPuzzlesOfUptoRow.holds Try.pinned (OpenSpec.upto fnExactPuzzlesOfSpec)

/-- 'laws.FnExactWeightedPuzzles', WHERE WHAT IT READS IS OF BULK AT MOST 1048576: true; the input reads as it did. -/
def fnExactWeightedPuzzlesUptoRow : OpenClaim := { program := "ytnljlophgolejaa", sum := "c5a2217d706b4defc57d9039aa75811f29e33a244c8e68e1a6c5af964a38ca24", func := "loop.example/g03113/laws.FnExactWeightedPuzzles", spec := "fnExactWeightedPuzzles", unfollowed := true, recurses := true, apart := false, narrowed := true }
def FnExactWeightedPuzzlesUptoSaid : Prop := fnExactWeightedPuzzlesUptoRow.holds Try.pinned (OpenSpec.upto fnExactWeightedPuzzlesSpec)

/-- 'laws.FnExactPuzzleProduct', WHERE WHAT IT READS IS OF BULK AT MOST 1048576: true; the input reads as it did. -/
def fnExactPuzzleProductUptoRow : OpenClaim := { program := "ytnljlophgolejaa", sum := "c5a2217d706b4defc57d9039aa75811f29e33a244c8e68e1a6c5af964a38ca24", func := "loop.example/g03113/laws.FnExactPuzzleProduct", spec := "fnExactPuzzleProduct", inPlace := ["slices.overlaps[loop.example/g03113/impl.Part]"], unfollowed := true, recurses := true, apart := false, narrowed := true }
def FnExactPuzzleProductUptoSaid : Prop := fnExactPuzzleProductUptoRow.holds Try.pinned (OpenSpec.upto fnExactPuzzleProductSpec)

/-- 'laws.FnExactWeightedProduct', WHERE WHAT IT READS IS OF BULK AT MOST 1048576: true; the input reads as it did. -/
def fnExactWeightedProductUptoRow : OpenClaim := { program := "ytnljlophgolejaa", sum := "c5a2217d706b4defc57d9039aa75811f29e33a244c8e68e1a6c5af964a38ca24", func := "loop.example/g03113/laws.FnExactWeightedProduct", spec := "fnExactWeightedProduct", inPlace := ["slices.overlaps[loop.example/g03113/impl.Part]"], unfollowed := true, recurses := true, apart := false, narrowed := true }
def FnExactWeightedProductUptoSaid : Prop := fnExactWeightedProductUptoRow.holds Try.pinned (OpenSpec.upto fnExactWeightedProductSpec)

/-- 'laws.FnPuzzleTurns', WHERE WHAT IT READS IS OF BULK AT MOST 1048576: true; the input reads as it did. -/
def fnPuzzleTurnsUptoRow : OpenClaim := { program := "ytnljlophgolejaa", sum := "c5a2217d706b4defc57d9039aa75811f29e33a244c8e68e1a6c5af964a38ca24", func := "loop.example/g03113/laws.FnPuzzleTurns", spec := "fnPuzzleTurns", unfollowed := true, recurses := true, apart := false, narrowed := true }
def FnPuzzleTurnsUptoSaid : Prop := fnPuzzleTurnsUptoRow.holds Try.pinned (OpenSpec.upto fnPuzzleTurnsSpec)

/-- 'laws.FnPuzzleProduct', WHERE WHAT IT READS IS OF BULK AT MOST 1048576: true; the input reads as it did. -/
def fnPuzzleProductUptoRow : OpenClaim := { program := "ytnljlophgolejaa", sum := "c5a2217d706b4defc57d9039aa75811f29e33a244c8e68e1a6c5af964a38ca24", func := "loop.example/g03113/laws.FnPuzzleProduct", spec := "fnPuzzleProduct", inPlace := ["slices.overlaps[loop.example/g03113/impl.Part]"], unfollowed := true, recurses := true, apart := false, narrowed := true }
def FnPuzzleProductUptoSaid : Prop := fnPuzzleProductUptoRow.holds Try.pinned (OpenSpec.upto fnPuzzleProductSpec)

/-- 'laws.FnPuzzleSides', WHERE WHAT IT READS IS OF BULK AT MOST 1048576: true; the input reads as it did. -/
def fnPuzzleSidesUptoRow : OpenClaim := { program := "ytnljlophgolejaa", sum := "c5a2217d706b4defc57d9039aa75811f29e33a244c8e68e1a6c5af964a38ca24", func := "loop.example/g03113/laws.FnPuzzleSides", spec := "fnPuzzleSides", unfollowed := true, recurses := true, apart := false, narrowed := true }
def FnPuzzleSidesUptoSaid : Prop := fnPuzzleSidesUptoRow.holds Try.pinned (OpenSpec.upto fnPuzzleSidesSpec)

/-- 'laws.FnWeights', WHERE WHAT IT READS IS OF BULK AT MOST 1048576: true; the input reads as it did. -/
def fnWeightsUptoRow : OpenClaim := { program := "ytnljlophgolejaa", sum := "c5a2217d706b4defc57d9039aa75811f29e33a244c8e68e1a6c5af964a38ca24", func := "loop.example/g03113/laws.FnWeights", spec := "fnWeights", inPlace := ["slices.overlaps[loop.example/g03113/impl.Part]"], unfollowed := true, recurses := true, apart := false, narrowed := true }
def FnWeightsUptoSaid : Prop := fnWeightsUptoRow.holds Try.pinned (OpenSpec.upto fnWeightsSpec)

end Rows
end Go.Proofs.Ytnljlophgolejaa
