/-
  No cell of these rows narrows 'for every input' (looked for: loops, veiled, ifaces, maps, wideKeys, modest, calm, conditions, laid).
  DERIVED. THE GIVEN ROWS OF THIS SEAT. 6 by the template 'for every input the law returns true; each argument reads behind the call as it read before'; 0 by the template 'total and deterministic' (their statements: YtgbojgmmingfdaaTotals.lean).
  GIVEN WITH THE SEED: the statements are not yours to turn. If you find one false, say at which input.
  Laid BY PROGRAM, IN A SANDBOX (cutbox-rows.mjs): the forced cells as the released guide's own fill.sh prints them over the translation fa0e1eea391193f5… (all of the seat's roots in one cut). By AI agents, Wed Nov 11 2026. No macro, syntax, notation, axiom, sorry.
-/
import Derived.Test.YtgbojgmmingfdaaChecked
import GoSem.Claim
import GoSem.ClaimJoined
import GoSem.ClaimMapViews
import Derived.JoinedTies
import Derived.KernelRfl
namespace Go.Proofs.Ytgbojgmmingfdaa
/- THE CELL 'sum', in the pinned program and in every row, IS THE sha256 OF THE DUMP (.gsa) THAT YtgbojgmmingfdaaProg.lean LOADS. Nothing in Lean hashes anything: it is a label: what it is worth is what the hold of that sum in a sandbox is worth. -/
noncomputable def Try.pinned : Pinned := { name := "ytgbojgmmingfdaa", sum := "fa0e1eea391193f5d03265a9b9df0e26b559584c245b0617bb26409f44dd3a00", checked := Try.checked }
namespace Rows
def none {H : Type} : Left H := { results := [], args := [] }

/-- 'laws.FnExactSchurPoly': WHATEVER THE INPUT: true; the input reads as it did. -/
def fnExactSchurPolySpec : ChangeSpec := { name := "fnExactSchurPoly", fn := fun _ => fun
  | [d1, d2] => { results := [.lit (.bool true)], args := [d1, d2] }
  | _ => none }
def fnExactSchurPolyRow : OpenClaim := { program := "ytgbojgmmingfdaa", sum := "fa0e1eea391193f5d03265a9b9df0e26b559584c245b0617bb26409f44dd3a00", func := "loop.example/g03113/laws.FnExactSchurPoly", spec := "fnExactSchurPoly", unfollowed := true, recurses := true, plainKeys := false, apart := false }
def FnExactSchurPolySaid : Prop := fnExactSchurPolyRow.holds Try.pinned (OpenSpec.ofChange fnExactSchurPolySpec)

/-- ITS FALSE NEIGHBOUR: 'it returns false'. Refute it at one input. -/
def fnExactSchurPolyWrong : ChangeSpec := { name := "fnExactSchurPoly", fn := fun _ => fun
  | [d1, d2] => { results := [.lit (.bool false)], args := [d1, d2] }
  | _ => none }
def FnExactSchurPolyWrongFalsely : Prop := fnExactSchurPolyRow.holds Try.pinned (OpenSpec.ofChange fnExactSchurPolyWrong)

/-- 'laws.FnExactStanleyShapes': WHATEVER THE INPUT: true; the input reads as it did. -/
def fnExactStanleyShapesSpec : ChangeSpec := { name := "fnExactStanleyShapes", fn := fun _ => fun
  | [d] => { results := [.lit (.bool true)], args := [d] }
  | _ => none }
def fnExactStanleyShapesRow : OpenClaim := { program := "ytgbojgmmingfdaa", sum := "fa0e1eea391193f5d03265a9b9df0e26b559584c245b0617bb26409f44dd3a00", func := "loop.example/g03113/laws.FnExactStanleyShapes", spec := "fnExactStanleyShapes", inPlace := ["slices.overlaps[loop.example/g03113/impl.Part]"], unfollowed := true, recurses := true, plainKeys := false, apart := false }
def FnExactStanleyShapesSaid : Prop := fnExactStanleyShapesRow.holds Try.pinned (OpenSpec.ofChange fnExactStanleyShapesSpec)

/-- ITS FALSE NEIGHBOUR: 'it returns false'. Refute it at one input. -/
def fnExactStanleyShapesWrong : ChangeSpec := { name := "fnExactStanleyShapes", fn := fun _ => fun
  | [d] => { results := [.lit (.bool false)], args := [d] }
  | _ => none }
def FnExactStanleyShapesWrongFalsely : Prop := fnExactStanleyShapesRow.holds Try.pinned (OpenSpec.ofChange fnExactStanleyShapesWrong)

/-- 'laws.FnEdelman': WHATEVER THE INPUT: true; the input reads as it did. -/
def fnEdelmanSpec : ChangeSpec := { name := "fnEdelman", fn := fun _ => fun
  | [d] => { results := [.lit (.bool true)], args := [d] }
  | _ => none }
def fnEdelmanRow : OpenClaim := { program := "ytgbojgmmingfdaa", sum := "fa0e1eea391193f5d03265a9b9df0e26b559584c245b0617bb26409f44dd3a00", func := "loop.example/g03113/laws.FnEdelman", spec := "fnEdelman", inPlace := ["slices.overlaps[loop.example/g03113/impl.Part]"], unfollowed := true, recurses := true, plainKeys := false, apart := false }
def FnEdelmanSaid : Prop := fnEdelmanRow.holds Try.pinned (OpenSpec.ofChange fnEdelmanSpec)

/-- ITS FALSE NEIGHBOUR: 'it returns false'. Refute it at one input. -/
def fnEdelmanWrong : ChangeSpec := { name := "fnEdelman", fn := fun _ => fun
  | [d] => { results := [.lit (.bool false)], args := [d] }
  | _ => none }
def FnEdelmanWrongFalsely : Prop := fnEdelmanRow.holds Try.pinned (OpenSpec.ofChange fnEdelmanWrong)

/-- 'laws.FnTableaux': WHATEVER THE INPUT: true; the input reads as it did. -/
def fnTableauxSpec : ChangeSpec := { name := "fnTableaux", fn := fun _ => fun
  | [d] => { results := [.lit (.bool true)], args := [d] }
  | _ => none }
def fnTableauxRow : OpenClaim := { program := "ytgbojgmmingfdaa", sum := "fa0e1eea391193f5d03265a9b9df0e26b559584c245b0617bb26409f44dd3a00", func := "loop.example/g03113/laws.FnTableaux", spec := "fnTableaux", unfollowed := true, recurses := true, plainKeys := false, apart := false }
def FnTableauxSaid : Prop := fnTableauxRow.holds Try.pinned (OpenSpec.ofChange fnTableauxSpec)

/-- ITS FALSE NEIGHBOUR: 'it returns false'. Refute it at one input. -/
def fnTableauxWrong : ChangeSpec := { name := "fnTableaux", fn := fun _ => fun
  | [d] => { results := [.lit (.bool false)], args := [d] }
  | _ => none }
def FnTableauxWrongFalsely : Prop := fnTableauxRow.holds Try.pinned (OpenSpec.ofChange fnTableauxWrong)

/-- 'laws.FnKeys': WHATEVER THE INPUT: true; the input reads as it did. -/
def fnKeysSpec : ChangeSpec := { name := "fnKeys", fn := fun _ => fun
  | [d] => { results := [.lit (.bool true)], args := [d] }
  | _ => none }
def fnKeysRow : OpenClaim := { program := "ytgbojgmmingfdaa", sum := "fa0e1eea391193f5d03265a9b9df0e26b559584c245b0617bb26409f44dd3a00", func := "loop.example/g03113/laws.FnKeys", spec := "fnKeys", unfollowed := true, recurses := true, plainKeys := false, apart := false }
def FnKeysSaid : Prop := fnKeysRow.holds Try.pinned (OpenSpec.ofChange fnKeysSpec)

/-- ITS FALSE NEIGHBOUR: 'it returns false'. Refute it at one input. -/
def fnKeysWrong : ChangeSpec := { name := "fnKeys", fn := fun _ => fun
  | [d] => { results := [.lit (.bool false)], args := [d] }
  | _ => none }
def FnKeysWrongFalsely : Prop := fnKeysRow.holds Try.pinned (OpenSpec.ofChange fnKeysWrong)

/-- 'laws.FnLr': WHATEVER THE INPUT: true; the input reads as it did. -/
def fnLrSpec : ChangeSpec := { name := "fnLr", fn := fun _ => fun
  | [d] => { results := [.lit (.bool true)], args := [d] }
  | _ => none }
def fnLrRow : OpenClaim := { program := "ytgbojgmmingfdaa", sum := "fa0e1eea391193f5d03265a9b9df0e26b559584c245b0617bb26409f44dd3a00", func := "loop.example/g03113/laws.FnLr", spec := "fnLr", inPlace := ["slices.overlaps[loop.example/g03113/impl.Part]"], unfollowed := true, recurses := true, plainKeys := false, apart := false }
def FnLrSaid : Prop := fnLrRow.holds Try.pinned (OpenSpec.ofChange fnLrSpec)

/-- ITS FALSE NEIGHBOUR: 'it returns false'. Refute it at one input. -/
def fnLrWrong : ChangeSpec := { name := "fnLr", fn := fun _ => fun
  | [d] => { results := [.lit (.bool false)], args := [d] }
  | _ => none }
def FnLrWrongFalsely : Prop := fnLrRow.holds Try.pinned (OpenSpec.ofChange fnLrWrong)

/- THE SECOND FORM. 'bulk': how many values and letters a reading holds, each counted each time it is reached (what is shared counts as often as it is met; a slice's spare places count too). A statement '..UptoSaid' is the law's where the arguments, and the package variables that the reading takes, are together of bulk at most 1048576: NARROWER than '..Said'. Prove '..Said' where nothing that the law and all that it calls make is longer than what came in: it says more and counts as full. Else prove '..UptoSaid'. A law counts once. -/
mutual
def uptoBulk {H : Type} : DataW H → Nat
  | .lit (.string bytes) => bytes.length + 1
  | .lit _ => 1
  | .nil => 1
  | .ptr d => uptoBulk d + 1
  | .slice elems spare => uptoBulkAll elems + uptoBulkAll spare + 1
  | .agg parts => uptoBulkAll parts + 1
  | .iface _ d => uptoBulk d + 1
  | .map entries => uptoBulkEntries entries + 1
  | .held _ => 1
def uptoBulkAll {H : Type} : List (DataW H) → Nat
  | [] => 0
  | d :: r => uptoBulk d + uptoBulkAll r
def uptoBulkEntries {H : Type} : List (Lit × DataW H) → Nat
  | [] => 0
  | x :: r => uptoBulkEntry x + uptoBulkEntries r
def uptoBulkEntry {H : Type} : Lit × DataW H → Nat
  | (.string bytes, d) => bytes.length + uptoBulk d + 1
  | (_, d) => uptoBulk d + 1
 end
def uptoSmall : (H : Type) → List (DataW H) → Bool := fun _ ds => decide (uptoBulkAll ds ≤ 1048576)
def OpenSpec.upto (s : _root_.Go.ChangeSpec) : _root_.Go.OpenSpec := { _root_.Go.OpenSpec.ofChange s with cond := some uptoSmall }

/-- 'laws.FnExactSchurPoly', WHERE WHAT IT READS IS OF BULK AT MOST 1048576: true; the input reads as it did. -/
def fnExactSchurPolyUptoRow : OpenClaim := { program := "ytgbojgmmingfdaa", sum := "fa0e1eea391193f5d03265a9b9df0e26b559584c245b0617bb26409f44dd3a00", func := "loop.example/g03113/laws.FnExactSchurPoly", spec := "fnExactSchurPoly", unfollowed := true, recurses := true, plainKeys := false, apart := false, narrowed := true }
def FnExactSchurPolyUptoSaid : Prop := fnExactSchurPolyUptoRow.holds Try.pinned (OpenSpec.upto fnExactSchurPolySpec)

/-- 'laws.FnExactStanleyShapes', WHERE WHAT IT READS IS OF BULK AT MOST 1048576: true; the input reads as it did. -/
def fnExactStanleyShapesUptoRow : OpenClaim := { program := "ytgbojgmmingfdaa", sum := "fa0e1eea391193f5d03265a9b9df0e26b559584c245b0617bb26409f44dd3a00", func := "loop.example/g03113/laws.FnExactStanleyShapes", spec := "fnExactStanleyShapes", inPlace := ["slices.overlaps[loop.example/g03113/impl.Part]"], unfollowed := true, recurses := true, plainKeys := false, apart := false, narrowed := true }
def FnExactStanleyShapesUptoSaid : Prop := fnExactStanleyShapesUptoRow.holds Try.pinned (OpenSpec.upto fnExactStanleyShapesSpec)

/-- 'laws.FnEdelman', WHERE WHAT IT READS IS OF BULK AT MOST 1048576: true; the input reads as it did. -/
def fnEdelmanUptoRow : OpenClaim := { program := "ytgbojgmmingfdaa", sum := "fa0e1eea391193f5d03265a9b9df0e26b559584c245b0617bb26409f44dd3a00", func := "loop.example/g03113/laws.FnEdelman", spec := "fnEdelman", inPlace := ["slices.overlaps[loop.example/g03113/impl.Part]"], unfollowed := true, recurses := true, plainKeys := false, apart := false, narrowed := true }
def FnEdelmanUptoSaid : Prop := fnEdelmanUptoRow.holds Try.pinned (OpenSpec.upto fnEdelmanSpec)

/-- 'laws.FnTableaux', WHERE WHAT IT READS IS OF BULK AT MOST 1048576: true; the input reads as it did. -/
def fnTableauxUptoRow : OpenClaim := { program := "ytgbojgmmingfdaa", sum := "fa0e1eea391193f5d03265a9b9df0e26b559584c245b0617bb26409f44dd3a00", func := "loop.example/g03113/laws.FnTableaux", spec := "fnTableaux", unfollowed := true, recurses := true, plainKeys := false, apart := false, narrowed := true }
def FnTableauxUptoSaid : Prop := fnTableauxUptoRow.holds Try.pinned (OpenSpec.upto fnTableauxSpec)

/-- 'laws.FnKeys', WHERE WHAT IT READS IS OF BULK AT MOST 1048576: true; the input reads as it did. -/
def fnKeysUptoRow : OpenClaim := { program := "ytgbojgmmingfdaa", sum := "fa0e1eea391193f5d03265a9b9df0e26b559584c245b0617bb26409f44dd3a00", func := "loop.example/g03113/laws.FnKeys", spec := "fnKeys", unfollowed := true, recurses := true, plainKeys := false, apart := false, narrowed := true }
def FnKeysUptoSaid : Prop := fnKeysUptoRow.holds Try.pinned (OpenSpec.upto fnKeysSpec)

/-- 'laws.FnLr', WHERE WHAT IT READS IS OF BULK AT MOST 1048576: true; the input reads as it did. -/
def fnLrUptoRow : OpenClaim := { program := "ytgbojgmmingfdaa", sum := "fa0e1eea391193f5d03265a9b9df0e26b559584c245b0617bb26409f44dd3a00", func := "loop.example/g03113/laws.FnLr", spec := "fnLr", inPlace := ["slices.overlaps[loop.example/g03113/impl.Part]"], unfollowed := true, recurses := true, plainKeys := false, apart := false, narrowed := true }
def FnLrUptoSaid : Prop := fnLrUptoRow.holds Try.pinned (OpenSpec.upto fnLrSpec)

end Rows
end Go.Proofs.Ytgbojgmmingfdaa
