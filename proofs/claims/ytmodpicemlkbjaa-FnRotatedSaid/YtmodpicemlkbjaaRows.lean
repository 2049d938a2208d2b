/-
  No cell of these rows narrows 'for every input' (looked for: loops, veiled, ifaces, maps, wideKeys, modest, calm, conditions, laid).
  DERIVED. THE GIVEN ROWS OF THIS SEAT. 11 by the template 'for every input the law returns true; each argument reads behind the call as it read before'; 0 by the template 'total and deterministic' (their statements: YtmodpicemlkbjaaTotals.lean).
  GIVEN WITH THE SEED: the statements are not yours to turn. If you find one false, say at which input.
  Laid BY PROGRAM, IN A SANDBOX (cutbox-rows.mjs): the forced cells as the released guide's own fill.sh prints them over the translation e9fc09ef8fbf70e2… (all of the seat's roots in one cut). By AI agents, Wed Nov 11 2026. No macro, syntax, notation, axiom, sorry.
-/
import Derived.Test.YtmodpicemlkbjaaChecked
import GoSem.Claim
import GoSem.ClaimJoined
import GoSem.ClaimMapViews
import Derived.JoinedTies
import Derived.KernelRfl
namespace Go.Proofs.Ytmodpicemlkbjaa
/- THE CELL 'sum', in the pinned program and in every row, IS THE sha256 OF THE DUMP (.gsa) THAT YtmodpicemlkbjaaProg.lean LOADS. Nothing in Lean hashes anything: it is a label: what it is worth is what the hold of that sum in a sandbox is worth. -/
noncomputable def Try.pinned : Pinned := { name := "ytmodpicemlkbjaa", sum := "e9fc09ef8fbf70e21fdf162b6a450db197c7779bcc716dc60885659b45ffc430", checked := Try.checked }
namespace Rows
def none {H : Type} : Left H := { results := [], args := [] }

/-- 'laws.FnExactIntersectionNumber': WHATEVER THE INPUT: true; the input reads as it did. -/
def fnExactIntersectionNumberSpec : ChangeSpec := { name := "fnExactIntersectionNumber", fn := fun _ => fun
  | [d1, d2, d3] => { results := [.lit (.bool true)], args := [d1, d2, d3] }
  | _ => none }
def fnExactIntersectionNumberRow : OpenClaim := { program := "ytmodpicemlkbjaa", sum := "e9fc09ef8fbf70e21fdf162b6a450db197c7779bcc716dc60885659b45ffc430", func := "loop.example/g03113/laws.FnExactIntersectionNumber", spec := "fnExactIntersectionNumber", inPlace := ["slices.overlaps[loop.example/g03113/impl.Part]"], unfollowed := true, recurses := true, apart := false }
def FnExactIntersectionNumberSaid : Prop := fnExactIntersectionNumberRow.holds Try.pinned (OpenSpec.ofChange fnExactIntersectionNumberSpec)

/-- ITS FALSE NEIGHBOUR: 'it returns false'. Refute it at one input. -/
def fnExactIntersectionNumberWrong : ChangeSpec := { name := "fnExactIntersectionNumber", fn := fun _ => fun
  | [d1, d2, d3] => { results := [.lit (.bool false)], args := [d1, d2, d3] }
  | _ => none }
def FnExactIntersectionNumberWrongFalsely : Prop := fnExactIntersectionNumberRow.holds Try.pinned (OpenSpec.ofChange fnExactIntersectionNumberWrong)

/-- 'laws.FnPieri': WHATEVER THE INPUT: true; the input reads as it did. -/
def fnPieriSpec : ChangeSpec := { name := "fnPieri", fn := fun _ => fun
  | [d] => { results := [.lit (.bool true)], args := [d] }
  | _ => none }
def fnPieriRow : OpenClaim := { program := "ytmodpicemlkbjaa", sum := "e9fc09ef8fbf70e21fdf162b6a450db197c7779bcc716dc60885659b45ffc430", func := "loop.example/g03113/laws.FnPieri", spec := "fnPieri", inPlace := ["slices.overlaps[loop.example/g03113/impl.Part]"], unfollowed := true, recurses := true, apart := false }
def FnPieriSaid : Prop := fnPieriRow.holds Try.pinned (OpenSpec.ofChange fnPieriSpec)

/-- ITS FALSE NEIGHBOUR: 'it returns false'. Refute it at one input. -/
def fnPieriWrong : ChangeSpec := { name := "fnPieri", fn := fun _ => fun
  | [d] => { results := [.lit (.bool false)], args := [d] }
  | _ => none }
def FnPieriWrongFalsely : Prop := fnPieriRow.holds Try.pinned (OpenSpec.ofChange fnPieriWrong)

/-- 'laws.FnMeets': WHATEVER THE INPUT: true; the input reads as it did. -/
def fnMeetsSpec : ChangeSpec := { name := "fnMeets", fn := fun _ => fun
  | [d] => { results := [.lit (.bool true)], args := [d] }
  | _ => none }
def fnMeetsRow : OpenClaim := { program := "ytmodpicemlkbjaa", sum := "e9fc09ef8fbf70e21fdf162b6a450db197c7779bcc716dc60885659b45ffc430", func := "loop.example/g03113/laws.FnMeets", spec := "fnMeets", inPlace := ["slices.overlaps[loop.example/g03113/impl.Part]"], unfollowed := true, recurses := true, apart := false }
def FnMeetsSaid : Prop := fnMeetsRow.holds Try.pinned (OpenSpec.ofChange fnMeetsSpec)

/-- ITS FALSE NEIGHBOUR: 'it returns false'. Refute it at one input. -/
def fnMeetsWrong : ChangeSpec := { name := "fnMeets", fn := fun _ => fun
  | [d] => { results := [.lit (.bool false)], args := [d] }
  | _ => none }
def FnMeetsWrongFalsely : Prop := fnMeetsRow.holds Try.pinned (OpenSpec.ofChange fnMeetsWrong)

/-- 'laws.FnExactWrapShape': WHATEVER THE INPUT: true; the input reads as it did. -/
def fnExactWrapShapeSpec : ChangeSpec := { name := "fnExactWrapShape", fn := fun _ => fun
  | [d1, d2, d3] => { results := [.lit (.bool true)], args := [d1, d2, d3] }
  | _ => none }
def fnExactWrapShapeRow : OpenClaim := { program := "ytmodpicemlkbjaa", sum := "e9fc09ef8fbf70e21fdf162b6a450db197c7779bcc716dc60885659b45ffc430", func := "loop.example/g03113/laws.FnExactWrapShape", spec := "fnExactWrapShape", recurses := true, apart := false }
def FnExactWrapShapeSaid : Prop := fnExactWrapShapeRow.holds Try.pinned (OpenSpec.ofChange fnExactWrapShapeSpec)

/-- ITS FALSE NEIGHBOUR: 'it returns false'. Refute it at one input. -/
def fnExactWrapShapeWrong : ChangeSpec := { name := "fnExactWrapShape", fn := fun _ => fun
  | [d1, d2, d3] => { results := [.lit (.bool false)], args := [d1, d2, d3] }
  | _ => none }
def FnExactWrapShapeWrongFalsely : Prop := fnExactWrapShapeRow.holds Try.pinned (OpenSpec.ofChange fnExactWrapShapeWrong)

/-- 'laws.FnExactQuantumPieri': WHATEVER THE INPUT: true; the input reads as it did. -/
def fnExactQuantumPieriSpec : ChangeSpec := { name := "fnExactQuantumPieri", fn := fun _ => fun
  | [d1, d2, d3, d4] => { results := [.lit (.bool true)], args := [d1, d2, d3, d4] }
  | _ => none }
def fnExactQuantumPieriRow : OpenClaim := { program := "ytmodpicemlkbjaa", sum := "e9fc09ef8fbf70e21fdf162b6a450db197c7779bcc716dc60885659b45ffc430", func := "loop.example/g03113/laws.FnExactQuantumPieri", spec := "fnExactQuantumPieri", recurses := true, apart := false }
def FnExactQuantumPieriSaid : Prop := fnExactQuantumPieriRow.holds Try.pinned (OpenSpec.ofChange fnExactQuantumPieriSpec)

/-- ITS FALSE NEIGHBOUR: 'it returns false'. Refute it at one input. -/
def fnExactQuantumPieriWrong : ChangeSpec := { name := "fnExactQuantumPieri", fn := fun _ => fun
  | [d1, d2, d3, d4] => { results := [.lit (.bool false)], args := [d1, d2, d3, d4] }
  | _ => none }
def FnExactQuantumPieriWrongFalsely : Prop := fnExactQuantumPieriRow.holds Try.pinned (OpenSpec.ofChange fnExactQuantumPieriWrong)

/-- 'laws.FnExactQuantumProduct': WHATEVER THE INPUT: true; the input reads as it did. -/
def fnExactQuantumProductSpec : ChangeSpec := { name := "fnExactQuantumProduct", fn := fun _ => fun
  | [d1, d2, d3, d4] => { results := [.lit (.bool true)], args := [d1, d2, d3, d4] }
  | _ => none }
def fnExactQuantumProductRow : OpenClaim := { program := "ytmodpicemlkbjaa", sum := "e9fc09ef8fbf70e21fdf162b6a450db197c7779bcc716dc60885659b45ffc430", func := "loop.example/g03113/laws.FnExactQuantumProduct", spec := "fnExactQuantumProduct", inPlace := ["slices.overlaps[loop.example/g03113/impl.Part]", "slices.overlaps[loop.example/g03113/impl.QPart]"], unfollowed := true, recurses := true, apart := false }
def FnExactQuantumProductSaid : Prop := fnExactQuantumProductRow.holds Try.pinned (OpenSpec.ofChange fnExactQuantumProductSpec)

/-- ITS FALSE NEIGHBOUR: 'it returns false'. Refute it at one input. -/
def fnExactQuantumProductWrong : ChangeSpec := { name := "fnExactQuantumProduct", fn := fun _ => fun
  | [d1, d2, d3, d4] => { results := [.lit (.bool false)], args := [d1, d2, d3, d4] }
  | _ => none }
def FnExactQuantumProductWrongFalsely : Prop := fnExactQuantumProductRow.holds Try.pinned (OpenSpec.ofChange fnExactQuantumProductWrong)

/-- 'laws.FnExactGromovWitten': WHATEVER THE INPUT: true; the input reads as it did. -/
def fnExactGromovWittenSpec : ChangeSpec := { name := "fnExactGromovWitten", fn := fun _ => fun
  | [d1, d2, d3, d4, d5, d6] => { results := [.lit (.bool true)], args := [d1, d2, d3, d4, d5, d6] }
  | _ => none }
def fnExactGromovWittenRow : OpenClaim := { program := "ytmodpicemlkbjaa", sum := "e9fc09ef8fbf70e21fdf162b6a450db197c7779bcc716dc60885659b45ffc430", func := "loop.example/g03113/laws.FnExactGromovWitten", spec := "fnExactGromovWitten", inPlace := ["slices.overlaps[loop.example/g03113/impl.Part]", "slices.overlaps[loop.example/g03113/impl.QPart]"], unfollowed := true, recurses := true, apart := false }
def FnExactGromovWittenSaid : Prop := fnExactGromovWittenRow.holds Try.pinned (OpenSpec.ofChange fnExactGromovWittenSpec)

/-- ITS FALSE NEIGHBOUR: 'it returns false'. Refute it at one input. -/
def fnExactGromovWittenWrong : ChangeSpec := { name := "fnExactGromovWitten", fn := fun _ => fun
  | [d1, d2, d3, d4, d5, d6] => { results := [.lit (.bool false)], args := [d1, d2, d3, d4, d5, d6] }
  | _ => none }
def FnExactGromovWittenWrongFalsely : Prop := fnExactGromovWittenRow.holds Try.pinned (OpenSpec.ofChange fnExactGromovWittenWrong)

/-- 'laws.FnQuantum': WHATEVER THE INPUT: true; the input reads as it did. -/
def fnQuantumSpec : ChangeSpec := { name := "fnQuantum", fn := fun _ => fun
  | [d] => { results := [.lit (.bool true)], args := [d] }
  | _ => none }
def fnQuantumRow : OpenClaim := { program := "ytmodpicemlkbjaa", sum := "e9fc09ef8fbf70e21fdf162b6a450db197c7779bcc716dc60885659b45ffc430", func := "loop.example/g03113/laws.FnQuantum", spec := "fnQuantum", inPlace := ["slices.overlaps[loop.example/g03113/impl.Part]", "slices.overlaps[loop.example/g03113/impl.QPart]"], unfollowed := true, recurses := true, apart := false }
def FnQuantumSaid : Prop := fnQuantumRow.holds Try.pinned (OpenSpec.ofChange fnQuantumSpec)

/-- ITS FALSE NEIGHBOUR: 'it returns false'. Refute it at one input. -/
def fnQuantumWrong : ChangeSpec := { name := "fnQuantum", fn := fun _ => fun
  | [d] => { results := [.lit (.bool false)], args := [d] }
  | _ => none }
def FnQuantumWrongFalsely : Prop := fnQuantumRow.holds Try.pinned (OpenSpec.ofChange fnQuantumWrong)

/-- 'laws.FnGromov': WHATEVER THE INPUT: true; the input reads as it did. -/
def fnGromovSpec : ChangeSpec := { name := "fnGromov", fn := fun _ => fun
  | [d] => { results := [.lit (.bool true)], args := [d] }
  | _ => none }
def fnGromovRow : OpenClaim := { program := "ytmodpicemlkbjaa", sum := "e9fc09ef8fbf70e21fdf162b6a450db197c7779bcc716dc60885659b45ffc430", func := "loop.example/g03113/laws.FnGromov", spec := "fnGromov", inPlace := ["slices.overlaps[loop.example/g03113/impl.Part]", "slices.overlaps[loop.example/g03113/impl.QPart]"], unfollowed := true, recurses := true, apart := false }
def FnGromovSaid : Prop := fnGromovRow.holds Try.pinned (OpenSpec.ofChange fnGromovSpec)

/-- ITS FALSE NEIGHBOUR: 'it returns false'. Refute it at one input. -/
def fnGromovWrong : ChangeSpec := { name := "fnGromov", fn := fun _ => fun
  | [d] => { results := [.lit (.bool false)], args := [d] }
  | _ => none }
def FnGromovWrongFalsely : Prop := fnGromovRow.holds Try.pinned (OpenSpec.ofChange fnGromovWrong)

/-- 'laws.FnQuantumRing': WHATEVER THE INPUT: true; the input reads as it did. -/
def fnQuantumRingSpec : ChangeSpec := { name := "fnQuantumRing", fn := fun _ => fun
  | [d] => { results := [.lit (.bool true)], args := [d] }
  | _ => none }
def fnQuantumRingRow : OpenClaim := { program := "ytmodpicemlkbjaa", sum := "e9fc09ef8fbf70e21fdf162b6a450db197c7779bcc716dc60885659b45ffc430", func := "loop.example/g03113/laws.FnQuantumRing", spec := "fnQuantumRing", inPlace := ["slices.overlaps[loop.example/g03113/impl.Part]", "slices.overlaps[loop.example/g03113/impl.QPart]"], unfollowed := true, recurses := true, apart := false }
def FnQuantumRingSaid : Prop := fnQuantumRingRow.holds Try.pinned (OpenSpec.ofChange fnQuantumRingSpec)

/-- ITS FALSE NEIGHBOUR: 'it returns false'. Refute it at one input. -/
def fnQuantumRingWrong : ChangeSpec := { name := "fnQuantumRing", fn := fun _ => fun
  | [d] => { results := [.lit (.bool false)], args := [d] }
  | _ => none }
def FnQuantumRingWrongFalsely : Prop := fnQuantumRingRow.holds Try.pinned (OpenSpec.ofChange fnQuantumRingWrong)

/-- 'laws.FnRotated': WHATEVER THE INPUT: true; the input reads as it did. -/
def fnRotatedSpec : ChangeSpec := { name := "fnRotated", fn := fun _ => fun
  | [d] => { results := [.lit (.bool true)], args := [d] }
  | _ => none }
def fnRotatedRow : OpenClaim := { program := "ytmodpicemlkbjaa", sum := "e9fc09ef8fbf70e21fdf162b6a450db197c7779bcc716dc60885659b45ffc430", func := "loop.example/g03113/laws.FnRotated", spec := "fnRotated", inPlace := ["slices.overlaps[loop.example/g03113/impl.Part]", "slices.overlaps[loop.example/g03113/impl.QPart]"], unfollowed := true, recurses := true, apart := false }
def FnRotatedSaid : Prop := fnRotatedRow.holds Try.pinned (OpenSpec.ofChange fnRotatedSpec)

/-- ITS FALSE NEIGHBOUR: 'it returns false'. Refute it at one input. -/
def fnRotatedWrong : ChangeSpec := { name := "fnRotated", fn := fun _ => fun
  | [d] => { results := [.lit (.bool false)], args := [d] }
  | _ => none }
def FnRotatedWrongFalsely : Prop := fnRotatedRow.holds Try.pinned (OpenSpec.ofChange fnRotatedWrong)

/- THE SECOND FORM. 'bulk': how many values and letters a reading holds, each counted each time it is reached (what is shared counts as often as it is met; a slice's spare places count too). A statement '..UptoSaid' is the law's where the arguments, and the package variables that the reading takes, are together of bulk at most 1048576: NARROWER than '..Said'. Prove '..Said' where nothing that the law and all that it calls make is longer than what came in: it says more and counts as full. Else prove '..UptoSaid'. A law counts once. -/
mutual
def uptoBulk {H : Type} : DataW H → Nat
  | .lit (.string bytes) => bytes.length + 1
  | .lit _ => 1
  | .nil => 1
  | .ptr d => uptoBulk d + 1
  | .slice elems spare => uptoBulkAll elems + uptoBulkAll spare + 1
  | .agg parts => uptoBulkAll parts + 1
  | .iface _ d => uptoBulk d + 1
  | .map entries => uptoBulkEntries entries + 1
  | .held _ => 1
def uptoBulkAll {H : Type} : List (DataW H) → Nat
  | [] => 0
  | d :: r => uptoBulk d + uptoBulkAll r
def uptoBulkEntries {H : Type} : List (Lit × DataW H) → Nat
  | [] => 0
  | x :: r => uptoBulkEntry x + uptoBulkEntries r
def uptoBulkEntry {H : Type} : Lit × DataW H → Nat
  | (.string bytes, d) => bytes.length + uptoBulk d + 1
  | (_, d) => uptoBulk d + 1
 end
def uptoSmall : (H : Type) → List (DataW H) → Bool := fun _ ds => decide (uptoBulkAll ds ≤ 1048576)
def OpenSpec.upto (s : _root_.Go.ChangeSpec) : _root_.Go.OpenSpec := { _root_.Go.OpenSpec.ofChange s with cond := some uptoSmall }

/-- 'laws.FnExactIntersectionNumber', WHERE WHAT IT READS IS OF BULK AT MOST 1048576: true; the input reads as it did. -/
def fnExactIntersectionNumberUptoRow : OpenClaim := { program := "ytmodpicemlkbjaa", sum := "e9fc09ef8fbf70e21fdf162b6a450db197c7779bcc716dc60885659b45ffc430", func := "loop.example/g03113/laws.FnExactIntersectionNumber", spec := "fnExactIntersectionNumber", inPlace := ["slices.overlaps[loop.example/g03113/impl.Part]"], unfollowed := true, recurses := true, apart := false, narrowed := true }
def FnExactIntersectionNumberUptoSaid : Prop := fnExactIntersectionNumberUptoRow.holds Try.pinned (OpenSpec.upto fnExactIntersectionNumberSpec)

/-- 'laws.FnPieri', WHERE WHAT IT READS IS OF BULK AT MOST 1048576: true; the input reads as it did. -/
def fnPieriUptoRow : OpenClaim := { program := "ytmodpicemlkbjaa", sum := "e9fc09ef8fbf70e21fdf162b6a450db197c7779bcc716dc60885659b45ffc430", func := "loop.example/g03113/laws.FnPieri", spec := "fnPieri", inPlace := ["slices.overlaps[loop.example/g03113/impl.Part]"], unfollowed := true, recurses := true, apart := false, narrowed := true }
def FnPieriUptoSaid : Prop := fnPieriUptoRow.holds Try.pinned (OpenSpec.upto fnPieriSpec)

/-- 'laws.FnMeets', WHERE WHAT IT READS IS OF BULK AT MOST 1048576: true; the input reads as it did. -/
def fnMeetsUptoRow : OpenClaim := { program := "ytmodpicemlkbjaa", sum := "e9fc09ef8fbf70e21fdf162b6a450db197c7779bcc716dc60885659b45ffc430", func := "loop.example/g03113/laws.FnMeets", spec := "fnMeets", inPlace := ["slices.overlaps[loop.example/g03113/impl.Part]"], unfollowed := true, recurses := true, apart := false, narrowed := true }
def FnMeetsUptoSaid : Prop := fnMeetsUptoRow.holds Try.pinned (OpenSpec.upto fnMeetsSpec)

/-- 'laws.FnExactWrapShape', WHERE WHAT IT READS IS OF BULK AT MOST 1048576: true; the input reads as it did. -/
def fnExactWrapShapeUptoRow : OpenClaim := { program := "ytmodpicemlkbjaa", sum := "e9fc09ef8fbf70e21fdf162b6a450db197c7779bcc716dc60885659b45ffc430", func := "loop.example/g03113/laws.FnExactWrapShape", spec := "fnExactWrapShape", recurses := true, apart := false, narrowed := true }
def FnExactWrapShapeUptoSaid : Prop := fnExactWrapShapeUptoRow.holds Try.pinned (OpenSpec.upto fnExactWrapShapeSpec)

/-- 'laws.FnExactQuantumPieri', WHERE WHAT IT READS IS OF BULK AT MOST 1048576: true; the input reads as it did. -/
def fnExactQuantumPieriUptoRow : OpenClaim := { program := "ytmodpicemlkbjaa", sum := "e9fc09ef8fbf70e21fdf162b6a450db197c7779bcc716dc60885659b45ffc430", func := "loop.example/g03113/laws.FnExactQuantumPieri", spec := "fnExactQuantumPieri", recurses := true, apart := false, narrowed := true }
def FnExactQuantumPieriUptoSaid : Prop := fnExactQuantumPieriUptoRow.holds Try.pinned (OpenSpec.upto fnExactQuantumPieriSpec)

/-- 'laws.FnExactQuantumProduct', WHERE WHAT IT READS IS OF BULK AT MOST 1048576: true; the input reads as it did. -/
def fnExactQuantumProductUptoRow : OpenClaim := { program := "ytmodpicemlkbjaa", sum := "e9fc09ef8fbf70e21fdf162b6a450db197c7779bcc716dc60885659b45ffc430", func := "loop.example/g03113/laws.FnExactQuantumProduct", spec := "fnExactQuantumProduct", inPlace := ["slices.overlaps[loop.example/g03113/impl.Part]", "slices.overlaps[loop.example/g03113/impl.QPart]"], unfollowed := true, recurses := true, apart := false, narrowed := true }
def FnExactQuantumProductUptoSaid : Prop := fnExactQuantumProductUptoRow.holds Try.pinned (OpenSpec.upto fnExactQuantumProductSpec)

/-- 'laws.FnExactGromovWitten', WHERE WHAT IT READS IS OF BULK AT MOST 1048576: true; the input reads as it did. -/
def fnExactGromovWittenUptoRow : OpenClaim := { program := "ytmodpicemlkbjaa", sum := "e9fc09ef8fbf70e21fdf162b6a450db197c7779bcc716dc60885659b45ffc430", func := "loop.example/g03113/laws.FnExactGromovWitten", spec := "fnExactGromovWitten", inPlace := ["slices.overlaps[loop.example/g03113/impl.Part]", "slices.overlaps[loop.example/g03113/impl.QPart]"], unfollowed := true, recurses := true, apart := false, narrowed := true }
def FnExactGromovWittenUptoSaid : Prop := fnExactGromovWittenUptoRow.holds Try.pinned (OpenSpec.upto fnExactGromovWittenSpec)

/-- 'laws.FnQuantum', WHERE WHAT IT READS IS OF BULK AT MOST 1048576: true; the input reads as it did. -/
def fnQuantumUptoRow : OpenClaim := { program := "ytmodpicemlkbjaa", sum := "e9fc09ef8fbf70e21fdf162b6a450db197c7779bcc716dc60885659b45ffc430", func := "loop.example/g03113/laws.FnQuantum", spec := "fnQuantum", inPlace := ["slices.overlaps[loop.example/g03113/impl.Part]", "slices.overlaps[loop.example/g03113/impl.QPart]"], unfollowed := true, recurses := true, apart := false, narrowed := true }
def FnQuantumUptoSaid : Prop := fnQuantumUptoRow.holds Try.pinned (OpenSpec.upto fnQuantumSpec)

/-- 'laws.FnGromov', WHERE WHAT IT READS IS OF BULK AT MOST 1048576: true; the input reads as it did. -/
def fnGromovUptoRow : OpenClaim := { program := "ytmodpicemlkbjaa", sum := "e9fc09ef8fbf70e21fdf162b6a450db197c7779bcc716dc60885659b45ffc430", func := "loop.example/g03113/laws.FnGromov", spec := "fnGromov", inPlace := ["slices.overlaps[loop.example/g03113/impl.Part]", "slices.overlaps[loop.example/g03113/impl.QPart]"], unfollowed := true, recurses := true, apart := false, narrowed := true }
def FnGromovUptoSaid : Prop := fnGromovUptoRow.holds Try.pinned (OpenSpec.upto fnGromovSpec)

/-- 'laws.FnQuantumRing', WHERE WHAT IT READS IS OF BULK AT MOST 1048576: true; the input reads as it did. -/
def fnQuantumRingUptoRow : OpenClaim := { program := "ytmodpicemlkbjaa", sum := "e9fc09ef8fbf70e21fdf162b6a450db197c7779bcc716dc60885659b45ffc430", func := "loop.example/g03113/laws.FnQuantumRing", spec := "fnQuantumRing", inPlace := ["slices.overlaps[loop.example/g03113/impl.Part]", "slices.overlaps[loop.example/g03113/impl.QPart]"], unfollowed := true, recurses := true, apart := false, narrowed := true }
def FnQuantumRingUptoSaid : Prop := fnQuantumRingUptoRow.holds Try.pinned (OpenSpec.upto fnQuantumRingSpec)

/-- 'laws.FnRotated', WHERE WHAT IT READS IS OF BULK AT MOST 1048576: true; the input reads as it did. -/
def fnRotatedUptoRow : OpenClaim := { program := "ytmodpicemlkbjaa", sum := "e9fc09ef8fbf70e21fdf162b6a450db197c7779bcc716dc60885659b45ffc430", func := "loop.example/g03113/laws.FnRotated", spec := "fnRotated", inPlace := ["slices.overlaps[loop.example/g03113/impl.Part]", "slices.overlaps[loop.example/g03113/impl.QPart]"], unfollowed := true, recurses := true, apart := false, narrowed := true }
def FnRotatedUptoSaid : Prop := fnRotatedUptoRow.holds Try.pinned (OpenSpec.upto fnRotatedSpec)

end Rows
end Go.Proofs.Ytmodpicemlkbjaa
