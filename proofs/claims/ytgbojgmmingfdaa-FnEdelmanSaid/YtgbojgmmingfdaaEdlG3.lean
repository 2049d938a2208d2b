/- The law of Edelman and Greene at permutations of 5, part EdlG3: checked by the kernel. -/
import Derived.Test.YtgbojgmmingfdaaStdI
namespace Go.Proofs.Ytgbojgmmingfdaa

set_option maxRecDepth 1000000 in
set_option maxHeartbeats 0 in
theorem edl5_4321 : (((tup 5 1).map fun l => ((4 : Nat) : Int) :: ((3 : Nat) : Int) :: ((2 : Nat) : Int) :: ((1 : Nat) : Int) :: l).all fun w => !permB w || chkW w) = true := by decide +kernel
end Go.Proofs.Ytgbojgmmingfdaa
