/- The law of Edelman and Greene at permutations of 5, part EdlD: checked by the kernel. -/
import Derived.Test.YtgbojgmmingfdaaStdI
namespace Go.Proofs.Ytgbojgmmingfdaa

set_option maxRecDepth 1000000 in
set_option maxHeartbeats 0 in
theorem edl5_0 : (((tup 5 4).map (((0 : Nat) : Int) :: ·)).all fun w => !permB w || chkW w) = true := by decide +kernel
set_option maxRecDepth 1000000 in
set_option maxHeartbeats 0 in
theorem edl5_1 : (((tup 5 4).map (((1 : Nat) : Int) :: ·)).all fun w => !permB w || chkW w) = true := by decide +kernel
set_option maxRecDepth 1000000 in
set_option maxHeartbeats 0 in
theorem edl5_2 : (((tup 5 4).map (((2 : Nat) : Int) :: ·)).all fun w => !permB w || chkW w) = true := by decide +kernel
end Go.Proofs.Ytgbojgmmingfdaa
