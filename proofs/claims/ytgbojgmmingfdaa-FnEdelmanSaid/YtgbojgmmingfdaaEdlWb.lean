/- A permutation of at most 5 has at most 800 reduced words: checked by the kernel. -/
import Derived.Test.YtgbojgmmingfdaaEdlWa
namespace Go.Proofs.Ytgbojgmmingfdaa

set_option maxRecDepth 1000000 in
set_option maxHeartbeats 0 in
theorem few5_430 : (((tup 5 2).map fun l => ((4 : Nat) : Int) :: ((3 : Nat) : Int) :: ((0 : Nat) : Int) :: l).all fun w => !permB w || decide (cntW 21 w ≤ 800)) = true := by decide +kernel
set_option maxRecDepth 1000000 in
set_option maxHeartbeats 0 in
theorem few5_431 : (((tup 5 2).map fun l => ((4 : Nat) : Int) :: ((3 : Nat) : Int) :: ((1 : Nat) : Int) :: l).all fun w => !permB w || decide (cntW 21 w ≤ 800)) = true := by decide +kernel
set_option maxRecDepth 1000000 in
set_option maxHeartbeats 0 in
theorem few5_4320 : (((tup 5 1).map fun l => ((4 : Nat) : Int) :: ((3 : Nat) : Int) :: ((2 : Nat) : Int) :: ((0 : Nat) : Int) :: l).all fun w => !permB w || decide (cntW 21 w ≤ 800)) = true := by decide +kernel
set_option maxRecDepth 1000000 in
set_option maxHeartbeats 0 in
theorem few5_4321 : (((tup 5 1).map fun l => ((4 : Nat) : Int) :: ((3 : Nat) : Int) :: ((2 : Nat) : Int) :: ((1 : Nat) : Int) :: l).all fun w => !permB w || decide (cntW 21 w ≤ 800)) = true := by decide +kernel
end Go.Proofs.Ytgbojgmmingfdaa
