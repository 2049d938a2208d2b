/- A permutation of at most 5 has at most 800 reduced words: checked by the kernel. -/
import Derived.Test.YtgbojgmmingfdaaStdI
namespace Go.Proofs.Ytgbojgmmingfdaa

/-- How many words there are, counted. -/
def cntW : Nat → List Int → Nat
  | 0, _ => 1
  | f + 1, w => if ldsL w = [] then 1 else ((ldsL w).map fun k => cntW f (vsw k w)).sum
theorem cntW_eq : ∀ (f : Nat) (w : List Int), (redI f w).length = cntW f w
  | 0, _ => rfl
  | f + 1, w => by
    rw [redI, cntW]
    split
    · rfl
    · rw [List.length_flatMap]
      congr 1
      refine List.map_congr_left fun k _ => ?_
      rw [List.length_map, cntW_eq f]
set_option maxRecDepth 1000000 in
set_option maxHeartbeats 0 in
theorem few5_0 : (((tup 5 4).map (((0 : Nat) : Int) :: ·)).all fun w => !permB w || decide (cntW 21 w ≤ 800)) = true := by decide +kernel
set_option maxRecDepth 1000000 in
set_option maxHeartbeats 0 in
theorem few5_1 : (((tup 5 4).map (((1 : Nat) : Int) :: ·)).all fun w => !permB w || decide (cntW 21 w ≤ 800)) = true := by decide +kernel
set_option maxRecDepth 1000000 in
set_option maxHeartbeats 0 in
theorem few5_2 : (((tup 5 4).map (((2 : Nat) : Int) :: ·)).all fun w => !permB w || decide (cntW 21 w ≤ 800)) = true := by decide +kernel
set_option maxRecDepth 1000000 in
set_option maxHeartbeats 0 in
theorem few5_3 : (((tup 5 4).map (((3 : Nat) : Int) :: ·)).all fun w => !permB w || decide (cntW 21 w ≤ 800)) = true := by decide +kernel
set_option maxRecDepth 1000000 in
set_option maxHeartbeats 0 in
theorem few5_40 : (((tup 5 3).map fun l => ((4 : Nat) : Int) :: ((0 : Nat) : Int) :: l).all fun w => !permB w || decide (cntW 21 w ≤ 800)) = true := by decide +kernel
set_option maxRecDepth 1000000 in
set_option maxHeartbeats 0 in
theorem few5_41 : (((tup 5 3).map fun l => ((4 : Nat) : Int) :: ((1 : Nat) : Int) :: l).all fun w => !permB w || decide (cntW 21 w ≤ 800)) = true := by decide +kernel
set_option maxRecDepth 1000000 in
set_option maxHeartbeats 0 in
theorem few5_42 : (((tup 5 3).map fun l => ((4 : Nat) : Int) :: ((2 : Nat) : Int) :: l).all fun w => !permB w || decide (cntW 21 w ≤ 800)) = true := by decide +kernel
end Go.Proofs.Ytgbojgmmingfdaa
