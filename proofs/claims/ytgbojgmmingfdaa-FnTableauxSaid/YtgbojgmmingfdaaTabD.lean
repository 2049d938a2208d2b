/- Schubert polynomials of permutations with one descent are Schur polynomials, in small boxes: checked by the kernel. -/
import Derived.Test.YtgbojgmmingfdaaKeyW
import Derived.Test.YtgbojgmmingfdaaSchurB
import Derived.Test.YtgbojgmmingfdaaShapes
namespace Go.Proofs.Ytgbojgmmingfdaa
/-- What is said of a shape in a box. -/
def schEq (k n : Nat) (s : List Int) : Bool := !smallB s || (decide (schK (grassB s k n) = schurK k s) && schOk (grassB s k n) && shutB (schurK k s))
set_option maxRecDepth 1000000 in
set_option maxHeartbeats 0 in
theorem schEq2 : ((List.range 3).all fun k => (shapesIn k (2 - k)).all (schEq k 2)) = true := by decide +kernel
set_option maxRecDepth 1000000 in
set_option maxHeartbeats 0 in
theorem schEq3 : ((List.range 4).all fun k => (shapesIn k (3 - k)).all (schEq k 3)) = true := by decide +kernel
set_option maxRecDepth 1000000 in
set_option maxHeartbeats 0 in
theorem schEq4 : ((List.range 5).all fun k => (shapesIn k (4 - k)).all (schEq k 4)) = true := by decide +kernel
set_option maxRecDepth 1000000 in
set_option maxHeartbeats 0 in
theorem schEq5 : ((List.range 6).all fun k => (shapesIn k (5 - k)).all (schEq k 5)) = true := by decide +kernel
set_option maxRecDepth 1000000 in
set_option maxHeartbeats 0 in
theorem schEq60 : (shapesIn 0 6).all (schEq 0 6) = true := by decide +kernel
set_option maxRecDepth 1000000 in
set_option maxHeartbeats 0 in
theorem schEq61 : (shapesIn 1 5).all (schEq 1 6) = true := by decide +kernel
set_option maxRecDepth 1000000 in
set_option maxHeartbeats 0 in
theorem schEq62 : (shapesIn 2 4).all (schEq 2 6) = true := by decide +kernel
set_option maxRecDepth 1000000 in
set_option maxHeartbeats 0 in
theorem schEq63 : (shapesIn 3 3).all (schEq 3 6) = true := by decide +kernel
set_option maxRecDepth 1000000 in
set_option maxHeartbeats 0 in
theorem schEq64 : (shapesIn 4 2).all (schEq 4 6) = true := by decide +kernel
set_option maxRecDepth 1000000 in
set_option maxHeartbeats 0 in
theorem schEq65 : (shapesIn 5 1).all (schEq 5 6) = true := by decide +kernel
set_option maxRecDepth 1000000 in
set_option maxHeartbeats 0 in
theorem schEq66 : (shapesIn 6 0).all (schEq 6 6) = true := by decide +kernel
end Go.Proofs.Ytgbojgmmingfdaa
