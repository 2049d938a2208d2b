/- FnKeys: key polynomials of ascending exponents are Schur polynomials, by the kernel. -/
import Derived.Test.YtgbojgmmingfdaaGrP
import Derived.Test.YtgbojgmmingfdaaDemS
import Derived.Test.YtgbojgmmingfdaaBoxP
namespace Go.Proofs.Ytgbojgmmingfdaa

/-- The rows of a shape, zeros behind, turned round. -/
def rowsR (l : List Int) (n : Nat) : List Int := (l ++ List.replicate (n - l.length) 0).reverse
def keyFB (n : Nat) (l : List Int) : Bool := decide (8 < sumL l) || (decide (keyM 10 (rowsR l n) = schurK n l) && shutB (schurK n l))
theorem keyF_1 : ((shapesIn 1 4).all (keyFB 1)) = true := by decide +kernel
theorem keyF_2 : ((shapesIn 2 4).all (keyFB 2)) = true := by decide +kernel
theorem keyF_3 : ((shapesIn 3 4).all (keyFB 3)) = true := by decide +kernel
theorem keyF_4 : ((shapesIn 4 4).all (keyFB 4)) = true := by decide +kernel
end Go.Proofs.Ytgbojgmmingfdaa
