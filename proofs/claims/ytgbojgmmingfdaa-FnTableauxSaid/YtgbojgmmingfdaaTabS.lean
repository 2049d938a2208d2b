/- Schur polynomials of small shapes are symmetric, in the words of keys: checked by the kernel. -/
import Derived.Test.YtgbojgmmingfdaaTabD
namespace Go.Proofs.Ytgbojgmmingfdaa
/-- Two variables exchanged. -/
def swX (i : Nat) (e : List Int) : List Int := swE e i (nth e i) (nth e (i + 1))
def swL (i : Nat) (f : List (List Int × Int)) : List (List Int × Int) := f.map fun x => (swX i x.1, x.2)
def swK (i : Nat) (L : List (Int × Int)) : List (Int × Int) := gatherK ((swL i (L.map exT)).map kc)
def symEq (k : Nat) (s : List Int) : Bool := !smallB s || (List.range (k - 1)).all fun i => decide (swK i (schurK k s) = schurK k s)
set_option maxRecDepth 1000000 in
set_option maxHeartbeats 0 in
theorem symEq2 : ((List.range 3).all fun k => (shapesIn k (2 - k)).all (symEq k)) = true := by decide +kernel
set_option maxRecDepth 1000000 in
set_option maxHeartbeats 0 in
theorem symEq3 : ((List.range 4).all fun k => (shapesIn k (3 - k)).all (symEq k)) = true := by decide +kernel
set_option maxRecDepth 1000000 in
set_option maxHeartbeats 0 in
theorem symEq4 : ((List.range 5).all fun k => (shapesIn k (4 - k)).all (symEq k)) = true := by decide +kernel
set_option maxRecDepth 1000000 in
set_option maxHeartbeats 0 in
theorem symEq5 : ((List.range 6).all fun k => (shapesIn k (5 - k)).all (symEq k)) = true := by decide +kernel
set_option maxRecDepth 1000000 in
set_option maxHeartbeats 0 in
theorem symEq6 : ((List.range 7).all fun k => (shapesIn k (6 - k)).all (symEq k)) = true := by decide +kernel
end Go.Proofs.Ytgbojgmmingfdaa
