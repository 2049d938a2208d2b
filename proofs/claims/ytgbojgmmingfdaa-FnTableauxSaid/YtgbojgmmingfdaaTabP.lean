/- The tableaux of a small shape are right, and their monomials gather to its Schur polynomial: checked by the kernel. -/
import Derived.Test.YtgbojgmmingfdaaTabD
import Derived.Test.YtgbojgmmingfdaaStdI
import Derived.Test.YtgbojgmmingfdaaPlusW
namespace Go.Proofs.Ytgbojgmmingfdaa
/-- The monomials are added one by one; each sum is within the limits; the last one is G. -/
def keysOk (L : List (Int × Int)) : Bool := shutB L && L.all fun x => decide (0 ≤ x.1) && decide (x.1 ≤ 562949953421311)
def hRun (G : List (Int × Int)) : List (Int × Int) → List (List (List Int)) → Bool
  | L, [] => keysOk L && decide (L = G)
  | L, T :: ts => keysOk L && hRun G (plusK 1 L [(keyT T, 1)]) ts
def tabOne (s : List Int) (k : Nat) (T : List (List Int)) : Bool := tabB T && (decide (shapeT T = s) && T.all fun r => r.all fun x => decide (0 ≤ x) && decide (x < (k : Int)))
def tabsB (k n : Nat) (s : List Int) : Bool := !smallB s || ((permB (grassB s k n) && decide ((trimL (grassB s k n)).length ≤ 6)) && (decide ((tabs s k).length ≤ 400) && (keysOk (schurK k s) && ((tabs s k).all (tabOne s k) && hRun (schurK k s) [] (tabs s k)))))
set_option maxRecDepth 1000000 in
set_option maxHeartbeats 0 in
theorem tabsB2 : ((List.range 3).all fun k => (shapesIn k (2 - k)).all (tabsB k 2)) = true := by decide +kernel
set_option maxRecDepth 1000000 in
set_option maxHeartbeats 0 in
theorem tabsB3 : ((List.range 4).all fun k => (shapesIn k (3 - k)).all (tabsB k 3)) = true := by decide +kernel
set_option maxRecDepth 1000000 in
set_option maxHeartbeats 0 in
theorem tabsB4 : ((List.range 5).all fun k => (shapesIn k (4 - k)).all (tabsB k 4)) = true := by decide +kernel
set_option maxRecDepth 1000000 in
set_option maxHeartbeats 0 in
theorem tabsB5 : ((List.range 6).all fun k => (shapesIn k (5 - k)).all (tabsB k 5)) = true := by decide +kernel
set_option maxRecDepth 1000000 in
set_option maxHeartbeats 0 in
theorem tabsB6 : ((List.range 7).all fun k => (shapesIn k (6 - k)).all (tabsB k 6)) = true := by decide +kernel
end Go.Proofs.Ytgbojgmmingfdaa
