/- l6Add of the reference: a shape with a power is added some times to an ascending list. -/
import Derived.Test.YtbemglmnnehllaaQParts
import Derived.Test.YtbemglmnnehllaaPlain
import Derived.Test.YtbemglmnnehllaaShapes
namespace Go.Proofs.Ytbemglmnnehllaa
open Go.RowKit

theorem three_cellsQ {w W : World} {p q r : Addr} {u u' u'' : Value} (b : Below w.heap.size w W) (x1 : w.cell? p = some u) (x2 : w.cell? q = some u') (x3 : w.cell? r = some u'') : W.cell? p = some u ∧ W.cell? q = some u' ∧ W.cell? r = some u'' := ⟨one_cell b x1, one_cell b x2, one_cell b x3⟩
theorem nthQ_dec {ps : List (List Int × Int)} {k : Nat} {q cn : Int} {t : List Int} (h : k < ps.length) (e : nthP ps k = (q :: t, cn)) : nthQ (decL ps) k = (q, t, cn) := by
  rw [nthP_lt h] at e
  simp [nthQ, decL, List.getD, h, e, decQ]

/-- The counts and powers are small, the lists short. -/
def SmallK (ps : List (List Int × Int)) : Prop := ∀ k, k < ps.length → (nthP ps k).1.length ≤ 1000000 ∧ (-1000000000000 ≤ (nthP ps k).2 ∧ (nthP ps k).2 ≤ 1000000000000)

end Go.Proofs.Ytbemglmnnehllaa
