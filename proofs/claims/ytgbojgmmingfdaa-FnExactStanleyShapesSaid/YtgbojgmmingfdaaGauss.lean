/- The shapes in a box; GaussCounts of the program and of the reference. -/
import Derived.Test.YtgbojgmmingfdaaWords
import Derived.Test.YtgbojgmmingfdaaShapes
namespace Go.Proofs.Ytgbojgmmingfdaa
open Go.RowKit

/-- What l4Shapes leaves: the shapes behind those that were there. -/
def Adds (w : World) (base b : Nat) (v : Value) (ls : List (List Int)) : Ending → World → Prop := fun e w' =>
  ∃ v' cells', e = .returned v' ∧ OS w' base b v' ls cells' ∧ w.grownBy w' v.ownBlock ∧ From w v v'

end Go.Proofs.Ytgbojgmmingfdaa
