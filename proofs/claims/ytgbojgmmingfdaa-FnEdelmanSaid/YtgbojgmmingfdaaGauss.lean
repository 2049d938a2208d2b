/- The shapes in a box; GaussCounts of the program and of the reference. -/
import Derived.Test.YtgbojgmmingfdaaWords
import Derived.Test.YtgbojgmmingfdaaShapes
import Derived.Test.YtgbojgmmingfdaaAdd
namespace Go.Proofs.Ytgbojgmmingfdaa
open Go.RowKit

/-- What l4Shapes leaves: the shapes behind those that were there. -/
def Adds (w : World) (base b : Nat) (v : Value) (ls : List (List Int)) : Ending → World → Prop := fun e w' =>
  ∃ v' cells', e = .returned v' ∧ OS w' base b v' ls cells' ∧ w.grownBy w' v.ownBlock ∧ From w v v'

end Go.Proofs.Ytgbojgmmingfdaa

/- PieriShapes of the program and of the reference. -/
namespace Go.Proofs.Ytgbojgmmingfdaa
open Go.RowKit

/-- What a function leaves that returns a new slice of parts and a bool. -/
def MakesPb (w : World) (ps : List (List Int × Int)) (ok : Bool) : Ending → World → Prop := fun e w' =>
  ∃ A n c cells, e = .returned (.tuple #[.slice A n c, .bool ok]) ∧ OP w' w.heap.size w.heap.size (.slice A n c) ps cells ∧ ps.length = n ∧ (n ≤ c ∧ c ≤ 9223372036854775807) ∧ Below w.heap.size w w'
theorem MakesPb.of {w w' : World} {v : Value} {ps : List (List Int × Int)} {cells : List Value} {ok : Bool} (h : OP w' w.heap.size w.heap.size v ps cells) (hb : Below w.heap.size w w') : MakesPb w ps ok (.returned (.tuple #[v, .bool ok])) w' := by
  obtain ⟨A, n, c, rfl, h1, h2, h3⟩ := h.form
  exact ⟨A, n, c, cells, rfl, h, h1, ⟨h2, h3⟩, hb⟩

theorem apart_sub {cs csL : List Value} {j : Nat} {u : Value} (h : Hid (∀ u' ∈ cs, u'.ownBlock = none ∨ ∃ i, i < j ∧ csL[i]? = some u')) (hd : Dist csL) (hu : csL[j]? = some u) : ∀ u' ∈ cs, u'.ownBlock = none ∨ u'.ownBlock ≠ u.ownBlock := by
  intro u' hu'
  rcases h.out u' hu' with h1 | ⟨i, hi, h1⟩
  · exact .inl h1
  · exact hd i j u' u hi h1 hu

end Go.Proofs.Ytgbojgmmingfdaa
