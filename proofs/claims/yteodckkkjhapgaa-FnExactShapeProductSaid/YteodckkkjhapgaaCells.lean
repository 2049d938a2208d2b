/- One block of cells: what it holds, and how that is kept. -/
import Derived.Test.YteodckkkjhapgaaTrip
namespace Go.Proofs.Yteodckkkjhapgaa
open Go.RowKit

/-- Block g holds these cells. -/
def BK (w : World) (g : Nat) (T : TypeId) (cs : List Value) : Prop := w.heap[g]? = some (.cells cs.toArray T (0, 0))
variable {w w' : World} {g h j : Nat} {T : TypeId} {cs : List Value} {u v : Value}
theorem BK.cell (hb : BK w g T cs) (hu : cs[j]? = some u) : w.cell? ⟨g, j, none⟩ = some u := by
  unfold BK at hb
  simp [World.cell?, hb, hu]
theorem BK.frozen (hb : BK w g T cs) : w.frozen? ⟨g, j, none⟩ = false := by
  unfold BK at hb
  simp [World.frozen?, hb]
theorem BK.lt (hb : BK w g T cs) : g < w.heap.size := by
  unfold BK at hb
  by_cases h : g < w.heap.size
  · exact h
  · rw [Array.getElem?_eq_none (by omega)] at hb; cases hb
theorem BK.below {B : Nat} (hb : BK w g T cs) (b : Below B w w') (hB : g < B) : BK w' g T cs := (b.block g hB).trans hb
theorem BK.new (w : World) (T : TypeId) (cs : List Value) : BK (w.alloc (.cells cs.toArray T)) w.heap.size T cs := heap_alloc_new w _
theorem BK.alloc (hb : BK w g T cs) (o : Obj) : BK (w.alloc o) g T cs := hb.below ((Below.refl w.heap.size w).alloc (Nat.le_refl _) o) hb.lt
theorem BK.set (hb : BK w g T cs) (j : Nat) (v : Value) : BK (w.setCell ⟨g, j, none⟩ v) g T (cs.set j v) := by
  unfold BK at hb ⊢
  simp [World.setCell, Array.getElem?_modify, hb]
theorem BK.far (hb : BK w g T cs) (hne : h ≠ g) (j : Nat) (v : Value) : BK (w.setCell ⟨h, j, none⟩ v) g T cs := by
  unfold BK at hb ⊢
  simp [World.setCell, Array.getElem?_modify, hb, hne]
theorem BK.four {a b c d : Value} (K : BK w g T [a, b, c, d]) : w.cell? ⟨g, 0, none⟩ = some a ∧ w.cell? ⟨g, 1, none⟩ = some b ∧ w.cell? ⟨g, 2, none⟩ = some c ∧ w.cell? ⟨g, 3, none⟩ = some d :=
  ⟨K.cell (j := 0) rfl, K.cell (j := 1) rfl, K.cell (j := 2) rfl, K.cell (j := 3) rfl⟩
end Go.Proofs.Yteodckkkjhapgaa
