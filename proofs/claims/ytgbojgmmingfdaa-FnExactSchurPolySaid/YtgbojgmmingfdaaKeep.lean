/- What turns where a closure gathers: nothing but some blocks. -/
import Derived.Test.YtgbojgmmingfdaaWords
namespace Go.Proofs.Ytgbojgmmingfdaa
open Go.RowKit

/-- Nothing but the blocks of O has turned. -/
structure Kept (O : Nat → Prop) (w w' : World) : Prop where
  os : w'.os = w.os
  tape : w'.tape = w.tape
  output : w'.output = w.output
  size : w.heap.size ≤ w'.heap.size
  block : ∀ k, k < w.heap.size → ¬ O k → w'.heap[k]? = w.heap[k]?
section
variable {O O1 : Nat → Prop} {w w1 w2 : World}
theorem Kept.refl (O : Nat → Prop) (w : World) : Kept O w w := ⟨rfl, rfl, rfl, Nat.le_refl _, fun _ _ _ => rfl⟩
theorem Kept.of_below (h : Below w.heap.size w w1) : Kept O w w1 := ⟨h.os, h.tape, h.output, h.size, fun k hk _ => h.block k hk⟩
theorem Kept.trans (h : Kept O w w1) (hO : ∀ k, O1 k → O k ∨ w.heap.size ≤ k) (h2 : Kept O1 w1 w2) : Kept O w w2 :=
  ⟨h2.os.trans h.os, h2.tape.trans h.tape, h2.output.trans h.output, Nat.le_trans h.size h2.size, fun k hk hn =>
    (h2.block k (Nat.lt_of_lt_of_le hk h.size) fun h1 => (hO k h1).elim hn fun h3 => by omega).trans (h.block k hk hn)⟩
theorem Kept.mono (h : Kept O w w1) (hO : ∀ k, O k → O1 k) : Kept O1 w w1 := ⟨h.os, h.tape, h.output, h.size, fun k hk hn => h.block k hk fun h1 => hn (hO k h1)⟩
theorem Kept.store {g : Nat} (h : Kept O w w1) (hg : O g ∨ w.heap.size ≤ g) (j : Nat) (u : Value) : Kept O w (w1.setCell ⟨g, j, none⟩ u) :=
  ⟨h.os, h.tape, h.output, by simpa [World.setCell] using h.size, fun k hk hn => (Below.heap_setCell _ _ _ _ (by
    simp only
    intro e
    subst e
    rcases hg with h1 | h1
    · exact hn h1
    · omega)).trans (h.block k hk hn)⟩
theorem Kept.drewN (h : Kept O w w1) (n : Nat) : Kept O w (w1.drewN n) := ⟨h.os, h.tape, h.output, h.size, h.block⟩
theorem Kept.low {B : Nat} (h : Kept O w w1) (hO : ∀ k, O k → B ≤ k) (hB : B ≤ w.heap.size) : Below B w w1 :=
  ⟨h.os, h.tape, h.output, h.size, fun k hk => h.block k (by omega) fun h1 => by have := hO k h1; omega⟩
end
theorem cell_same {w w' : World} {a : Addr} (e : w'.heap[a.block]? = w.heap[a.block]?) : w'.cell? a = w.cell? a := by simp only [World.cell?, e]
theorem OI.sameB {w w' : World} {base g n c : Nat} {l : List Int} (h : OI w base (.slice (some ⟨g, 0, none⟩) n c) l) (e : w'.heap[g]? = w.heap[g]?) (hs : w.heap.size ≤ w'.heap.size) : OI w' base (.slice (some ⟨g, 0, none⟩) n c) l := by
  refine ⟨h.1, ?_⟩
  rcases h.2 with ⟨h1, h2⟩ | ⟨g', cap, cur, he, hb, hg, hnc, hcm, hsz, ht⟩
  · cases h1
  · obtain ⟨e1, e2, e3⟩ := slice_inj he
    injection e1 with e1
    injection e1 with e1
    subst e1
    exact .inr ⟨g, cap, cur, he, hb, e.trans hg, hnc, hcm, hsz, ht⟩
theorem OI.lt1 {w : World} {base g n c : Nat} {l : List Int} (h : OI w base (.slice (some ⟨g, 0, none⟩) n c) l) : base ≤ g ∧ g < w.heap.size := h.lt g rfl
theorem BK.same {w w' : World} {g : Nat} {T : TypeId} {cs : List Value} (h : BK w g T cs) (e : w'.heap[g]? = w.heap[g]?) : BK w' g T cs := e.trans h

end Go.Proofs.Ytgbojgmmingfdaa
