/- What laws with nested results use: the blocks of what was made lie in a range. -/
import Derived.Test.YteodckkkjhapgaaParts
import Derived.Test.YteodckkkjhapgaaFrame
namespace Go.Proofs.Yteodckkkjhapgaa
open Go.RowKit

theorem grown_within {w w' : World} {v : Value} {lo hi : Nat} (h : w.grownBy w' v.ownBlock) (hr : ∀ k, v.ownBlock = some k → lo ≤ k ∧ k < hi) : Within lo hi w w' :=
  ⟨h.os, h.tape, h.output, h.size, fun k hk ha => h.block k hk (fun e => by have := hr k e.symm; omega)⟩
theorem range_apart {v : Value} {lo hi lo' hi' : Nat} (hr : ∀ k, v.ownBlock = some k → lo' ≤ k ∧ k < hi') (hs : hi' ≤ lo ∨ hi ≤ lo') : ∀ k, v.ownBlock = some k → k < lo ∨ hi ≤ k := fun k hk => by
  have := hr k hk; omega
theorem kF_pos {fs : List (Int ⊕ List Int)} {k0 : Int} (h : ∀ x ∈ fs, wF x ≤ 100000) (hk : 0 ≤ k0) (m : Nat) : 0 ≤ kF fs k0 m := by
  have := (kF_bound (k0 := k0) h (by omega) m).1
  omega
theorem smallF_of {ps : List (List Int × Int)} (h : ∀ k, k < ps.length → (nthP ps k).1.length ≤ 100000) : ∀ x ∈ partF ps, wF x ≤ 100000 := by
  intro x hx
  simp only [partF, List.mem_flatMap] at hx
  obtain ⟨p, hp, hx⟩ := hx
  obtain ⟨k, hk, e⟩ := List.getElem_of_mem hp
  have := h k hk
  rw [nthP_lt hk, e] at this
  simp at hx
  rcases hx with rfl | rfl
  · exact this
  · simp [wF]
end Go.Proofs.Yteodckkkjhapgaa
