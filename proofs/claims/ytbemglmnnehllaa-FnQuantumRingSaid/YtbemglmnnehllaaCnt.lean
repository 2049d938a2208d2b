/- slices.Equal; the number of times that a shape stands among parts: program and reference. -/
import Derived.Test.YtbemglmnnehllaaSee
import Derived.Test.YtbemglmnnehllaaAdd
namespace Go.Proofs.Ytbemglmnnehllaa
open Go.RowKit

/-- How many times a shape stands among parts: the first of its kind. -/
def cntP (ps : List (List Int × Int)) (s : List Int) : Int := match ps with | [] => 0 | x :: r => if x.1 = s then x.2 else cntP r s
theorem cntP_at : ∀ {ps : List (List Int × Int)} {s : List Int} {k : Nat}, (∀ j, j < k → (nthP ps j).1 ≠ s) → k < ps.length → (nthP ps k).1 = s → cntP ps s = (nthP ps k).2
  | [], s, k, _, hk, _ => by simp at hk
  | x :: r, s, 0, _, _, h => by
    have h' : x.1 = s := h
    rw [cntP, if_pos h']; rfl
  | x :: r, s, k + 1, h0, hk, h => by
    have h1 : x.1 ≠ s := h0 0 (by omega)
    rw [cntP, if_neg h1]
    have e : ∀ j, nthP (x :: r) (j + 1) = nthP r j := fun j => by simp [nthP, List.getD]
    rw [e] at h ⊢
    exact cntP_at (fun j hj => by have := h0 (j + 1) (by omega); rw [e] at this; exact this) (by simpa using hk) h
theorem cntP_none : ∀ {ps : List (List Int × Int)} {s : List Int}, (∀ j, j < ps.length → (nthP ps j).1 ≠ s) → cntP ps s = 0
  | [], s, _ => rfl
  | x :: r, s, h0 => by
    have h1 : x.1 ≠ s := h0 0 (by simp)
    rw [cntP, if_neg h1]
    have e : ∀ j, nthP (x :: r) (j + 1) = nthP r j := fun j => by simp [nthP, List.getD]
    exact cntP_none fun j hj => by have := h0 (j + 1) (by simpa using hj); rw [e] at this; exact this
end Go.Proofs.Ytbemglmnnehllaa
