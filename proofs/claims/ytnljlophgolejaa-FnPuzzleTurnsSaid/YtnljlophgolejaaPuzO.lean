/- l5Ok of the reference. -/
import Derived.Test.YtnljlophgolejaaPuzI
namespace Go.Proofs.Ytnljlophgolejaa
open Go.RowKit

theorem puzS_no {n r k : Nat} {L R B : List Int} {wt : Bool} (hr : r < n) (hk : k ≤ r) (h : cellS wt n L R B r k = false) : puzS n L R B wt = false := by
  rw [puzS, Int.toNat_natCast, allB_no (p := fun r => allB (cellS wt n L R B r) (r + 1)) hr (allB_no (show k < r + 1 by omega) h), Bool.and_false]
theorem puzS_yes {n : Nat} {L R B : List Int} {wt : Bool} (hs : sizesB n L R B = true) (h : ∀ r, r < n → ∀ k, k < r + 1 → cellS wt n L R B r k = true) : puzS n L R B wt = true := by
  rw [puzS, hs, Int.toNat_natCast, allB_iff.2 fun r hr => allB_iff.2 (h r hr)]; rfl
theorem cellS_T {wt : Bool} {n r k : Nat} {L R B : List Int} (h : cellS wt n L R B r k = true) : hasT (trips wt) (nth L (tri r + k)) (nth R (tri r + k)) (nth B (tri r + k)) = true := by
  unfold cellS at h
  rw [Bool.and_eq_true] at h
  exact h.1
theorem cellS_no1 {wt : Bool} {n r k : Nat} {L R B : List Int} {l rr b : Int} (e1 : nth L (tri r + k) = l) (e2 : nth R (tri r + k) = rr) (e3 : nth B (tri r + k) = b)
    (h : ¬((0 ≤ l ∧ l ≤ 2) ∧ (0 ≤ rr ∧ rr ≤ 2) ∧ 0 ≤ b ∧ upB l rr wt = b)) : cellS wt n L R B r k = false := by
  rw [← Bool.not_eq_true]
  intro h'
  have := cellS_T h'
  rw [e1, e2, e3, hasT_up] at this
  exact h this
theorem bimp {p q : Prop} [Decidable p] [Decidable q] : (!decide p || decide q) = true ↔ (p → q) := by by_cases h : p <;> simp [h]
theorem bimp2 {p q : Prop} [Decidable p] [Decidable q] : (!(decide p && !decide q)) = true ↔ (p → q) := by by_cases h : p <;> simp [h]
theorem cellS_iff {wt : Bool} {n r k : Nat} {L R B : List Int} {l rr b : Int} (e1 : nth L (tri r + k) = l) (e2 : nth R (tri r + k) = rr) (e3 : nth B (tri r + k) = b) :
    cellS wt n L R B r k = true ↔ ((0 ≤ l ∧ l ≤ 2) ∧ (0 ≤ rr ∧ rr ≤ 2) ∧ 0 ≤ b ∧ upB l rr wt = b) ∧ (k < r → downB rr (nth B (tri (r - 1) + k)) = nth L (tri r + (k + 1))) ∧ (r + 1 = n → b ≤ 1) ∧ (k = 0 → l ≤ 1) ∧ (k = r → rr ≤ 1) := by
  unfold cellS
  rw [e1, e2, e3]
  simp only [Bool.and_eq_true, hasT_up, bimp, bimp2]

end Go.Proofs.Ytnljlophgolejaa
