/- l5Ok of the reference. -/
import Derived.Test.YtnljlophgolejaaPuzI
namespace Go.Proofs.Ytnljlophgolejaa
open Go.RowKit

theorem puzS_no {n r k : Nat} {L R B : List Int} {wt : Bool} (hr : r < n) (hk : k ≤ r) (h : cellS wt n L R B r k = false) : puzS n L R B wt = false := by
  rw [puzS, Int.toNat_natCast, allB_no (p := fun r => allB (cellS wt n L R B r) (r + 1)) hr (allB_no (show k < r + 1 by omega) h), Bool.and_false]
theorem puzS_yes {n : Nat} {L R B : List Int} {wt : Bool} (hs : sizesB n L R B = true) (h : ∀ r, r < n → ∀ k, k < r + 1 → cellS wt n L R B r k = true) : puzS n L R B wt = true := by
  rw [puzS, hs, Int.toNat_natCast, allB_iff.2 fun r hr => allB_iff.2 (h r hr)]; rfl
theorem cellS_T {wt : Bool} {n r k : Nat} {L R B : List Int} (h : cellS wt n L R B r k = true) : hasT (trips wt) (nth L (tri r + k)) (nth R (tri r + k)) (nth B (tri r + k)) = true := by
  unfold cellS at h
  rw [Bool.and_eq_true] at h
  exact h.1
theorem cellS_no1 {wt : Bool} {n r k : Nat} {L R B : List Int} {l rr b : Int} (e1 : nth L (tri r + k) = l) (e2 : nth R (tri r + k) = rr) (e3 : nth B (tri r + k) = b)
    (h : ¬((0 ≤ l ∧ l ≤ 2) ∧ (0 ≤ rr ∧ rr ≤ 2) ∧ 0 ≤ b ∧ upB l rr wt = b)) : cellS wt n L R B r k = false := by
  rw [← Bool.not_eq_true]
  intro h'
  have := cellS_T h'
  rw [e1, e2, e3, hasT_up] at this
  exact h this
theorem bimp {p q : Prop} [Decidable p] [Decidable q] : (!decide p || decide q) = true ↔ (p → q) := by by_cases h : p <;> simp [h]
theorem bimp2 {p q : Prop} [Decidable p] [Decidable q] : (!(decide p && !decide q)) = true ↔ (p → q) := by by_cases h : p <;> simp [h]
theorem cellS_iff {wt : Bool} {n r k : Nat} {L R B : List Int} {l rr b : Int} (e1 : nth L (tri r + k) = l) (e2 : nth R (tri r + k) = rr) (e3 : nth B (tri r + k) = b) :
    cellS wt n L R B r k = true ↔ ((0 ≤ l ∧ l ≤ 2) ∧ (0 ≤ rr ∧ rr ≤ 2) ∧ 0 ≤ b ∧ upB l rr wt = b) ∧ (k < r → downB rr (nth B (tri (r - 1) + k)) = nth L (tri r + (k + 1))) ∧ (r + 1 = n → b ≤ 1) ∧ (k = 0 → l ≤ 1) ∧ (k = r → rr ≤ 1) := by
  unfold cellS
  rw [e1, e2, e3]
  simp only [Bool.and_eq_true, hasT_up, bimp, bimp2]

end Go.Proofs.Ytnljlophgolejaa

/- PuzzleOk and WeightedOk, of both sides. -/
namespace Go.Proofs.Ytnljlophgolejaa
open Go.RowKit

section
variable {A1 A2 A3 : Option Addr} {n1 n2 n3 : Nat} {L R B : List Int} {w : World} (c1 c2 c3 : Nat) (S : Int) (h1 : RI w A1 n1 L) (h2 : RI w A2 n2 R) (h3 : RI w A3 n3 B)
    (m1 : n1 ≤ 1000000000) (m2 : n2 ≤ 1000000000) (m3 : n3 ≤ 1000000000)
include h1 h2 h3 m1 m2 m3
theorem iPuzzleOk_any : Calls Try.prog 41 #[.agg #[.int .i64 S, .slice A1 n1 c1, .slice A2 n2 c2, .slice A3 n3 c3]] w (GivesB w (.bool (puzB S L R B false))) := by
  go_enter Try.func41, Try.ntmps41
  go_wp2_with fail
  refine (right_any c1 c2 c3 S false (h1.alloc _) (h2.alloc _) (h3.alloc _) m1 m2 m3).mono ?_
  rintro e w1 ⟨rfl, b1⟩
  go_wp2
  go_ret
  exact ⟨rfl, ((Below.refl _ _).alloc (Nat.le_refl _) _).trans (b1.mono (by simp))⟩
theorem iWeightedOk_any : Calls Try.prog 51 #[.agg #[.int .i64 S, .slice A1 n1 c1, .slice A2 n2 c2, .slice A3 n3 c3]] w (GivesB w (.bool (puzB S L R B true))) := by
  go_enter Try.func51, Try.ntmps51
  go_wp2_with fail
  refine (right_any c1 c2 c3 S true (h1.alloc _) (h2.alloc _) (h3.alloc _) m1 m2 m3).mono ?_
  rintro e w1 ⟨rfl, b1⟩
  go_wp2
  go_ret
  exact ⟨rfl, ((Below.refl _ _).alloc (Nat.le_refl _) _).trans (b1.mono (by simp))⟩
end
end Go.Proofs.Ytnljlophgolejaa
