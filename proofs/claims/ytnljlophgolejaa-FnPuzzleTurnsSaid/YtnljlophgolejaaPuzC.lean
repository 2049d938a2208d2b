/- PuzzleOk and WeightedOk, of both sides. -/
import Derived.Test.YtnljlophgolejaaPuzI
import Derived.Test.YtnljlophgolejaaPuzO
namespace Go.Proofs.Ytnljlophgolejaa
open Go.RowKit

section
variable {A1 A2 A3 : Option Addr} {n1 n2 n3 : Nat} {L R B : List Int} {w : World} (c1 c2 c3 : Nat) (S : Int) (h1 : RI w A1 n1 L) (h2 : RI w A2 n2 R) (h3 : RI w A3 n3 B)
    (m1 : n1 ≤ 1000000000) (m2 : n2 ≤ 1000000000) (m3 : n3 ≤ 1000000000)
include h1 h2 h3 m1 m2 m3
theorem iPuzzleOk_any : Calls Try.prog 41 #[.agg #[.int .i64 S, .slice A1 n1 c1, .slice A2 n2 c2, .slice A3 n3 c3]] w (GivesB w (.bool (puzB S L R B false))) := by
  go_enter Try.func41, Try.ntmps41
  go_wp2_with fail
  refine (right_any c1 c2 c3 S false (h1.alloc _) (h2.alloc _) (h3.alloc _) m1 m2 m3).mono ?_
  rintro e w1 ⟨rfl, b1⟩
  go_wp2
  go_ret
  exact ⟨rfl, ((Below.refl _ _).alloc (Nat.le_refl _) _).trans (b1.mono (by simp))⟩
theorem iWeightedOk_any : Calls Try.prog 51 #[.agg #[.int .i64 S, .slice A1 n1 c1, .slice A2 n2 c2, .slice A3 n3 c3]] w (GivesB w (.bool (puzB S L R B true))) := by
  go_enter Try.func51, Try.ntmps51
  go_wp2_with fail
  refine (right_any c1 c2 c3 S true (h1.alloc _) (h2.alloc _) (h3.alloc _) m1 m2 m3).mono ?_
  rintro e w1 ⟨rfl, b1⟩
  go_wp2
  go_ret
  exact ⟨rfl, ((Below.refl _ _).alloc (Nat.le_refl _) _).trans (b1.mono (by simp))⟩
end
end Go.Proofs.Ytnljlophgolejaa
