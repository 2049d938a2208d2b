/- Shapes with powers: sized, made, compared. -/
import Derived.Test.YtmodpicemlkbjaaWords
namespace Go.Proofs.Ytmodpicemlkbjaa
open Go.RowKit

theorem eqQ1_any {A B : Option Addr} {n m : Nat} {l : List Int} {w : World} (c d : Nat) (p q : Int) (h1 : RI w A n l) (h2 : RI w B m l) (hn : n ≤ 9223372036854775807) :
    Calls Try.prog 34 #[.agg #[.int .i64 p, .slice A n c, .int .i64 q], .agg #[.int .i64 p, .slice B m d, .int .i64 q]] w (GivesB w (.bool true)) := by
  obtain rfl : n = m := h1.1.symm.trans h2.1
  go_enter Try.func34, Try.ntmps34
  go_wp2_with fail
  refine (eqI_any true _ _ ((h1.alloc _).alloc _) ((h2.alloc _).alloc _) (by simp) hn hn).mono ?_
  rintro e w1 ⟨rfl, r, rfl⟩
  go_wp2
  go_ret
  exact ⟨rfl, below_drewN (((Below.refl _ _).alloc (Nat.le_refl _) _).alloc (by simp) _) _⟩
end Go.Proofs.Ytmodpicemlkbjaa
