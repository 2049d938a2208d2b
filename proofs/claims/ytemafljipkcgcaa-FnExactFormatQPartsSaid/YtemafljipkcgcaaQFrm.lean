/- Shapes with powers: sized, made, compared. -/
import Derived.Test.YtemafljipkcgcaaQArg
namespace Go.Proofs.Ytemafljipkcgcaa
open Go.RowKit

theorem szQ1_any {A : Option Addr} {n : Nat} {w : World} (c : Nat) (p q left : Int) (h1 : n ≤ 9223372036854775807) (hl : 0 ≤ left) (hl2 : left ≤ 1048576) :
    Calls Try.prog 85 #[.agg #[.int .i64 p, .slice A n c, .int .i64 q], .int .i64 left] w (fun e w' => ((left < n ∧ e = .returned (.int .i64 (-1))) ∨ ((n : Int) ≤ left ∧ e = .returned (.int .i64 (left - n)))) ∧ Below w.heap.size w w') := by
  have bx := (Below.refl w.heap.size w).alloc (Nat.le_refl _) (.cells #[Value.int IntKind.i64 p, Value.slice A n c, Value.int IntKind.i64 q] 88)
  go_enter Try.func85, Try.ntmps85
  by_cases k1 : left < n
  · go_wp2
    go_ret
    exact ⟨.inl ⟨by omega, rfl⟩, bx⟩
  · go_wp2
    go_ret
    first | exact ⟨.inr rfl, bx⟩ | exact ⟨.inr ⟨by omega, rfl⟩, bx⟩

theorem szQ_any {A : Option Addr} {n : Nat} {ps : List QT} {w : World} (c : Nat) (hx : RQ w A n ps) (hn : n ≤ 9223372036854775807) :
    Calls Try.prog 38 #[.slice A n c, .int .i64 1048576] w (fun e w' => (e = .returned (.int .i64 (-1)) ∨ ∃ x : Int, 0 ≤ x ∧ e = .returned (.int .i64 x) ∧ n ≤ 1048576 ∧ ∀ k, k < n → (nthQ ps k).2.1.length ≤ 1048576) ∧ Below w.heap.size w w') := by
  by_cases hbig : 1048576 < n
  · go_enter Try.func38, Try.ntmps38
    go_wp2
    go_ret
    exact ⟨.inl rfl, Below.refl _ _⟩
  go_enter Try.func38, Try.ntmps38
  go_wp2
  go_loopw [1, 5] (fun l i wr => ∃ (k : Nat) (x : Int), k ≤ n ∧ i = .int .i64 (k : Int) ∧ l = .int .i64 x ∧ 0 ≤ x ∧ x ≤ 1048576 ∧ Hid (∀ j, j < k → (nthQ ps j).2.1.length ≤ 1048576) ∧ Below w.heap.size w wr) (fun _ i _ => n - (intOf i).toNat)
  case atStart => exact ⟨0, _, Nat.zero_le _, rfl, rfl, by omega, by omega, fun j h => by omega, Below.refl _ _⟩
  case round =>
    obtain ⟨k, x, hk, rfl, rfl, x1, x2, HT, hb⟩ := hrel
    by_cases hlt : k < n
    · obtain ⟨ad, hA, hq⟩ := (hx.below hb).2 k hlt
      subst hA
      obtain ⟨As, ns, cs, c1, c2, c3, hr, hns, -, -, -⟩ := QAt.cells hq
      have hls := hr.1
      by_cases hbs : x < ns
      · go_wp2_with (go_at_call 85; refine (szQ1_any _ _ _ _ hns x1 x2).mono ?_; rintro e w2 ⟨⟨hc, rfl⟩ | ⟨hc, rfl⟩, b2⟩)
        all_goals first
          | (exfalso; omega)
          | (go_ret; exact ⟨.inl rfl, bnext hb b2 hb.size⟩)
      · go_wp2_with (go_at_call 85; refine (szQ1_any _ _ _ _ hns x1 x2).mono ?_; rintro e w2 ⟨⟨hc, rfl⟩ | ⟨hc, rfl⟩, b2⟩)
        all_goals first
          | (exfalso; omega)
          | (go_roundw
             case rel => exact ⟨k + 1, _, by omega, by go_num, rfl, by omega, by omega, upTo (P := fun j => (nthQ ps j).2.1.length ≤ 1048576) HT.out (by omega), bnext hb b2 hb.size⟩
             case measure => simp [intOf]; omega)
    · obtain rfl : k = n := by omega
      go_wp2
      go_ret
      exact ⟨.inr ⟨x, x1, rfl, by omega, HT.out⟩, hb⟩

theorem eqQ1_any {A B : Option Addr} {n m : Nat} {l : List Int} {w : World} (c d : Nat) (p q : Int) (h1 : RI w A n l) (h2 : RI w B m l) (hn : n ≤ 9223372036854775807) :
    Calls Try.prog 66 #[.agg #[.int .i64 p, .slice A n c, .int .i64 q], .agg #[.int .i64 p, .slice B m d, .int .i64 q]] w (GivesB w (.bool true)) := by
  obtain rfl : n = m := h1.1.symm.trans h2.1
  go_enter Try.func66, Try.ntmps66
  go_wp2_with fail
  refine (eqI_any true _ _ ((h1.alloc _).alloc _) ((h2.alloc _).alloc _) (by simp) hn hn).mono ?_
  rintro e w1 ⟨rfl, r, rfl⟩
  go_wp2
  go_ret
  exact ⟨rfl, below_drewN (((Below.refl _ _).alloc (Nat.le_refl _) _).alloc (by simp) _) _⟩
end Go.Proofs.Ytemafljipkcgcaa
