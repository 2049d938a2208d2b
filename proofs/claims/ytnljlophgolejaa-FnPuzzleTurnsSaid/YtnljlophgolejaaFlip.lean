/- Labels exchanged; the ranges of a puzzle's labels. -/
import Derived.Test.YtnljlophgolejaaRotA
namespace Go.Proofs.Ytnljlophgolejaa
open Go.RowKit

theorem puz_range {n r k : Nat} {L R B : List Int} {wt : Bool} (hp : puzB n L R B wt = true) (hr : r < n) (hk : k < r + 1) :
    (0 ≤ nth L (tri r + k) ∧ nth L (tri r + k) ≤ 2) ∧ (0 ≤ nth R (tri r + k) ∧ nth R (tri r + k) ≤ 2) ∧ (0 ≤ nth B (tri r + k) ∧ nth B (tri r + k) ≤ 3) := by
  unfold puzB at hp
  rw [Bool.and_eq_true] at hp
  have h1 := allB_at hp.2 (show r < Int.toNat (n : Int) by simpa using hr)
  unfold rowI at h1
  rw [Bool.and_eq_true] at h1
  have h2 := allB_at h1.2 hk
  unfold cellI at h2
  rw [Bool.and_eq_true] at h2
  have := up_range h2.1
  exact ⟨this.1, this.2.1, this.2.2.1⟩
theorem flip_eq {w : World} (x : Int) (h1 : 0 ≤ x) (h2 : x ≤ 3) : Calls Try.prog 86 #[.int .i64 x] w (fun e w' => e = .returned (.int .i64 (flipB x)) ∧ w' = w) := by
  go_enter Try.func86, Try.ntmps86
  by_cases h : x < 2
  · have HF : Hid (flipB x = 1 - x) := if_pos h
    go_wp2
    go_ret
    exact ⟨by rw [HF.out]; rfl, rfl⟩
  · have HF : Hid (flipB x = x) := if_neg h
    go_wp2
    go_ret
    exact ⟨by rw [HF.out]; rfl, rfl⟩
theorem place_eq {w : World} (R K : Int) (h1 : 0 ≤ R) (h2 : R ≤ 8) (h3 : 0 ≤ K) (h4 : K ≤ 8) : Calls Try.prog 93 #[.int .i64 R, .int .i64 K] w (fun e w' => e = .returned (.int .i64 (atI R K)) ∧ w' = w) := by
  obtain ⟨r, rfl⟩ := Int.eq_ofNat_of_zero_le h1
  obtain ⟨k, rfl⟩ := Int.eq_ofNat_of_zero_le h3
  obtain ⟨x, hx⟩ : ∃ x, tri r + k = x := ⟨_, rfl⟩
  rw [atI_eq rfl rfl hx]
  have h0 := tri_small (n := r) (by omega)
  have h1 := Lib.hid (tri_cast r)
  have h2 : (r : Int) * (r + 1) ≤ 72 := by
    have := Nat.mul_le_mul (show r ≤ 8 by omega) (show r + 1 ≤ 9 by omega)
    have e : (r : Int) * ((r : Int) + 1) = ((r * (r + 1) : Nat) : Int) := by simp
    omega
  have h3 : 0 ≤ (r : Int) * (r + 1) := Int.mul_nonneg (by omega) (by omega)
  have h5 : (r : Int) * (r + 1) / 2 + (k : Int) = (x : Int) := by rw [h1.out, ← hx]; simp
  go_enter Try.func93, Try.ntmps93
  go_wp2
  go_ret
  exact ⟨by first | rfl | (rw [← h5]; rfl) | simp [h5], rfl⟩
end Go.Proofs.Ytnljlophgolejaa
