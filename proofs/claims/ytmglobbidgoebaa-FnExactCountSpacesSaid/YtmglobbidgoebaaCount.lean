/- isPrime; CountSpaces of the program and of the reference. -/
import Derived.Test.YtmglobbidgoebaaGauss
namespace Go.Proofs.Ytmglobbidgoebaa
open Go.RowKit

theorem isPrime_any {w : World} (p : Int) : Calls Try.prog 56 #[.int .i64 p] w (Gives w (.bool (primeB p))) := by
  go_enter Try.func56, Try.ntmps56
  go_wp2
  all_goals go_ret
  all_goals refine ⟨ret_bool ?_, (by first | exact ⟨_, rfl⟩ | exact ⟨_, (World.drewN_drewN _ _ _).symm⟩ | exact Quiet.refl _)⟩
  all_goals simp_all [primeB]

theorem l7Prime_any {w : World} (p : Int) : Calls Try.prog 55 #[.int .i64 p] w (Gives w (.bool (primeB p))) := by
  go_enter Try.func55, Try.ntmps55
  go_wp2
  all_goals go_ret
  all_goals refine ⟨ret_bool ?_, (by first | exact ⟨_, rfl⟩ | exact ⟨_, (World.drewN_drewN _ _ _).symm⟩ | exact Quiet.refl _)⟩
  all_goals simp_all [primeB]

/-- A number, new blocks. -/
def GivesB (w : World) (v : Value) : Ending → World → Prop := fun e w' => e = .returned v ∧ Below w.heap.size w w'

theorem iCount_any {w : World} (p k n : Int) : Calls Try.prog 31 #[.int .i64 p, .int .i64 k, .int .i64 n] w (GivesB w (.int .i64 (countB p k n))) := by
  rcases Bool.eq_false_or_eq_true (primeB p) with hp | hp
  · rcases Bool.eq_false_or_eq_true (boxB k n) with hb | hb
    · have HE := Lib.hid (eval_ok hp hb)
      have HP := Lib.hid hp
      have HB := Lib.hid hb
      have hpr := primeB_range hp
      obtain ⟨p1, p2⟩ := hpr
      go_enter Try.func31, Try.ntmps31
      go_wp2_with (first | (go_at_call 56; refine (isPrime_any _).mono ?_; rintro e w' ⟨rfl, q0, rfl⟩) | (go_at_call 51; refine (isBox_any _ _).mono ?_; rintro e w' ⟨rfl, q0, rfl⟩))
      clear hp hb
      refine (iGauss_any _ _).mono ?_
      rintro e w1 ⟨A1, m1, c1, rfl, o1, r1, ⟨cp1, le1⟩, g1⟩
      have HM := Lib.hid r1.1
      have hm := evalOk_len HE.out
      rw [r1.1] at hm
      have HC := Lib.hid (countB_yes HP.out HB.out HM.out)
      go_wp2
      go_loopw [7, 8, 10, 24] (fun s q _ i wr => ∃ j : Nat, j ≤ m1 ∧ i = .int .i64 (j : Int) ∧ s = .int .i64 (evalUp (gaussB k n) p j) ∧ q = .int .i64 (p ^ j) ∧ w1 = wr) (fun _ _ _ i _ => m1 - (intOf i).toNat)
      case atStart => exact ⟨0, Nat.zero_le _, rfl, rfl, by simp, by trivial⟩
      case round =>
        obtain ⟨j, hj, rfl, rfl, rfl, rfl⟩ := hrel
        by_cases hlt : j < m1
        · obtain ⟨ad, hA, hc⟩ := r1.cell hlt
          subst hA
          obtain ⟨⟨e1, e2⟩, ⟨e3, e4⟩, _, e7, e8⟩ := evalOk_at HE.out HM.out (j := j) (by omega)
          obtain ⟨⟨f1, f2⟩, ⟨f3, f4⟩, _, f7, f8⟩ := evalOk_at HE.out HM.out (j := j + 1) (by omega)
          have m2 : 0 ≤ nth (gaussB k n) j * p ^ j := Int.mul_nonneg e7 e3
          have m3 : nth (gaussB k n) j * p ^ j ≤ 1000000000000000 := by simp only [evalUp] at f2; omega
          have m4 : p ^ j * p ≤ 1000000000000 := by rw [Int.pow_succ] at f4; exact f4
          have m5 : 0 ≤ p ^ j * p := Int.mul_nonneg e3 (by omega)
          clear f1 f2 f3 f4 f7 f8
          go_wp2
          go_roundw
          case rel => exact ⟨j + 1, by omega, by go_num, rfl, by rw [Int.pow_succ], by trivial⟩
          case measure => simp [intOf]; omega
        · obtain rfl : j = m1 := by omega
          go_wp2
          go_ret
          exact ⟨by rw [HC.out]; rfl, bnext (Quiet.below ⟨_, rfl⟩) g1 (Nat.le_refl _)⟩
    · have HC := Lib.hid (countB_k (p := p) hb)
      go_enter Try.func31, Try.ntmps31
      go_wp2_with (first | (go_at_call 56; refine (isPrime_any _).mono ?_; rintro e w' ⟨rfl, q0, rfl⟩) | (go_at_call 51; refine (isBox_any _ _).mono ?_; rintro e w' ⟨rfl, q0, rfl⟩))
      go_ret
      exact ⟨by rw [HC.out]; rfl, Quiet.below ⟨_, rfl⟩⟩
  · have HC := Lib.hid (countB_p (k := k) (n := n) hp)
    go_enter Try.func31, Try.ntmps31
    go_wp2_with (first | (go_at_call 56; refine (isPrime_any _).mono ?_; rintro e w' ⟨rfl, q0, rfl⟩) | (go_at_call 51; refine (isBox_any _ _).mono ?_; rintro e w' ⟨rfl, q0, rfl⟩))
    go_ret
    exact ⟨by rw [HC.out]; rfl, Quiet.below ⟨_, rfl⟩⟩

theorem sCount_any {w : World} (p k n : Int) : Calls Try.prog 30 #[.int .i64 p, .int .i64 k, .int .i64 n] w (GivesB w (.int .i64 (countB p k n))) := by
  rcases Bool.eq_false_or_eq_true (primeB p) with hp | hp
  · rcases Bool.eq_false_or_eq_true (boxB k n) with hb | hb
    · have HE := Lib.hid (eval_ok hp hb)
      have HP := Lib.hid hp
      have HB := Lib.hid hb
      have hpr := primeB_range hp
      obtain ⟨p1, p2⟩ := hpr
      go_enter Try.func30, Try.ntmps30
      go_wp2_with fail
      refine (sGauss_any _ _).mono ?_
      rintro e w1 ⟨A1, m1, c1, rfl, o1, r1, ⟨cp1, le1⟩, g1⟩
      have HM := Lib.hid r1.1
      have hm := evalOk_len HE.out
      have hpos := gaussB_pos hb
      rw [r1.1] at hm hpos
      have HC := Lib.hid ((countB_yes HP.out HB.out HM.out).trans (evalOk_eq HE.out HM.out).symm)
      have hne : ((m1 : Int) == 0) = false := by simp; omega
      have hne' : (m1 == 0) = false := by simp; omega
      clear hb
      go_wp2_with (go_at_call 55; refine (l7Prime_any _).mono ?_; rintro e w' ⟨rfl, q0, rfl⟩)
      clear hp
      go_loopw [8, 9] (fun x i wr => ∃ j : Nat, j ≤ m1 ∧ i = .int .i64 ((m1 : Int) - 1 - j) ∧ x = .int .i64 (horner (gaussB k n) p m1 j) ∧ Quiet w1 wr) (fun _ i _ => (intOf i + 1).toNat)
      case atStart => exact ⟨0, Nat.zero_le _, by simp, rfl, (by first | exact ⟨_, rfl⟩ | exact ⟨_, (World.drewN_drewN _ _ _).symm⟩ | exact Quiet.refl _)⟩
      case round =>
        obtain ⟨j, hj, rfl, rfl, ⟨q, rfl⟩⟩ := hrel
        by_cases hlt : j < m1
        · obtain ⟨ad, hA, hc⟩ := r1.cell (k := m1 - 1 - j) (by omega)
          subst hA
          obtain ⟨_, _, ⟨e5, e6⟩, e7, e8⟩ := evalOk_at HE.out HM.out (j := j) (by omega)
          obtain ⟨_, _, _, d7, d8⟩ := evalOk_at HE.out HM.out (j := m1 - 1 - j) (by omega)
          obtain ⟨_, _, ⟨f5, f6⟩, f7, f8⟩ := evalOk_at HE.out HM.out (j := j + 1) (by omega)
          have m2 : 0 ≤ horner (gaussB k n) p m1 j * p := Int.mul_nonneg e5 (by omega)
          have m3 : horner (gaussB k n) p m1 j * p ≤ 1000000000000 := by simp only [horner] at f6; omega
          have ht : ((m1 : Int) - 1 - j).toNat = m1 - 1 - j := by omega
          clear f5 f6 f7 f8
          go_wp2
          go_roundw
          case rel => exact ⟨j + 1, by omega, by go_num, rfl, (by first | exact ⟨_, rfl⟩ | exact ⟨_, (World.drewN_drewN _ _ _).symm⟩ | exact Quiet.refl _)⟩
          case measure => simp [intOf]; omega
        · obtain rfl : j = m1 := by omega
          go_wp2
          go_ret
          exact ⟨by rw [HC.out]; rfl, below_drewN g1 _⟩
    · have HC := Lib.hid (countB_k (p := p) hb)
      have HG := Lib.hid (gaussB_no hb)
      have HP := Lib.hid hp
      clear hb
      go_enter Try.func30, Try.ntmps30
      go_wp2_with fail
      refine (sGauss_any _ _).mono ?_
      rintro e w1 ⟨A1, m1, c1, rfl, o1, r1, ⟨cp1, le1⟩, g1⟩
      have hm := r1.1
      rw [HG.out] at hm
      obtain rfl : m1 = 0 := hm.symm
      clear hm
      go_wp2_with (go_at_call 55; refine (l7Prime_any _).mono ?_; rintro e w' ⟨rfl, q0, rfl⟩)
      go_ret
      exact ⟨by rw [HC.out]; rfl, below_drewN g1 _⟩
  · have HC := Lib.hid (countB_p (k := k) (n := n) hp)
    go_enter Try.func30, Try.ntmps30
    go_wp2_with fail
    refine (sGauss_any _ _).mono ?_
    rintro e w1 ⟨A1, m1, c1, rfl, o1, r1, ⟨cp1, le1⟩, g1⟩
    go_wp2_with (go_at_call 55; refine (l7Prime_any _).mono ?_; rintro e w' ⟨rfl, q0, rfl⟩)
    go_ret
    exact ⟨by rw [HC.out]; rfl, below_drewN g1 _⟩
end Go.Proofs.Ytmglobbidgoebaa
