/- The walk of FnGauss. -/
import Derived.Test.YteodckkkjhapgaaGauss
import Derived.Test.YteodckkkjhapgaaGaussP
import Derived.Test.YteodckkkjhapgaaBytes
import Derived.ShutString
import Derived.ChangeOld
namespace Go.Proofs.Yteodckkkjhapgaa.lawGauss
open Go.ChangeShapes Go.WideShapes Go.ChangeAt Go.RowKit
open Go.ChangeMaps (open_string shut_string)

set_option maxHeartbeats 1600000 in
theorem walk {A : Option Addr} {n : Nat} (c : Nat) {w : World} (hx : RB w A n) : Calls Try.prog 4 #[.slice A n c] w (Law w) := by
  obtain ⟨w0, ew⟩ : ∃ w0 : World, w0 = w := ⟨_, rfl⟩
  subst ew
  rcases hbig : decide (1048576 < n) with _ | _
  · go_enter Try.func4, Try.ntmps4
    go_wp2_with (go_at_call 17; refine (big_any _).mono ?_; rintro e w' ⟨rfl, q0, rfl⟩)
    clear hbig
    refine (drawBoxes_any _ (hx.below (Quiet.below ⟨_, rfl⟩))).mono ?_
    rintro e w1 ⟨A1, n1, c1, A2, n2, c2, A3, n3, c3, l1, l2, l3, W1, W2, K, M, rfl, hKM, -, -, -, -, -, -, -, -, b1⟩
    have g1 : Below w0.heap.size w0 w1 := bnext (Quiet.below ⟨_, rfl⟩) b1 (by simp)
    clear b1
    have hok := ok_at hKM
    obtain ⟨hKM1, hKM2⟩ := hKM
    obtain ⟨L, hL⟩ : ∃ L, L = gaussB K ((K : Int) + M) := ⟨_, rfl⟩
    obtain ⟨h1, h2, h3⟩ := ok_first hL hok
    have HOK := Lib.hid hok
    clear hok
    have hKM3 : K * M ≤ 36 := Nat.le_trans (Nat.mul_le_mul (show K ≤ 6 by omega) (show M ≤ 6 by omega)) (by omega)
    have hmul : (K : Int) * M = ((K * M : Nat) : Int) := by simp
    obtain ⟨KM, hkm⟩ : ∃ KM, KM = K * M := ⟨_, rfl⟩
    rw [← hkm] at hmul hKM3 h3
    have H1 := Lib.hid h1
    have H2 := Lib.hid h2
    have H3 := Lib.hid h3
    clear h1 h2 h3 hkm
    have hsub : (K : Int) + M - K = M := by omega
    have HG1 : Hid (∀ W : World, Calls Try.prog 19 #[.int .i64 (K : Int), .int .i64 ((K : Int) + M)] W (Makes W L)) := fun W => by rw [hL]; exact iGauss_any _ _
    have HG2 : Hid (∀ W : World, Calls Try.prog 19 #[.int .i64 (M : Int), .int .i64 ((K : Int) + M)] W (Makes W L)) := fun W => by rw [H2.out]; exact iGauss_any _ _
    have HL := Lib.hid hL
    clear hL
    go_wp2_with fail
    refine (HG1.out _).mono ?_
    rintro e w2 ⟨A4, n4, c4, rfl, o4, r4, ⟨cp4, le4⟩, b2⟩
    obtain rfl : n4 = KM + 1 := r4.1.symm.trans H3.out
    have g2 := bnext g1 b2 g1.size
    go_wp2_with fail
    refine (reversed_any _ r4 (by omega)).mono ?_
    rintro e w3 ⟨A5, n5, c5, rfl, o5, r5, ⟨cp5, le5⟩, b3⟩
    have g3 := bnext g2 b3 g2.size
    go_wp2_with fail
    refine (ints_any true _ _ (r4.below b3) r5 (by simp; exact H1.out) (by omega) (by omega)).mono ?_
    rintro e w4 ⟨rfl, q4⟩
    have b4 := q4.below (B := w3.heap.size)
    have g4 := bnext g3 b4 g3.size
    clear q4
    go_wp2_with fail
    refine (HG2.out _).mono ?_
    rintro e w5 ⟨A6, n6, c6, rfl, o6, r6, ⟨cp6, le6⟩, b5⟩
    have g5 := bnext g4 b5 g4.size
    go_wp2_with fail
    refine (ints_any true _ _ (((r4.below b3).below b4).below b5) r6 (by simp) (by omega) (by omega)).mono ?_
    rintro e w6 ⟨rfl, q6⟩
    have b6 := q6.below (B := w5.heap.size)
    have g6 := bnext g5 b6 g5.size
    clear q6 o4 o5 o6 r5 r6
    have hlenB : ((KM : Int) + 1 != (KM : Int) + 1) = false := by simp
    by_cases hz : K = 0 ∨ M = 0
    · have h4 := ok_less hz HL.out HOK.out
      have hKM0 : KM = 0 := by have := H3.out; rw [h4] at this; simpa using this.symm
      subst hKM0
      obtain ⟨ad, hA, hc⟩ := ((r4.below b3).below b4 |>.below b5 |>.below b6).cell (k := 0) (by omega)
      subst hA
      have e1 : nth L 0 = 1 := by rw [h4]; rfl
      rw [e1] at hc
      have hc' : w6.cell? ad = some (.int .i64 1) := by rw [addr_zero] at hc; exact hc
      clear e1 h4
      rcases hz with rfl | rfl
      · go_wp2
        go_ret
        exact ⟨rfl, g6⟩
      · go_wp2
        go_ret
        exact ⟨rfl, g6⟩
    · have t1 : ((K : Int) == 0) = false := by simp; omega
      have t2 : ((K : Int) == (K : Int) + M) = false := by simp; omega
      have t3 : ((K : Int) + M == 1) = false := by simp; omega
      obtain ⟨a, ha⟩ : ∃ a, a = gaussB K ((K : Int) + M - 1) := ⟨_, rfl⟩
      obtain ⟨b, hb⟩ : ∃ b, b = gaussB ((K : Int) - 1) ((K : Int) + M - 1) := ⟨_, rfl⟩
      obtain ⟨m1, m2, m3⟩ := ok_more hz ha hb HL.out HOK.out
      have M1 := Lib.hid m1
      have M2 := Lib.hid m2
      have M3 := Lib.hid m3
      have HG3 : Hid (∀ W : World, Calls Try.prog 19 #[.int .i64 (K : Int), .int .i64 ((K : Int) + M - 1)] W (Makes W a)) := fun W => by rw [ha]; exact iGauss_any _ _
      have HG4 : Hid (∀ W : World, Calls Try.prog 19 #[.int .i64 ((K : Int) - 1), .int .i64 ((K : Int) + M - 1)] W (Makes W b)) := fun W => by rw [hb]; exact iGauss_any _ _
      clear m1 m2 m3 ha hb
      have hz' : 1 ≤ K ∧ 1 ≤ M := by omega
      clear hz
      go_wp2_with fail
      refine (HG3.out _).mono ?_
      rintro e w7 ⟨A7, n7, c7, rfl, o7, r7, ⟨cp7, le7⟩, b7⟩
      have g7 := bnext g6 b7 g6.size
      go_wp2_with fail
      refine (HG4.out _).mono ?_
      rintro e w8 ⟨A8, n8, c8, rfl, o8, r8, ⟨cp8, le8⟩, b8⟩
      have g8 := bnext g7 b8 g7.size
      have rL := ((r4.below b3).below b4 |>.below b5 |>.below b6 |>.below b7).below b8
      have ra := r7.below b8
      clear o7 o8 r4 r7 b2 b3 b4 b5 b6 b7 b8
      have H7 := Lib.hid ra.1
      have H8 := Lib.hid r8.1
      clear t1 t2 t3 hlenB
      go_wp2
      go_loopw [11, 12, 13] (fun i _ _ wr => ∃ k : Nat, k ≤ KM + 1 ∧ i = .int .i64 (k : Int) ∧ Quiet w8 wr) (fun i _ _ _ => KM + 1 - (intOf i).toNat)
      case atStart => exact ⟨0, Nat.zero_le _, rfl, (by first | exact ⟨_, rfl⟩ | exact ⟨_, (World.drewN_drewN _ _ _).symm⟩ | exact Quiet.refl _ | (simp only [World.drewN_drewN]; exact ⟨_, rfl⟩))⟩
      case round =>
        obtain ⟨k, hk, rfl, ⟨q, rfl⟩⟩ := hrel
        by_cases hlt : k < KM + 1
        · obtain ⟨ad, hA, hc⟩ := rL.cell (k := k) hlt
          subst hA
          have e := M3.out k (by rw [H3.out]; exact hlt)
          rw [H7.out, H8.out] at e
          have hkm : (k : Int) - M ≤ 36 ∧ -10 ≤ (k : Int) - M := by omega
          by_cases h7 : k < n7
          · obtain ⟨ad7, hA7, hc7⟩ := ra.cell (k := k) h7
            subst hA7
            have y1 := M1.out k
            rw [if_pos h7] at e
            rcases (show (k : Int) - M < 0 ∨ (0 ≤ (k : Int) - M ∧ (k : Int) - M < n8) ∨ (M ≤ k ∧ (n8 : Int) ≤ (k : Int) - M) by omega) with g | ⟨g, g2⟩ | ⟨g, g2⟩
            · rw [if_neg (by omega)] at e
              rw [← e] at hc
              clear e
              go_wp2
              go_roundw
              case rel => exact ⟨k + 1, by omega, by go_num, (by first | exact ⟨_, rfl⟩ | exact ⟨_, (World.drewN_drewN _ _ _).symm⟩ | exact Quiet.refl _ | (simp only [World.drewN_drewN]; exact ⟨_, rfl⟩))⟩
              case measure => simp [intOf]; omega
            · obtain ⟨ad8, hA8, hc8⟩ := r8.cell (k := k - M) (by omega)
              subst hA8
              have y2 := M2.out (k - M)
              rw [if_pos (by omega)] at e
              have htn : ((k : Int) - M).toNat = k - M := by omega
              rw [← e] at hc
              clear e
              go_wp2
              go_roundw
              case rel => exact ⟨k + 1, by omega, by go_num, (by first | exact ⟨_, rfl⟩ | exact ⟨_, (World.drewN_drewN _ _ _).symm⟩ | exact Quiet.refl _ | (simp only [World.drewN_drewN]; exact ⟨_, rfl⟩))⟩
              case measure => simp [intOf]; omega
            · rw [if_neg (by omega)] at e
              rw [← e] at hc
              clear e
              go_wp2
              go_roundw
              case rel => exact ⟨k + 1, by omega, by go_num, (by first | exact ⟨_, rfl⟩ | exact ⟨_, (World.drewN_drewN _ _ _).symm⟩ | exact Quiet.refl _ | (simp only [World.drewN_drewN]; exact ⟨_, rfl⟩))⟩
              case measure => simp [intOf]; omega
          · rw [if_neg h7] at e
            rcases (show (k : Int) - M < 0 ∨ (0 ≤ (k : Int) - M ∧ (k : Int) - M < n8) ∨ (M ≤ k ∧ (n8 : Int) ≤ (k : Int) - M) by omega) with g | ⟨g, g2⟩ | ⟨g, g2⟩
            · rw [if_neg (by omega)] at e
              rw [← e] at hc
              clear e
              go_wp2
              go_roundw
              case rel => exact ⟨k + 1, by omega, by go_num, (by first | exact ⟨_, rfl⟩ | exact ⟨_, (World.drewN_drewN _ _ _).symm⟩ | exact Quiet.refl _ | (simp only [World.drewN_drewN]; exact ⟨_, rfl⟩))⟩
              case measure => simp [intOf]; omega
            · obtain ⟨ad8, hA8, hc8⟩ := r8.cell (k := k - M) (by omega)
              subst hA8
              have y2 := M2.out (k - M)
              rw [if_pos (by omega)] at e
              have htn : ((k : Int) - M).toNat = k - M := by omega
              rw [← e] at hc
              clear e
              go_wp2
              go_roundw
              case rel => exact ⟨k + 1, by omega, by go_num, (by first | exact ⟨_, rfl⟩ | exact ⟨_, (World.drewN_drewN _ _ _).symm⟩ | exact Quiet.refl _ | (simp only [World.drewN_drewN]; exact ⟨_, rfl⟩))⟩
              case measure => simp [intOf]; omega
            · rw [if_neg (by omega)] at e
              rw [← e] at hc
              clear e
              go_wp2
              go_roundw
              case rel => exact ⟨k + 1, by omega, by go_num, (by first | exact ⟨_, rfl⟩ | exact ⟨_, (World.drewN_drewN _ _ _).symm⟩ | exact Quiet.refl _ | (simp only [World.drewN_drewN]; exact ⟨_, rfl⟩))⟩
              case measure => simp [intOf]; omega
        · obtain rfl : k = KM + 1 := by omega
          go_wp2
          go_ret
          exact ⟨rfl, below_drewN g8 _⟩
  · go_enter Try.func4, Try.ntmps4
    go_wp2_with (go_at_call 17; refine (big_any _).mono ?_; rintro e w' ⟨rfl, q0, rfl⟩)
    go_ret
    exact ⟨rfl, Quiet.below ⟨_, rfl⟩⟩
end Go.Proofs.Yteodckkkjhapgaa.lawGauss
