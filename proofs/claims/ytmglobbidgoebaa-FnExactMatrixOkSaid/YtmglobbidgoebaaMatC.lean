/- MatrixOk of both sides. -/
import Derived.Test.YtmglobbidgoebaaMat
namespace Go.Proofs.Ytmglobbidgoebaa
open Go.RowKit

theorem iPrime_any {w : World} (P : Int) : Calls Try.prog 56 #[.int .i64 P] w (fun e w' => e = .returned (.bool (prB P)) ∧ w' = w) := by
  by_cases h2 : P = 2
  · subst h2
    go_enter Try.func56, Try.ntmps56
    go_wp2
    go_ret
    exact ⟨by rfl, rfl⟩
  by_cases h3 : P = 3
  · subst h3
    go_enter Try.func56, Try.ntmps56
    go_wp2
    go_ret
    exact ⟨by rfl, rfl⟩
  by_cases h5 : P = 5
  · subst h5
    go_enter Try.func56, Try.ntmps56
    go_wp2
    go_ret
    exact ⟨by rfl, rfl⟩
  by_cases h7 : P = 7
  · subst h7
    go_enter Try.func56, Try.ntmps56
    go_wp2
    go_ret
    exact ⟨by rfl, rfl⟩
  have HF : Hid (prB P = false) := by show prB P = false; simp [prB, h2, h3, h5, h7]
  have g2 : (P == 2) = false := by simpa using h2
  have g3 : (P == 3) = false := by simpa using h3
  have g5 : (P == 5) = false := by simpa using h5
  have g7 : (P == 7) = false := by simpa using h7
  clear h2 h3 h5 h7
  go_enter Try.func56, Try.ntmps56
  go_wp2
  go_ret
  exact ⟨by rw [HF.out]; rfl, rfl⟩

theorem sPrime_any {w : World} (P : Int) : Calls Try.prog 55 #[.int .i64 P] w (fun e w' => e = .returned (.bool (prB P)) ∧ w' = w) := by
  by_cases h2 : P = 2
  · subst h2
    go_enter Try.func55, Try.ntmps55
    go_wp2
    go_ret
    exact ⟨by rfl, rfl⟩
  by_cases h3 : P = 3
  · subst h3
    go_enter Try.func55, Try.ntmps55
    go_wp2
    go_ret
    exact ⟨by rfl, rfl⟩
  by_cases h5 : P = 5
  · subst h5
    go_enter Try.func55, Try.ntmps55
    go_wp2
    go_ret
    exact ⟨by rfl, rfl⟩
  by_cases h7 : P = 7
  · subst h7
    go_enter Try.func55, Try.ntmps55
    go_wp2
    go_ret
    exact ⟨by rfl, rfl⟩
  have HF : Hid (prB P = false) := by show prB P = false; simp [prB, h2, h3, h5, h7]
  have g2 : (P == 2) = false := by simpa using h2
  have g3 : (P == 3) = false := by simpa using h3
  have g5 : (P == 5) = false := by simpa using h5
  have g7 : (P == 7) = false := by simpa using h7
  clear h2 h3 h5 h7
  go_enter Try.func55, Try.ntmps55
  go_wp2
  go_ret
  exact ⟨by rw [HF.out]; rfl, rfl⟩

set_option maxHeartbeats 2000000 in
theorem sMatrixOk_any {A : Option Addr} {n : Nat} {D : List Int} {w : World} (c : Nat) (P Rw C : Int) (hD : RI w A n D) (hn : n ≤ 1000000000) :
    Calls Try.prog 26 #[.agg #[.int .i64 P, .int .i64 Rw, .int .i64 C, .slice A n c]] w (GivesB w (.bool (mtB P Rw C D))) := by
  have HL := Lib.hid hD.1
  rcases h1 : prB P with _ | _
  · have HF := Lib.hid (mtB_no1 (Rw := Rw) (C := C) (D := D) h1)
    go_enter Try.func26, Try.ntmps26
    go_wp2_with (first | (go_at_call 55; refine (sPrime_any P).mono ?_; rintro e w' ⟨rfl, rfl⟩) | (go_at_call 48; refine (l1In_any _ _ _).mono ?_; rintro e w' ⟨rfl, q0, rfl⟩))
    go_ret
    exact ⟨by rw [HF.out]; rfl, by first | exact (Below.refl _ _).alloc (Nat.le_refl _) _ | exact below_drewN ((Below.refl _ _).alloc (Nat.le_refl _) _) _ | (simp only [World.drewN_drewN]; exact below_drewN ((Below.refl _ _).alloc (Nat.le_refl _) _) _)⟩
  have H1 := Lib.hid h1
  have hP : P = 2 ∨ P = 3 ∨ P = 5 ∨ P = 7 := prB_iff.1 h1
  have p1 : 2 ≤ P := by omega
  have p2 : P ≤ 7 := by omega
  clear hP
  rcases h2 : inB Rw 0 7 with _ | _
  · have HF := Lib.hid (mtB_no2 (P := P) (C := C) (D := D) h2)
    go_enter Try.func26, Try.ntmps26
    go_wp2_with (first | (go_at_call 55; refine (sPrime_any P).mono ?_; rintro e w' ⟨rfl, rfl⟩) | (go_at_call 48; refine (l1In_any _ _ _).mono ?_; rintro e w' ⟨rfl, q0, rfl⟩))
    go_ret
    exact ⟨by rw [HF.out]; rfl, by first | exact (Below.refl _ _).alloc (Nat.le_refl _) _ | exact below_drewN ((Below.refl _ _).alloc (Nat.le_refl _) _) _ | (simp only [World.drewN_drewN]; exact below_drewN ((Below.refl _ _).alloc (Nat.le_refl _) _) _)⟩
  have H2 := Lib.hid h2
  obtain ⟨r1, r2⟩ := inB_iff.1 h2
  rcases h3 : inB C 1 7 with _ | _
  · have HF := Lib.hid (mtB_no3 (P := P) (Rw := Rw) (D := D) h3)
    go_enter Try.func26, Try.ntmps26
    go_wp2_with (first | (go_at_call 55; refine (sPrime_any P).mono ?_; rintro e w' ⟨rfl, rfl⟩) | (go_at_call 48; refine (l1In_any _ _ _).mono ?_; rintro e w' ⟨rfl, q0, rfl⟩))
    go_ret
    exact ⟨by rw [HF.out]; rfl, by first | exact (Below.refl _ _).alloc (Nat.le_refl _) _ | exact below_drewN ((Below.refl _ _).alloc (Nat.le_refl _) _) _ | (simp only [World.drewN_drewN]; exact below_drewN ((Below.refl _ _).alloc (Nat.le_refl _) _) _)⟩
  have H3 := Lib.hid h3
  obtain ⟨r3, r4⟩ := inB_iff.1 h3
  have d1 : decide (Rw < 0) = false := by simp; omega
  have d2 : decide (7 < Rw) = false := by simp; omega
  have d3 : decide (C < 1) = false := by simp; omega
  have d4 : decide (7 < C) = false := by simp; omega
  have m1 : 0 ≤ Rw * C := Int.mul_nonneg (by omega) (by omega)
  have m2 : Rw * C ≤ 49 := by
    have := Int.mul_le_mul r2 r4 (by omega) (by omega)
    omega
  by_cases h4 : (n : Int) = Rw * C
  case neg =>
    have HF := Lib.hid (mtB_no4 (P := P) (Rw := Rw) (C := C) (D := D) hD.1 h4)
    have g : ((n : Int) != Rw * C) = true := by simpa using h4
    go_enter Try.func26, Try.ntmps26
    go_wp2_with (first | (go_at_call 55; refine (sPrime_any P).mono ?_; rintro e w' ⟨rfl, rfl⟩) | (go_at_call 48; refine (l1In_any _ _ _).mono ?_; rintro e w' ⟨rfl, q0, rfl⟩))
    go_ret
    exact ⟨by rw [HF.out]; rfl, by first | exact (Below.refl _ _).alloc (Nat.le_refl _) _ | exact below_drewN ((Below.refl _ _).alloc (Nat.le_refl _) _) _ | (simp only [World.drewN_drewN]; exact below_drewN ((Below.refl _ _).alloc (Nat.le_refl _) _) _)⟩
  have H4 := Lib.hid h4
  have g : ((n : Int) != Rw * C) = false := by simpa using h4
  clear h4
  go_enter Try.func26, Try.ntmps26
  go_wp2_with (first | (go_at_call 55; refine (sPrime_any P).mono ?_; rintro e w' ⟨rfl, rfl⟩) | (go_at_call 48; refine (l1In_any _ _ _).mono ?_; rintro e w' ⟨rfl, q0, rfl⟩))
  go_loopw [3] (fun i wr => ∃ k : Nat, k ≤ n ∧ i = .int .i64 k ∧ Hid (Below w.heap.size w wr) ∧ Hid (BK wr w.heap.size 32 [Value.int IntKind.i64 P, Value.int IntKind.i64 Rw, Value.int IntKind.i64 C, Value.slice A n c]) ∧ Hid (∀ j, j < k → inB (nth D j) 0 (P - 1) = true)) (fun i _ => n - (intOf i).toNat)
  case atStart => exact ⟨0, Nat.zero_le _, rfl, by first | exact (Below.refl _ _).alloc (Nat.le_refl _) _ | exact below_drewN ((Below.refl _ _).alloc (Nat.le_refl _) _) _, BK.new w _ _, fun j hj => by omega⟩
  case round =>
    obtain ⟨k, hk, rfl, hb, hK, HT⟩ := hrel
    obtain ⟨q0, q1, q2, q3⟩ := hK.out.four
    by_cases hlt : k < n
    · obtain ⟨ad, hA, hc⟩ := (hD.below hb.out).cell hlt
      subst hA
      rcases hb5 : inB (nth D k) 0 (P - 1) with _ | _
      · have HF := Lib.hid (mtB_no5 (P := P) (Rw := Rw) (C := C) HL.out hlt hb5)
        go_wp2_with fail
        go_quiet ((go_at_call 48; first | exact qcall (l1In_any _ _ _) | exact qcall_add (l1In_any _ _ _)))
        go_wp2
        go_ret
        exact ⟨by rw [HF.out]; rfl, below_drewN hb.out _⟩
      · have HB := Lib.hid hb5
        go_wp2_with fail
        go_quiet ((go_at_call 48; first | exact qcall (l1In_any _ _ _) | exact qcall_add (l1In_any _ _ _)))
        go_wp2
        go_roundw
        case rel => exact ⟨k + 1, by omega, by go_num, below_drewN hb.out _, hK.out.below (below_drewN (Below.refl _ _) _) hK.out.lt, upTo HT.out HB.out⟩
        case measure => simp [intOf]; omega
    · have HF := Lib.hid (mtB_yes H1.out H2.out H3.out HL.out H4.out (fun j hj => HT.out j (by omega)))
      go_wp2
      go_ret
      exact ⟨by rw [HF.out]; rfl, hb.out⟩

set_option maxHeartbeats 2000000 in
theorem iMatrixOk_any {A : Option Addr} {n : Nat} {D : List Int} {w : World} (c : Nat) (P Rw C : Int) (hD : RI w A n D) (hn : n ≤ 1000000000) :
    Calls Try.prog 28 #[.agg #[.int .i64 P, .int .i64 Rw, .int .i64 C, .slice A n c]] w (GivesB w (.bool (mtB P Rw C D))) := by
  have HL := Lib.hid hD.1
  rcases h1 : prB P with _ | _
  · have HF := Lib.hid (mtB_no1 (Rw := Rw) (C := C) (D := D) h1)
    go_enter Try.func28, Try.ntmps28
    go_wp2_with (first | (go_at_call 56; refine (iPrime_any P).mono ?_; rintro e w' ⟨rfl, rfl⟩))
    go_ret
    exact ⟨by rw [HF.out]; rfl, by first | exact (Below.refl _ _).alloc (Nat.le_refl _) _ | exact below_drewN ((Below.refl _ _).alloc (Nat.le_refl _) _) _ | (simp only [World.drewN_drewN]; exact below_drewN ((Below.refl _ _).alloc (Nat.le_refl _) _) _)⟩
  have H1 := Lib.hid h1
  have hP : P = 2 ∨ P = 3 ∨ P = 5 ∨ P = 7 := prB_iff.1 h1
  have p1 : 2 ≤ P := by omega
  have p2 : P ≤ 7 := by omega
  clear hP
  rcases h2 : inB Rw 0 7 with _ | _
  · have HF := Lib.hid (mtB_no2 (P := P) (C := C) (D := D) h2)
    have hb : ¬(0 ≤ Rw ∧ Rw ≤ 7) := by rw [← inB_iff, h2]; simp
    by_cases hb1 : Rw < 0
    · go_enter Try.func28, Try.ntmps28
      go_wp2_with (first | (go_at_call 56; refine (iPrime_any P).mono ?_; rintro e w' ⟨rfl, rfl⟩))
      go_ret
      exact ⟨by rw [HF.out]; rfl, by first | exact (Below.refl _ _).alloc (Nat.le_refl _) _ | exact below_drewN ((Below.refl _ _).alloc (Nat.le_refl _) _) _ | (simp only [World.drewN_drewN]; exact below_drewN ((Below.refl _ _).alloc (Nat.le_refl _) _) _)⟩
    · have hb2 : 7 < Rw := by omega
      have hb3 : decide (7 < Rw) = true := by simpa using hb2
      have hb4 : decide (Rw < 0) = false := by simp; omega
      go_enter Try.func28, Try.ntmps28
      go_wp2_with (first | (go_at_call 56; refine (iPrime_any P).mono ?_; rintro e w' ⟨rfl, rfl⟩))
      go_ret
      exact ⟨by rw [HF.out]; rfl, by first | exact (Below.refl _ _).alloc (Nat.le_refl _) _ | exact below_drewN ((Below.refl _ _).alloc (Nat.le_refl _) _) _ | (simp only [World.drewN_drewN]; exact below_drewN ((Below.refl _ _).alloc (Nat.le_refl _) _) _)⟩
  have H2 := Lib.hid h2
  obtain ⟨r1, r2⟩ := inB_iff.1 h2
  rcases h3 : inB C 1 7 with _ | _
  · have HF := Lib.hid (mtB_no3 (P := P) (Rw := Rw) (D := D) h3)
    have hb : ¬(1 ≤ C ∧ C ≤ 7) := by rw [← inB_iff, h3]; simp
    by_cases hb1 : C < 1
    · go_enter Try.func28, Try.ntmps28
      go_wp2_with (first | (go_at_call 56; refine (iPrime_any P).mono ?_; rintro e w' ⟨rfl, rfl⟩))
      go_ret
      exact ⟨by rw [HF.out]; rfl, by first | exact (Below.refl _ _).alloc (Nat.le_refl _) _ | exact below_drewN ((Below.refl _ _).alloc (Nat.le_refl _) _) _ | (simp only [World.drewN_drewN]; exact below_drewN ((Below.refl _ _).alloc (Nat.le_refl _) _) _)⟩
    · have hb2 : 7 < C := by omega
      have hb3 : decide (7 < C) = true := by simpa using hb2
      have hb4 : decide (C < 1) = false := by simp; omega
      have d1 : decide (Rw < 0) = false := by simp; omega
      have d2 : decide (7 < Rw) = false := by simp; omega
      go_enter Try.func28, Try.ntmps28
      go_wp2_with (first | (go_at_call 56; refine (iPrime_any P).mono ?_; rintro e w' ⟨rfl, rfl⟩))
      go_ret
      exact ⟨by rw [HF.out]; rfl, by first | exact (Below.refl _ _).alloc (Nat.le_refl _) _ | exact below_drewN ((Below.refl _ _).alloc (Nat.le_refl _) _) _ | (simp only [World.drewN_drewN]; exact below_drewN ((Below.refl _ _).alloc (Nat.le_refl _) _) _)⟩
  have H3 := Lib.hid h3
  obtain ⟨r3, r4⟩ := inB_iff.1 h3
  have d1 : decide (Rw < 0) = false := by simp; omega
  have d2 : decide (7 < Rw) = false := by simp; omega
  have d3 : decide (C < 1) = false := by simp; omega
  have d4 : decide (7 < C) = false := by simp; omega
  have m1 : 0 ≤ Rw * C := Int.mul_nonneg (by omega) (by omega)
  have m2 : Rw * C ≤ 49 := by
    have := Int.mul_le_mul r2 r4 (by omega) (by omega)
    omega
  by_cases h4 : (n : Int) = Rw * C
  case neg =>
    have HF := Lib.hid (mtB_no4 (P := P) (Rw := Rw) (C := C) (D := D) hD.1 h4)
    have g : ((n : Int) != Rw * C) = true := by simpa using h4
    go_enter Try.func28, Try.ntmps28
    go_wp2_with (first | (go_at_call 56; refine (iPrime_any P).mono ?_; rintro e w' ⟨rfl, rfl⟩))
    go_ret
    exact ⟨by rw [HF.out]; rfl, by first | exact (Below.refl _ _).alloc (Nat.le_refl _) _ | exact below_drewN ((Below.refl _ _).alloc (Nat.le_refl _) _) _ | (simp only [World.drewN_drewN]; exact below_drewN ((Below.refl _ _).alloc (Nat.le_refl _) _) _)⟩
  have H4 := Lib.hid h4
  have g : ((n : Int) != Rw * C) = false := by simpa using h4
  clear h4
  go_enter Try.func28, Try.ntmps28
  go_wp2_with (first | (go_at_call 56; refine (iPrime_any P).mono ?_; rintro e w' ⟨rfl, rfl⟩))
  go_loopw [4, 43] (fun _ i wr => ∃ k : Nat, k ≤ n ∧ i = .int .i64 k ∧ Hid (Below w.heap.size w wr) ∧ Hid (BK wr w.heap.size 32 [Value.int IntKind.i64 P, Value.int IntKind.i64 Rw, Value.int IntKind.i64 C, Value.slice A n c]) ∧ Hid (∀ j, j < k → inB (nth D j) 0 (P - 1) = true)) (fun _ i _ => n - (intOf i).toNat)
  case atStart => exact ⟨0, Nat.zero_le _, rfl, by first | exact (Below.refl _ _).alloc (Nat.le_refl _) _ | exact below_drewN ((Below.refl _ _).alloc (Nat.le_refl _) _) _, BK.new w _ _, fun j hj => by omega⟩
  case round =>
    obtain ⟨k, hk, rfl, hb, hK, HT⟩ := hrel
    obtain ⟨q0, q1, q2, q3⟩ := hK.out.four
    by_cases hlt : k < n
    · obtain ⟨ad, hA, hc⟩ := (hD.below hb.out).cell hlt
      subst hA
      obtain ⟨y, hy⟩ : ∃ y, y = nth D k := ⟨_, rfl⟩
      rw [← hy] at hc
      have HY : Hid (nth D k = y) := hy.symm
      clear hy
      by_cases hb5 : 0 ≤ y ∧ y ≤ P - 1
      · have HB : Hid (inB (nth D k) 0 (P - 1) = true) := by show inB (nth D k) 0 (P - 1) = true; rw [HY.out]; exact inB_iff.2 hb5
        obtain ⟨y1, y2⟩ := hb5
        have y3 : y < P := by omega
        clear y2
        go_wp2
        go_roundw
        case rel => exact ⟨k + 1, by omega, by go_num, hb, hK, upTo HT.out HB.out⟩
        case measure => simp [intOf]; omega
      · have HF := Lib.hid (mtB_no5 (P := P) (Rw := Rw) (C := C) HL.out hlt (by rw [HY.out, ← Bool.not_eq_true, inB_iff]; exact hb5))
        by_cases y1 : y < 0
        · go_wp2
          go_ret
          exact ⟨by rw [HF.out]; rfl, hb.out⟩
        · have y2 : P ≤ y := by omega
          go_wp2
          go_ret
          exact ⟨by rw [HF.out]; rfl, hb.out⟩
    · have HF := Lib.hid (mtB_yes H1.out H2.out H3.out HL.out H4.out (fun j hj => HT.out j (by omega)))
      go_wp2
      go_ret
      exact ⟨by rw [HF.out]; rfl, hb.out⟩
end Go.Proofs.Ytmglobbidgoebaa
