/- IsShape, rowOf, isBox, IsInBox of the program and of the reference. -/
import Derived.Test.YteodckkkjhapgaaShapes
namespace Go.Proofs.Yteodckkkjhapgaa
open Go.RowKit

theorem sIsShape_any {A : Option Addr} {n : Nat} {l : List Int} {w : World} (c : Nat) (hx : RI w A n l) (hn : n ≤ 1000000000) :
    Calls Try.prog 92 #[.slice A n c] w (Gives w (.bool (isShapeB l))) := by
  have HL := Lib.hid hx.1
  by_cases h16 : 16 < n
  · go_enter Try.func92, Try.ntmps92
    go_wp2
    go_ret
    exact ⟨ret_bool (isShapeB_len HL.out h16).symm, (by first | exact ⟨_, rfl⟩ | exact ⟨_, (World.drewN_drewN _ _ _).symm⟩ | exact Quiet.refl _ | (simp only [World.drewN_drewN]; exact ⟨_, rfl⟩))⟩
  go_enter Try.func92, Try.ntmps92
  go_wp2
  go_loopw [3] (fun i wr => ∃ k : Nat, k ≤ n ∧ i = .int .i64 k ∧ Quiet w wr ∧ ∀ j, j < k → shapeAt l j = true) (fun i _ => n - (intOf i).toNat)
  case atStart => exact ⟨0, Nat.zero_le _, rfl, (by first | exact ⟨_, rfl⟩ | exact ⟨_, (World.drewN_drewN _ _ _).symm⟩ | exact Quiet.refl _ | (simp only [World.drewN_drewN]; exact ⟨_, rfl⟩)), by simp⟩
  case round =>
    obtain ⟨k, hk, rfl, ⟨q, rfl⟩, ht⟩ := hrel
    have HT := Lib.hid ht
    clear ht
    by_cases hlt : k < n
    · obtain ⟨ad, hA, hc⟩ := hx.cell hlt
      subst hA
      rcases Bool.eq_false_or_eq_true (inB (nth l k) 1 16) with hb | hb
      · by_cases hk0 : k = 0
        · have hpos : decide (0 < k) = false := by simp; omega
          have hc0 : w.cell? ad = some (.int .i64 (nth l k)) := by rw [← hc, hk0, add_zero_]
          have HK := Lib.hid hk0
          clear hk0
          go_wp2_with fail
          go_quiet ((go_at_call 85; first | exact qcall (l1In_any _ _ _) | exact qcall_add (l1In_any _ _ _)))
          go_wp2
          go_roundw
          case rel => exact ⟨k + 1, by omega, by go_num, (by first | exact ⟨_, rfl⟩ | exact ⟨_, (World.drewN_drewN _ _ _).symm⟩ | exact Quiet.refl _ | (simp only [World.drewN_drewN]; exact ⟨_, rfl⟩)), upTo HT.out (shapeAt_zero HK.out hb)⟩
          case measure => simp [intOf]; omega
        · obtain ⟨ad', hA', hc'⟩ := hx.cell (k := k - 1) (by omega)
          obtain rfl : ad = ad' := by injection hA'
          have hpos : decide (0 < k) = true := by simp; omega
          by_cases hle : nth l k ≤ nth l (k - 1)
          · go_wp2_with fail
            go_quiet ((go_at_call 85; first | exact qcall (l1In_any _ _ _) | exact qcall_add (l1In_any _ _ _)))
            go_wp2
            go_roundw
            case rel => exact ⟨k + 1, by omega, by go_num, (by first | exact ⟨_, rfl⟩ | exact ⟨_, (World.drewN_drewN _ _ _).symm⟩ | exact Quiet.refl _ | (simp only [World.drewN_drewN]; exact ⟨_, rfl⟩)), upTo HT.out (shapeAt_le hb hle)⟩
            case measure => simp [intOf]; omega
          · go_wp2_with fail
            go_quiet ((go_at_call 85; first | exact qcall (l1In_any _ _ _) | exact qcall_add (l1In_any _ _ _)))
            go_wp2
            go_ret
            exact ⟨ret_bool (isShapeB_no HL.out hlt (shapeAt_gt (by omega) (by omega))).symm, (by first | exact ⟨_, rfl⟩ | exact ⟨_, (World.drewN_drewN _ _ _).symm⟩ | exact Quiet.refl _ | (simp only [World.drewN_drewN]; exact ⟨_, rfl⟩))⟩
      · go_wp2_with fail
        go_quiet ((go_at_call 85; first | exact qcall (l1In_any _ _ _) | exact qcall_add (l1In_any _ _ _)))
        go_wp2
        go_ret
        exact ⟨ret_bool (isShapeB_no HL.out hlt (shapeAt_in hb)).symm, (by first | exact ⟨_, rfl⟩ | exact ⟨_, (World.drewN_drewN _ _ _).symm⟩ | exact Quiet.refl _ | (simp only [World.drewN_drewN]; exact ⟨_, rfl⟩))⟩
    · go_wp2
      go_ret
      exact ⟨ret_bool (((isShapeB_all HL.out (fun j hj => HT.out j (by omega))).trans (decide_eq_true (by omega))).symm), (by first | exact ⟨_, rfl⟩ | exact ⟨_, (World.drewN_drewN _ _ _).symm⟩ | exact Quiet.refl _ | (simp only [World.drewN_drewN]; exact ⟨_, rfl⟩))⟩

theorem iIsShape_any {A : Option Addr} {n : Nat} {l : List Int} {w : World} (c : Nat) (hx : RI w A n l) (hn : n ≤ 1000000000) :
    Calls Try.prog 84 #[.slice A n c] w (Gives w (.bool (isShapeB l))) := by
  have HL := Lib.hid hx.1
  go_enter Try.func84, Try.ntmps84
  go_wp2
  go_loopw [3, 4, 7] (fun _ _ i wr => ∃ k : Nat, k ≤ n ∧ i = .int .i64 k ∧ Quiet w wr ∧ ∀ j, j < k → shapeAt l j = true) (fun _ _ i _ => n - (intOf i).toNat)
  case atStart => exact ⟨0, Nat.zero_le _, rfl, (by first | exact ⟨_, rfl⟩ | exact ⟨_, (World.drewN_drewN _ _ _).symm⟩ | exact Quiet.refl _ | (simp only [World.drewN_drewN]; exact ⟨_, rfl⟩)), by simp⟩
  case round =>
    obtain ⟨k, hk, rfl, ⟨q, rfl⟩, ht⟩ := hrel
    have HT := Lib.hid ht
    clear ht
    by_cases hlt : k < n
    · obtain ⟨ad, hA, hc⟩ := hx.cell hlt
      subst hA
      by_cases h1 : nth l k < 1
      · go_wp2
        go_ret
        exact ⟨ret_bool (isShapeB_no HL.out hlt (shapeAt_in (inB_low h1))).symm, (by first | exact ⟨_, rfl⟩ | exact ⟨_, (World.drewN_drewN _ _ _).symm⟩ | exact Quiet.refl _ | (simp only [World.drewN_drewN]; exact ⟨_, rfl⟩))⟩
      by_cases h2 : nth l k > 16
      · go_wp2
        go_ret
        exact ⟨ret_bool (isShapeB_no HL.out hlt (shapeAt_in (inB_high h2))).symm, (by first | exact ⟨_, rfl⟩ | exact ⟨_, (World.drewN_drewN _ _ _).symm⟩ | exact Quiet.refl _ | (simp only [World.drewN_drewN]; exact ⟨_, rfl⟩))⟩
      have HB := Lib.hid (inB_yes (n := nth l k) (lo := 1) (hi := 16) (by omega) (by omega))
      by_cases hk0 : k = 0
      · have hpos : decide (0 < k) = false := by simp; omega
        have hc0 : w.cell? ad = some (.int .i64 (nth l k)) := by rw [← hc, hk0, add_zero_]
        have HK := Lib.hid hk0
        clear hk0
        go_wp2
        go_roundw
        case rel => exact ⟨k + 1, by omega, by go_num, (by first | exact ⟨_, rfl⟩ | exact ⟨_, (World.drewN_drewN _ _ _).symm⟩ | exact Quiet.refl _ | (simp only [World.drewN_drewN]; exact ⟨_, rfl⟩)), upTo HT.out (shapeAt_zero HK.out HB.out)⟩
        case measure => simp [intOf]; omega
      · obtain ⟨ad', hA', hc'⟩ := hx.cell (k := k - 1) (by omega)
        obtain rfl : ad = ad' := by injection hA'
        have hpos : decide (0 < k) = true := by simp; omega
        by_cases hle : nth l k ≤ nth l (k - 1)
        · go_wp2
          go_roundw
          case rel => exact ⟨k + 1, by omega, by go_num, (by first | exact ⟨_, rfl⟩ | exact ⟨_, (World.drewN_drewN _ _ _).symm⟩ | exact Quiet.refl _ | (simp only [World.drewN_drewN]; exact ⟨_, rfl⟩)), upTo HT.out (shapeAt_le HB.out hle)⟩
          case measure => simp [intOf]; omega
        · go_wp2
          go_ret
          exact ⟨ret_bool (isShapeB_no HL.out hlt (shapeAt_gt (by omega) (by omega))).symm, (by first | exact ⟨_, rfl⟩ | exact ⟨_, (World.drewN_drewN _ _ _).symm⟩ | exact Quiet.refl _ | (simp only [World.drewN_drewN]; exact ⟨_, rfl⟩))⟩
    · go_wp2
      go_ret
      refine ⟨ret_bool ?_, (by first | exact ⟨_, rfl⟩ | exact ⟨_, (World.drewN_drewN _ _ _).symm⟩ | exact Quiet.refl _ | (simp only [World.drewN_drewN]; exact ⟨_, rfl⟩))⟩
      rw [isShapeB_all HL.out (fun j hj => HT.out j (by omega))]
      simp
      omega

theorem rowOf_any {A : Option Addr} {n : Nat} {l : List Int} {w : World} (c : Nat) (i : Int) (hx : RI w A n l) (h0 : 0 ≤ i) (hn : n ≤ 9223372036854775807) :
    Calls Try.prog 77 #[.slice A n c, .int .i64 i] w (Gives w (.int .i64 (nth l i.toNat))) := by
  obtain ⟨k, rfl⟩ := Int.eq_ofNat_of_zero_le h0
  rw [Int.toNat_natCast]
  by_cases hlt : k < n
  · obtain ⟨ad, hA, hc⟩ := hx.cell hlt
    subst hA
    go_enter Try.func77, Try.ntmps77
    go_wp2
    go_ret
    exact ⟨rfl, (by first | exact ⟨_, rfl⟩ | exact ⟨_, (World.drewN_drewN _ _ _).symm⟩ | exact Quiet.refl _ | (simp only [World.drewN_drewN]; exact ⟨_, rfl⟩))⟩
  · have HZ := Lib.hid (nth_ge (l := l) (k := k) (by rw [hx.1]; omega))
    go_enter Try.func77, Try.ntmps77
    go_wp2
    go_ret
    exact ⟨by rw [HZ.out]; rfl, (by first | exact ⟨_, rfl⟩ | exact ⟨_, (World.drewN_drewN _ _ _).symm⟩ | exact Quiet.refl _ | (simp only [World.drewN_drewN]; exact ⟨_, rfl⟩))⟩

theorem l4At_any {A : Option Addr} {n : Nat} {l : List Int} {w : World} (c : Nat) (i : Int) (hx : RI w A n l) (h0 : 0 ≤ i) (hn : n ≤ 9223372036854775807) :
    Calls Try.prog 90 #[.slice A n c, .int .i64 i] w (Gives w (.int .i64 (nth l i.toNat))) := by
  obtain ⟨k, rfl⟩ := Int.eq_ofNat_of_zero_le h0
  rw [Int.toNat_natCast]
  by_cases hlt : k < n
  · obtain ⟨ad, hA, hc⟩ := hx.cell hlt
    subst hA
    go_enter Try.func90, Try.ntmps90
    go_wp2
    go_ret
    exact ⟨rfl, (by first | exact ⟨_, rfl⟩ | exact ⟨_, (World.drewN_drewN _ _ _).symm⟩ | exact Quiet.refl _ | (simp only [World.drewN_drewN]; exact ⟨_, rfl⟩))⟩
  · have HZ := Lib.hid (nth_ge (l := l) (k := k) (by rw [hx.1]; omega))
    go_enter Try.func90, Try.ntmps90
    go_wp2
    go_ret
    exact ⟨by rw [HZ.out]; rfl, (by first | exact ⟨_, rfl⟩ | exact ⟨_, (World.drewN_drewN _ _ _).symm⟩ | exact Quiet.refl _ | (simp only [World.drewN_drewN]; exact ⟨_, rfl⟩))⟩

theorem isBox_any {w : World} (k n : Int) : Calls Try.prog 69 #[.int .i64 k, .int .i64 n] w (Gives w (.bool (boxB k n))) := by
  have h0 : boxB k n = (inB n 1 7 && (decide (0 ≤ k) && decide (k ≤ n))) := by simp [boxB, inB]
  have H0 := Lib.hid h0
  clear h0
  rcases Bool.eq_false_or_eq_true (inB n 1 7) with h | h
  · have HH := Lib.hid h
    go_enter Try.func69, Try.ntmps69
    go_wp2_with (go_at_call 94; refine (isSize_any _).mono ?_; rintro e w' ⟨rfl, q0, rfl⟩)
    all_goals go_ret
    all_goals refine ⟨?_, (by first | exact ⟨_, rfl⟩ | exact ⟨_, (World.drewN_drewN _ _ _).symm⟩ | exact Quiet.refl _ | (simp only [World.drewN_drewN]; exact ⟨_, rfl⟩))⟩
    all_goals rw [H0.out, HH.out]
    all_goals simp
    all_goals omega
  · have HH := Lib.hid h
    go_enter Try.func69, Try.ntmps69
    go_wp2_with (go_at_call 94; refine (isSize_any _).mono ?_; rintro e w' ⟨rfl, q0, rfl⟩)
    all_goals go_ret
    all_goals refine ⟨?_, (by first | exact ⟨_, rfl⟩ | exact ⟨_, (World.drewN_drewN _ _ _).symm⟩ | exact Quiet.refl _ | (simp only [World.drewN_drewN]; exact ⟨_, rfl⟩))⟩
    all_goals rw [H0.out, HH.out]
    all_goals simp

theorem iIsInBox_any {A : Option Addr} {n0 : Nat} {l : List Int} {w : World} (c : Nat) (k n : Int) (hx : RI w A n0 l) (hn : n0 ≤ 1000000000) :
    Calls Try.prog 29 #[.slice A n0 c, .int .i64 k, .int .i64 n] w (Gives w (.bool (inBoxB l k n))) := by
  have HL := Lib.hid hx.1
  rcases Bool.eq_false_or_eq_true (boxB k n) with hb | hb
  · have HB := Lib.hid hb
    obtain ⟨⟨b1, b2⟩, b3, b4⟩ := boxB_iff.1 hb

    rcases Bool.eq_false_or_eq_true (isShapeB l) with hs | hs
    · have HS := Lib.hid hs
      by_cases hr : (n0 : Int) ≤ k
      · have HY := Lib.hid (inBoxB_yes (l := l) HB.out HS.out (by rw [HL.out]; exact hr))
        go_enter Try.func29, Try.ntmps29
        go_wp2_with (first | (go_at_call 69; refine (isBox_any _ _).mono ?_; rintro e w' ⟨rfl, q0, rfl⟩) | (go_at_call 84; refine (iIsShape_any _ (by exact hx.drewN _) hn).mono ?_; rintro e w' ⟨rfl, q0, rfl⟩) | (go_at_call 77; refine (rowOf_any _ 0 (by exact hx.drewN _) (by omega) (by omega)).mono ?_; rintro e w' ⟨rfl, q0, rfl⟩))
        go_ret
        exact ⟨ret_bool HY.out.symm, (by first | exact ⟨_, rfl⟩ | exact ⟨_, (World.drewN_drewN _ _ _).symm⟩ | exact Quiet.refl _ | (simp only [World.drewN_drewN]; exact ⟨_, rfl⟩))⟩
      · have HY := Lib.hid (inBoxB_rows (l := l) (n := n) (k := k) (by rw [HL.out]; exact hr))
        go_enter Try.func29, Try.ntmps29
        go_wp2_with (first | (go_at_call 69; refine (isBox_any _ _).mono ?_; rintro e w' ⟨rfl, q0, rfl⟩) | (go_at_call 84; refine (iIsShape_any _ (by exact hx.drewN _) hn).mono ?_; rintro e w' ⟨rfl, q0, rfl⟩) | (go_at_call 77; refine (rowOf_any _ 0 (by exact hx.drewN _) (by omega) (by omega)).mono ?_; rintro e w' ⟨rfl, q0, rfl⟩))
        go_ret
        exact ⟨ret_bool HY.out.symm, (by first | exact ⟨_, rfl⟩ | exact ⟨_, (World.drewN_drewN _ _ _).symm⟩ | exact Quiet.refl _ | (simp only [World.drewN_drewN]; exact ⟨_, rfl⟩))⟩
    · have HY := Lib.hid (inBoxB_shape (k := k) (n := n) hs)
      go_enter Try.func29, Try.ntmps29
      go_wp2_with (first | (go_at_call 69; refine (isBox_any _ _).mono ?_; rintro e w' ⟨rfl, q0, rfl⟩) | (go_at_call 84; refine (iIsShape_any _ (by exact hx.drewN _) hn).mono ?_; rintro e w' ⟨rfl, q0, rfl⟩) | (go_at_call 77; refine (rowOf_any _ 0 (by exact hx.drewN _) (by omega) (by omega)).mono ?_; rintro e w' ⟨rfl, q0, rfl⟩))
      go_ret
      exact ⟨ret_bool HY.out.symm, (by first | exact ⟨_, rfl⟩ | exact ⟨_, (World.drewN_drewN _ _ _).symm⟩ | exact Quiet.refl _ | (simp only [World.drewN_drewN]; exact ⟨_, rfl⟩))⟩
  · have HY := Lib.hid (inBoxB_box (l := l) hb)
    go_enter Try.func29, Try.ntmps29
    go_wp2_with (first | (go_at_call 69; refine (isBox_any _ _).mono ?_; rintro e w' ⟨rfl, q0, rfl⟩) | (go_at_call 84; refine (iIsShape_any _ (by exact hx.drewN _) hn).mono ?_; rintro e w' ⟨rfl, q0, rfl⟩) | (go_at_call 77; refine (rowOf_any _ 0 (by exact hx.drewN _) (by omega) (by omega)).mono ?_; rintro e w' ⟨rfl, q0, rfl⟩))
    go_ret
    exact ⟨ret_bool HY.out.symm, (by first | exact ⟨_, rfl⟩ | exact ⟨_, (World.drewN_drewN _ _ _).symm⟩ | exact Quiet.refl _ | (simp only [World.drewN_drewN]; exact ⟨_, rfl⟩))⟩

theorem l4Box_any {A : Option Addr} {n0 : Nat} {l : List Int} {w : World} (c : Nat) (k n : Int) (hx : RI w A n0 l) (hn : n0 ≤ 1000000000) :
    Calls Try.prog 66 #[.slice A n0 c, .int .i64 k, .int .i64 n] w (Gives w (.bool (inBoxB l k n))) := by
  have HL := Lib.hid hx.1
  rcases Bool.eq_false_or_eq_true (boxB k n) with hb | hb
  · have HB := Lib.hid hb
    obtain ⟨⟨b1, b2⟩, b3, b4⟩ := boxB_iff.1 hb
    have h1 : inB n 1 7 = true := inB_yes (by omega) (by omega)
    have h2 : inB k 0 n = true := inB_yes (by omega) (by omega)
    clear hb
    rcases Bool.eq_false_or_eq_true (isShapeB l) with hs | hs
    · have HS := Lib.hid hs
      by_cases hr : (n0 : Int) ≤ k
      · have HY := Lib.hid (inBoxB_yes (l := l) HB.out HS.out (by rw [HL.out]; exact hr))
        go_enter Try.func66, Try.ntmps66
        go_wp2_with (first | (go_at_call 85; refine (l1In_any _ _ _).mono ?_; rintro e w' ⟨rfl, q0, rfl⟩) | (go_at_call 92; refine (sIsShape_any _ (by exact hx.drewN _) hn).mono ?_; rintro e w' ⟨rfl, q0, rfl⟩) | (go_at_call 90; refine (l4At_any _ 0 (by exact hx.drewN _) (by omega) (by omega)).mono ?_; rintro e w' ⟨rfl, q0, rfl⟩))
        go_ret
        exact ⟨ret_bool HY.out.symm, (by first | exact ⟨_, rfl⟩ | exact ⟨_, (World.drewN_drewN _ _ _).symm⟩ | exact Quiet.refl _ | (simp only [World.drewN_drewN]; exact ⟨_, rfl⟩))⟩
      · have HY := Lib.hid (inBoxB_rows (l := l) (n := n) (k := k) (by rw [HL.out]; exact hr))
        go_enter Try.func66, Try.ntmps66
        go_wp2_with (first | (go_at_call 85; refine (l1In_any _ _ _).mono ?_; rintro e w' ⟨rfl, q0, rfl⟩) | (go_at_call 92; refine (sIsShape_any _ (by exact hx.drewN _) hn).mono ?_; rintro e w' ⟨rfl, q0, rfl⟩) | (go_at_call 90; refine (l4At_any _ 0 (by exact hx.drewN _) (by omega) (by omega)).mono ?_; rintro e w' ⟨rfl, q0, rfl⟩))
        go_ret
        exact ⟨ret_bool HY.out.symm, (by first | exact ⟨_, rfl⟩ | exact ⟨_, (World.drewN_drewN _ _ _).symm⟩ | exact Quiet.refl _ | (simp only [World.drewN_drewN]; exact ⟨_, rfl⟩))⟩
    · have HY := Lib.hid (inBoxB_shape (k := k) (n := n) hs)
      go_enter Try.func66, Try.ntmps66
      go_wp2_with (first | (go_at_call 85; refine (l1In_any _ _ _).mono ?_; rintro e w' ⟨rfl, q0, rfl⟩) | (go_at_call 92; refine (sIsShape_any _ (by exact hx.drewN _) hn).mono ?_; rintro e w' ⟨rfl, q0, rfl⟩) | (go_at_call 90; refine (l4At_any _ 0 (by exact hx.drewN _) (by omega) (by omega)).mono ?_; rintro e w' ⟨rfl, q0, rfl⟩))
      go_ret
      exact ⟨ret_bool HY.out.symm, (by first | exact ⟨_, rfl⟩ | exact ⟨_, (World.drewN_drewN _ _ _).symm⟩ | exact Quiet.refl _ | (simp only [World.drewN_drewN]; exact ⟨_, rfl⟩))⟩
  · have HY := Lib.hid (inBoxB_box (l := l) hb)
    rcases Bool.eq_false_or_eq_true (inB n 1 7) with h1 | h1
    · have h2 : inB k 0 n = false := by
        rcases Bool.eq_false_or_eq_true (inB k 0 n) with h2 | h2
        · simp [boxB, h1, h2] at hb
        · exact h2
      clear hb
      go_enter Try.func66, Try.ntmps66
      go_wp2_with (first | (go_at_call 85; refine (l1In_any _ _ _).mono ?_; rintro e w' ⟨rfl, q0, rfl⟩) | (go_at_call 92; refine (sIsShape_any _ (by exact hx.drewN _) hn).mono ?_; rintro e w' ⟨rfl, q0, rfl⟩) | (go_at_call 90; refine (l4At_any _ 0 (by exact hx.drewN _) (by omega) (by omega)).mono ?_; rintro e w' ⟨rfl, q0, rfl⟩))
      go_ret
      exact ⟨ret_bool HY.out.symm, (by first | exact ⟨_, rfl⟩ | exact ⟨_, (World.drewN_drewN _ _ _).symm⟩ | exact Quiet.refl _ | (simp only [World.drewN_drewN]; exact ⟨_, rfl⟩))⟩
    · clear hb
      go_enter Try.func66, Try.ntmps66
      go_wp2_with (first | (go_at_call 85; refine (l1In_any _ _ _).mono ?_; rintro e w' ⟨rfl, q0, rfl⟩) | (go_at_call 92; refine (sIsShape_any _ (by exact hx.drewN _) hn).mono ?_; rintro e w' ⟨rfl, q0, rfl⟩) | (go_at_call 90; refine (l4At_any _ 0 (by exact hx.drewN _) (by omega) (by omega)).mono ?_; rintro e w' ⟨rfl, q0, rfl⟩))
      go_ret
      exact ⟨ret_bool HY.out.symm, (by first | exact ⟨_, rfl⟩ | exact ⟨_, (World.drewN_drewN _ _ _).symm⟩ | exact Quiet.refl _ | (simp only [World.drewN_drewN]; exact ⟨_, rfl⟩))⟩

end Go.Proofs.Yteodckkkjhapgaa
