/- The tests: IsString, IsShape, IsInBox and what they call, of the program and of the reference. -/
import Derived.Test.YtmodpicemlkbjaaWords
namespace Go.Proofs.Ytmodpicemlkbjaa
open Go.RowKit

theorem l1In_any {w : World} (n lo hi : Int) : Calls Try.prog 77 #[.int .i64 n, .int .i64 lo, .int .i64 hi] w (Gives w (.bool (inB n lo hi))) := by
  go_enter Try.func77, Try.ntmps77
  go_wp2
  all_goals go_ret
  all_goals refine ⟨?_, Quiet.refl _⟩
  all_goals simp [inB]
  all_goals omega

theorem isSize_any {w : World} (n : Int) : Calls Try.prog 80 #[.int .i64 n] w (Gives w (.bool (inB n 1 7))) := by
  go_enter Try.func80, Try.ntmps80
  go_wp2
  all_goals go_ret
  all_goals refine ⟨?_, Quiet.refl _⟩
  all_goals simp [inB]
  all_goals omega

theorem ret_bool {a b : Bool} (h : a = b) : Ending.returned (.bool a) = .returned (.bool b) := by rw [h]

theorem iIsString_any {A : Option Addr} {n : Nat} {l : List Int} {w : World} (c : Nat) (hx : RI w A n l) (hn : n ≤ 1000000000) :
    Calls Try.prog 102 #[.slice A n c] w (Gives w (.bool (isStrB l))) := by
  have HL := Lib.hid hx.1
  go_enter Try.func102, Try.ntmps102
  go_wp2
  go_loopw [4, 7] (fun _ i wr => ∃ k : Nat, k ≤ n ∧ i = .int .i64 k ∧ Quiet w wr ∧ ∀ j, j < k → inB (nth l j) 0 1 = true) (fun _ i _ => n - (intOf i).toNat)
  case atStart => exact ⟨0, Nat.zero_le _, rfl, (by first | exact ⟨_, rfl⟩ | exact ⟨_, (World.drewN_drewN _ _ _).symm⟩ | exact Quiet.refl _ | (simp only [World.drewN_drewN]; exact ⟨_, rfl⟩)), by simp⟩
  case round =>
    obtain ⟨k, hk, rfl, ⟨q, rfl⟩, ht⟩ := hrel
    have HT := Lib.hid ht
    clear ht
    by_cases hlt : k < n
    · obtain ⟨ad, hA, hc⟩ := hx.cell hlt
      subst hA
      rcases Bool.eq_false_or_eq_true (inB (nth l k) 0 1) with hb | hb
      · have hb' : nth l k = 0 ∨ nth l k = 1 := by rw [inB_iff] at hb; omega
        have HB := Lib.hid hb
        clear hb
        rcases hb' with hb' | hb'
        all_goals
          rw [hb'] at hc
          clear hb'
          go_wp2
          go_roundw
          case rel => exact ⟨k + 1, by omega, by go_num, (by first | exact ⟨_, rfl⟩ | exact ⟨_, (World.drewN_drewN _ _ _).symm⟩ | exact Quiet.refl _ | (simp only [World.drewN_drewN]; exact ⟨_, rfl⟩)), upTo HT.out HB.out⟩
          case measure => simp [intOf]; omega
      · have HB := Lib.hid hb
        have e1 : (nth l k != 0) = true := by rw [inB_no] at hb; simp; omega
        have e2 : (nth l k != 1) = true := by rw [inB_no] at hb; simp; omega
        clear hb
        go_wp2
        go_ret
        exact ⟨ret_bool (isStrB_no HL.out hlt HB.out).symm, (by first | exact ⟨_, rfl⟩ | exact ⟨_, (World.drewN_drewN _ _ _).symm⟩ | exact Quiet.refl _ | (simp only [World.drewN_drewN]; exact ⟨_, rfl⟩))⟩
    · go_wp2_with (go_at_call 80; refine (isSize_any _).mono ?_; rintro e w' ⟨rfl, q0, rfl⟩)
      go_ret
      exact ⟨ret_bool (isStrB_all HL.out (fun j hj => HT.out j (by omega))).symm, (by first | exact ⟨_, rfl⟩ | exact ⟨_, (World.drewN_drewN _ _ _).symm⟩ | exact Quiet.refl _ | (simp only [World.drewN_drewN]; exact ⟨_, rfl⟩))⟩
end Go.Proofs.Ytmodpicemlkbjaa

/- IsShape, rowOf, isBox, IsInBox of the program and of the reference. -/
namespace Go.Proofs.Ytmodpicemlkbjaa
open Go.RowKit

theorem sIsShape_any {A : Option Addr} {n : Nat} {l : List Int} {w : World} (c : Nat) (hx : RI w A n l) (hn : n ≤ 1000000000) :
    Calls Try.prog 76 #[.slice A n c] w (Gives w (.bool (isShapeB l))) := by
  have HL := Lib.hid hx.1
  by_cases h16 : 16 < n
  · go_enter Try.func76, Try.ntmps76
    go_wp2
    go_ret
    exact ⟨ret_bool (isShapeB_len HL.out h16).symm, (by first | exact ⟨_, rfl⟩ | exact ⟨_, (World.drewN_drewN _ _ _).symm⟩ | exact Quiet.refl _ | (simp only [World.drewN_drewN]; exact ⟨_, rfl⟩))⟩
  go_enter Try.func76, Try.ntmps76
  go_wp2
  go_loopw [3] (fun i wr => ∃ k : Nat, k ≤ n ∧ i = .int .i64 k ∧ Quiet w wr ∧ ∀ j, j < k → shapeAt l j = true) (fun i _ => n - (intOf i).toNat)
  case atStart => exact ⟨0, Nat.zero_le _, rfl, (by first | exact ⟨_, rfl⟩ | exact ⟨_, (World.drewN_drewN _ _ _).symm⟩ | exact Quiet.refl _ | (simp only [World.drewN_drewN]; exact ⟨_, rfl⟩)), by simp⟩
  case round =>
    obtain ⟨k, hk, rfl, ⟨q, rfl⟩, ht⟩ := hrel
    have HT := Lib.hid ht
    clear ht
    by_cases hlt : k < n
    · obtain ⟨ad, hA, hc⟩ := hx.cell hlt
      subst hA
      rcases Bool.eq_false_or_eq_true (inB (nth l k) 1 16) with hb | hb
      · by_cases hk0 : k = 0
        · have hpos : decide (0 < k) = false := by simp; omega
          have hc0 : w.cell? ad = some (.int .i64 (nth l k)) := by rw [← hc, hk0, add_zero_]
          have HK := Lib.hid hk0
          clear hk0
          go_wp2_with fail
          go_quiet ((go_at_call 77; first | exact qcall (l1In_any _ _ _) | exact qcall_add (l1In_any _ _ _)))
          go_wp2
          go_roundw
          case rel => exact ⟨k + 1, by omega, by go_num, (by first | exact ⟨_, rfl⟩ | exact ⟨_, (World.drewN_drewN _ _ _).symm⟩ | exact Quiet.refl _ | (simp only [World.drewN_drewN]; exact ⟨_, rfl⟩)), upTo HT.out (shapeAt_zero HK.out hb)⟩
          case measure => simp [intOf]; omega
        · obtain ⟨ad', hA', hc'⟩ := hx.cell (k := k - 1) (by omega)
          obtain rfl : ad = ad' := by injection hA'
          have hpos : decide (0 < k) = true := by simp; omega
          by_cases hle : nth l k ≤ nth l (k - 1)
          · go_wp2_with fail
            go_quiet ((go_at_call 77; first | exact qcall (l1In_any _ _ _) | exact qcall_add (l1In_any _ _ _)))
            go_wp2
            go_roundw
            case rel => exact ⟨k + 1, by omega, by go_num, (by first | exact ⟨_, rfl⟩ | exact ⟨_, (World.drewN_drewN _ _ _).symm⟩ | exact Quiet.refl _ | (simp only [World.drewN_drewN]; exact ⟨_, rfl⟩)), upTo HT.out (shapeAt_le hb hle)⟩
            case measure => simp [intOf]; omega
          · go_wp2_with fail
            go_quiet ((go_at_call 77; first | exact qcall (l1In_any _ _ _) | exact qcall_add (l1In_any _ _ _)))
            go_wp2
            go_ret
            exact ⟨ret_bool (isShapeB_no HL.out hlt (shapeAt_gt (by omega) (by omega))).symm, (by first | exact ⟨_, rfl⟩ | exact ⟨_, (World.drewN_drewN _ _ _).symm⟩ | exact Quiet.refl _ | (simp only [World.drewN_drewN]; exact ⟨_, rfl⟩))⟩
      · go_wp2_with fail
        go_quiet ((go_at_call 77; first | exact qcall (l1In_any _ _ _) | exact qcall_add (l1In_any _ _ _)))
        go_wp2
        go_ret
        exact ⟨ret_bool (isShapeB_no HL.out hlt (shapeAt_in hb)).symm, (by first | exact ⟨_, rfl⟩ | exact ⟨_, (World.drewN_drewN _ _ _).symm⟩ | exact Quiet.refl _ | (simp only [World.drewN_drewN]; exact ⟨_, rfl⟩))⟩
    · go_wp2
      go_ret
      exact ⟨ret_bool (((isShapeB_all HL.out (fun j hj => HT.out j (by omega))).trans (decide_eq_true (by omega))).symm), (by first | exact ⟨_, rfl⟩ | exact ⟨_, (World.drewN_drewN _ _ _).symm⟩ | exact Quiet.refl _ | (simp only [World.drewN_drewN]; exact ⟨_, rfl⟩))⟩

theorem iIsShape_any {A : Option Addr} {n : Nat} {l : List Int} {w : World} (c : Nat) (hx : RI w A n l) (hn : n ≤ 1000000000) :
    Calls Try.prog 79 #[.slice A n c] w (Gives w (.bool (isShapeB l))) := by
  have HL := Lib.hid hx.1
  go_enter Try.func79, Try.ntmps79
  go_wp2
  go_loopw [3, 4, 7] (fun _ _ i wr => ∃ k : Nat, k ≤ n ∧ i = .int .i64 k ∧ Quiet w wr ∧ ∀ j, j < k → shapeAt l j = true) (fun _ _ i _ => n - (intOf i).toNat)
  case atStart => exact ⟨0, Nat.zero_le _, rfl, (by first | exact ⟨_, rfl⟩ | exact ⟨_, (World.drewN_drewN _ _ _).symm⟩ | exact Quiet.refl _ | (simp only [World.drewN_drewN]; exact ⟨_, rfl⟩)), by simp⟩
  case round =>
    obtain ⟨k, hk, rfl, ⟨q, rfl⟩, ht⟩ := hrel
    have HT := Lib.hid ht
    clear ht
    by_cases hlt : k < n
    · obtain ⟨ad, hA, hc⟩ := hx.cell hlt
      subst hA
      by_cases h1 : nth l k < 1
      · go_wp2
        go_ret
        exact ⟨ret_bool (isShapeB_no HL.out hlt (shapeAt_in (inB_low h1))).symm, (by first | exact ⟨_, rfl⟩ | exact ⟨_, (World.drewN_drewN _ _ _).symm⟩ | exact Quiet.refl _ | (simp only [World.drewN_drewN]; exact ⟨_, rfl⟩))⟩
      by_cases h2 : nth l k > 16
      · go_wp2
        go_ret
        exact ⟨ret_bool (isShapeB_no HL.out hlt (shapeAt_in (inB_high h2))).symm, (by first | exact ⟨_, rfl⟩ | exact ⟨_, (World.drewN_drewN _ _ _).symm⟩ | exact Quiet.refl _ | (simp only [World.drewN_drewN]; exact ⟨_, rfl⟩))⟩
      have HB := Lib.hid (inB_yes (n := nth l k) (lo := 1) (hi := 16) (by omega) (by omega))
      by_cases hk0 : k = 0
      · have hpos : decide (0 < k) = false := by simp; omega
        have hc0 : w.cell? ad = some (.int .i64 (nth l k)) := by rw [← hc, hk0, add_zero_]
        have HK := Lib.hid hk0
        clear hk0
        go_wp2
        go_roundw
        case rel => exact ⟨k + 1, by omega, by go_num, (by first | exact ⟨_, rfl⟩ | exact ⟨_, (World.drewN_drewN _ _ _).symm⟩ | exact Quiet.refl _ | (simp only [World.drewN_drewN]; exact ⟨_, rfl⟩)), upTo HT.out (shapeAt_zero HK.out HB.out)⟩
        case measure => simp [intOf]; omega
      · obtain ⟨ad', hA', hc'⟩ := hx.cell (k := k - 1) (by omega)
        obtain rfl : ad = ad' := by injection hA'
        have hpos : decide (0 < k) = true := by simp; omega
        by_cases hle : nth l k ≤ nth l (k - 1)
        · go_wp2
          go_roundw
          case rel => exact ⟨k + 1, by omega, by go_num, (by first | exact ⟨_, rfl⟩ | exact ⟨_, (World.drewN_drewN _ _ _).symm⟩ | exact Quiet.refl _ | (simp only [World.drewN_drewN]; exact ⟨_, rfl⟩)), upTo HT.out (shapeAt_le HB.out hle)⟩
          case measure => simp [intOf]; omega
        · go_wp2
          go_ret
          exact ⟨ret_bool (isShapeB_no HL.out hlt (shapeAt_gt (by omega) (by omega))).symm, (by first | exact ⟨_, rfl⟩ | exact ⟨_, (World.drewN_drewN _ _ _).symm⟩ | exact Quiet.refl _ | (simp only [World.drewN_drewN]; exact ⟨_, rfl⟩))⟩
    · go_wp2
      go_ret
      refine ⟨ret_bool ?_, (by first | exact ⟨_, rfl⟩ | exact ⟨_, (World.drewN_drewN _ _ _).symm⟩ | exact Quiet.refl _ | (simp only [World.drewN_drewN]; exact ⟨_, rfl⟩))⟩
      rw [isShapeB_all HL.out (fun j hj => HT.out j (by omega))]
      simp
      omega

theorem rowOf_any {A : Option Addr} {n : Nat} {l : List Int} {w : World} (c : Nat) (i : Int) (hx : RI w A n l) (h0 : 0 ≤ i) (hn : n ≤ 9223372036854775807) :
    Calls Try.prog 73 #[.slice A n c, .int .i64 i] w (Gives w (.int .i64 (nth l i.toNat))) := by
  obtain ⟨k, rfl⟩ := Int.eq_ofNat_of_zero_le h0
  rw [Int.toNat_natCast]
  by_cases hlt : k < n
  · obtain ⟨ad, hA, hc⟩ := hx.cell hlt
    subst hA
    go_enter Try.func73, Try.ntmps73
    go_wp2
    go_ret
    exact ⟨rfl, (by first | exact ⟨_, rfl⟩ | exact ⟨_, (World.drewN_drewN _ _ _).symm⟩ | exact Quiet.refl _ | (simp only [World.drewN_drewN]; exact ⟨_, rfl⟩))⟩
  · have HZ := Lib.hid (nth_ge (l := l) (k := k) (by rw [hx.1]; omega))
    go_enter Try.func73, Try.ntmps73
    go_wp2
    go_ret
    exact ⟨by rw [HZ.out]; rfl, (by first | exact ⟨_, rfl⟩ | exact ⟨_, (World.drewN_drewN _ _ _).symm⟩ | exact Quiet.refl _ | (simp only [World.drewN_drewN]; exact ⟨_, rfl⟩))⟩

theorem l4At_any {A : Option Addr} {n : Nat} {l : List Int} {w : World} (c : Nat) (i : Int) (hx : RI w A n l) (h0 : 0 ≤ i) (hn : n ≤ 9223372036854775807) :
    Calls Try.prog 88 #[.slice A n c, .int .i64 i] w (Gives w (.int .i64 (nth l i.toNat))) := by
  obtain ⟨k, rfl⟩ := Int.eq_ofNat_of_zero_le h0
  rw [Int.toNat_natCast]
  by_cases hlt : k < n
  · obtain ⟨ad, hA, hc⟩ := hx.cell hlt
    subst hA
    go_enter Try.func88, Try.ntmps88
    go_wp2
    go_ret
    exact ⟨rfl, (by first | exact ⟨_, rfl⟩ | exact ⟨_, (World.drewN_drewN _ _ _).symm⟩ | exact Quiet.refl _ | (simp only [World.drewN_drewN]; exact ⟨_, rfl⟩))⟩
  · have HZ := Lib.hid (nth_ge (l := l) (k := k) (by rw [hx.1]; omega))
    go_enter Try.func88, Try.ntmps88
    go_wp2
    go_ret
    exact ⟨by rw [HZ.out]; rfl, (by first | exact ⟨_, rfl⟩ | exact ⟨_, (World.drewN_drewN _ _ _).symm⟩ | exact Quiet.refl _ | (simp only [World.drewN_drewN]; exact ⟨_, rfl⟩))⟩

theorem isBox_any {w : World} (k n : Int) : Calls Try.prog 62 #[.int .i64 k, .int .i64 n] w (Gives w (.bool (boxB k n))) := by
  have h0 : boxB k n = (inB n 1 7 && (decide (0 ≤ k) && decide (k ≤ n))) := by simp [boxB, inB]
  have H0 := Lib.hid h0
  clear h0
  rcases Bool.eq_false_or_eq_true (inB n 1 7) with h | h
  · have HH := Lib.hid h
    go_enter Try.func62, Try.ntmps62
    go_wp2_with (go_at_call 80; refine (isSize_any _).mono ?_; rintro e w' ⟨rfl, q0, rfl⟩)
    all_goals go_ret
    all_goals refine ⟨?_, (by first | exact ⟨_, rfl⟩ | exact ⟨_, (World.drewN_drewN _ _ _).symm⟩ | exact Quiet.refl _ | (simp only [World.drewN_drewN]; exact ⟨_, rfl⟩))⟩
    all_goals rw [H0.out, HH.out]
    all_goals simp
    all_goals omega
  · have HH := Lib.hid h
    go_enter Try.func62, Try.ntmps62
    go_wp2_with (go_at_call 80; refine (isSize_any _).mono ?_; rintro e w' ⟨rfl, q0, rfl⟩)
    all_goals go_ret
    all_goals refine ⟨?_, (by first | exact ⟨_, rfl⟩ | exact ⟨_, (World.drewN_drewN _ _ _).symm⟩ | exact Quiet.refl _ | (simp only [World.drewN_drewN]; exact ⟨_, rfl⟩))⟩
    all_goals rw [H0.out, HH.out]
    all_goals simp

theorem iIsInBox_any {A : Option Addr} {n0 : Nat} {l : List Int} {w : World} (c : Nat) (k n : Int) (hx : RI w A n0 l) (hn : n0 ≤ 1000000000) :
    Calls Try.prog 49 #[.slice A n0 c, .int .i64 k, .int .i64 n] w (Gives w (.bool (inBoxB l k n))) := by
  have HL := Lib.hid hx.1
  rcases Bool.eq_false_or_eq_true (boxB k n) with hb | hb
  · have HB := Lib.hid hb
    obtain ⟨⟨b1, b2⟩, b3, b4⟩ := boxB_iff.1 hb

    rcases Bool.eq_false_or_eq_true (isShapeB l) with hs | hs
    · have HS := Lib.hid hs
      by_cases hr : (n0 : Int) ≤ k
      · have HY := Lib.hid (inBoxB_yes (l := l) HB.out HS.out (by rw [HL.out]; exact hr))
        go_enter Try.func49, Try.ntmps49
        go_wp2_with (first | (go_at_call 62; refine (isBox_any _ _).mono ?_; rintro e w' ⟨rfl, q0, rfl⟩) | (go_at_call 79; refine (iIsShape_any _ (by exact hx.drewN _) hn).mono ?_; rintro e w' ⟨rfl, q0, rfl⟩) | (go_at_call 73; refine (rowOf_any _ 0 (by exact hx.drewN _) (by omega) (by omega)).mono ?_; rintro e w' ⟨rfl, q0, rfl⟩))
        go_ret
        exact ⟨ret_bool HY.out.symm, (by first | exact ⟨_, rfl⟩ | exact ⟨_, (World.drewN_drewN _ _ _).symm⟩ | exact Quiet.refl _ | (simp only [World.drewN_drewN]; exact ⟨_, rfl⟩))⟩
      · have HY := Lib.hid (inBoxB_rows (l := l) (n := n) (k := k) (by rw [HL.out]; exact hr))
        go_enter Try.func49, Try.ntmps49
        go_wp2_with (first | (go_at_call 62; refine (isBox_any _ _).mono ?_; rintro e w' ⟨rfl, q0, rfl⟩) | (go_at_call 79; refine (iIsShape_any _ (by exact hx.drewN _) hn).mono ?_; rintro e w' ⟨rfl, q0, rfl⟩) | (go_at_call 73; refine (rowOf_any _ 0 (by exact hx.drewN _) (by omega) (by omega)).mono ?_; rintro e w' ⟨rfl, q0, rfl⟩))
        go_ret
        exact ⟨ret_bool HY.out.symm, (by first | exact ⟨_, rfl⟩ | exact ⟨_, (World.drewN_drewN _ _ _).symm⟩ | exact Quiet.refl _ | (simp only [World.drewN_drewN]; exact ⟨_, rfl⟩))⟩
    · have HY := Lib.hid (inBoxB_shape (k := k) (n := n) hs)
      go_enter Try.func49, Try.ntmps49
      go_wp2_with (first | (go_at_call 62; refine (isBox_any _ _).mono ?_; rintro e w' ⟨rfl, q0, rfl⟩) | (go_at_call 79; refine (iIsShape_any _ (by exact hx.drewN _) hn).mono ?_; rintro e w' ⟨rfl, q0, rfl⟩) | (go_at_call 73; refine (rowOf_any _ 0 (by exact hx.drewN _) (by omega) (by omega)).mono ?_; rintro e w' ⟨rfl, q0, rfl⟩))
      go_ret
      exact ⟨ret_bool HY.out.symm, (by first | exact ⟨_, rfl⟩ | exact ⟨_, (World.drewN_drewN _ _ _).symm⟩ | exact Quiet.refl _ | (simp only [World.drewN_drewN]; exact ⟨_, rfl⟩))⟩
  · have HY := Lib.hid (inBoxB_box (l := l) hb)
    go_enter Try.func49, Try.ntmps49
    go_wp2_with (first | (go_at_call 62; refine (isBox_any _ _).mono ?_; rintro e w' ⟨rfl, q0, rfl⟩) | (go_at_call 79; refine (iIsShape_any _ (by exact hx.drewN _) hn).mono ?_; rintro e w' ⟨rfl, q0, rfl⟩) | (go_at_call 73; refine (rowOf_any _ 0 (by exact hx.drewN _) (by omega) (by omega)).mono ?_; rintro e w' ⟨rfl, q0, rfl⟩))
    go_ret
    exact ⟨ret_bool HY.out.symm, (by first | exact ⟨_, rfl⟩ | exact ⟨_, (World.drewN_drewN _ _ _).symm⟩ | exact Quiet.refl _ | (simp only [World.drewN_drewN]; exact ⟨_, rfl⟩))⟩

theorem l4Box_any {A : Option Addr} {n0 : Nat} {l : List Int} {w : World} (c : Nat) (k n : Int) (hx : RI w A n0 l) (hn : n0 ≤ 1000000000) :
    Calls Try.prog 57 #[.slice A n0 c, .int .i64 k, .int .i64 n] w (Gives w (.bool (inBoxB l k n))) := by
  have HL := Lib.hid hx.1
  rcases Bool.eq_false_or_eq_true (boxB k n) with hb | hb
  · have HB := Lib.hid hb
    obtain ⟨⟨b1, b2⟩, b3, b4⟩ := boxB_iff.1 hb
    have h1 : inB n 1 7 = true := inB_yes (by omega) (by omega)
    have h2 : inB k 0 n = true := inB_yes (by omega) (by omega)
    clear hb
    rcases Bool.eq_false_or_eq_true (isShapeB l) with hs | hs
    · have HS := Lib.hid hs
      by_cases hr : (n0 : Int) ≤ k
      · have HY := Lib.hid (inBoxB_yes (l := l) HB.out HS.out (by rw [HL.out]; exact hr))
        go_enter Try.func57, Try.ntmps57
        go_wp2_with (first | (go_at_call 77; refine (l1In_any _ _ _).mono ?_; rintro e w' ⟨rfl, q0, rfl⟩) | (go_at_call 76; refine (sIsShape_any _ (by exact hx.drewN _) hn).mono ?_; rintro e w' ⟨rfl, q0, rfl⟩) | (go_at_call 88; refine (l4At_any _ 0 (by exact hx.drewN _) (by omega) (by omega)).mono ?_; rintro e w' ⟨rfl, q0, rfl⟩))
        go_ret
        exact ⟨ret_bool HY.out.symm, (by first | exact ⟨_, rfl⟩ | exact ⟨_, (World.drewN_drewN _ _ _).symm⟩ | exact Quiet.refl _ | (simp only [World.drewN_drewN]; exact ⟨_, rfl⟩))⟩
      · have HY := Lib.hid (inBoxB_rows (l := l) (n := n) (k := k) (by rw [HL.out]; exact hr))
        go_enter Try.func57, Try.ntmps57
        go_wp2_with (first | (go_at_call 77; refine (l1In_any _ _ _).mono ?_; rintro e w' ⟨rfl, q0, rfl⟩) | (go_at_call 76; refine (sIsShape_any _ (by exact hx.drewN _) hn).mono ?_; rintro e w' ⟨rfl, q0, rfl⟩) | (go_at_call 88; refine (l4At_any _ 0 (by exact hx.drewN _) (by omega) (by omega)).mono ?_; rintro e w' ⟨rfl, q0, rfl⟩))
        go_ret
        exact ⟨ret_bool HY.out.symm, (by first | exact ⟨_, rfl⟩ | exact ⟨_, (World.drewN_drewN _ _ _).symm⟩ | exact Quiet.refl _ | (simp only [World.drewN_drewN]; exact ⟨_, rfl⟩))⟩
    · have HY := Lib.hid (inBoxB_shape (k := k) (n := n) hs)
      go_enter Try.func57, Try.ntmps57
      go_wp2_with (first | (go_at_call 77; refine (l1In_any _ _ _).mono ?_; rintro e w' ⟨rfl, q0, rfl⟩) | (go_at_call 76; refine (sIsShape_any _ (by exact hx.drewN _) hn).mono ?_; rintro e w' ⟨rfl, q0, rfl⟩) | (go_at_call 88; refine (l4At_any _ 0 (by exact hx.drewN _) (by omega) (by omega)).mono ?_; rintro e w' ⟨rfl, q0, rfl⟩))
      go_ret
      exact ⟨ret_bool HY.out.symm, (by first | exact ⟨_, rfl⟩ | exact ⟨_, (World.drewN_drewN _ _ _).symm⟩ | exact Quiet.refl _ | (simp only [World.drewN_drewN]; exact ⟨_, rfl⟩))⟩
  · have HY := Lib.hid (inBoxB_box (l := l) hb)
    rcases Bool.eq_false_or_eq_true (inB n 1 7) with h1 | h1
    · have h2 : inB k 0 n = false := by
        rcases Bool.eq_false_or_eq_true (inB k 0 n) with h2 | h2
        · simp [boxB, h1, h2] at hb
        · exact h2
      clear hb
      go_enter Try.func57, Try.ntmps57
      go_wp2_with (first | (go_at_call 77; refine (l1In_any _ _ _).mono ?_; rintro e w' ⟨rfl, q0, rfl⟩) | (go_at_call 76; refine (sIsShape_any _ (by exact hx.drewN _) hn).mono ?_; rintro e w' ⟨rfl, q0, rfl⟩) | (go_at_call 88; refine (l4At_any _ 0 (by exact hx.drewN _) (by omega) (by omega)).mono ?_; rintro e w' ⟨rfl, q0, rfl⟩))
      go_ret
      exact ⟨ret_bool HY.out.symm, (by first | exact ⟨_, rfl⟩ | exact ⟨_, (World.drewN_drewN _ _ _).symm⟩ | exact Quiet.refl _ | (simp only [World.drewN_drewN]; exact ⟨_, rfl⟩))⟩
    · clear hb
      go_enter Try.func57, Try.ntmps57
      go_wp2_with (first | (go_at_call 77; refine (l1In_any _ _ _).mono ?_; rintro e w' ⟨rfl, q0, rfl⟩) | (go_at_call 76; refine (sIsShape_any _ (by exact hx.drewN _) hn).mono ?_; rintro e w' ⟨rfl, q0, rfl⟩) | (go_at_call 88; refine (l4At_any _ 0 (by exact hx.drewN _) (by omega) (by omega)).mono ?_; rintro e w' ⟨rfl, q0, rfl⟩))
      go_ret
      exact ⟨ret_bool HY.out.symm, (by first | exact ⟨_, rfl⟩ | exact ⟨_, (World.drewN_drewN _ _ _).symm⟩ | exact Quiet.refl _ | (simp only [World.drewN_drewN]; exact ⟨_, rfl⟩))⟩

end Go.Proofs.Ytmodpicemlkbjaa

/- Lists without the zeros at their end; copies: shortened, shapeOfRows of the program; l1Ints, l4Bare of the reference. -/
namespace Go.Proofs.Ytmodpicemlkbjaa
open Go.RowKit

theorem l1Ints_any {A : Option Addr} {n : Nat} {l : List Int} {w : World} (c : Nat) (hx : RI w A n l) (hn : n ≤ 1000000000) :
    Calls Try.prog 104 #[.slice A n c] w (Makes w l) := by
  have HL := Lib.hid hx.1
  go_enter Try.func104, Try.ntmps104
  go_wp2_with (at_builtin; refine wpAppI rfl _ _ rfl w.heap.size (.slice (some ⟨w.heap.size, 0, none⟩) 0 0) [] l A n c rfl rfl (by exact OI.lit _ _ [] 0 rfl (Nat.le_refl _) (by simp)) (by exact hx.alloc _) (by simp; omega) (by simp) ?_; intro v' w' h1 h2 h3)
  go_ret
  exact Makes.of (by simpa using h1) (((Below.refl _ _).alloc (Nat.le_refl _) _).grown h2 (by simp) (by simp [Value.ownBlock])) (by rw [HL.out]; omega)

theorem shortened_any {A : Option Addr} {n : Nat} {l : List Int} {w : World} (c : Nat) (hx : RI w A n l) (hn : n ≤ 1000000000) (hc : n ≤ c) :
    Calls Try.prog 116 #[.slice A n c] w (Gives w (.slice A (bareLen l n) c)) := by
  have HL := Lib.hid hx.1
  go_enter Try.func116, Try.ntmps116
  go_wp2
  go_loopw [3] (fun i wr => ∃ k : Nat, k ≤ n ∧ i = .int .i64 k ∧ Quiet w wr ∧ Hid (bareLen l k = bareLen l n)) (fun i _ => (intOf i).toNat)
  case atStart => exact ⟨n, Nat.le_refl _, rfl, (by first | exact ⟨_, rfl⟩ | exact ⟨_, (World.drewN_drewN _ _ _).symm⟩ | exact Quiet.refl _ | (simp only [World.drewN_drewN]; exact ⟨_, rfl⟩)), rfl⟩
  case round =>
    obtain ⟨k, hk, rfl, ⟨q, rfl⟩, HT⟩ := hrel
    by_cases hlt : 0 < k
    · obtain ⟨ad, hA, hc⟩ := hx.cell (k := k - 1) (by omega)
      subst hA
      by_cases h0 : nth l (k - 1) = 0
      · have HZ := Lib.hid h0
        rw [h0] at hc
        clear h0
        go_wp2
        go_roundw
        case rel => exact ⟨k - 1, by omega, by go_num, (by first | exact ⟨_, rfl⟩ | exact ⟨_, (World.drewN_drewN _ _ _).symm⟩ | exact Quiet.refl _ | (simp only [World.drewN_drewN]; exact ⟨_, rfl⟩)), (bareLen_zero hlt HZ.out).trans HT.out⟩
        case measure => simp [intOf]; omega
      · have HZ := Lib.hid h0
        have hz : (nth l (k - 1) == 0) = false := by simpa using h0
        clear h0
        have HK := Lib.hid (bareLen_stop hlt HZ.out)
        go_wp2
        go_ret
        exact ⟨by rw [← HT.out, HK.out]; rfl, (by first | exact ⟨_, rfl⟩ | exact ⟨_, (World.drewN_drewN _ _ _).symm⟩ | exact Quiet.refl _ | (simp only [World.drewN_drewN]; exact ⟨_, rfl⟩))⟩
    · have HK := Lib.hid (show k = 0 by omega)
      go_wp2
      go_ret
      exact ⟨by rw [← HT.out, HK.out]; rfl, (by first | exact ⟨_, rfl⟩ | exact ⟨_, (World.drewN_drewN _ _ _).symm⟩ | exact Quiet.refl _ | (simp only [World.drewN_drewN]; exact ⟨_, rfl⟩))⟩

theorem l4Bare_any {A : Option Addr} {n : Nat} {l : List Int} {w : World} (c : Nat) (hx : RI w A n l) (hn : n ≤ 1000000000) (hc : n ≤ c) :
    Calls Try.prog 105 #[.slice A n c] w (Makes w (bare l)) := by
  have HL := Lib.hid hx.1
  go_enter Try.func105, Try.ntmps105
  go_wp2
  go_loopw [3] (fun i wr => ∃ k : Nat, k ≤ n ∧ i = .int .i64 k ∧ Quiet w wr ∧ Hid (bareLen l k = bareLen l n)) (fun i _ => (intOf i).toNat)
  case atStart => exact ⟨n, Nat.le_refl _, rfl, (by first | exact ⟨_, rfl⟩ | exact ⟨_, (World.drewN_drewN _ _ _).symm⟩ | exact Quiet.refl _ | (simp only [World.drewN_drewN]; exact ⟨_, rfl⟩)), rfl⟩
  case round =>
    obtain ⟨k, hk, rfl, ⟨q, rfl⟩, HT⟩ := hrel
    by_cases hlt : 0 < k
    · obtain ⟨ad, hA, hc⟩ := hx.cell (k := k - 1) (by omega)
      subst hA
      by_cases h0 : nth l (k - 1) = 0
      · have HZ := Lib.hid h0
        rw [h0] at hc
        clear h0
        go_wp2
        go_roundw
        case rel => exact ⟨k - 1, by omega, by go_num, (by first | exact ⟨_, rfl⟩ | exact ⟨_, (World.drewN_drewN _ _ _).symm⟩ | exact Quiet.refl _ | (simp only [World.drewN_drewN]; exact ⟨_, rfl⟩)), (bareLen_zero hlt HZ.out).trans HT.out⟩
        case measure => simp [intOf]; omega
      · have HZ := Lib.hid h0
        have hz : (nth l (k - 1) == 0) = false := by simpa using h0
        clear h0
        have HK := Lib.hid (bareLen_stop hlt HZ.out)
        go_wp2_with fail
        refine (l1Ints_any _ ((hx.drewN _).take hk) (by omega)).mono ?_
        rintro e w1 ⟨A1, n1, c1, rfl, o1, r1, cp1, b1⟩
        go_wp2
        go_ret
        have e1 : l.take k = bare l := by unfold bare; rw [HL.out, ← HT.out, HK.out]
        rw [e1] at o1 r1
        exact ⟨A1, n1, c1, rfl, o1, r1, cp1, bnext (Quiet.below ⟨_, rfl⟩) b1 (Nat.le_refl _)⟩
    · obtain rfl : k = 0 := by omega
      go_wp2_with fail
      refine (l1Ints_any _ ((hx.drewN _).take hk) (by omega)).mono ?_
      rintro e w1 ⟨A1, n1, c1, rfl, o1, r1, cp1, b1⟩
      go_wp2
      go_ret
      have e1 : l.take 0 = bare l := by unfold bare; rw [HL.out, ← HT.out]; rfl
      rw [e1] at o1 r1
      exact ⟨A1, n1, c1, rfl, o1, r1, cp1, bnext (Quiet.below ⟨_, rfl⟩) b1 (Nat.le_refl _)⟩

theorem shapeOfRows_any {A : Option Addr} {n : Nat} {l : List Int} {w : World} (c : Nat) (hx : RI w A n l) (hn : n ≤ 1000000000) (hc : n ≤ c) :
    Calls Try.prog 74 #[.slice A n c] w (Gives w (.slice A (bareLen l n) c)) := by
  go_enter Try.func74, Try.ntmps74
  go_wp2_with (go_at_call 116; refine (shortened_any _ hx hn hc).mono ?_; rintro e w' ⟨rfl, q0, rfl⟩)
  go_ret
  exact ⟨rfl, (by first | exact ⟨_, rfl⟩ | exact ⟨_, (World.drewN_drewN _ _ _).symm⟩ | exact Quiet.refl _ | (simp only [World.drewN_drewN]; exact ⟨_, rfl⟩))⟩
end Go.Proofs.Ytmodpicemlkbjaa
