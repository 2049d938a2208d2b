/- The tests: IsString, IsShape, IsInBox and what they call, of the program and of the reference. -/
import Derived.Test.YtgbojgmmingfdaaWords
namespace Go.Proofs.Ytgbojgmmingfdaa
open Go.RowKit

theorem l1In_any {w : World} (n lo hi : Int) : Calls Try.prog 59 #[.int .i64 n, .int .i64 lo, .int .i64 hi] w (Gives w (.bool (inB n lo hi))) := by
  go_enter Try.func59, Try.ntmps59
  go_wp2
  all_goals go_ret
  all_goals refine ⟨?_, Quiet.refl _⟩
  all_goals simp [inB]
  all_goals omega

theorem isSize_any {w : World} (n : Int) : Calls Try.prog 159 #[.int .i64 n] w (Gives w (.bool (inB n 1 7))) := by
  go_enter Try.func159, Try.ntmps159
  go_wp2
  all_goals go_ret
  all_goals refine ⟨?_, Quiet.refl _⟩
  all_goals simp [inB]
  all_goals omega

theorem ret_bool {a b : Bool} (h : a = b) : Ending.returned (.bool a) = .returned (.bool b) := by rw [h]

end Go.Proofs.Ytgbojgmmingfdaa

/- IsShape, rowOf, isBox, IsInBox of the program and of the reference. -/
namespace Go.Proofs.Ytgbojgmmingfdaa
open Go.RowKit

theorem sIsShape_any {A : Option Addr} {n : Nat} {l : List Int} {w : World} (c : Nat) (hx : RI w A n l) (hn : n ≤ 1000000000) :
    Calls Try.prog 57 #[.slice A n c] w (Gives w (.bool (isShapeB l))) := by
  have HL := Lib.hid hx.1
  by_cases h16 : 16 < n
  · go_enter Try.func57, Try.ntmps57
    go_wp2
    go_ret
    exact ⟨ret_bool (isShapeB_len HL.out h16).symm, (by first | exact ⟨_, rfl⟩ | exact ⟨_, (World.drewN_drewN _ _ _).symm⟩ | exact Quiet.refl _ | (simp only [World.drewN_drewN]; exact ⟨_, rfl⟩))⟩
  go_enter Try.func57, Try.ntmps57
  go_wp2
  go_loopw [3] (fun i wr => ∃ k : Nat, k ≤ n ∧ i = .int .i64 k ∧ Quiet w wr ∧ ∀ j, j < k → shapeAt l j = true) (fun i _ => n - (intOf i).toNat)
  case atStart => exact ⟨0, Nat.zero_le _, rfl, (by first | exact ⟨_, rfl⟩ | exact ⟨_, (World.drewN_drewN _ _ _).symm⟩ | exact Quiet.refl _ | (simp only [World.drewN_drewN]; exact ⟨_, rfl⟩)), by simp⟩
  case round =>
    obtain ⟨k, hk, rfl, ⟨q, rfl⟩, ht⟩ := hrel
    have HT := Lib.hid ht
    clear ht
    by_cases hlt : k < n
    · obtain ⟨ad, hA, hc⟩ := hx.cell hlt
      subst hA
      rcases Bool.eq_false_or_eq_true (inB (nth l k) 1 16) with hb | hb
      · by_cases hk0 : k = 0
        · have hpos : decide (0 < k) = false := by simp; omega
          have hc0 : w.cell? ad = some (.int .i64 (nth l k)) := by rw [← hc, hk0, add_zero_]
          have HK := Lib.hid hk0
          clear hk0
          go_wp2_with fail
          go_quiet ((go_at_call 59; first | exact qcall (l1In_any _ _ _) | exact qcall_add (l1In_any _ _ _)))
          go_wp2
          go_roundw
          case rel => exact ⟨k + 1, by omega, by go_num, (by first | exact ⟨_, rfl⟩ | exact ⟨_, (World.drewN_drewN _ _ _).symm⟩ | exact Quiet.refl _ | (simp only [World.drewN_drewN]; exact ⟨_, rfl⟩)), upTo HT.out (shapeAt_zero HK.out hb)⟩
          case measure => simp [intOf]; omega
        · obtain ⟨ad', hA', hc'⟩ := hx.cell (k := k - 1) (by omega)
          obtain rfl : ad = ad' := by injection hA'
          have hpos : decide (0 < k) = true := by simp; omega
          by_cases hle : nth l k ≤ nth l (k - 1)
          · go_wp2_with fail
            go_quiet ((go_at_call 59; first | exact qcall (l1In_any _ _ _) | exact qcall_add (l1In_any _ _ _)))
            go_wp2
            go_roundw
            case rel => exact ⟨k + 1, by omega, by go_num, (by first | exact ⟨_, rfl⟩ | exact ⟨_, (World.drewN_drewN _ _ _).symm⟩ | exact Quiet.refl _ | (simp only [World.drewN_drewN]; exact ⟨_, rfl⟩)), upTo HT.out (shapeAt_le hb hle)⟩
            case measure => simp [intOf]; omega
          · go_wp2_with fail
            go_quiet ((go_at_call 59; first | exact qcall (l1In_any _ _ _) | exact qcall_add (l1In_any _ _ _)))
            go_wp2
            go_ret
            exact ⟨ret_bool (isShapeB_no HL.out hlt (shapeAt_gt (by omega) (by omega))).symm, (by first | exact ⟨_, rfl⟩ | exact ⟨_, (World.drewN_drewN _ _ _).symm⟩ | exact Quiet.refl _ | (simp only [World.drewN_drewN]; exact ⟨_, rfl⟩))⟩
      · go_wp2_with fail
        go_quiet ((go_at_call 59; first | exact qcall (l1In_any _ _ _) | exact qcall_add (l1In_any _ _ _)))
        go_wp2
        go_ret
        exact ⟨ret_bool (isShapeB_no HL.out hlt (shapeAt_in hb)).symm, (by first | exact ⟨_, rfl⟩ | exact ⟨_, (World.drewN_drewN _ _ _).symm⟩ | exact Quiet.refl _ | (simp only [World.drewN_drewN]; exact ⟨_, rfl⟩))⟩
    · go_wp2
      go_ret
      exact ⟨ret_bool (((isShapeB_all HL.out (fun j hj => HT.out j (by omega))).trans (decide_eq_true (by omega))).symm), (by first | exact ⟨_, rfl⟩ | exact ⟨_, (World.drewN_drewN _ _ _).symm⟩ | exact Quiet.refl _ | (simp only [World.drewN_drewN]; exact ⟨_, rfl⟩))⟩

theorem iIsShape_any {A : Option Addr} {n : Nat} {l : List Int} {w : World} (c : Nat) (hx : RI w A n l) (hn : n ≤ 1000000000) :
    Calls Try.prog 92 #[.slice A n c] w (Gives w (.bool (isShapeB l))) := by
  have HL := Lib.hid hx.1
  go_enter Try.func92, Try.ntmps92
  go_wp2
  go_loopw [3, 4, 7] (fun _ _ i wr => ∃ k : Nat, k ≤ n ∧ i = .int .i64 k ∧ Quiet w wr ∧ ∀ j, j < k → shapeAt l j = true) (fun _ _ i _ => n - (intOf i).toNat)
  case atStart => exact ⟨0, Nat.zero_le _, rfl, (by first | exact ⟨_, rfl⟩ | exact ⟨_, (World.drewN_drewN _ _ _).symm⟩ | exact Quiet.refl _ | (simp only [World.drewN_drewN]; exact ⟨_, rfl⟩)), by simp⟩
  case round =>
    obtain ⟨k, hk, rfl, ⟨q, rfl⟩, ht⟩ := hrel
    have HT := Lib.hid ht
    clear ht
    by_cases hlt : k < n
    · obtain ⟨ad, hA, hc⟩ := hx.cell hlt
      subst hA
      by_cases h1 : nth l k < 1
      · go_wp2
        go_ret
        exact ⟨ret_bool (isShapeB_no HL.out hlt (shapeAt_in (inB_low h1))).symm, (by first | exact ⟨_, rfl⟩ | exact ⟨_, (World.drewN_drewN _ _ _).symm⟩ | exact Quiet.refl _ | (simp only [World.drewN_drewN]; exact ⟨_, rfl⟩))⟩
      by_cases h2 : nth l k > 16
      · go_wp2
        go_ret
        exact ⟨ret_bool (isShapeB_no HL.out hlt (shapeAt_in (inB_high h2))).symm, (by first | exact ⟨_, rfl⟩ | exact ⟨_, (World.drewN_drewN _ _ _).symm⟩ | exact Quiet.refl _ | (simp only [World.drewN_drewN]; exact ⟨_, rfl⟩))⟩
      have HB := Lib.hid (inB_yes (n := nth l k) (lo := 1) (hi := 16) (by omega) (by omega))
      by_cases hk0 : k = 0
      · have hpos : decide (0 < k) = false := by simp; omega
        have hc0 : w.cell? ad = some (.int .i64 (nth l k)) := by rw [← hc, hk0, add_zero_]
        have HK := Lib.hid hk0
        clear hk0
        go_wp2
        go_roundw
        case rel => exact ⟨k + 1, by omega, by go_num, (by first | exact ⟨_, rfl⟩ | exact ⟨_, (World.drewN_drewN _ _ _).symm⟩ | exact Quiet.refl _ | (simp only [World.drewN_drewN]; exact ⟨_, rfl⟩)), upTo HT.out (shapeAt_zero HK.out HB.out)⟩
        case measure => simp [intOf]; omega
      · obtain ⟨ad', hA', hc'⟩ := hx.cell (k := k - 1) (by omega)
        obtain rfl : ad = ad' := by injection hA'
        have hpos : decide (0 < k) = true := by simp; omega
        by_cases hle : nth l k ≤ nth l (k - 1)
        · go_wp2
          go_roundw
          case rel => exact ⟨k + 1, by omega, by go_num, (by first | exact ⟨_, rfl⟩ | exact ⟨_, (World.drewN_drewN _ _ _).symm⟩ | exact Quiet.refl _ | (simp only [World.drewN_drewN]; exact ⟨_, rfl⟩)), upTo HT.out (shapeAt_le HB.out hle)⟩
          case measure => simp [intOf]; omega
        · go_wp2
          go_ret
          exact ⟨ret_bool (isShapeB_no HL.out hlt (shapeAt_gt (by omega) (by omega))).symm, (by first | exact ⟨_, rfl⟩ | exact ⟨_, (World.drewN_drewN _ _ _).symm⟩ | exact Quiet.refl _ | (simp only [World.drewN_drewN]; exact ⟨_, rfl⟩))⟩
    · go_wp2
      go_ret
      refine ⟨ret_bool ?_, (by first | exact ⟨_, rfl⟩ | exact ⟨_, (World.drewN_drewN _ _ _).symm⟩ | exact Quiet.refl _ | (simp only [World.drewN_drewN]; exact ⟨_, rfl⟩))⟩
      rw [isShapeB_all HL.out (fun j hj => HT.out j (by omega))]
      simp
      omega

theorem rowOf_any {A : Option Addr} {n : Nat} {l : List Int} {w : World} (c : Nat) (i : Int) (hx : RI w A n l) (h0 : 0 ≤ i) (hn : n ≤ 9223372036854775807) :
    Calls Try.prog 104 #[.slice A n c, .int .i64 i] w (Gives w (.int .i64 (nth l i.toNat))) := by
  obtain ⟨k, rfl⟩ := Int.eq_ofNat_of_zero_le h0
  rw [Int.toNat_natCast]
  by_cases hlt : k < n
  · obtain ⟨ad, hA, hc⟩ := hx.cell hlt
    subst hA
    go_enter Try.func104, Try.ntmps104
    go_wp2
    go_ret
    exact ⟨rfl, (by first | exact ⟨_, rfl⟩ | exact ⟨_, (World.drewN_drewN _ _ _).symm⟩ | exact Quiet.refl _ | (simp only [World.drewN_drewN]; exact ⟨_, rfl⟩))⟩
  · have HZ := Lib.hid (nth_ge (l := l) (k := k) (by rw [hx.1]; omega))
    go_enter Try.func104, Try.ntmps104
    go_wp2
    go_ret
    exact ⟨by rw [HZ.out]; rfl, (by first | exact ⟨_, rfl⟩ | exact ⟨_, (World.drewN_drewN _ _ _).symm⟩ | exact Quiet.refl _ | (simp only [World.drewN_drewN]; exact ⟨_, rfl⟩))⟩

theorem l4At_any {A : Option Addr} {n : Nat} {l : List Int} {w : World} (c : Nat) (i : Int) (hx : RI w A n l) (h0 : 0 ≤ i) (hn : n ≤ 9223372036854775807) :
    Calls Try.prog 182 #[.slice A n c, .int .i64 i] w (Gives w (.int .i64 (nth l i.toNat))) := by
  obtain ⟨k, rfl⟩ := Int.eq_ofNat_of_zero_le h0
  rw [Int.toNat_natCast]
  by_cases hlt : k < n
  · obtain ⟨ad, hA, hc⟩ := hx.cell hlt
    subst hA
    go_enter Try.func182, Try.ntmps182
    go_wp2
    go_ret
    exact ⟨rfl, (by first | exact ⟨_, rfl⟩ | exact ⟨_, (World.drewN_drewN _ _ _).symm⟩ | exact Quiet.refl _ | (simp only [World.drewN_drewN]; exact ⟨_, rfl⟩))⟩
  · have HZ := Lib.hid (nth_ge (l := l) (k := k) (by rw [hx.1]; omega))
    go_enter Try.func182, Try.ntmps182
    go_wp2
    go_ret
    exact ⟨by rw [HZ.out]; rfl, (by first | exact ⟨_, rfl⟩ | exact ⟨_, (World.drewN_drewN _ _ _).symm⟩ | exact Quiet.refl _ | (simp only [World.drewN_drewN]; exact ⟨_, rfl⟩))⟩

theorem isBox_any {w : World} (k n : Int) : Calls Try.prog 165 #[.int .i64 k, .int .i64 n] w (Gives w (.bool (boxB k n))) := by
  have h0 : boxB k n = (inB n 1 7 && (decide (0 ≤ k) && decide (k ≤ n))) := by simp [boxB, inB]
  have H0 := Lib.hid h0
  clear h0
  rcases Bool.eq_false_or_eq_true (inB n 1 7) with h | h
  · have HH := Lib.hid h
    go_enter Try.func165, Try.ntmps165
    go_wp2_with (go_at_call 159; refine (isSize_any _).mono ?_; rintro e w' ⟨rfl, q0, rfl⟩)
    all_goals go_ret
    all_goals refine ⟨?_, (by first | exact ⟨_, rfl⟩ | exact ⟨_, (World.drewN_drewN _ _ _).symm⟩ | exact Quiet.refl _ | (simp only [World.drewN_drewN]; exact ⟨_, rfl⟩))⟩
    all_goals rw [H0.out, HH.out]
    all_goals simp
    all_goals omega
  · have HH := Lib.hid h
    go_enter Try.func165, Try.ntmps165
    go_wp2_with (go_at_call 159; refine (isSize_any _).mono ?_; rintro e w' ⟨rfl, q0, rfl⟩)
    all_goals go_ret
    all_goals refine ⟨?_, (by first | exact ⟨_, rfl⟩ | exact ⟨_, (World.drewN_drewN _ _ _).symm⟩ | exact Quiet.refl _ | (simp only [World.drewN_drewN]; exact ⟨_, rfl⟩))⟩
    all_goals rw [H0.out, HH.out]
    all_goals simp

theorem iIsInBox_any {A : Option Addr} {n0 : Nat} {l : List Int} {w : World} (c : Nat) (k n : Int) (hx : RI w A n0 l) (hn : n0 ≤ 1000000000) :
    Calls Try.prog 103 #[.slice A n0 c, .int .i64 k, .int .i64 n] w (Gives w (.bool (inBoxB l k n))) := by
  have HL := Lib.hid hx.1
  rcases Bool.eq_false_or_eq_true (boxB k n) with hb | hb
  · have HB := Lib.hid hb
    obtain ⟨⟨b1, b2⟩, b3, b4⟩ := boxB_iff.1 hb

    rcases Bool.eq_false_or_eq_true (isShapeB l) with hs | hs
    · have HS := Lib.hid hs
      by_cases hr : (n0 : Int) ≤ k
      · have HY := Lib.hid (inBoxB_yes (l := l) HB.out HS.out (by rw [HL.out]; exact hr))
        go_enter Try.func103, Try.ntmps103
        go_wp2_with (first | (go_at_call 165; refine (isBox_any _ _).mono ?_; rintro e w' ⟨rfl, q0, rfl⟩) | (go_at_call 92; refine (iIsShape_any _ (by exact hx.drewN _) hn).mono ?_; rintro e w' ⟨rfl, q0, rfl⟩) | (go_at_call 104; refine (rowOf_any _ 0 (by exact hx.drewN _) (by omega) (by omega)).mono ?_; rintro e w' ⟨rfl, q0, rfl⟩))
        go_ret
        exact ⟨ret_bool HY.out.symm, (by first | exact ⟨_, rfl⟩ | exact ⟨_, (World.drewN_drewN _ _ _).symm⟩ | exact Quiet.refl _ | (simp only [World.drewN_drewN]; exact ⟨_, rfl⟩))⟩
      · have HY := Lib.hid (inBoxB_rows (l := l) (n := n) (k := k) (by rw [HL.out]; exact hr))
        go_enter Try.func103, Try.ntmps103
        go_wp2_with (first | (go_at_call 165; refine (isBox_any _ _).mono ?_; rintro e w' ⟨rfl, q0, rfl⟩) | (go_at_call 92; refine (iIsShape_any _ (by exact hx.drewN _) hn).mono ?_; rintro e w' ⟨rfl, q0, rfl⟩) | (go_at_call 104; refine (rowOf_any _ 0 (by exact hx.drewN _) (by omega) (by omega)).mono ?_; rintro e w' ⟨rfl, q0, rfl⟩))
        go_ret
        exact ⟨ret_bool HY.out.symm, (by first | exact ⟨_, rfl⟩ | exact ⟨_, (World.drewN_drewN _ _ _).symm⟩ | exact Quiet.refl _ | (simp only [World.drewN_drewN]; exact ⟨_, rfl⟩))⟩
    · have HY := Lib.hid (inBoxB_shape (k := k) (n := n) hs)
      go_enter Try.func103, Try.ntmps103
      go_wp2_with (first | (go_at_call 165; refine (isBox_any _ _).mono ?_; rintro e w' ⟨rfl, q0, rfl⟩) | (go_at_call 92; refine (iIsShape_any _ (by exact hx.drewN _) hn).mono ?_; rintro e w' ⟨rfl, q0, rfl⟩) | (go_at_call 104; refine (rowOf_any _ 0 (by exact hx.drewN _) (by omega) (by omega)).mono ?_; rintro e w' ⟨rfl, q0, rfl⟩))
      go_ret
      exact ⟨ret_bool HY.out.symm, (by first | exact ⟨_, rfl⟩ | exact ⟨_, (World.drewN_drewN _ _ _).symm⟩ | exact Quiet.refl _ | (simp only [World.drewN_drewN]; exact ⟨_, rfl⟩))⟩
  · have HY := Lib.hid (inBoxB_box (l := l) hb)
    go_enter Try.func103, Try.ntmps103
    go_wp2_with (first | (go_at_call 165; refine (isBox_any _ _).mono ?_; rintro e w' ⟨rfl, q0, rfl⟩) | (go_at_call 92; refine (iIsShape_any _ (by exact hx.drewN _) hn).mono ?_; rintro e w' ⟨rfl, q0, rfl⟩) | (go_at_call 104; refine (rowOf_any _ 0 (by exact hx.drewN _) (by omega) (by omega)).mono ?_; rintro e w' ⟨rfl, q0, rfl⟩))
    go_ret
    exact ⟨ret_bool HY.out.symm, (by first | exact ⟨_, rfl⟩ | exact ⟨_, (World.drewN_drewN _ _ _).symm⟩ | exact Quiet.refl _ | (simp only [World.drewN_drewN]; exact ⟨_, rfl⟩))⟩

end Go.Proofs.Ytgbojgmmingfdaa

/- Lists compared: l1Same, l1Less, l4Contains of the reference, ints of the statements, ContainsShape of the program. -/
namespace Go.Proofs.Ytgbojgmmingfdaa
open Go.RowKit

theorem l1Same_any {A C : Option Addr} {n m : Nat} {xs ys : List Int} {w : World} (b : Bool) (c d : Nat) (hx : RI w A n xs) (hy : RI w C m ys) (hb : b = decide (xs = ys)) (hn : n ≤ 9223372036854775807) (hm : m ≤ 9223372036854775807) :
    Calls Try.prog 144 #[.slice A n c, .slice C m d] w (Gives w (.bool b)) := by
  have HL1 := Lib.hid hx.1
  have HL2 := Lib.hid hy.1
  have HB := Lib.hid hb
  clear hb
  by_cases hnm : n = m
  · subst hnm
    go_enter Try.func144, Try.ntmps144
    go_wp2
    go_loopw [5] (fun i wr => ∃ k q : Nat, k ≤ n ∧ i = .int .i64 k ∧ w.drewN q = wr ∧ ∀ j, j < k → nth xs j = nth ys j) (fun i _ => n - (intOf i).toNat)
    case atStart => exact ⟨0, 0, Nat.zero_le _, rfl, rfl, by simp⟩
    case round =>
      obtain ⟨k, q, hk, rfl, rfl, ht⟩ := hrel
      have HT := Lib.hid ht
      clear ht
      by_cases hlt : k < n
      · obtain ⟨ad, hA, hc⟩ := hx.cell hlt
        obtain ⟨ad', hA', hc'⟩ := hy.cell hlt
        subst hA hA'
        go_wp2
        go_quiet (fail)
        go_wp2
        · go_ret
          refine ⟨?_, _, (World.drewN_drewN _ _ _).symm⟩
          have : b = false := by
            rw [HB.out]
            rename_i hne
            simp only [decide_eq_false_iff_not]
            intro e
            subst e
            simp at hne
          rw [this]; rfl
        · go_roundw
          case rel =>
            refine ⟨k + 1, _, by omega, by go_num, rfl, ?_⟩
            intro j hj
            rename_i hne
            by_cases hjk : j = k
            · subst hjk; simpa using hne
            · exact HT.out j (by omega)
          case measure => simp [intOf]; omega
      · go_wp2
        go_ret
        refine ⟨?_, _, rfl⟩
        have : b = true := by
          rw [HB.out]
          simp only [decide_eq_true_eq]
          exact agree_all HL1.out HL2.out (fun j hj => HT.out j (by omega))
        rw [this]; rfl
  · go_enter Try.func144, Try.ntmps144
    go_wp2
    go_ret
    refine ⟨?_, Quiet.refl _⟩
    have : b = false := by
      rw [HB.out]
      simp only [decide_eq_false_iff_not]
      intro e
      subst e
      exact hnm (HL1.out.symm.trans HL2.out)
    rw [this]; rfl

theorem ints_any {A C : Option Addr} {n m : Nat} {xs ys : List Int} {w : World} (b : Bool) (c d : Nat) (hx : RI w A n xs) (hy : RI w C m ys) (hb : b = decide (xs = ys)) (hn : n ≤ 9223372036854775807) (hm : m ≤ 9223372036854775807) :
    Calls Try.prog 30 #[.slice A n c, .slice C m d] w (Gives w (.bool b)) := by
  have HL1 := Lib.hid hx.1
  have HL2 := Lib.hid hy.1
  have HB := Lib.hid hb
  clear hb
  by_cases hnm : n = m
  · subst hnm
    go_enter Try.func30, Try.ntmps30
    go_wp2
    go_loopw [5] (fun i wr => ∃ k q : Nat, k ≤ n ∧ i = .int .i64 k ∧ w.drewN q = wr ∧ ∀ j, j < k → nth xs j = nth ys j) (fun i _ => n - (intOf i).toNat)
    case atStart => exact ⟨0, 0, Nat.zero_le _, rfl, rfl, by simp⟩
    case round =>
      obtain ⟨k, q, hk, rfl, rfl, ht⟩ := hrel
      have HT := Lib.hid ht
      clear ht
      by_cases hlt : k < n
      · obtain ⟨ad, hA, hc⟩ := hx.cell hlt
        obtain ⟨ad', hA', hc'⟩ := hy.cell hlt
        subst hA hA'
        go_wp2
        go_quiet (fail)
        go_wp2
        · go_ret
          refine ⟨?_, _, (World.drewN_drewN _ _ _).symm⟩
          have : b = false := by
            rw [HB.out]
            rename_i hne
            simp only [decide_eq_false_iff_not]
            intro e
            subst e
            simp at hne
          rw [this]; rfl
        · go_roundw
          case rel =>
            refine ⟨k + 1, _, by omega, by go_num, rfl, ?_⟩
            intro j hj
            rename_i hne
            by_cases hjk : j = k
            · subst hjk; simpa using hne
            · exact HT.out j (by omega)
          case measure => simp [intOf]; omega
      · go_wp2
        go_ret
        refine ⟨?_, _, rfl⟩
        have : b = true := by
          rw [HB.out]
          simp only [decide_eq_true_eq]
          exact agree_all HL1.out HL2.out (fun j hj => HT.out j (by omega))
        rw [this]; rfl
  · go_enter Try.func30, Try.ntmps30
    go_wp2
    go_ret
    refine ⟨?_, Quiet.refl _⟩
    have : b = false := by
      rw [HB.out]
      simp only [decide_eq_false_iff_not]
      intro e
      subst e
      exact hnm (HL1.out.symm.trans HL2.out)
    rw [this]; rfl

theorem l1Less_any {A C : Option Addr} {n m : Nat} {xs ys : List Int} {w : World} (c d : Nat) (hx : RI w A n xs) (hy : RI w C m ys) (hn : n ≤ 9223372036854775807) (hm : m ≤ 9223372036854775807) :
    Calls Try.prog 143 #[.slice A n c, .slice C m d] w (Gives w (.bool (lexLt xs ys))) := by
  have HL1 := Lib.hid hx.1
  have HL2 := Lib.hid hy.1
  go_enter Try.func143, Try.ntmps143
  go_wp2
  go_loopw [5] (fun i wr => ∃ k : Nat, k ≤ n ∧ k ≤ m ∧ i = .int .i64 k ∧ Quiet w wr ∧ Hid (lexLt (xs.drop k) (ys.drop k) = lexLt xs ys)) (fun i _ => n - (intOf i).toNat)
  case atStart => exact ⟨0, Nat.zero_le _, Nat.zero_le _, rfl, (by first | exact ⟨_, rfl⟩ | exact ⟨_, (World.drewN_drewN _ _ _).symm⟩ | exact Quiet.refl _ | (simp only [World.drewN_drewN]; exact ⟨_, rfl⟩)), rfl⟩
  case round =>
    obtain ⟨k, hk, hk2, rfl, ⟨q, rfl⟩, HT⟩ := hrel
    by_cases hlt : k < n
    · by_cases hlt2 : k < m
      · obtain ⟨ad, hA, hc⟩ := hx.cell hlt
        obtain ⟨ad', hA', hc'⟩ := hy.cell hlt2
        subst hA hA'
        by_cases he : nth xs k = nth ys k
        · have HE := Lib.hid he
          have he' : (nth xs k != nth ys k) = false := by simpa using he
          clear he
          go_wp2
          go_quiet (fail)
          go_wp2
          go_roundw
          case rel => exact ⟨k + 1, by omega, by omega, by go_num, (by first | exact ⟨_, rfl⟩ | exact ⟨_, (World.drewN_drewN _ _ _).symm⟩ | exact Quiet.refl _ | (simp only [World.drewN_drewN]; exact ⟨_, rfl⟩)), (lexLt_same (by rw [HL1.out]; exact hlt) (by rw [HL2.out]; exact hlt2) HE.out).symm.trans HT.out⟩
          case measure => simp [intOf]; omega
        · have HE := Lib.hid he
          have he' : (nth xs k != nth ys k) = true := by simpa using he
          clear he
          go_wp2
          go_quiet (fail)
          go_wp2
          go_quiet (fail)
          go_wp2
          go_ret
          refine ⟨ret_bool ?_, (by first | exact ⟨_, rfl⟩ | exact ⟨_, (World.drewN_drewN _ _ _).symm⟩ | exact Quiet.refl _ | (simp only [World.drewN_drewN]; exact ⟨_, rfl⟩))⟩
          rw [← HT.out, lexLt_diff (by rw [HL1.out]; exact hlt) (by rw [HL2.out]; exact hlt2) HE.out]
      · obtain rfl : k = m := by omega
        go_wp2
        go_ret
        refine ⟨ret_bool ?_, (by first | exact ⟨_, rfl⟩ | exact ⟨_, (World.drewN_drewN _ _ _).symm⟩ | exact Quiet.refl _ | (simp only [World.drewN_drewN]; exact ⟨_, rfl⟩))⟩
        rw [← HT.out, lexLt_end (.inr HL2.out.symm) (by rw [HL1.out]; omega) (by rw [HL2.out]; omega), HL1.out, HL2.out]
    · obtain rfl : k = n := by omega
      go_wp2
      go_ret
      refine ⟨ret_bool ?_, (by first | exact ⟨_, rfl⟩ | exact ⟨_, (World.drewN_drewN _ _ _).symm⟩ | exact Quiet.refl _ | (simp only [World.drewN_drewN]; exact ⟨_, rfl⟩))⟩
      rw [← HT.out, lexLt_end (.inl HL1.out.symm) (by rw [HL1.out]; omega) (by rw [HL2.out]; omega), HL1.out, HL2.out]

theorem contains_any' {A C : Option Addr} {n m : Nat} {xs ys : List Int} {w : World} (c d : Nat) (hx : RI w A n xs) (hy : RI w C m ys) (hn : n ≤ 1000000000) (hm : m ≤ 1000000000) :
    Calls Try.prog 55 #[.slice A n c, .slice C m d] w (Gives w (.bool (containsB xs ys))) := by
  have HL1 := Lib.hid hx.1
  have HL2 := Lib.hid hy.1
  rcases Bool.eq_false_or_eq_true (isShapeB xs) with h1 | h1
  · rcases Bool.eq_false_or_eq_true (isShapeB ys) with h2 | h2
    · have HC : Hid (containsB xs ys = within xs ys) := by show containsB xs ys = _; simp [containsB, h1, h2]
      by_cases hmn : n < m
      · have HW := Lib.hid (within_len HL1.out HL2.out hmn)
        go_enter Try.func55, Try.ntmps55
        go_wp2_with (first | (go_at_call 92; refine (iIsShape_any _ (by first | exact hx | exact hx.drewN _ | exact hy | exact hy.drewN _) (by assumption)).mono ?_; rintro e w' ⟨rfl, q0, rfl⟩))
        go_ret
        exact ⟨ret_bool (HC.out.trans HW.out).symm, (by first | exact ⟨_, rfl⟩ | exact ⟨_, (World.drewN_drewN _ _ _).symm⟩ | exact Quiet.refl _ | (simp only [World.drewN_drewN]; exact ⟨_, rfl⟩))⟩
      go_enter Try.func55, Try.ntmps55
      go_wp2_with (first | (go_at_call 92; refine (iIsShape_any _ (by first | exact hx | exact hx.drewN _ | exact hy | exact hy.drewN _) (by assumption)).mono ?_; rintro e w' ⟨rfl, q0, rfl⟩))
      clear h1 h2
      go_loopw [5, 6, 24] (fun _ _ i wr => ∃ k : Nat, k ≤ m ∧ i = .int .i64 k ∧ Quiet w wr ∧ ∀ j, j < k → nth ys j ≤ nth xs j) (fun _ _ i _ => m - (intOf i).toNat)
      case atStart => exact ⟨0, Nat.zero_le _, rfl, (by first | exact ⟨_, rfl⟩ | exact ⟨_, (World.drewN_drewN _ _ _).symm⟩ | exact Quiet.refl _ | (simp only [World.drewN_drewN]; exact ⟨_, rfl⟩)), by simp⟩
      case round =>
        obtain ⟨k, hk, rfl, ⟨q, rfl⟩, ht⟩ := hrel
        have HT := Lib.hid ht
        clear ht
        by_cases hlt : k < m
        · obtain ⟨ad, hA, hc⟩ := hx.cell (k := k) (by omega)
          obtain ⟨ad', hA', hc'⟩ := hy.cell hlt
          subst hA hA'
          by_cases he : nth ys k ≤ nth xs k
          · go_wp2
            go_roundw
            case rel => exact ⟨k + 1, by omega, by go_num, (by first | exact ⟨_, rfl⟩ | exact ⟨_, (World.drewN_drewN _ _ _).symm⟩ | exact Quiet.refl _ | (simp only [World.drewN_drewN]; exact ⟨_, rfl⟩)), upTo (P := fun j => nth ys j ≤ nth xs j) HT.out he⟩
            case measure => simp [intOf]; omega
          · go_wp2
            go_ret
            exact ⟨ret_bool (HC.out.trans (within_no HL2.out hlt (by omega))).symm, (by first | exact ⟨_, rfl⟩ | exact ⟨_, (World.drewN_drewN _ _ _).symm⟩ | exact Quiet.refl _ | (simp only [World.drewN_drewN]; exact ⟨_, rfl⟩))⟩
        · go_wp2
          go_ret
          exact ⟨ret_bool (HC.out.trans (within_all HL1.out HL2.out (by omega) (fun j hj => HT.out j (by omega)))).symm, (by first | exact ⟨_, rfl⟩ | exact ⟨_, (World.drewN_drewN _ _ _).symm⟩ | exact Quiet.refl _ | (simp only [World.drewN_drewN]; exact ⟨_, rfl⟩))⟩
    · have HC : Hid (containsB xs ys = false) := by show containsB xs ys = _; simp [containsB, h2]
      go_enter Try.func55, Try.ntmps55
      go_wp2_with (first | (go_at_call 92; refine (iIsShape_any _ (by first | exact hx | exact hx.drewN _ | exact hy | exact hy.drewN _) (by assumption)).mono ?_; rintro e w' ⟨rfl, q0, rfl⟩))
      go_ret
      exact ⟨ret_bool HC.out.symm, (by first | exact ⟨_, rfl⟩ | exact ⟨_, (World.drewN_drewN _ _ _).symm⟩ | exact Quiet.refl _ | (simp only [World.drewN_drewN]; exact ⟨_, rfl⟩))⟩
  · have HC : Hid (containsB xs ys = false) := by show containsB xs ys = _; simp [containsB, h1]
    go_enter Try.func55, Try.ntmps55
    go_wp2_with (first | (go_at_call 92; refine (iIsShape_any _ (by first | exact hx | exact hx.drewN _ | exact hy | exact hy.drewN _) (by assumption)).mono ?_; rintro e w' ⟨rfl, q0, rfl⟩))
    go_ret
    exact ⟨ret_bool HC.out.symm, (by first | exact ⟨_, rfl⟩ | exact ⟨_, (World.drewN_drewN _ _ _).symm⟩ | exact Quiet.refl _ | (simp only [World.drewN_drewN]; exact ⟨_, rfl⟩))⟩
end Go.Proofs.Ytgbojgmmingfdaa

/- Lists without the zeros at their end; copies: shortened, shapeOfRows of the program; l1Ints, l4Bare of the reference. -/
namespace Go.Proofs.Ytgbojgmmingfdaa
open Go.RowKit

theorem l1Ints_any {A : Option Addr} {n : Nat} {l : List Int} {w : World} (c : Nat) (hx : RI w A n l) (hn : n ≤ 1000000000) :
    Calls Try.prog 117 #[.slice A n c] w (Makes w l) := by
  have HL := Lib.hid hx.1
  go_enter Try.func117, Try.ntmps117
  go_wp2_with (at_builtin; refine wpAppI rfl _ _ rfl w.heap.size (.slice (some ⟨w.heap.size, 0, none⟩) 0 0) [] l A n c rfl rfl (by exact OI.lit _ _ [] 0 rfl (Nat.le_refl _) (by simp)) (by exact hx.alloc _) (by simp; omega) (by simp) ?_; intro v' w' h1 h2 h3)
  go_ret
  exact Makes.of (by simpa using h1) (((Below.refl _ _).alloc (Nat.le_refl _) _).grown h2 (by simp) (by simp [Value.ownBlock])) (by rw [HL.out]; omega)

theorem shortened_any {A : Option Addr} {n : Nat} {l : List Int} {w : World} (c : Nat) (hx : RI w A n l) (hn : n ≤ 1000000000) (hc : n ≤ c) :
    Calls Try.prog 195 #[.slice A n c] w (Gives w (.slice A (bareLen l n) c)) := by
  have HL := Lib.hid hx.1
  go_enter Try.func195, Try.ntmps195
  go_wp2
  go_loopw [3] (fun i wr => ∃ k : Nat, k ≤ n ∧ i = .int .i64 k ∧ Quiet w wr ∧ Hid (bareLen l k = bareLen l n)) (fun i _ => (intOf i).toNat)
  case atStart => exact ⟨n, Nat.le_refl _, rfl, (by first | exact ⟨_, rfl⟩ | exact ⟨_, (World.drewN_drewN _ _ _).symm⟩ | exact Quiet.refl _ | (simp only [World.drewN_drewN]; exact ⟨_, rfl⟩)), rfl⟩
  case round =>
    obtain ⟨k, hk, rfl, ⟨q, rfl⟩, HT⟩ := hrel
    by_cases hlt : 0 < k
    · obtain ⟨ad, hA, hc⟩ := hx.cell (k := k - 1) (by omega)
      subst hA
      by_cases h0 : nth l (k - 1) = 0
      · have HZ := Lib.hid h0
        rw [h0] at hc
        clear h0
        go_wp2
        go_roundw
        case rel => exact ⟨k - 1, by omega, by go_num, (by first | exact ⟨_, rfl⟩ | exact ⟨_, (World.drewN_drewN _ _ _).symm⟩ | exact Quiet.refl _ | (simp only [World.drewN_drewN]; exact ⟨_, rfl⟩)), (bareLen_zero hlt HZ.out).trans HT.out⟩
        case measure => simp [intOf]; omega
      · have HZ := Lib.hid h0
        have hz : (nth l (k - 1) == 0) = false := by simpa using h0
        clear h0
        have HK := Lib.hid (bareLen_stop hlt HZ.out)
        go_wp2
        go_ret
        exact ⟨by rw [← HT.out, HK.out]; rfl, (by first | exact ⟨_, rfl⟩ | exact ⟨_, (World.drewN_drewN _ _ _).symm⟩ | exact Quiet.refl _ | (simp only [World.drewN_drewN]; exact ⟨_, rfl⟩))⟩
    · have HK := Lib.hid (show k = 0 by omega)
      go_wp2
      go_ret
      exact ⟨by rw [← HT.out, HK.out]; rfl, (by first | exact ⟨_, rfl⟩ | exact ⟨_, (World.drewN_drewN _ _ _).symm⟩ | exact Quiet.refl _ | (simp only [World.drewN_drewN]; exact ⟨_, rfl⟩))⟩

theorem l4Bare_any {A : Option Addr} {n : Nat} {l : List Int} {w : World} (c : Nat) (hx : RI w A n l) (hn : n ≤ 1000000000) (hc : n ≤ c) :
    Calls Try.prog 130 #[.slice A n c] w (Makes w (bare l)) := by
  have HL := Lib.hid hx.1
  go_enter Try.func130, Try.ntmps130
  go_wp2
  go_loopw [3] (fun i wr => ∃ k : Nat, k ≤ n ∧ i = .int .i64 k ∧ Quiet w wr ∧ Hid (bareLen l k = bareLen l n)) (fun i _ => (intOf i).toNat)
  case atStart => exact ⟨n, Nat.le_refl _, rfl, (by first | exact ⟨_, rfl⟩ | exact ⟨_, (World.drewN_drewN _ _ _).symm⟩ | exact Quiet.refl _ | (simp only [World.drewN_drewN]; exact ⟨_, rfl⟩)), rfl⟩
  case round =>
    obtain ⟨k, hk, rfl, ⟨q, rfl⟩, HT⟩ := hrel
    by_cases hlt : 0 < k
    · obtain ⟨ad, hA, hc⟩ := hx.cell (k := k - 1) (by omega)
      subst hA
      by_cases h0 : nth l (k - 1) = 0
      · have HZ := Lib.hid h0
        rw [h0] at hc
        clear h0
        go_wp2
        go_roundw
        case rel => exact ⟨k - 1, by omega, by go_num, (by first | exact ⟨_, rfl⟩ | exact ⟨_, (World.drewN_drewN _ _ _).symm⟩ | exact Quiet.refl _ | (simp only [World.drewN_drewN]; exact ⟨_, rfl⟩)), (bareLen_zero hlt HZ.out).trans HT.out⟩
        case measure => simp [intOf]; omega
      · have HZ := Lib.hid h0
        have hz : (nth l (k - 1) == 0) = false := by simpa using h0
        clear h0
        have HK := Lib.hid (bareLen_stop hlt HZ.out)
        go_wp2_with fail
        refine (l1Ints_any _ ((hx.drewN _).take hk) (by omega)).mono ?_
        rintro e w1 ⟨A1, n1, c1, rfl, o1, r1, cp1, b1⟩
        go_wp2
        go_ret
        have e1 : l.take k = bare l := by unfold bare; rw [HL.out, ← HT.out, HK.out]
        rw [e1] at o1 r1
        exact ⟨A1, n1, c1, rfl, o1, r1, cp1, bnext (Quiet.below ⟨_, rfl⟩) b1 (Nat.le_refl _)⟩
    · obtain rfl : k = 0 := by omega
      go_wp2_with fail
      refine (l1Ints_any _ ((hx.drewN _).take hk) (by omega)).mono ?_
      rintro e w1 ⟨A1, n1, c1, rfl, o1, r1, cp1, b1⟩
      go_wp2
      go_ret
      have e1 : l.take 0 = bare l := by unfold bare; rw [HL.out, ← HT.out]; rfl
      rw [e1] at o1 r1
      exact ⟨A1, n1, c1, rfl, o1, r1, cp1, bnext (Quiet.below ⟨_, rfl⟩) b1 (Nat.le_refl _)⟩

theorem shapeOfRows_any {A : Option Addr} {n : Nat} {l : List Int} {w : World} (c : Nat) (hx : RI w A n l) (hn : n ≤ 1000000000) (hc : n ≤ c) :
    Calls Try.prog 177 #[.slice A n c] w (Gives w (.slice A (bareLen l n) c)) := by
  go_enter Try.func177, Try.ntmps177
  go_wp2_with (go_at_call 195; refine (shortened_any _ hx hn hc).mono ?_; rintro e w' ⟨rfl, q0, rfl⟩)
  go_ret
  exact ⟨rfl, (by first | exact ⟨_, rfl⟩ | exact ⟨_, (World.drewN_drewN _ _ _).symm⟩ | exact Quiet.refl _ | (simp only [World.drewN_drewN]; exact ⟨_, rfl⟩))⟩
end Go.Proofs.Ytgbojgmmingfdaa

/- Sums; ShapeOfString of the program and of the reference. -/
namespace Go.Proofs.Ytgbojgmmingfdaa
open Go.RowKit

theorem iSum_any {A : Option Addr} {n : Nat} {l : List Int} {w : World} (c : Nat) (hx : RI w A n l) (hs : Small l) (hn : n ≤ 1000000) :
    Calls Try.prog 93 #[.slice A n c] w (Gives w (.int .i64 (sumL l))) := by
  have HL := Lib.hid hx.1
  have HS := Lib.hid hs
  clear hs
  go_enter Try.func93, Try.ntmps93
  go_wp2
  go_loopw [3, 5, 8] (fun s _ i wr => ∃ k : Nat, k ≤ n ∧ i = .int .i64 k ∧ s = .int .i64 (sumTo l k) ∧ Quiet w wr) (fun _ _ i _ => n - (intOf i).toNat)
  case atStart => exact ⟨0, Nat.zero_le _, rfl, rfl, (by first | exact ⟨_, rfl⟩ | exact ⟨_, (World.drewN_drewN _ _ _).symm⟩ | exact Quiet.refl _ | (simp only [World.drewN_drewN]; exact ⟨_, rfl⟩))⟩
  case round =>
    obtain ⟨k, hk, rfl, rfl, ⟨q, rfl⟩⟩ := hrel
    by_cases hlt : k < n
    · obtain ⟨ad, hA, hc⟩ := hx.cell hlt
      subst hA
      obtain ⟨b1, b2⟩ := sumTo_bound HS.out (n := k) (by rw [HL.out]; exact hk)
      obtain ⟨b3, b4⟩ := HS.out k (by rw [HL.out]; exact hlt)
      go_wp2
      go_roundw
      case rel => exact ⟨k + 1, by omega, by go_num, rfl, (by first | exact ⟨_, rfl⟩ | exact ⟨_, (World.drewN_drewN _ _ _).symm⟩ | exact Quiet.refl _ | (simp only [World.drewN_drewN]; exact ⟨_, rfl⟩))⟩
      case measure => simp [intOf]; omega
    · obtain rfl : k = n := by omega
      go_wp2
      go_ret
      exact ⟨by unfold sumL; rw [HL.out]; rfl, (by first | exact ⟨_, rfl⟩ | exact ⟨_, (World.drewN_drewN _ _ _).symm⟩ | exact Quiet.refl _ | (simp only [World.drewN_drewN]; exact ⟨_, rfl⟩))⟩

theorem sSum_any {A : Option Addr} {n : Nat} {l : List Int} {w : World} (c : Nat) (hx : RI w A n l) (hs : Small l) (hn : n ≤ 1000000) :
    Calls Try.prog 58 #[.slice A n c] w (Gives w (.int .i64 (sumL l))) := by
  have HL := Lib.hid hx.1
  have HS := Lib.hid hs
  clear hs
  go_enter Try.func58, Try.ntmps58
  go_wp2
  go_loopw [3, 4] (fun s i wr => ∃ k : Nat, k ≤ n ∧ i = .int .i64 k ∧ s = .int .i64 (sumTo l k) ∧ Quiet w wr) (fun _ i _ => n - (intOf i).toNat)
  case atStart => exact ⟨0, Nat.zero_le _, rfl, rfl, (by first | exact ⟨_, rfl⟩ | exact ⟨_, (World.drewN_drewN _ _ _).symm⟩ | exact Quiet.refl _ | (simp only [World.drewN_drewN]; exact ⟨_, rfl⟩))⟩
  case round =>
    obtain ⟨k, hk, rfl, rfl, ⟨q, rfl⟩⟩ := hrel
    by_cases hlt : k < n
    · obtain ⟨ad, hA, hc⟩ := hx.cell hlt
      subst hA
      obtain ⟨b1, b2⟩ := sumTo_bound HS.out (n := k) (by rw [HL.out]; exact hk)
      obtain ⟨b3, b4⟩ := HS.out k (by rw [HL.out]; exact hlt)
      go_wp2
      go_roundw
      case rel => exact ⟨k + 1, by omega, by go_num, rfl, (by first | exact ⟨_, rfl⟩ | exact ⟨_, (World.drewN_drewN _ _ _).symm⟩ | exact Quiet.refl _ | (simp only [World.drewN_drewN]; exact ⟨_, rfl⟩))⟩
      case measure => simp [intOf]; omega
    · obtain rfl : k = n := by omega
      go_wp2
      go_ret
      exact ⟨by unfold sumL; rw [HL.out]; rfl, (by first | exact ⟨_, rfl⟩ | exact ⟨_, (World.drewN_drewN _ _ _).symm⟩ | exact Quiet.refl _ | (simp only [World.drewN_drewN]; exact ⟨_, rfl⟩))⟩

end Go.Proofs.Ytgbojgmmingfdaa

/- slices.Contains, l1Has; GrassmannianPerm of the program and of the reference. -/
namespace Go.Proofs.Ytgbojgmmingfdaa
open Go.RowKit

theorem l1Has_any {A : Option Addr} {n : Nat} {l : List Int} {w : World} (c : Nat) (x : Int) (hx : RI w A n l) (hn : n ≤ 1000000000) :
    Calls Try.prog 142 #[.slice A n c, .int .i64 x] w (Gives w (.bool (hasB l x))) := by
  have HL := Lib.hid hx.1
  go_enter Try.func142, Try.ntmps142
  go_wp2
  go_loopw [5] (fun i wr => ∃ k : Nat, k ≤ n ∧ i = .int .i64 k ∧ Quiet w wr ∧ ∀ j, j < k → nth l j ≠ x) (fun i _ => n - (intOf i).toNat)
  case atStart => exact ⟨0, Nat.zero_le _, rfl, (by first | exact ⟨_, rfl⟩ | exact ⟨_, (World.drewN_drewN _ _ _).symm⟩ | exact Quiet.refl _ | (simp only [World.drewN_drewN]; exact ⟨_, rfl⟩)), by simp⟩
  case round =>
    obtain ⟨k, hk, rfl, ⟨q, rfl⟩, ht⟩ := hrel
    have HT := Lib.hid ht
    clear ht
    by_cases hlt : k < n
    · obtain ⟨ad, hA, hc⟩ := hx.cell hlt
      subst hA
      by_cases he : nth l k = x
      · have HE := Lib.hid he
        have he' : (nth l k == x) = true := by simpa using he
        clear he
        go_wp2
        go_ret
        exact ⟨ret_bool (hasB_yes HL.out hlt HE.out).symm, (by first | exact ⟨_, rfl⟩ | exact ⟨_, (World.drewN_drewN _ _ _).symm⟩ | exact Quiet.refl _ | (simp only [World.drewN_drewN]; exact ⟨_, rfl⟩))⟩
      · have he' : (nth l k == x) = false := by simpa using he
        have HE := Lib.hid he
        clear he
        go_wp2
        go_roundw
        case rel => exact ⟨k + 1, by omega, by go_num, (by first | exact ⟨_, rfl⟩ | exact ⟨_, (World.drewN_drewN _ _ _).symm⟩ | exact Quiet.refl _ | (simp only [World.drewN_drewN]; exact ⟨_, rfl⟩)), upTo (P := fun j => nth l j ≠ x) HT.out HE.out⟩
        case measure => simp [intOf]; omega
    · go_wp2
      go_ret
      exact ⟨ret_bool (hasB_no HL.out (fun j hj => HT.out j (by omega))).symm, (by first | exact ⟨_, rfl⟩ | exact ⟨_, (World.drewN_drewN _ _ _).symm⟩ | exact Quiet.refl _ | (simp only [World.drewN_drewN]; exact ⟨_, rfl⟩))⟩

/-- slices.Index at []int: 0 or more where the number is there, else -1. -/
theorem index_any {A : Option Addr} {n : Nat} {l : List Int} {w : World} (c : Nat) (x : Int) (hx : RI w A n l) (hn : n ≤ 1000000000) :
    Calls Try.prog 166 #[.slice A n c, .int .i64 x] w (fun e w' => ∃ i : Int, e = .returned (.int .i64 i) ∧ Quiet w w' ∧ decide (i ≥ 0) = hasB l x) := by
  have HL := Lib.hid hx.1
  go_enter Try.func166, Try.ntmps166
  go_wp2
  go_loopw [5, 8] (fun _ i wr => ∃ k : Nat, k ≤ n ∧ i = .int .i64 k ∧ Quiet w wr ∧ ∀ j, j < k → nth l j ≠ x) (fun _ i _ => n - (intOf i).toNat)
  case atStart => exact ⟨0, Nat.zero_le _, rfl, (by first | exact ⟨_, rfl⟩ | exact ⟨_, (World.drewN_drewN _ _ _).symm⟩ | exact Quiet.refl _ | (simp only [World.drewN_drewN]; exact ⟨_, rfl⟩)), by simp⟩
  case round =>
    obtain ⟨k, hk, rfl, ⟨q, rfl⟩, ht⟩ := hrel
    have HT := Lib.hid ht
    clear ht
    by_cases hlt : k < n
    · obtain ⟨ad, hA, hc⟩ := hx.cell hlt
      subst hA
      by_cases he : nth l k = x
      · have HE := Lib.hid he
        have he' : (x == nth l k) = true := by rw [he]; simp
        clear he
        go_wp2
        go_ret
        exact ⟨_, rfl, (by first | exact ⟨_, rfl⟩ | exact ⟨_, (World.drewN_drewN _ _ _).symm⟩ | exact Quiet.refl _ | (simp only [World.drewN_drewN]; exact ⟨_, rfl⟩)), by rw [hasB_yes HL.out hlt HE.out]; simp⟩
      · have he' : (x == nth l k) = false := by simp; exact fun h => he h.symm
        have HE := Lib.hid he
        clear he
        go_wp2
        go_roundw
        case rel => exact ⟨k + 1, by omega, by go_num, (by first | exact ⟨_, rfl⟩ | exact ⟨_, (World.drewN_drewN _ _ _).symm⟩ | exact Quiet.refl _ | (simp only [World.drewN_drewN]; exact ⟨_, rfl⟩)), upTo (P := fun j => nth l j ≠ x) HT.out HE.out⟩
        case measure => simp [intOf]; omega
    · go_wp2
      go_ret
      exact ⟨_, rfl, (by first | exact ⟨_, rfl⟩ | exact ⟨_, (World.drewN_drewN _ _ _).symm⟩ | exact Quiet.refl _ | (simp only [World.drewN_drewN]; exact ⟨_, rfl⟩)), by rw [hasB_no HL.out (fun j hj => HT.out j (by omega))]; simp⟩

theorem contains_any {A : Option Addr} {n : Nat} {l : List Int} {w : World} (c : Nat) (x : Int) (hx : RI w A n l) (hn : n ≤ 1000000000) :
    Calls Try.prog 105 #[.slice A n c, .int .i64 x] w (Gives w (.bool (hasB l x))) := by
  go_enter Try.func105, Try.ntmps105
  go_wp2_with fail
  refine (index_any _ _ hx hn).mono ?_
  rintro e w1 ⟨i, rfl, ⟨q, rfl⟩, hi⟩
  have HI := Lib.hid hi
  clear hi
  go_wp2
  go_ret
  exact ⟨ret_bool HI.out, (by first | exact ⟨_, rfl⟩ | exact ⟨_, (World.drewN_drewN _ _ _).symm⟩ | exact Quiet.refl _ | (simp only [World.drewN_drewN]; exact ⟨_, rfl⟩))⟩

theorem iGrass_any {A : Option Addr} {n0 : Nat} {l : List Int} {w : World} (c : Nat) (k n : Int) (hx : RI w A n0 l) (hn : n0 ≤ 1000000000) :
    Calls Try.prog 35 #[.slice A n0 c, .int .i64 k, .int .i64 n] w (Makes w (grassB l k n)) := by
  rcases Bool.eq_false_or_eq_true (inBoxB l k n) with hb | hb
  · obtain ⟨hb1, hb2, hb3, hb4⟩ := inBoxB_iff.1 hb
    obtain ⟨⟨b1, b2⟩, b3, b4⟩ := boxB_iff.1 hb1
    obtain ⟨K, rfl⟩ := Int.eq_ofNat_of_zero_le b3
    obtain ⟨M, rfl⟩ := Int.eq_ofNat_of_zero_le (a := n) (by omega)
    have HG := Lib.hid (grassB_yes hb)
    have HB := Lib.hid hb
    clear hb1 hb2 hb3 hb4
    go_enter Try.func35, Try.ntmps35
    go_wp2_with (go_at_call 103; refine (iIsInBox_any _ _ _ hx hn).mono ?_; rintro e w' ⟨rfl, q0, rfl⟩)
    clear hb
    go_loopw [7, 8, 17] (fun v _ i wr => ∃ j : Nat, j ≤ K ∧ i = .int .i64 j ∧ OI wr w.heap.size v (gen (grassRow l K) j) ∧ Below w.heap.size w wr) (fun _ _ i _ => K - (intOf i).toNat)
    case atStart => exact ⟨0, by omega, rfl, (OI.lit w w.heap.size [] 0 rfl (Nat.le_refl _) (by simp)).below (Quiet.below ⟨_, rfl⟩), below_drewN ((Below.refl _ _).alloc (Nat.le_refl _) _) _⟩
    case round =>
      obtain ⟨j, hj, rfl, ho, hbl⟩ := hrel
      have hxr := hx.below hbl
      by_cases hlt : j < K
      · obtain ⟨r1, r2⟩ := grassRow_range HB.out hlt
        unfold grassRow at r1 r2
        have ht : ((K : Int) - 1 - j).toNat = K - 1 - j := by omega
        go_wp2_with (first
          | (go_at_call 104; refine (rowOf_any _ _ hxr (by omega) (by omega)).mono ?_; rintro e w' ⟨rfl, q0, rfl⟩)
          | (at_builtin; refine wpAppI rfl _ _ rfl w.heap.size _ (gen (grassRow l K) j) [grassRow l K j] (some ⟨wr.heap.size, 0, none⟩) 1 1 rfl rfl (by exact ho.alloc _) (by exact RI.one wr _) (by rw [gen_len]; omega) (by have := hbl.size; simp; omega) ?_; intro v' w' h1 h2 h3))
        go_roundw
        case rel => exact ⟨j + 1, by omega, by go_num, by rw [gen_succ]; exact h1, (below_drewN (hbl.alloc hbl.size _) _).grown h2 (by have := hbl.size; simp; omega) (fun k hk => (ho.lt k hk).1)⟩
        case measure => simp [intOf]; omega
      · obtain rfl : j = K := by omega
        clear hxr
        obtain ⟨wo, rfl⟩ : ∃ wo : World, wo = wr := ⟨_, rfl⟩
        go_wp2
        go_loopw [7, 9, 33] (fun v _ i wr2 => ∃ m : Nat, m ≤ M ∧ i = .int .i64 m ∧ OI wr2 w.heap.size v (gen (grassRow l j) j ++ restTo (gen (grassRow l j) j) m) ∧ Below w.heap.size w wr2) (fun _ _ i _ => M - (intOf i).toNat)
        case atStart => exact ⟨0, by omega, rfl, by simpa [restTo] using ho, hbl⟩
        case round =>
          clear ho hbl
          obtain ⟨m, hm, rfl, ho, hbl⟩ := hrel
          by_cases hlt2 : m < M
          · obtain ⟨A1, n1, c1, rfl, hr, hcc, hm1, _⟩ := ho.form
            have hlen := hr.1
            rw [List.length_append, gen_len] at hlen
            have hrl := restTo_len (gen (grassRow l j) j) m
            have hj1 : j ≤ n1 := by omega
            have hn1 : n1 ≤ 100 := by omega
            clear hlen hrl
            have ht1 := hr.take hj1
            have e1 : (gen (grassRow l j) j ++ restTo (gen (grassRow l j) j) m).take j = gen (grassRow l j) j := by
              have := List.take_left (l₁ := gen (grassRow l j) j) (l₂ := restTo (gen (grassRow l j) j) m)
              rwa [gen_len] at this
            rw [e1] at ht1
            clear e1
            rcases Bool.eq_false_or_eq_true (hasB (gen (grassRow l j) j) m) with hh | hh
            · have HH := Lib.hid hh
              go_wp2_with (go_at_call 105; refine (contains_any _ _ ht1 (by omega)).mono ?_; rintro e w' ⟨rfl, q0, rfl⟩)
              go_roundw
              case rel => exact ⟨m + 1, by omega, by go_num, by rw [restTo_has HH.out]; exact ho.below (Quiet.below ⟨_, rfl⟩), below_drewN hbl _⟩
              case measure => simp [intOf]; omega
            · have HH := Lib.hid hh
              go_wp2_with (first
                | (go_at_call 105; refine (contains_any _ _ ht1 (by omega)).mono ?_; rintro e w' ⟨rfl, q0, rfl⟩)
                | (at_builtin; refine wpAppI rfl _ _ rfl w.heap.size _ (gen (grassRow l j) j ++ restTo (gen (grassRow l j) j) m) [(m : Int)] (some ⟨wr.heap.size, 0, none⟩) 1 1 rfl rfl (by exact ho.alloc _) (by exact RI.one wr _) (by rw [hr.1]; omega) (by have := hbl.size; simp; omega) ?_; intro v' w' h1 h2 h3))
              go_roundw
              case rel => exact ⟨m + 1, by omega, by go_num, by rw [restTo_not HH.out, ← List.append_assoc]; exact h1, (below_drewN (hbl.alloc hbl.size _) _).grown h2 (by have := hbl.size; simp; omega) (fun k hk => (ho.lt k hk).1)⟩
              case measure => simp [intOf]; omega
          · obtain rfl : m = M := by omega
            go_wp2
            go_ret
            rw [HG.out]
            exact Makes.of ho hbl (by have := restTo_len (gen (grassRow l j) j) m; rw [List.length_append, gen_len]; omega)
  · have HG := Lib.hid (grassB_no hb)
    go_enter Try.func35, Try.ntmps35
    go_wp2_with (go_at_call 103; refine (iIsInBox_any _ _ _ hx hn).mono ?_; rintro e w' ⟨rfl, q0, rfl⟩)
    go_ret
    rw [HG.out]
    exact Makes.nil (Quiet.below ⟨_, rfl⟩)

end Go.Proofs.Ytgbojgmmingfdaa

/- Shapes turned over: ConjugateShape of both sides. -/
namespace Go.Proofs.Ytgbojgmmingfdaa
open Go.RowKit

/-- How many of the first k numbers exceed j. -/
def above (l : List Int) (j : Int) : Nat → Nat
  | 0 => 0
  | k + 1 => if j < nth l k then above l j k + 1 else above l j k
theorem above_yes {l : List Int} {j : Int} {k : Nat} (h : j < nth l k) : above l j (k + 1) = above l j k + 1 := by rw [above, if_pos h]
theorem above_no {l : List Int} {j : Int} {k : Nat} (h : ¬ j < nth l k) : above l j (k + 1) = above l j k := by rw [above, if_neg h]
theorem above_le (l : List Int) (j : Int) (k : Nat) : above l j k ≤ k := by
  induction k with
  | zero => exact Nat.le_refl _
  | succ k ih => unfold above; split <;> omega
theorem shape_down {l : List Int} (h : isShapeB l = true) {a b : Nat} (hab : a ≤ b) (hb : b < l.length) : nth l b ≤ nth l a := by
  induction b with
  | zero => rw [Nat.le_zero.1 hab]; exact Int.le_refl _
  | succ b ih =>
    rcases Nat.lt_or_ge a (b + 1) with h1 | h1
    · have i := ih (by omega) (by omega)
      unfold isShapeB at h
      rw [Bool.and_eq_true] at h
      have := (shapeAt_iff.1 (allB_at h.2 hb)).2 (by omega)
      simp only [Nat.add_sub_cancel] at this
      omega
    · rw [show a = b + 1 by omega]; exact Int.le_refl _
theorem above_stop {l : List Int} {j : Int} {m : Nat} (h : isShapeB l = true) (hm : m < l.length) (hj : ¬ j < nth l m) (k : Nat) (hk : m ≤ k) (hkl : k ≤ l.length) : above l j k = above l j m := by
  induction k with
  | zero => rw [Nat.le_zero.1 hk]
  | succ k ih =>
    rcases Nat.lt_or_ge m (k + 1) with h1 | h1
    · have := shape_down h (a := m) (b := k) (by omega) (by omega)
      rw [above_no (by omega), ih (by omega) (by omega)]
    · rw [show m = k + 1 by omega]
theorem above_all {l : List Int} {j : Int} {m : Nat} (h : ∀ i, i < m → j < nth l i) : above l j m = m := by
  induction m with
  | zero => rfl
  | succ m ih => rw [above_yes (h m (by omega)), ih (fun i hi => h i (by omega))]
theorem above_ge {l : List Int} {j : Int} {m k : Nat} (hm : m ≤ k) : above l j m ≤ above l j k := by
  induction k with
  | zero => rw [Nat.le_zero.1 hm]; exact Nat.le_refl _
  | succ k ih =>
    rcases Nat.lt_or_ge m (k + 1) with h1 | h1
    · have := ih (by omega)
      by_cases h : j < nth l k
      · rw [above_yes h]; omega
      · rw [above_no h]; omega
    · rw [show m = k + 1 by omega]; exact Nat.le_refl _
def conjG (l : List Int) (n : Nat) : List Int := gen (fun j => (above l j l.length : Int)) n
/-- The shape turned over. -/
def conjB (l : List Int) : List Int := if isShapeB l then conjG l (nth l 0).toNat else []
theorem conjB_yes {l : List Int} (h : isShapeB l = true) : conjB l = conjG l (nth l 0).toNat := by simp [conjB, h]
theorem conjB_no {l : List Int} (h : isShapeB l = false) : conjB l = [] := by simp [conjB, h]
theorem conjB_nil : conjB [] = [] := rfl
theorem conjG_snoc {l : List Int} {j x : Nat} (h : x = above l j l.length) : conjG l (j + 1) = conjG l j ++ [(x : Int)] := by
  rw [conjG, gen_succ, h]; rfl
theorem conjG_len (l : List Int) (n : Nat) : (conjG l n).length = n := gen_len _ _
theorem shape_len {l : List Int} (h : isShapeB l = true) : l.length ≤ 16 := by
  unfold isShapeB at h
  rw [Bool.and_eq_true, decide_eq_true_eq] at h
  exact h.1

theorem iConj_any {A : Option Addr} {n : Nat} {l : List Int} {w : World} (c : Nat) (hx : RI w A n l) (hn : n ≤ 1000000000) :
    Calls Try.prog 54 #[.slice A n c] w (Makes w (conjB l)) := by
  have HL := Lib.hid hx.1
  rcases Bool.eq_false_or_eq_true (isShapeB l) with hs | hs
  · have HS := Lib.hid hs
    have HC := Lib.hid (conjB_yes hs)
    have h16 := shape_len hs
    rw [HL.out] at h16
    by_cases hz : n = 0
    · have HE : Hid (conjB l = []) := by
        show conjB l = []
        rw [List.eq_nil_of_length_eq_zero (HL.out.trans hz)]; rfl
      have hz2 : ((n : Int) == 0) = true := by simp; omega
      clear hz
      go_enter Try.func54, Try.ntmps54
      go_wp2_with (go_at_call 92; refine (iIsShape_any _ (by exact hx.alloc _) hn).mono ?_; rintro e w' ⟨rfl, q0, rfl⟩)
      go_ret
      rw [HE.out]
      exact Makes.of (OI.lit w _ [] 0 rfl (Nat.le_refl _) (by simp)) (below_drewN ((Below.refl _ _).alloc (Nat.le_refl _) _) _) (by simp)
    · have hz2 : ((n : Int) == 0) = false := by simp; omega
      have hr := shape_range hs 0
      obtain ⟨ad, hA, hc⟩ := hx.cell (k := 0) (by omega)
      subst hA
      obtain ⟨m, hm⟩ := Int.eq_ofNat_of_zero_le hr.1
      have hm16 : m ≤ 16 := by omega
      rw [hm, Int.toNat_natCast] at HC
      rw [hm, add_zero_] at hc
      have hca := one_cell ((Below.refl w.heap.size w).alloc (Nat.le_refl _) (.cells #[] 3)) hc
      have hz3 : 0 < n := by omega
      clear hr hm hz
      go_enter Try.func54, Try.ntmps54
      go_wp2_with (go_at_call 92; refine (iIsShape_any _ (by exact hx.alloc _) hn).mono ?_; rintro e w' ⟨rfl, q0, rfl⟩)
      clear hs
      go_loopw [3, 19] (fun v i wr => ∃ j : Nat, j ≤ m ∧ i = .int .i64 (j : Int) ∧ OI wr w.heap.size v (conjG l j) ∧ Below w.heap.size w wr) (fun _ i _ => m - (intOf i).toNat)
      case atStart => exact ⟨0, Nat.zero_le _, rfl, OI.below (OI.lit w _ [] 0 rfl (Nat.le_refl _) (by simp)) (Quiet.below ⟨_, rfl⟩), below_drewN ((Below.refl _ _).alloc (Nat.le_refl _) _) _⟩
      case round =>
        obtain ⟨j, hj, rfl, ho, hb⟩ := hrel
        by_cases hlt : j < m
        · have hxr := hx.below hb
          obtain ⟨wo, rfl⟩ : ∃ wo : World, wo = wr := ⟨_, rfl⟩
          go_wp2
          go_loopw [5] (fun v wr => ∃ k : Nat, k ≤ n ∧ v = .int .i64 (k : Int) ∧ Hid (above l j k = k) ∧ Quiet wo wr) (fun v _ => n - (intOf v).toNat)
          case atStart => exact ⟨0, Nat.zero_le _, rfl, rfl, (by first | exact ⟨_, rfl⟩ | exact ⟨_, (World.drewN_drewN _ _ _).symm⟩ | exact Quiet.refl _ | (simp only [World.drewN_drewN]; exact ⟨_, rfl⟩))⟩
          case round =>
            obtain ⟨k, hk, rfl, HT, ⟨q, rfl⟩⟩ := hrel
            by_cases hkn : k < n
            · obtain ⟨ad2, hA2, hc2⟩ := hxr.cell hkn
              simp only [Option.some.injEq] at hA2
              subst hA2
              by_cases hgt : (j : Int) < nth l k
              · have HT2 : Hid (above l j (k + 1) = k + 1) := by show above l j (k + 1) = k + 1; rw [above_yes hgt, HT.out]
                go_wp2
                go_roundw
                case rel => exact ⟨k + 1, by omega, by go_num, HT2, (by first | exact ⟨_, rfl⟩ | exact ⟨_, (World.drewN_drewN _ _ _).symm⟩ | exact Quiet.refl _ | (simp only [World.drewN_drewN]; exact ⟨_, rfl⟩))⟩
                case measure => simp [intOf]; omega
              · have HF : Hid (conjG l (j + 1) = conjG l j ++ [(k : Int)]) := conjG_snoc (by rw [above_stop HS.out (m := k) (by rw [HL.out]; exact hkn) hgt l.length (by rw [HL.out]; exact hk) (Nat.le_refl _), HT.out])
                have hlen : (conjG l j).length = j := conjG_len _ _
                go_wp2_with (at_builtin; refine wpAppI rfl _ _ rfl w.heap.size _ (conjG l j) [(k : Int)] (some ⟨wo.heap.size, 0, none⟩) 1 1 rfl rfl (by exact (ho.below (Quiet.below ⟨_, rfl⟩)).alloc _) (by exact RI.one (World.drewN _ _) _) (by rw [hlen]; simp; omega) (by have := hb.size; simp; omega) ?_; intro v' w' h1 h2 h3)
                go_roundw
                case rel => exact ⟨j + 1, by omega, by go_num, by rw [HF.out]; exact h1, (below_drewN (hb.alloc hb.size _) _).grown h2 (by have := hb.size; simp; omega) (fun k hk => (ho.lt k hk).1)⟩
                case measure => simp [intOf]; omega
            · obtain rfl : k = n := by omega
              have HF : Hid (conjG l (j + 1) = conjG l j ++ [(k : Int)]) := conjG_snoc (by rw [HL.out]; exact HT.out.symm)
              have hlen : (conjG l j).length = j := conjG_len _ _
              go_wp2_with (at_builtin; refine wpAppI rfl _ _ rfl w.heap.size _ (conjG l j) [(k : Int)] (some ⟨wo.heap.size, 0, none⟩) 1 1 rfl rfl (by exact (ho.below (Quiet.below ⟨_, rfl⟩)).alloc _) (by exact RI.one (World.drewN _ _) _) (by rw [hlen]; simp; omega) (by have := hb.size; simp; omega) ?_; intro v' w' h1 h2 h3)
              go_roundw
              case rel => exact ⟨j + 1, by omega, by go_num, by rw [HF.out]; exact h1, (below_drewN (hb.alloc hb.size _) _).grown h2 (by have := hb.size; simp; omega) (fun k hk => (ho.lt k hk).1)⟩
              case measure => simp [intOf]; omega
        · obtain rfl : j = m := by omega
          go_wp2
          go_ret
          rw [HC.out]
          exact Makes.of ho hb (by rw [conjG_len]; omega)
  · have HC := Lib.hid (conjB_no hs)
    go_enter Try.func54, Try.ntmps54
    go_wp2_with (go_at_call 92; refine (iIsShape_any _ (by exact hx.alloc _) hn).mono ?_; rintro e w' ⟨rfl, q0, rfl⟩)
    go_ret
    rw [HC.out]
    exact Makes.of (OI.lit w _ [] 0 rfl (Nat.le_refl _) (by simp)) (below_drewN ((Below.refl _ _).alloc (Nat.le_refl _) _) _) (by simp)

end Go.Proofs.Ytgbojgmmingfdaa
