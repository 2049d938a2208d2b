/- The tests: IsString, IsShape, IsInBox and what they call, of the program and of the reference. -/
import Derived.Test.YtbemglmnnehllaaWords
namespace Go.Proofs.Ytbemglmnnehllaa
open Go.RowKit

theorem isSize_any {w : World} (n : Int) : Calls Try.prog 39 #[.int .i64 n] w (Gives w (.bool (inB n 1 7))) := by
  go_enter Try.func39, Try.ntmps39
  go_wp2
  all_goals go_ret
  all_goals refine ⟨?_, Quiet.refl _⟩
  all_goals simp [inB]
  all_goals omega

theorem ret_bool {a b : Bool} (h : a = b) : Ending.returned (.bool a) = .returned (.bool b) := by rw [h]

end Go.Proofs.Ytbemglmnnehllaa

/- IsShape, rowOf, isBox, IsInBox of the program and of the reference. -/
namespace Go.Proofs.Ytbemglmnnehllaa
open Go.RowKit

theorem iIsShape_any {A : Option Addr} {n : Nat} {l : List Int} {w : World} (c : Nat) (hx : RI w A n l) (hn : n ≤ 1000000000) :
    Calls Try.prog 29 #[.slice A n c] w (Gives w (.bool (isShapeB l))) := by
  have HL := Lib.hid hx.1
  go_enter Try.func29, Try.ntmps29
  go_wp2
  go_loopw [3, 4, 7] (fun _ _ i wr => ∃ k : Nat, k ≤ n ∧ i = .int .i64 k ∧ Quiet w wr ∧ ∀ j, j < k → shapeAt l j = true) (fun _ _ i _ => n - (intOf i).toNat)
  case atStart => exact ⟨0, Nat.zero_le _, rfl, (by first | exact ⟨_, rfl⟩ | exact ⟨_, (World.drewN_drewN _ _ _).symm⟩ | exact Quiet.refl _ | (simp only [World.drewN_drewN]; exact ⟨_, rfl⟩)), by simp⟩
  case round =>
    obtain ⟨k, hk, rfl, ⟨q, rfl⟩, ht⟩ := hrel
    have HT := Lib.hid ht
    clear ht
    by_cases hlt : k < n
    · obtain ⟨ad, hA, hc⟩ := hx.cell hlt
      subst hA
      by_cases h1 : nth l k < 1
      · go_wp2
        go_ret
        exact ⟨ret_bool (isShapeB_no HL.out hlt (shapeAt_in (inB_low h1))).symm, (by first | exact ⟨_, rfl⟩ | exact ⟨_, (World.drewN_drewN _ _ _).symm⟩ | exact Quiet.refl _ | (simp only [World.drewN_drewN]; exact ⟨_, rfl⟩))⟩
      by_cases h2 : nth l k > 16
      · go_wp2
        go_ret
        exact ⟨ret_bool (isShapeB_no HL.out hlt (shapeAt_in (inB_high h2))).symm, (by first | exact ⟨_, rfl⟩ | exact ⟨_, (World.drewN_drewN _ _ _).symm⟩ | exact Quiet.refl _ | (simp only [World.drewN_drewN]; exact ⟨_, rfl⟩))⟩
      have HB := Lib.hid (inB_yes (n := nth l k) (lo := 1) (hi := 16) (by omega) (by omega))
      by_cases hk0 : k = 0
      · have hpos : decide (0 < k) = false := by simp; omega
        have hc0 : w.cell? ad = some (.int .i64 (nth l k)) := by rw [← hc, hk0, add_zero_]
        have HK := Lib.hid hk0
        clear hk0
        go_wp2
        go_roundw
        case rel => exact ⟨k + 1, by omega, by go_num, (by first | exact ⟨_, rfl⟩ | exact ⟨_, (World.drewN_drewN _ _ _).symm⟩ | exact Quiet.refl _ | (simp only [World.drewN_drewN]; exact ⟨_, rfl⟩)), upTo HT.out (shapeAt_zero HK.out HB.out)⟩
        case measure => simp [intOf]; omega
      · obtain ⟨ad', hA', hc'⟩ := hx.cell (k := k - 1) (by omega)
        obtain rfl : ad = ad' := by injection hA'
        have hpos : decide (0 < k) = true := by simp; omega
        by_cases hle : nth l k ≤ nth l (k - 1)
        · go_wp2
          go_roundw
          case rel => exact ⟨k + 1, by omega, by go_num, (by first | exact ⟨_, rfl⟩ | exact ⟨_, (World.drewN_drewN _ _ _).symm⟩ | exact Quiet.refl _ | (simp only [World.drewN_drewN]; exact ⟨_, rfl⟩)), upTo HT.out (shapeAt_le HB.out hle)⟩
          case measure => simp [intOf]; omega
        · go_wp2
          go_ret
          exact ⟨ret_bool (isShapeB_no HL.out hlt (shapeAt_gt (by omega) (by omega))).symm, (by first | exact ⟨_, rfl⟩ | exact ⟨_, (World.drewN_drewN _ _ _).symm⟩ | exact Quiet.refl _ | (simp only [World.drewN_drewN]; exact ⟨_, rfl⟩))⟩
    · go_wp2
      go_ret
      refine ⟨ret_bool ?_, (by first | exact ⟨_, rfl⟩ | exact ⟨_, (World.drewN_drewN _ _ _).symm⟩ | exact Quiet.refl _ | (simp only [World.drewN_drewN]; exact ⟨_, rfl⟩))⟩
      rw [isShapeB_all HL.out (fun j hj => HT.out j (by omega))]
      simp
      omega

theorem rowOf_any {A : Option Addr} {n : Nat} {l : List Int} {w : World} (c : Nat) (i : Int) (hx : RI w A n l) (h0 : 0 ≤ i) (hn : n ≤ 9223372036854775807) :
    Calls Try.prog 30 #[.slice A n c, .int .i64 i] w (Gives w (.int .i64 (nth l i.toNat))) := by
  obtain ⟨k, rfl⟩ := Int.eq_ofNat_of_zero_le h0
  rw [Int.toNat_natCast]
  by_cases hlt : k < n
  · obtain ⟨ad, hA, hc⟩ := hx.cell hlt
    subst hA
    go_enter Try.func30, Try.ntmps30
    go_wp2
    go_ret
    exact ⟨rfl, (by first | exact ⟨_, rfl⟩ | exact ⟨_, (World.drewN_drewN _ _ _).symm⟩ | exact Quiet.refl _ | (simp only [World.drewN_drewN]; exact ⟨_, rfl⟩))⟩
  · have HZ := Lib.hid (nth_ge (l := l) (k := k) (by rw [hx.1]; omega))
    go_enter Try.func30, Try.ntmps30
    go_wp2
    go_ret
    exact ⟨by rw [HZ.out]; rfl, (by first | exact ⟨_, rfl⟩ | exact ⟨_, (World.drewN_drewN _ _ _).symm⟩ | exact Quiet.refl _ | (simp only [World.drewN_drewN]; exact ⟨_, rfl⟩))⟩

theorem isBox_any {w : World} (k n : Int) : Calls Try.prog 21 #[.int .i64 k, .int .i64 n] w (Gives w (.bool (boxB k n))) := by
  have h0 : boxB k n = (inB n 1 7 && (decide (0 ≤ k) && decide (k ≤ n))) := by simp [boxB, inB]
  have H0 := Lib.hid h0
  clear h0
  rcases Bool.eq_false_or_eq_true (inB n 1 7) with h | h
  · have HH := Lib.hid h
    go_enter Try.func21, Try.ntmps21
    go_wp2_with (go_at_call 39; refine (isSize_any _).mono ?_; rintro e w' ⟨rfl, q0, rfl⟩)
    all_goals go_ret
    all_goals refine ⟨?_, (by first | exact ⟨_, rfl⟩ | exact ⟨_, (World.drewN_drewN _ _ _).symm⟩ | exact Quiet.refl _ | (simp only [World.drewN_drewN]; exact ⟨_, rfl⟩))⟩
    all_goals rw [H0.out, HH.out]
    all_goals simp
    all_goals omega
  · have HH := Lib.hid h
    go_enter Try.func21, Try.ntmps21
    go_wp2_with (go_at_call 39; refine (isSize_any _).mono ?_; rintro e w' ⟨rfl, q0, rfl⟩)
    all_goals go_ret
    all_goals refine ⟨?_, (by first | exact ⟨_, rfl⟩ | exact ⟨_, (World.drewN_drewN _ _ _).symm⟩ | exact Quiet.refl _ | (simp only [World.drewN_drewN]; exact ⟨_, rfl⟩))⟩
    all_goals rw [H0.out, HH.out]
    all_goals simp

theorem iIsInBox_any {A : Option Addr} {n0 : Nat} {l : List Int} {w : World} (c : Nat) (k n : Int) (hx : RI w A n0 l) (hn : n0 ≤ 1000000000) :
    Calls Try.prog 13 #[.slice A n0 c, .int .i64 k, .int .i64 n] w (Gives w (.bool (inBoxB l k n))) := by
  have HL := Lib.hid hx.1
  rcases Bool.eq_false_or_eq_true (boxB k n) with hb | hb
  · have HB := Lib.hid hb
    obtain ⟨⟨b1, b2⟩, b3, b4⟩ := boxB_iff.1 hb

    rcases Bool.eq_false_or_eq_true (isShapeB l) with hs | hs
    · have HS := Lib.hid hs
      by_cases hr : (n0 : Int) ≤ k
      · have HY := Lib.hid (inBoxB_yes (l := l) HB.out HS.out (by rw [HL.out]; exact hr))
        go_enter Try.func13, Try.ntmps13
        go_wp2_with (first | (go_at_call 21; refine (isBox_any _ _).mono ?_; rintro e w' ⟨rfl, q0, rfl⟩) | (go_at_call 29; refine (iIsShape_any _ (by exact hx.drewN _) hn).mono ?_; rintro e w' ⟨rfl, q0, rfl⟩) | (go_at_call 30; refine (rowOf_any _ 0 (by exact hx.drewN _) (by omega) (by omega)).mono ?_; rintro e w' ⟨rfl, q0, rfl⟩))
        go_ret
        exact ⟨ret_bool HY.out.symm, (by first | exact ⟨_, rfl⟩ | exact ⟨_, (World.drewN_drewN _ _ _).symm⟩ | exact Quiet.refl _ | (simp only [World.drewN_drewN]; exact ⟨_, rfl⟩))⟩
      · have HY := Lib.hid (inBoxB_rows (l := l) (n := n) (k := k) (by rw [HL.out]; exact hr))
        go_enter Try.func13, Try.ntmps13
        go_wp2_with (first | (go_at_call 21; refine (isBox_any _ _).mono ?_; rintro e w' ⟨rfl, q0, rfl⟩) | (go_at_call 29; refine (iIsShape_any _ (by exact hx.drewN _) hn).mono ?_; rintro e w' ⟨rfl, q0, rfl⟩) | (go_at_call 30; refine (rowOf_any _ 0 (by exact hx.drewN _) (by omega) (by omega)).mono ?_; rintro e w' ⟨rfl, q0, rfl⟩))
        go_ret
        exact ⟨ret_bool HY.out.symm, (by first | exact ⟨_, rfl⟩ | exact ⟨_, (World.drewN_drewN _ _ _).symm⟩ | exact Quiet.refl _ | (simp only [World.drewN_drewN]; exact ⟨_, rfl⟩))⟩
    · have HY := Lib.hid (inBoxB_shape (k := k) (n := n) hs)
      go_enter Try.func13, Try.ntmps13
      go_wp2_with (first | (go_at_call 21; refine (isBox_any _ _).mono ?_; rintro e w' ⟨rfl, q0, rfl⟩) | (go_at_call 29; refine (iIsShape_any _ (by exact hx.drewN _) hn).mono ?_; rintro e w' ⟨rfl, q0, rfl⟩) | (go_at_call 30; refine (rowOf_any _ 0 (by exact hx.drewN _) (by omega) (by omega)).mono ?_; rintro e w' ⟨rfl, q0, rfl⟩))
      go_ret
      exact ⟨ret_bool HY.out.symm, (by first | exact ⟨_, rfl⟩ | exact ⟨_, (World.drewN_drewN _ _ _).symm⟩ | exact Quiet.refl _ | (simp only [World.drewN_drewN]; exact ⟨_, rfl⟩))⟩
  · have HY := Lib.hid (inBoxB_box (l := l) hb)
    go_enter Try.func13, Try.ntmps13
    go_wp2_with (first | (go_at_call 21; refine (isBox_any _ _).mono ?_; rintro e w' ⟨rfl, q0, rfl⟩) | (go_at_call 29; refine (iIsShape_any _ (by exact hx.drewN _) hn).mono ?_; rintro e w' ⟨rfl, q0, rfl⟩) | (go_at_call 30; refine (rowOf_any _ 0 (by exact hx.drewN _) (by omega) (by omega)).mono ?_; rintro e w' ⟨rfl, q0, rfl⟩))
    go_ret
    exact ⟨ret_bool HY.out.symm, (by first | exact ⟨_, rfl⟩ | exact ⟨_, (World.drewN_drewN _ _ _).symm⟩ | exact Quiet.refl _ | (simp only [World.drewN_drewN]; exact ⟨_, rfl⟩))⟩

end Go.Proofs.Ytbemglmnnehllaa

/- Lists compared: l1Same, l1Less, l4Contains of the reference, ints of the statements, ContainsShape of the program. -/
namespace Go.Proofs.Ytbemglmnnehllaa
open Go.RowKit

theorem ints_any {A C : Option Addr} {n m : Nat} {xs ys : List Int} {w : World} (b : Bool) (c d : Nat) (hx : RI w A n xs) (hy : RI w C m ys) (hb : b = decide (xs = ys)) (hn : n ≤ 9223372036854775807) (hm : m ≤ 9223372036854775807) :
    Calls Try.prog 24 #[.slice A n c, .slice C m d] w (Gives w (.bool b)) := by
  have HL1 := Lib.hid hx.1
  have HL2 := Lib.hid hy.1
  have HB := Lib.hid hb
  clear hb
  by_cases hnm : n = m
  · subst hnm
    go_enter Try.func24, Try.ntmps24
    go_wp2
    go_loopw [5] (fun i wr => ∃ k q : Nat, k ≤ n ∧ i = .int .i64 k ∧ w.drewN q = wr ∧ ∀ j, j < k → nth xs j = nth ys j) (fun i _ => n - (intOf i).toNat)
    case atStart => exact ⟨0, 0, Nat.zero_le _, rfl, rfl, by simp⟩
    case round =>
      obtain ⟨k, q, hk, rfl, rfl, ht⟩ := hrel
      have HT := Lib.hid ht
      clear ht
      by_cases hlt : k < n
      · obtain ⟨ad, hA, hc⟩ := hx.cell hlt
        obtain ⟨ad', hA', hc'⟩ := hy.cell hlt
        subst hA hA'
        go_wp2
        go_quiet (fail)
        go_wp2
        · go_ret
          refine ⟨?_, _, (World.drewN_drewN _ _ _).symm⟩
          have : b = false := by
            rw [HB.out]
            rename_i hne
            simp only [decide_eq_false_iff_not]
            intro e
            subst e
            simp at hne
          rw [this]; rfl
        · go_roundw
          case rel =>
            refine ⟨k + 1, _, by omega, by go_num, rfl, ?_⟩
            intro j hj
            rename_i hne
            by_cases hjk : j = k
            · subst hjk; simpa using hne
            · exact HT.out j (by omega)
          case measure => simp [intOf]; omega
      · go_wp2
        go_ret
        refine ⟨?_, _, rfl⟩
        have : b = true := by
          rw [HB.out]
          simp only [decide_eq_true_eq]
          exact agree_all HL1.out HL2.out (fun j hj => HT.out j (by omega))
        rw [this]; rfl
  · go_enter Try.func24, Try.ntmps24
    go_wp2
    go_ret
    refine ⟨?_, Quiet.refl _⟩
    have : b = false := by
      rw [HB.out]
      simp only [decide_eq_false_iff_not]
      intro e
      subst e
      exact hnm (HL1.out.symm.trans HL2.out)
    rw [this]; rfl

end Go.Proofs.Ytbemglmnnehllaa

/- Lists without the zeros at their end; copies: shortened, shapeOfRows of the program; l1Ints, l4Bare of the reference. -/
namespace Go.Proofs.Ytbemglmnnehllaa
open Go.RowKit

theorem shortened_any {A : Option Addr} {n : Nat} {l : List Int} {w : World} (c : Nat) (hx : RI w A n l) (hn : n ≤ 1000000000) (hc : n ≤ c) :
    Calls Try.prog 47 #[.slice A n c] w (Gives w (.slice A (bareLen l n) c)) := by
  have HL := Lib.hid hx.1
  go_enter Try.func47, Try.ntmps47
  go_wp2
  go_loopw [3] (fun i wr => ∃ k : Nat, k ≤ n ∧ i = .int .i64 k ∧ Quiet w wr ∧ Hid (bareLen l k = bareLen l n)) (fun i _ => (intOf i).toNat)
  case atStart => exact ⟨n, Nat.le_refl _, rfl, (by first | exact ⟨_, rfl⟩ | exact ⟨_, (World.drewN_drewN _ _ _).symm⟩ | exact Quiet.refl _ | (simp only [World.drewN_drewN]; exact ⟨_, rfl⟩)), rfl⟩
  case round =>
    obtain ⟨k, hk, rfl, ⟨q, rfl⟩, HT⟩ := hrel
    by_cases hlt : 0 < k
    · obtain ⟨ad, hA, hc⟩ := hx.cell (k := k - 1) (by omega)
      subst hA
      by_cases h0 : nth l (k - 1) = 0
      · have HZ := Lib.hid h0
        rw [h0] at hc
        clear h0
        go_wp2
        go_roundw
        case rel => exact ⟨k - 1, by omega, by go_num, (by first | exact ⟨_, rfl⟩ | exact ⟨_, (World.drewN_drewN _ _ _).symm⟩ | exact Quiet.refl _ | (simp only [World.drewN_drewN]; exact ⟨_, rfl⟩)), (bareLen_zero hlt HZ.out).trans HT.out⟩
        case measure => simp [intOf]; omega
      · have HZ := Lib.hid h0
        have hz : (nth l (k - 1) == 0) = false := by simpa using h0
        clear h0
        have HK := Lib.hid (bareLen_stop hlt HZ.out)
        go_wp2
        go_ret
        exact ⟨by rw [← HT.out, HK.out]; rfl, (by first | exact ⟨_, rfl⟩ | exact ⟨_, (World.drewN_drewN _ _ _).symm⟩ | exact Quiet.refl _ | (simp only [World.drewN_drewN]; exact ⟨_, rfl⟩))⟩
    · have HK := Lib.hid (show k = 0 by omega)
      go_wp2
      go_ret
      exact ⟨by rw [← HT.out, HK.out]; rfl, (by first | exact ⟨_, rfl⟩ | exact ⟨_, (World.drewN_drewN _ _ _).symm⟩ | exact Quiet.refl _ | (simp only [World.drewN_drewN]; exact ⟨_, rfl⟩))⟩

theorem shapeOfRows_any {A : Option Addr} {n : Nat} {l : List Int} {w : World} (c : Nat) (hx : RI w A n l) (hn : n ≤ 1000000000) (hc : n ≤ c) :
    Calls Try.prog 33 #[.slice A n c] w (Gives w (.slice A (bareLen l n) c)) := by
  go_enter Try.func33, Try.ntmps33
  go_wp2_with (go_at_call 47; refine (shortened_any _ hx hn hc).mono ?_; rintro e w' ⟨rfl, q0, rfl⟩)
  go_ret
  exact ⟨rfl, (by first | exact ⟨_, rfl⟩ | exact ⟨_, (World.drewN_drewN _ _ _).symm⟩ | exact Quiet.refl _ | (simp only [World.drewN_drewN]; exact ⟨_, rfl⟩))⟩
end Go.Proofs.Ytbemglmnnehllaa

/- Shapes turned over: ConjugateShape of both sides. -/
namespace Go.Proofs.Ytbemglmnnehllaa
open Go.RowKit

/-- How many of the first k numbers exceed j. -/
def above (l : List Int) (j : Int) : Nat → Nat
  | 0 => 0
  | k + 1 => if j < nth l k then above l j k + 1 else above l j k
theorem above_yes {l : List Int} {j : Int} {k : Nat} (h : j < nth l k) : above l j (k + 1) = above l j k + 1 := by rw [above, if_pos h]
theorem above_no {l : List Int} {j : Int} {k : Nat} (h : ¬ j < nth l k) : above l j (k + 1) = above l j k := by rw [above, if_neg h]
theorem above_le (l : List Int) (j : Int) (k : Nat) : above l j k ≤ k := by
  induction k with
  | zero => exact Nat.le_refl _
  | succ k ih => unfold above; split <;> omega
theorem shape_down {l : List Int} (h : isShapeB l = true) {a b : Nat} (hab : a ≤ b) (hb : b < l.length) : nth l b ≤ nth l a := by
  induction b with
  | zero => rw [Nat.le_zero.1 hab]; exact Int.le_refl _
  | succ b ih =>
    rcases Nat.lt_or_ge a (b + 1) with h1 | h1
    · have i := ih (by omega) (by omega)
      unfold isShapeB at h
      rw [Bool.and_eq_true] at h
      have := (shapeAt_iff.1 (allB_at h.2 hb)).2 (by omega)
      simp only [Nat.add_sub_cancel] at this
      omega
    · rw [show a = b + 1 by omega]; exact Int.le_refl _
theorem above_stop {l : List Int} {j : Int} {m : Nat} (h : isShapeB l = true) (hm : m < l.length) (hj : ¬ j < nth l m) (k : Nat) (hk : m ≤ k) (hkl : k ≤ l.length) : above l j k = above l j m := by
  induction k with
  | zero => rw [Nat.le_zero.1 hk]
  | succ k ih =>
    rcases Nat.lt_or_ge m (k + 1) with h1 | h1
    · have := shape_down h (a := m) (b := k) (by omega) (by omega)
      rw [above_no (by omega), ih (by omega) (by omega)]
    · rw [show m = k + 1 by omega]
theorem above_all {l : List Int} {j : Int} {m : Nat} (h : ∀ i, i < m → j < nth l i) : above l j m = m := by
  induction m with
  | zero => rfl
  | succ m ih => rw [above_yes (h m (by omega)), ih (fun i hi => h i (by omega))]
theorem above_ge {l : List Int} {j : Int} {m k : Nat} (hm : m ≤ k) : above l j m ≤ above l j k := by
  induction k with
  | zero => rw [Nat.le_zero.1 hm]; exact Nat.le_refl _
  | succ k ih =>
    rcases Nat.lt_or_ge m (k + 1) with h1 | h1
    · have := ih (by omega)
      by_cases h : j < nth l k
      · rw [above_yes h]; omega
      · rw [above_no h]; omega
    · rw [show m = k + 1 by omega]; exact Nat.le_refl _
def conjG (l : List Int) (n : Nat) : List Int := gen (fun j => (above l j l.length : Int)) n
/-- The shape turned over. -/
def conjB (l : List Int) : List Int := if isShapeB l then conjG l (nth l 0).toNat else []
theorem conjB_yes {l : List Int} (h : isShapeB l = true) : conjB l = conjG l (nth l 0).toNat := by simp [conjB, h]
theorem conjB_no {l : List Int} (h : isShapeB l = false) : conjB l = [] := by simp [conjB, h]
theorem conjB_nil : conjB [] = [] := rfl
theorem conjG_snoc {l : List Int} {j x : Nat} (h : x = above l j l.length) : conjG l (j + 1) = conjG l j ++ [(x : Int)] := by
  rw [conjG, gen_succ, h]; rfl
theorem conjG_len (l : List Int) (n : Nat) : (conjG l n).length = n := gen_len _ _
theorem shape_len {l : List Int} (h : isShapeB l = true) : l.length ≤ 16 := by
  unfold isShapeB at h
  rw [Bool.and_eq_true, decide_eq_true_eq] at h
  exact h.1

end Go.Proofs.Ytbemglmnnehllaa

/- DualShape of the program and of the reference. -/
namespace Go.Proofs.Ytbemglmnnehllaa
open Go.RowKit

end Go.Proofs.Ytbemglmnnehllaa

/- slices.Contains, l1Has; GrassmannianPerm of the program and of the reference. -/
namespace Go.Proofs.Ytbemglmnnehllaa
open Go.RowKit

end Go.Proofs.Ytbemglmnnehllaa

/- Sums; ShapeOfString of the program and of the reference. -/
namespace Go.Proofs.Ytbemglmnnehllaa
open Go.RowKit

theorem iSum_any {A : Option Addr} {n : Nat} {l : List Int} {w : World} (c : Nat) (hx : RI w A n l) (hs : Small l) (hn : n ≤ 1000000) :
    Calls Try.prog 23 #[.slice A n c] w (Gives w (.int .i64 (sumL l))) := by
  have HL := Lib.hid hx.1
  have HS := Lib.hid hs
  clear hs
  go_enter Try.func23, Try.ntmps23
  go_wp2
  go_loopw [3, 5, 8] (fun s _ i wr => ∃ k : Nat, k ≤ n ∧ i = .int .i64 k ∧ s = .int .i64 (sumTo l k) ∧ Quiet w wr) (fun _ _ i _ => n - (intOf i).toNat)
  case atStart => exact ⟨0, Nat.zero_le _, rfl, rfl, (by first | exact ⟨_, rfl⟩ | exact ⟨_, (World.drewN_drewN _ _ _).symm⟩ | exact Quiet.refl _ | (simp only [World.drewN_drewN]; exact ⟨_, rfl⟩))⟩
  case round =>
    obtain ⟨k, hk, rfl, rfl, ⟨q, rfl⟩⟩ := hrel
    by_cases hlt : k < n
    · obtain ⟨ad, hA, hc⟩ := hx.cell hlt
      subst hA
      obtain ⟨b1, b2⟩ := sumTo_bound HS.out (n := k) (by rw [HL.out]; exact hk)
      obtain ⟨b3, b4⟩ := HS.out k (by rw [HL.out]; exact hlt)
      go_wp2
      go_roundw
      case rel => exact ⟨k + 1, by omega, by go_num, rfl, (by first | exact ⟨_, rfl⟩ | exact ⟨_, (World.drewN_drewN _ _ _).symm⟩ | exact Quiet.refl _ | (simp only [World.drewN_drewN]; exact ⟨_, rfl⟩))⟩
      case measure => simp [intOf]; omega
    · obtain rfl : k = n := by omega
      go_wp2
      go_ret
      exact ⟨by unfold sumL; rw [HL.out]; rfl, (by first | exact ⟨_, rfl⟩ | exact ⟨_, (World.drewN_drewN _ _ _).symm⟩ | exact Quiet.refl _ | (simp only [World.drewN_drewN]; exact ⟨_, rfl⟩))⟩

end Go.Proofs.Ytbemglmnnehllaa
