/- The walk of FnBoxed. -/
import Derived.Test.YteodckkkjhapgaaPerms
import Derived.Test.YteodckkkjhapgaaPerm
import Derived.Test.YteodckkkjhapgaaStrOf
import Derived.Test.YteodckkkjhapgaaBoxP
import Derived.Test.YteodckkkjhapgaaBytes
import Derived.ShutString
import Derived.ChangeOld
namespace Go.Proofs.Yteodckkkjhapgaa.lawBoxed
open Go.ChangeShapes Go.WideShapes Go.ChangeAt Go.RowKit
open Go.ChangeMaps (open_string shut_string)

set_option maxHeartbeats 1600000 in
theorem walk {A : Option Addr} {n : Nat} (c : Nat) {w : World} (hx : RB w A n) : Calls Try.prog 5 #[.slice A n c] w (Law w) := by
  obtain ⟨w0, ew⟩ : ∃ w0 : World, w0 = w := ⟨_, rfl⟩
  subst ew
  rcases hbig : decide (1048576 < n) with _ | _
  · go_enter Try.func5, Try.ntmps5
    go_wp2_with (go_at_call 17; refine (big_any _).mono ?_; rintro e w' ⟨rfl, q0, rfl⟩)
    clear hbig
    refine (drawBoxes_any _ (hx.below (Quiet.below ⟨_, rfl⟩))).mono ?_
    rintro e w1 ⟨A1, n1, c1, A2, n2, c2, A3, n3, c3, l, l2, l3, W1, W2, K, M, rfl, hKM, hsh, -, -, o1, -, -, -, -, b1⟩
    have g1 : Below w0.heap.size w0 w1 := bnext (Quiet.below ⟨_, rfl⟩) b1 (by simp)
    have x1 := o1.ri
    have hn1 : n1 ≤ 6 := by rw [← x1.1]; have := hsh.len; omega
    have HB := Lib.hid (hsh.box hKM)
    have HSM := Lib.hid (small_shape (hsh.shape (by omega) (by omega)))
    have HSH := Lib.hid (hsh.shape (K := K) (M := M) (by omega) (by omega))
    have HLN := Lib.hid x1.1
    have hok := boxed_at hKM hsh
    clear b1 o1 hsh
    obtain ⟨hKM1, hKM2⟩ := hKM
    obtain ⟨p, hp⟩ : ∃ p, p = grassB l K ((K : Int) + M) := ⟨_, rfl⟩
    obtain ⟨s, hs⟩ : ∃ s, s = strB l K ((K : Int) + M) := ⟨_, rfl⟩
    obtain ⟨f1, f2, f3, f4, f5, f6, f7, f8⟩ := boxed_facts hp hs hok
    have HP := Lib.hid hp
    have HS := Lib.hid hs
    have hpl : p.length ≤ 7 := by
      unfold grassmannB at f1
      rw [Bool.and_eq_true] at f1
      exact (permB_size f1.1).2
    have hsl : s.length ≤ 7 := (isStrB_iff.1 f3).1.2
    have F1 := Lib.hid f1
    have F2 := Lib.hid f2
    have F3 := Lib.hid f3
    have F4 := Lib.hid f4
    have F5 := Lib.hid f5
    have F6 := Lib.hid f6
    have F7 := Lib.hid f7
    have F8 := Lib.hid f8
    clear f1 f2 f3 f4 f5 f6 f7 f8 hp hs hok
    go_wp2_with fail
    refine (iGrass_any _ _ _ x1 (by omega)).mono ?_
    rintro e w2 ⟨B2, m2, k2, rfl, o2, r2, ⟨cp2, le2⟩, b2⟩
    rw [← HP.out] at r2
    rw [r2.1] at hpl
    have g2 := bnext g1 b2 g1.size
    clear o2
    go_wp2_with fail
    refine (iStrOf_any _ _ _ (x1.below b2) (by omega)).mono ?_
    rintro e w3 ⟨B3, m3, k3, rfl, o3, r3, ⟨cp3, le3⟩, b3⟩
    rw [← HS.out] at r3
    rw [r3.1] at hsl
    have g3 := bnext g2 b3 g2.size
    have b13 := b2.trans (b3.mono b2.size)
    clear o3
    go_wp2_with fail
    refine (iShapeStr_any _ r3 (by omega)).mono ?_
    rintro e w4 ⟨B4, m4, k4, rfl, o4, r4, ⟨cp4, le4⟩, b4⟩
    rw [F5.out] at r4
    have g4 := bnext g3 b4 g3.size
    have b14 := b13.trans (b4.mono b13.size)
    have b24 := b3.trans (b4.mono b3.size)
    rw [F4.out, F3.out]
    clear o4
    go_wp2_with fail
    refine (isGrass_any _ (r2.below b24) (by omega)).mono ?_
    rintro e w5 ⟨rfl, b5⟩
    rw [F1.out]
    have g5 := bnext g4 b5 g4.size
    have b15 := b14.trans (b5.mono b14.size)
    have b25 := b24.trans (b5.mono b24.size)
    go_wp2_with fail
    refine (length_any _ (r2.below b25) (by omega) cp2).mono ?_
    rintro e w6 ⟨rfl, b6⟩
    have g6 := bnext g5 b6 g5.size
    have b16 := b15.trans (b6.mono b15.size)
    have b26 := b25.trans (b6.mono b25.size)
    rw [F2.out]
    obtain ⟨S, hS⟩ : ∃ S, S = sumL l := ⟨_, rfl⟩
    have HSUM : Hid (∀ W, RI W A1 n1 l → Calls Try.prog 27 #[.slice A1 n1 c1] W (Gives W (.int .i64 S))) := fun W h => by rw [hS]; exact lsum_any _ h HSM.out (by omega)
    rw [← hS]
    clear hS
    go_wp2_with fail
    refine (HSUM.out _ (x1.below b16)).mono ?_
    rintro e w7 ⟨rfl, q7⟩
    have b7 := q7.below (B := w6.heap.size)
    have g7 := bnext g6 b7 g6.size
    have b17 := b16.trans (b7.mono b16.size)
    have b47 := (b5.trans (b6.mono b5.size)).trans (b7.mono (b5.trans (b6.mono b5.size)).size)
    have b27 := b26.trans (b7.mono b26.size)
    have hne1 : (S != S) = false := by simp
    have hne2 : ((K : Int) != (K : Int)) = false := by simp
    go_wp2_with fail
    refine (ints_any true _ _ (r4.below b47) (x1.below b17) (by simp) (by omega) (by omega)).mono ?_
    rintro e w8 ⟨rfl, q8⟩
    have b8 := q8.below (B := w7.heap.size)
    have g8 := bnext g7 b8 g7.size
    have b18 := b17.trans (b8.mono b17.size)
    have b28 := b27.trans (b8.mono b27.size)
    clear q7 q8 r4 b47
    go_wp2_with fail
    refine (iConj_any _ (x1.below b18) (by omega)).mono ?_
    rintro e w9 ⟨B9, m9, k9, rfl, o9, r9, ⟨cp9, le9⟩, b9⟩
    have g9 := bnext g8 b9 g8.size
    have b19 := b18.trans (b9.mono b18.size)
    have b29 := b28.trans (b9.mono b28.size)
    have hm9 : m9 ≤ 16 := by
      rw [← r9.1, conjB_yes HSH.out, conjG_len]
      have := shape_range HSH.out 0
      omega
    clear o9
    go_wp2_with fail
    refine (iConj_any _ r9 (by omega)).mono ?_
    rintro e w10 ⟨B10, m10, k10, rfl, o10, r10, ⟨cp10, le10⟩, b10⟩
    rw [F6.out] at r10
    have g10 := bnext g9 b10 g9.size
    have b110 := b19.trans (b10.mono b19.size)
    have b210 := b29.trans (b10.mono b29.size)
    clear o10 r9
    go_wp2_with fail
    refine (ints_any true _ _ r10 (x1.below b110) (by simp) (by omega) (by omega)).mono ?_
    rintro e w11 ⟨rfl, q11⟩
    have b11 := q11.below (B := w10.heap.size)
    have g11 := bnext g10 b11 g10.size
    have b111 := b110.trans (b11.mono b110.size)
    have b211 := b210.trans (b11.mono b210.size)
    clear q11 r10
    go_wp2_with fail
    refine (iIsInBox_any _ _ _ (x1.below b111) (by omega)).mono ?_
    rintro e w12 ⟨rfl, q12⟩
    have b12 := q12.below (B := w11.heap.size)
    have g12 := bnext g11 b12 g11.size
    have b112 := b111.trans (b12.mono b111.size)
    have b212 := b211.trans (b12.mono b211.size)
    rw [HB.out]
    clear q12
    go_wp2_with fail
    refine (shapeOfPerm_any _ (r2.below b212) (by omega)).mono ?_
    rintro e w13 ⟨B13, m13, k13, rfl, o13, r13, ⟨cp13, le13⟩, b13'⟩
    have g13 := bnext g12 b13' g12.size
    have b113 := b112.trans (b13'.mono b112.size)
    rw [F7.out, HLN.out]
    clear o13
    by_cases h0 : 0 < n1
    · obtain ⟨y1, y2⟩ := F8.out (by rw [HLN.out]; exact h0)
      rw [y1]
      rw [y2] at r13
      clear y1 y2
      have e1 : decide (0 < n1) = true := by simpa using h0
      have e2 : decide ((0 : Int) < (n1 : Int)) = true := by simp; omega
      rw [e1]
      have e3 : ((K : Int) == (K : Int)) = true := by simp
      go_wp2_with fail
      refine (ints_any true _ _ r13 (x1.below b113) (by simp) (by omega) (by omega)).mono ?_
      rintro e w14 ⟨rfl, q14⟩
      have g14 := bnext g13 (q14.below (B := w13.heap.size)) g13.size
      go_wp2
      go_ret
      exact ⟨rfl, g14⟩
    · obtain rfl : n1 = 0 := by omega
      have e1 : decide (0 < 0) = false := rfl
      rw [e1]
      go_wp2
      go_ret
      exact ⟨rfl, g13⟩
  · go_enter Try.func5, Try.ntmps5
    go_wp2_with (go_at_call 17; refine (big_any _).mono ?_; rintro e w' ⟨rfl, q0, rfl⟩)
    go_ret
    exact ⟨rfl, Quiet.below ⟨_, rfl⟩⟩
end Go.Proofs.Yteodckkkjhapgaa.lawBoxed
