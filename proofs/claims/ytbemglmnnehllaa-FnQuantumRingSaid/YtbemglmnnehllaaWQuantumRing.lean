/- The walk of FnQuantumRing. -/
import Derived.Test.YtbemglmnnehllaaLTimesQ
import Derived.Test.YtbemglmnnehllaaQLaw
import Derived.Test.YtbemglmnnehllaaBytes
import Derived.Test.YtbemglmnnehllaaGauss
import Derived.ShutString
import Derived.ChangeOld
namespace Go.Proofs.Ytbemglmnnehllaa.lawQuantumRing
open Go.ChangeShapes Go.WideShapes Go.ChangeAt Go.RowKit
open Go.ChangeMaps (open_string shut_string)

theorem gauss0 : (List.range 7).all (fun M => decide ((gaussB 0 (M : Int)).length = if M = 0 then 0 else 1)) = true := by decide +kernel
theorem gauss0_at {M : Nat} (h : 2 ≤ M ∧ M ≤ 6) : (gaussB 0 (M : Int)).length = 1 := by
  have h1 := gauss0
  rw [List.all_eq_true] at h1
  have h2 := h1 M (by rw [List.mem_range]; omega)
  rw [decide_eq_true_eq, if_neg (by omega)] at h2
  exact h2

set_option maxRecDepth 100000 in
set_option maxHeartbeats 4000000 in
theorem walk {A : Option Addr} {n : Nat} (c : Nat) {w : World} (hx : RB w A n) : Calls Try.prog 3 #[.slice A n c] w (Law w) := by
  obtain ⟨w0, ew⟩ : ∃ w0 : World, w0 = w := ⟨_, rfl⟩
  subst ew
  rcases hbig : decide (1048576 < n) with _ | _
  · go_enter Try.func3, Try.ntmps3
    go_wp2_with (go_at_call 4; refine (big_any _).mono ?_; rintro e w' ⟨rfl, q0, rfl⟩)
    clear hbig
    refine (drawBoxes_apart _ (hx.below (Quiet.below ⟨_, rfl⟩))).mono ?_
    rintro e w1 ⟨A1, n1, c1, A2, n2, c2, A3, n3, c3, l, l2, l3, W1, W2, K, M, rfl, hKM, hsh, hsh2, hsh3, o1, o2, o3, hW1, hW2, b1, -, -⟩
    have g1 : Below w0.heap.size w0 w1 := bnext (Quiet.below ⟨_, rfl⟩) b1 (by simp)
    have hn1 : n1 ≤ 6 := by rw [← o1.ri.1]; have := hsh.len; omega
    have hn2 : n2 ≤ 6 := by rw [← o2.ri.1]; have := hsh2.len; omega
    have hn3 : n3 ≤ 6 := by rw [← o3.ri.1]; have := hsh3.len; omega
    have HO1 := Lib.hid o1
    have HO2 := Lib.hid o2
    have HO3 := Lib.hid o3
    have HKM := Lib.hid hKM
    have HG1 := Lib.hid g1
    have HSH := Lib.hid (⟨hsh, hsh2, hsh3⟩ : _ ∧ _ ∧ _)
    clear b1 o1 o2 o3 hsh hsh2 hsh3 hKM g1
    by_cases hK0 : K = 0
    · subst hK0
      have hno : qOk l l2 (0 : Int) (M : Int) = false := by simp [qOk]
      have hqp := iQPro_any (w := w1) c1 c2 (0 : Int) (M : Int) HO1.out HO2.out (by omega) (by omega)
      rw [hno] at hqp
      have HQP := Lib.hid hqp
      have HGA : Hid (∀ W, Calls Try.prog 7 #[.int .i64 (0 : Int), .int .i64 (M : Int)] W (fun e w' => ∃ A c, e = .returned (.slice A 1 c) ∧ Below W.heap.size W w')) := fun W => by
        refine (iGauss_any _ _).mono ?_
        rintro e w' ⟨A, n, c, rfl, -, h2, -, h3⟩
        have h4 := gauss0_at (M := M) (by have := HKM.out; omega)
        have h5 : n = 1 := by rw [← h2.1]; exact h4
        subst h5
        exact ⟨A, c, rfl, h3⟩
      clear hno hqp
      go_wp2_with fail
      refine HQP.out.mono ?_
      rintro e w2 ⟨A4, n4, c4, cs4, rfl, -, -, -, b2⟩
      have HB2 := Lib.hid (bnext HG1.out b2 HG1.out.size)
      clear b2
      go_wp2_with fail
      refine (HGA.out _).mono ?_
      rintro e w3 ⟨A5, c5, rfl, b3⟩
      have HB3 := Lib.hid (bnext HB2.out b3 HB2.out.size)
      clear b3
      go_wp2
      go_ret
      exact ⟨rfl, HB3.out⟩
    have hK1 : 1 ≤ K := by omega
    have hKi : ((K : Int) == 0) = false := by simp; omega
    have m1 := shIn_mem K M l HSH.out.1
    have m2 := shIn_mem K M l2 HSH.out.2.1
    have m3 := shIn_mem K M l3 HSH.out.2.2
    have i1 := HSH.out.1.box HKM.out
    have i2 := HSH.out.2.1.box HKM.out
    have i3 := HSH.out.2.2.box HKM.out
    have hok : ∀ {a b : List Int}, inBoxB a K ((K : Int) + M) = true → inBoxB b K ((K : Int) + M) = true → qOk a b K ((K : Int) + M) = true := fun h1 h2 => by
      unfold qOk
      rw [h1, h2]
      simp
      omega
    have t12 := two_at HKM.out hK1 m1 m2
    have t23 := two_at HKM.out hK1 m2 m3
    have hring := ring_at HKM.out hK1 m1 m2 m3
    unfold mul3 at hring
    have q12 := iQPro_any (w := w1) c1 c2 (K : Int) ((K : Int) + M) HO1.out HO2.out (by omega) (by omega)
    have q21 : ∀ W, Below w1.heap.size w1 W → Calls Try.prog 6 #[.slice A2 n2 c2, .slice A1 n1 c1, .int .i64 (K : Int), .int .i64 ((K : Int) + M)] W (MakesUb W (decL (qpB l l2 K ((K : Int) + M))) true) := fun W bW => by
      have h := iQPro_any (w := W) c2 c1 (K : Int) ((K : Int) + M) (OI.below HO2.out bW) (OI.below HO1.out bW) (by omega) (by omega)
      rw [hok i2 i1, ← t12.1] at h
      exact h
    have q23 : ∀ W, Below w1.heap.size w1 W → Calls Try.prog 6 #[.slice A2 n2 c2, .slice A3 n3 c3, .int .i64 (K : Int), .int .i64 ((K : Int) + M)] W (MakesUb W (decL (qpB l2 l3 K ((K : Int) + M))) true) := fun W bW => by
      have h := iQPro_any (w := W) c2 c3 (K : Int) ((K : Int) + M) (OI.below HO2.out bW) (OI.below HO3.out bW) (by omega) (by omega)
      rw [hok i2 i3] at h
      exact h
    rw [hok i1 i2] at q12
    have HT12 := Lib.hid t12.2
    have HT23 := Lib.hid t23.2
    obtain ⟨Q1, hQ1⟩ : ∃ Q, Q = qpB l l2 K ((K : Int) + M) := ⟨_, rfl⟩
    obtain ⟨Q2, hQ2⟩ : ∃ Q, Q = qpB l2 l3 K ((K : Int) + M) := ⟨_, rfl⟩
    rw [← hQ1] at q12 HT12 hring
    rw [← hQ2] at q23 HT23 hring
    have q21' : ∀ W, Below w1.heap.size w1 W → Calls Try.prog 6 #[.slice A2 n2 c2, .slice A1 n1 c1, .int .i64 (K : Int), .int .i64 ((K : Int) + M)] W (MakesUb W (decL Q1) true) := by rw [hQ1]; exact q21
    have H12 := Lib.hid q12
    have H21 := Lib.hid q21'
    have H23 := Lib.hid q23
    have HRING := Lib.hid hring
    have HI := Lib.hid (⟨i1, i3⟩ : _ ∧ _)
    clear m1 m2 m3 i1 i2 i3 hok t12 t23 hring q12 q21 q21' q23 hQ1 hQ2 hK0
    obtain ⟨N, hN⟩ : ∃ N : Int, N = (K : Int) + M := ⟨_, rfl⟩
    have HNN := Lib.hid hN
    rw [← hN] at H12 H21 H23 HRING HI HT12 HT23 ⊢
    clear hN
    have HTA : Hid (∀ W b b' v cs, Below w1.heap.size w1 W → OU W b b' v (decL Q1) cs → Calls Try.prog 9 #[v, .slice A3 n3 c3, .int .i64 (K : Int), .int .i64 N] W (TimesQ W (decL (mulL l3 K N Q1 [])))) := fun W b b' v cs bW h => by
      have h1 := HT12.out
      have h2 := HI.out.2
      rw [HNN.out] at h1 h2 ⊢
      exact ltimesQ_any c3 HKM.out hK1 h (OI.below HO3.out bW) h2 (by omega) h1.1 h1.2
    have HTB : Hid (∀ W b b' v cs, Below w1.heap.size w1 W → OU W b b' v (decL Q2) cs → Calls Try.prog 9 #[v, .slice A1 n1 c1, .int .i64 (K : Int), .int .i64 N] W (TimesQ W (decL (mulL l3 K N Q1 [])))) := fun W b b' v cs bW h => by
      have h1 := HT23.out
      have h2 := HI.out.1
      have h3 := HRING.out
      rw [HNN.out] at h1 h2 h3 ⊢
      rw [h3]
      exact ltimesQ_any c1 HKM.out hK1 h (OI.below HO1.out bW) h2 (by omega) h1.1 h1.2
    have hl1 : (decL Q1).length ≤ 1000000000 := by rw [decL_len]; have := HT12.out.1; omega
    obtain ⟨R, hR⟩ : ∃ R, R = mulL l3 K N Q1 [] := ⟨_, rfl⟩
    have hup : R.length ≤ 10000 := by
      rw [hR]
      exact mul_len HT12.out.1 fun x hx => by
        have h1 := HT12.out.2 x hx
        have h2 := two_at HKM.out hK1 (box_mem (by rw [← HNN.out]; exact h1.2.2.2)) (box_mem (by rw [← HNN.out]; exact HI.out.2))
        rw [← HNN.out] at h2
        exact h2.2.1
    have hl2 : (decL R).length ≤ 1000000000 := by rw [decL_len]; omega
    rw [← hR] at HTA HTB
    clear hR hup HRING HI
    go_wp2_with fail
    refine H12.out.mono ?_
    rintro e w2 ⟨A4, n4, c4, cs4, rfl, o4, -, -, b2⟩
    have HO4 := Lib.hid o4
    clear o4
    go_wp2_with fail
    refine (H21.out _ b2).mono ?_
    rintro e w3 ⟨A5, n5, c5, cs5, rfl, o5, -, -, b3'⟩
    have HO4 := Lib.hid (OU.below HO4.out b3')
    have HO5 := Lib.hid o5
    have b3 := bnext b2 b3' b2.size
    clear o5 b3'
    go_wp2_with fail
    refine (H23.out _ b3).mono ?_
    rintro e w4 ⟨A6, n6, c6, cs6, rfl, o6, -, -, b4'⟩
    have HO4 := Lib.hid (OU.below HO4.out b4')
    have HO5 := Lib.hid (OU.below HO5.out b4')
    have HO6 := Lib.hid o6
    have b4 := bnext b3 b4' b3.size
    clear o6 b4' b2 b3
    go_wp2_with fail
    refine (qparts_any HO4.out HO5.out hl1).mono ?_
    rintro e w5 ⟨rfl, b5'⟩
    have HO4 := Lib.hid (OU.below HO4.out b5')
    have HO6 := Lib.hid (OU.below HO6.out b5')
    have b5 := bnext b4 b5' b4.size
    clear b5' b4
    go_wp2_with fail
    refine (HTA.out _ _ _ _ _ b5 HO4.out).mono ?_
    rintro e w6 ⟨A7, n7, c7, cs7, rfl, o7, b6'⟩
    have HO7 := Lib.hid o7
    have HO6 := Lib.hid (OU.below HO6.out b6')
    have b6 := bnext b5 b6' b5.size
    clear o7 b6' b5
    go_wp2_with fail
    refine (HTB.out _ _ _ _ _ b6 HO6.out).mono ?_
    rintro e w7 ⟨A8, n8, c8, cs8, rfl, o8, b7'⟩
    have HO7 := Lib.hid (OU.below HO7.out b7')
    have HO8 := Lib.hid o8
    have b7 := bnext b6 b7' b6.size
    clear o8 b7' b6
    go_wp2_with fail
    refine (qparts_any HO7.out HO8.out hl2).mono ?_
    rintro e w8 ⟨rfl, b8'⟩
    have HF := Lib.hid (bnext HG1.out (bnext b7 b8' b7.size) HG1.out.size)
    clear b8' b7
    go_wp2
    go_ret
    exact ⟨rfl, HF.out⟩
  · go_enter Try.func3, Try.ntmps3
    go_wp2_with (go_at_call 4; refine (big_any _).mono ?_; rintro e w' ⟨rfl, q0, rfl⟩)
    go_ret
    exact ⟨rfl, Quiet.below ⟨_, rfl⟩⟩
end Go.Proofs.Ytbemglmnnehllaa.lawQuantumRing
