/- The walk of FnPuzzleProduct. -/
import Derived.Test.YtnljlophgolejaaPzFinP1
import Derived.Test.YtnljlophgolejaaPzFinP2
import Derived.Test.YtnljlophgolejaaPzFinP3
import Derived.Test.YtnljlophgolejaaPzFinP4
import Derived.Test.YtnljlophgolejaaBoxP
import Derived.Test.YtnljlophgolejaaLawF
import Derived.Test.YtnljlophgolejaaZDraw
import Derived.ShutString
import Derived.ChangeOld
namespace Go.Proofs.Ytnljlophgolejaa.lawPuzzleProductF
open Go.ChangeShapes Go.WideShapes Go.ChangeAt Go.RowKit
open Go.ChangeMaps (open_string shut_string)

theorem chkP_at {K M : Nat} {a b : List Int} (h : 2 ≤ K + M ∧ K + M ≤ 6) (ha : ShIn a K M) (hb : ShIn b K M) : chkP1 K M a b = true := by
  have ma := shIn_mem K M a ha
  have mb := shIn_mem K M b hb
  have fin : chkP K M = true → chkP1 K M a b = true := fun h => by
    unfold chkP at h
    rw [List.all_eq_true] at h
    have h1 := h a ma
    rw [List.all_eq_true] at h1
    exact h1 b mb
  by_cases h5 : K + M ≤ 5
  · have h1 := chkP_small
    rw [List.all_eq_true] at h1
    have h2 := h1 K (by rw [List.mem_range]; omega)
    rw [List.all_eq_true] at h2
    have h3 := h2 M (by rw [List.mem_range]; omega)
    rw [Bool.or_eq_true, decide_eq_true_eq] at h3
    exact fin (h3.resolve_left (by omega))
  · have hc : (K = 0 ∧ M = 6) ∨ (K = 1 ∧ M = 5) ∨ (K = 2 ∧ M = 4) ∨ (K = 3 ∧ M = 3) ∨ (K = 4 ∧ M = 2) ∨ (K = 5 ∧ M = 1) ∨ (K = 6 ∧ M = 0) := by omega
    rcases hc with ⟨rfl, rfl⟩ | ⟨rfl, rfl⟩ | ⟨rfl, rfl⟩ | ⟨rfl, rfl⟩ | ⟨rfl, rfl⟩ | ⟨rfl, rfl⟩ | ⟨rfl, rfl⟩
    · exact fin chkP_06
    · exact fin chkP_15
    · exact fin chkP_24
    · have hm : a ∈ (shapesIn 3 3).take 10 ++ (shapesIn 3 3).drop 10 := by rw [List.take_append_drop]; exact ma
      rcases List.mem_append.1 hm with hm | hm
      · have h1 := chkP_33a
        rw [List.all_eq_true] at h1
        have h2 := h1 a hm
        rw [List.all_eq_true] at h2
        exact h2 b mb
      · have h1 := chkP_33b
        rw [List.all_eq_true] at h1
        have h2 := h1 a hm
        rw [List.all_eq_true] at h2
        exact h2 b mb
    · exact fin chkP_42
    · exact fin chkP_51
    · exact fin chkP_60
theorem prod_at {K M : Nat} {a b c : List Int} (h : 2 ≤ K + M ∧ K + M ≤ 6) (ha : ShIn a K M) (hb : ShIn b K M) (hc : ShIn c K M) :
    alikeB (strB a K ((K : Int) + M)) (strB b K ((K : Int) + M)) = true ∧ ppB (strB a K ((K : Int) + M)) (strB b K ((K : Int) + M)) = fillB a b K M ∧
      cntPz (strB a K ((K : Int) + M)) (strB b K ((K : Int) + M)) (strB c K ((K : Int) + M)) = cntP (fillB a b K M) c := by
  have h1 := chkP_at h ha hb
  unfold chkP1 at h1
  rw [Bool.and_eq_true, Bool.and_eq_true, decide_eq_true_eq, List.all_eq_true] at h1
  exact ⟨h1.1, h1.2.1, of_decide_eq_true (h1.2.2 c (shIn_mem K M c hc))⟩
theorem strB_len7 {l : List Int} {k n : Int} (h : alikeB (strB l k n) (strB l k n) = true) : (strB l k n).length ≤ 7 := (isStrB_iff.1 (alike_str h).1).1.2

set_option maxHeartbeats 1600000 in
theorem walk {A : Option Addr} {n : Nat} (c : Nat) {w : World} (hx : RB w A n) : Calls Try.prog 9 #[.slice A n c] w (Law w) := by
  obtain ⟨w0, ew⟩ : ∃ w0 : World, w0 = w := ⟨_, rfl⟩
  subst ew
  rcases hbig : decide (1048576 < n) with _ | _
  · go_enter Try.func9, Try.ntmps9
    go_wp2_with (go_at_call 31; refine (big_any _).mono ?_; rintro e w' ⟨rfl, q0, rfl⟩)
    clear hbig
    refine (drawBoxes_apart _ (hx.below (Quiet.below ⟨_, rfl⟩))).mono ?_
    rintro e w1 ⟨A1, n1, c1, A2, n2, c2, A3, n3, c3, l, l2, l3, W1, W2, K, M, rfl, hKM, hsh, hsh2, hsh3, o1, o2, o3, hW1, hW2, b1, -, -⟩
    have hs0 : w0.heap.size ≤ (w0.drewN q0).heap.size := by simp
    have g1 : Below w0.heap.size w0 w1 := bnext (Quiet.below ⟨_, rfl⟩) b1 (by simp)
    have hn1 : n1 ≤ 6 := by rw [← o1.ri.1]; have := hsh.len; omega
    have hn2 : n2 ≤ 6 := by rw [← o2.ri.1]; have := hsh2.len; omega
    have hn3 : n3 ≤ 6 := by rw [← o3.ri.1]; have := hsh3.len; omega
    have HP := Lib.hid (prod_at hKM hsh hsh2 hsh3)
    have hu6 : (strB l3 K ((K : Int) + M)).length ≤ 7 := by rw [(str_at hKM hsh3).2.1]; omega
    have HGOK : Hid (grOk l l2 K ((K : Int) + M) = true) := by
      show _ = _
      unfold grOk
      rw [hsh.box hKM, hsh2.box hKM]; rfl
    have HO1 := Lib.hid o1
    have HO2 := Lib.hid o2
    have HO3 := Lib.hid o3
    clear b1 o1 o2 o3 hsh hsh2 hsh3
    obtain ⟨hKM1, hKM2⟩ := hKM
    obtain ⟨N, hN⟩ : ∃ N : Int, N = (K : Int) + M := ⟨_, rfl⟩
    rw [← hN] at HP HGOK hu6 ⊢
    have HGB : Hid (grB l l2 K N = fillB l l2 K M) := by show _ = _; rw [hN]; exact grB_yes (by rw [← hN]; exact HGOK.out)
    obtain ⟨s, hs⟩ : ∃ s, s = strB l K N := ⟨_, rfl⟩
    obtain ⟨t, ht⟩ : ∃ t, t = strB l2 K N := ⟨_, rfl⟩
    obtain ⟨u, hu⟩ : ∃ u, u = strB l3 K N := ⟨_, rfl⟩
    have HS1 : Hid (∀ W, Below w1.heap.size w1 W → Calls Try.prog 35 #[.slice A1 n1 c1, .int .i64 (K : Int), .int .i64 N] W (Makes W s)) := fun W b => by rw [hs]; exact iStrOf_any c1 K N (HO1.out.ri.below b) (by omega)
    have HS2 : Hid (∀ W, Below w1.heap.size w1 W → Calls Try.prog 35 #[.slice A2 n2 c2, .int .i64 (K : Int), .int .i64 N] W (Makes W t)) := fun W b => by rw [ht]; exact iStrOf_any c2 K N (HO2.out.ri.below b) (by omega)
    have HS3 : Hid (∀ W, Below w1.heap.size w1 W → Calls Try.prog 35 #[.slice A3 n3 c3, .int .i64 (K : Int), .int .i64 N] W (Makes W u)) := fun W b => by rw [hu]; exact iStrOf_any c3 K N (HO3.out.ri.below b) (by omega)
    rw [← hs, ← ht, ← hu] at HP
    rw [← hu] at hu6
    have HU6 := Lib.hid hu6
    clear hu6
    clear hs ht hu hN
    obtain ⟨hst1, hst2, hst3, -⟩ := alike_str HP.out.1
    have hl7 := (isStrB_iff.1 hst1).1.2
    have hlt7 : t.length ≤ 7 := by rw [← hst3]; exact hl7
    clear hst1 hst2 hst3
    go_wp2_with fail
    refine (HS1.out _ (Below.refl _ _)).mono ?_
    rintro e w2 ⟨A4, n4, c4, rfl, o4, r4, ⟨cp4, le4⟩, b2⟩
    have hn4 : n4 ≤ 7 := by rw [← r4.1]; exact hl7
    have HR4 := Lib.hid r4
    clear o4 r4
    go_wp2_with fail
    refine (HS2.out _ b2).mono ?_
    rintro e w3 ⟨A5, n5, c5, rfl, o5, r5, ⟨cp5, le5⟩, b3'⟩
    have hn5 : n5 ≤ 7 := by rw [← r5.1]; exact hlt7
    have b3 := bnext b2 b3' b2.size
    have HR5 := Lib.hid r5
    have HR4 := Lib.hid (HR4.out.below b3')
    clear o5 r5 b3'
    go_wp2_with fail
    refine (iPPro_any c4 c5 HR4.out HR5.out (by omega) (by omega)).mono ?_
    rw [HP.out.1, HP.out.2.1]
    rintro e w4 ⟨A6, n6, c6, cs6, rfl, o6, l6, ⟨cp6, le6⟩, b4'⟩
    have b4 := bnext b3 b4' b3.size
    have HR4 := Lib.hid (HR4.out.below b4')
    have HR5 := Lib.hid (HR5.out.below b4')
    have HO6 := Lib.hid o6
    clear o6 b4'
    go_wp2_with fail
    refine (iGr_any c1 c2 (K : Int) N (OI.below HO1.out b4) (OI.below HO2.out b4) (by omega) (by omega)).mono ?_
    rw [HGB.out, HGOK.out]
    rintro e w5 ⟨A7, n7, c7, cs7, rfl, o7, l7, ⟨cp7, le7⟩, b5'⟩
    have b5 := bnext b4 b5' b4.size
    have HR4 := Lib.hid (HR4.out.below b5')
    have HR5 := Lib.hid (HR5.out.below b5')
    have HO6 := Lib.hid (OF.below HO6.out b5')
    have HO7 := Lib.hid o7
    clear o7 b5'
    have hgs := grB_small (a := l) (b := l2) (k := K) (n := N)
    rw [HGB.out] at hgs
    obtain ⟨F, hF⟩ : ∃ F, F = fillB l l2 K M := ⟨_, rfl⟩
    rw [← hF] at hgs HO6 HO7 HP l6 l7
    obtain ⟨hgs1, hgs2⟩ := hgs
    have HGS := Lib.hid hgs2
    clear hF hgs2
    go_wp2_with fail
    refine (parts_any HO6.out HO7.out (by omega)).mono ?_
    rintro e w6 ⟨rfl, b6'⟩
    have b6 := bnext b5 b6' b5.size
    have g6 := bnext g1 b6 g1.size
    have HR4 := Lib.hid (HR4.out.below b6')
    have HR5 := Lib.hid (HR5.out.below b6')
    have HO7 := Lib.hid (OF.below HO7.out b6')
    obtain ⟨x, hx⟩ : ∃ x, x = cntP F l3 := ⟨_, rfl⟩
    have HX : Hid (cntPz s t u = x) := by show _ = _; rw [hx]; exact HP.out.2.2
    have hxx : (x == x) = true := by simp
    have HSC : Hid (∀ W, Below w6.heap.size w6 W → Calls Try.prog 35 #[.slice A3 n3 c3, .int .i64 (K : Int), .int .i64 N] W (fun e w' => ∃ A n c, e = .returned (.slice A n c) ∧ RI w' A n u ∧ n ≤ 1000000000 ∧ Below w6.heap.size w6 w')) := fun W bW => by
      refine (HS3.out W (bnext b6 bW b6.size)).mono ?_
      rintro e w' ⟨A8, n8, c8, rfl, o8, r8, -, b8⟩
      exact ⟨A8, n8, c8, rfl, r8, by have := HU6.out; rw [r8.1] at this; omega, bW.trans (b8.mono bW.size)⟩
    have HCP : Hid (∀ W A n c, Below w6.heap.size w6 W → RI W A n u → n ≤ 1000000000 → Calls Try.prog 14 #[.slice A4 n4 c4, .slice A5 n5 c5, .slice A n c] W (fun e w' => e = .returned (.int .i64 x) ∧ Below w6.heap.size w6 w')) := fun W A n c bW r hn => by
      refine (iCount_any c4 c5 c (HR4.out.below bW) (HR5.out.below bW) r (by omega) (by omega) hn).mono ?_
      rintro e w' ⟨rfl, hb⟩
      exact ⟨by rw [HX.out], bW.trans (hb.mono bW.size)⟩
    have HCI : Hid (∀ W, Below w6.heap.size w6 W → Calls Try.prog 38 #[.slice A7 n7 c7, .slice A3 n3 c3] W (fun e w' => e = .returned (.int .i64 x) ∧ Below w6.heap.size w6 w')) := fun W bW => by
      refine (countIn_any c3 (HO3.out.ri.below (bnext b6 bW b6.size)) (by omega) (OF.below HO7.out bW) (fun k hk => Nat.le_trans (HGS.out _ (nthP_mem hk)) (by omega)) (by omega)).mono ?_
      rintro e w' ⟨rfl, hb⟩
      exact ⟨by rw [hx], bW.trans ((Quiet.below hb).mono bW.size)⟩
    have HG6 := Lib.hid g6
    have h66 : Hid (Below w6.heap.size w6 w6) := Below.refl _ _
    clear b6' b6 b5 b4 b3 b2 hx g6
    go_wp2_with fail
    refine (HSC.out _ h66.out).mono ?_
    rintro e w7 ⟨A8, n8, c8, rfl, r8, hn8, b7⟩
    have HR8 := Lib.hid r8
    clear r8
    go_wp2_with fail
    refine (HCP.out _ _ _ _ b7 HR8.out hn8).mono ?_
    rintro e w8 ⟨rfl, b8⟩
    go_wp2_with fail
    refine (HCI.out _ b8).mono ?_
    rintro e w9 ⟨rfl, b9⟩
    go_wp2
    go_ret
    exact ⟨rfl, bnext HG6.out b9 HG6.out.size⟩
  · go_enter Try.func9, Try.ntmps9
    go_wp2_with (go_at_call 31; refine (big_any _).mono ?_; rintro e w' ⟨rfl, q0, rfl⟩)
    go_ret
    exact ⟨rfl, Quiet.below ⟨_, rfl⟩⟩
end Go.Proofs.Ytnljlophgolejaa.lawPuzzleProductF
