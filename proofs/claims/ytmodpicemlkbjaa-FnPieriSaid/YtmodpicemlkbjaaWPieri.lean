/- The walk of FnPieri. -/
import Derived.Test.YtmodpicemlkbjaaMeetP
import Derived.Test.YtmodpicemlkbjaaInterT
import Derived.Test.YtmodpicemlkbjaaLawF
import Derived.ShutString
import Derived.ChangeOld
namespace Go.Proofs.Ytmodpicemlkbjaa.lawPieri
open Go.ChangeShapes Go.WideShapes Go.ChangeAt Go.RowKit
open Go.ChangeMaps (open_string shut_string)

theorem two_rows {w : World} {W1 base : Nat} {u v : Value} {a b : List Int} (ha : OI w base u a) (hb : OI w W1 v b) (hlt : ∀ k, u.ownBlock = some k → k < W1) (hbase : base ≤ W1) (hs : base ≤ w.heap.size) :
    OS (w.alloc (.cells #[u, v] 30)) base base (.slice (some ⟨w.heap.size, 0, none⟩) 2 2) [a, b] [u, v] := by
  have hf : FRs w base (rows [a, b]) [u, v] := FRs.append (fs := [.inr a]) (fs2 := [.inr b]) (cells := [u]) (news := [v]) (FRs.one_ (x := .inr a) ha) (FRs.one_ (x := .inr b) (hb.mono hbase))
  have hd : Dist [u, v] := Dist.append (cells := [u]) (news := [v]) (Dist.one u) (Dist.one v) fun x hx y hy => by
    simp only [List.mem_singleton] at hx hy
    subst hx hy
    rcases hk : x.ownBlock with _ | k
    · exact .inl rfl
    · refine .inr fun e => ?_
      have h1 := hlt k hk
      have h2 := (hb.lt k e.symm).1
      omega
  exact OS.lit w base base [a, b] [u, v] hs hf hd (by simp) 2 rfl

theorem shIn_nil (K M : Nat) : ShIn [] K M := ⟨Nat.zero_le _, fun j hj => by simp at hj, fun j hj => by simp at hj⟩

set_option maxHeartbeats 1600000 in
theorem walk {A : Option Addr} {n : Nat} (c : Nat) {w : World} (hx : RB w A n) : Calls Try.prog 4 #[.slice A n c] w (Law w) := by
  obtain ⟨w0, ew⟩ : ∃ w0 : World, w0 = w := ⟨_, rfl⟩
  subst ew
  rcases hbig : decide (1048576 < n) with _ | _
  · go_enter Try.func4, Try.ntmps4
    go_wp2_with (go_at_call 19; refine (big_any _).mono ?_; rintro e w' ⟨rfl, q0, rfl⟩)
    clear hbig
    refine (drawBoxes_apart _ (hx.below (Quiet.below ⟨_, rfl⟩))).mono ?_
    rintro e w1 ⟨A1, n1, c1, A2, n2, c2, A3, n3, c3, l, l2, l3, W1, W2, K, M, rfl, hKM, hsh, hsh2, -, o1, o2, -, hW1, -, b1, hap, -⟩
    have hs0 : w0.heap.size ≤ (w0.drewN q0).heap.size := by simp
    have g1 : Below w0.heap.size w0 w1 := bnext (Quiet.below ⟨_, rfl⟩) b1 (by simp)
    have HXB := Lib.hid (hx.below (g1.mono (Nat.le_refl _)))
    have hn1 : n1 ≤ 6 := by rw [← o1.ri.1]; have := hsh.len; omega
    have hn2 : n2 ≤ 6 := by rw [← o2.ri.1]; have := hsh2.len; omega
    have HO1 := Lib.hid o1
    have HO2 := Lib.hid o2
    have HAP := Lib.hid hap
    have HSH := Lib.hid hsh
    have HSH2 := Lib.hid hsh2
    have HK := Lib.hid hKM
    have HW1 : Hid (w0.heap.size ≤ W1) := hW1
    have hsub : (K : Int) + M - K = M := by omega
    clear b1 o1 o2 hap hsh hsh2 hW1
    obtain ⟨hKM1, hKM2⟩ := hKM
    go_wp2_with fail
    refine (at0_any _ HXB.out).mono ?_
    rintro e w2 ⟨⟨x, hx255, rfl⟩, q2⟩
    have g2 := bnext g1 (q2.below (B := w1.heap.size)) g1.size
    have b2 : Below w1.heap.size w1 w2 := q2.below
    clear q2
    obtain ⟨P, hP⟩ := Int.eq_ofNat_of_zero_le (Int.emod_nonneg (x : Int) (b := (M : Int) + 1) (by omega))
    have hPM : P ≤ M := by have := Int.emod_lt_of_pos (x : Int) (b := (M : Int) + 1) (by omega); omega
    go_wp2_with fail
    rw [hP]
    have brow : Below w2.heap.size w2 (w2.alloc (.cells #[.int .i64 (P : Int)] 3)) := (Below.refl _ _).alloc (Nat.le_refl _) _
    refine (lbare_any 1 (l := [(P : Int)]) (RI.one w2 (P : Int)) (by omega) (by omega)).mono ?_
    rintro e w3 ⟨A4, n4, c4, rfl, o4, r4, ⟨cp4, le4⟩, b3'⟩
    have b3 : Below w2.heap.size w2 w3 := brow.trans (b3'.mono brow.size)
    have g3 := bnext g2 b3 g2.size
    have b13 := bnext b2 b3 b2.size
    have hn4 : n4 ≤ 1 := by rw [← r4.1]; unfold bare; rw [List.length_take]; exact Nat.min_le_right _ _
    have HO4 := Lib.hid o4
    clear o4 r4 b3' brow hP
    by_cases hz : 0 < P ∧ K = 0
    · obtain ⟨hz1, rfl⟩ := hz
      have t1 : decide ((0 : Int) < (P : Int)) = true := decide_eq_true (by omega)
      go_wp2
      go_ret
      exact ⟨rfl, g3⟩
    have hone := oneMeet_at HK.out HSH.out
    have hGP := Lib.hid (hone.2.2.2 P hPM (fun h => hz ⟨h.2, h.1⟩))
    have HDD := Lib.hid hone.1
    have HSUM := Lib.hid hone.2.1
    have HDB := Lib.hid hone.2.2.1
    have HGW : Hid (∀ W, Below w3.heap.size w3 W → Calls Try.prog 23 #[.slice A1 n1 c1, .slice A4 n4 c4, .int .i64 (K : Int), .int .i64 ((K : Int) + M)] W (MakesPb W (pieriB l K ((K : Int) + M) P) true)) := fun W bW => by
      have h := iGr_any c1 c4 (K : Int) ((K : Int) + M) (OI.below (OI.below HO1.out b13) bW) (OI.below HO4.out bW) (by omega) (by omega)
      rw [hGP.out.1, hGP.out.2] at h
      exact h
    have HOKP : Hid (pieriOk l K ((K : Int) + M) P = true) := by
      show _ = _
      simp only [pieriOk, Bool.and_eq_true]
      exact ⟨HSH.out.box HK.out, inB_iff.2 (by omega)⟩
    have HPW : Hid (∀ W, Below w3.heap.size w3 W → Calls Try.prog 24 #[.slice A1 n1 c1, .int .i64 (K : Int), .int .i64 ((K : Int) + M), .int .i64 (P : Int)] W (MakesPb W (pieriB l K ((K : Int) + M) P) true)) := fun W bW => by
      have h := iPieri_any c1 (K : Int) ((K : Int) + M) (P : Int) (OI.below (OI.below HO1.out b13) bW).ri (by omega)
      rw [HOKP.out] at h
      exact h
    clear hone
    have go1 : (0 < P ∧ (K : Int) = 0) → False := fun h => hz ⟨h.1, by omega⟩
    obtain ⟨PL, hPL⟩ : ∃ PL, PL = pieriB l K ((K : Int) + M) P := ⟨_, rfl⟩
    have hPLn : PL.length ≤ 1000000000 := by
      rw [hPL, pieriB_yes HOKP.out, stripsB_eq]
      have h1 := pieriTo_len (shapesIn K M) l P (K - 1) (shapesIn K M).length
      have h2 := shapesIn_small (r := K) (c := M) (by omega) (by omega)
      omega
    rw [← hPL] at HGW HPW
    clear hPL hGP
    have t1 : ((decide ((0 : Int) < (P : Int)) = true ∧ decide (0 < P) = true ∧ 0 < P) ∧ ((K : Int) == 0) = false ∧ ¬ (K : Int) = 0 ∧ ¬ K = 0) ∨ decide ((0 : Int) < (P : Int)) = false ∧ decide (0 < P) = false ∧ ¬ 0 < P := by
      by_cases hp0 : 0 < P
      · refine .inl ⟨⟨decide_eq_true (by omega), decide_eq_true hp0, hp0⟩, ?_⟩
        have : K ≠ 0 := fun h => hz ⟨hp0, h⟩
        refine ⟨?_, by omega, this⟩
        simp; exact this
      · exact .inr ⟨decide_eq_false (by omega), decide_eq_false hp0, hp0⟩
    clear hz go1
    rcases t1 with ⟨⟨t1, t1b, t1c⟩, t2, t3, t4⟩ | ⟨t1, t1b, t1c⟩
    all_goals
      go_wp2_with fail
      refine (HGW.out _ (Below.refl _ _)).mono ?_
      rintro e w4 ⟨A5, n5, c5, cs5, rfl, o5, l5, ⟨cp5, le5⟩, b4⟩
      have HO5 := Lib.hid o5
      have g4 := bnext g3 b4 g3.size
      clear o5
      go_wp2_with fail
      refine (HPW.out _ b4).mono ?_
      rintro e w5 ⟨A6, n6, c6, cs6, rfl, o6, l6, ⟨cp6, le6⟩, b5⟩
      have HO6 := Lib.hid o6
      have g5 := bnext g4 b5 g4.size
      clear o6
      go_wp2_with fail
      refine (parts_any (OF.below HO5.out b5) HO6.out hPLn).mono ?_
      rintro e w6 ⟨rfl, b6⟩
      have g6 := bnext g5 b6 g5.size
      have b36 := bnext (bnext b4 b5 b4.size) b6 (bnext b4 b5 b4.size).size
      have b16 := bnext b13 b36 b13.size
      obtain ⟨d, hd⟩ : ∃ d, d = dualB l K ((K : Int) + M) := ⟨_, rfl⟩
      rw [← hd] at HDD HSUM HDB
      have HD := Lib.hid hd
      go_wp2_with fail
      refine (iDual_any _ _ _ (OI.below HO1.out b16).ri (by omega)).mono ?_
      rw [← hd]
      rintro e w7 ⟨A7, n7, c7, rfl, o7, r7, ⟨cp7, le7⟩, b7⟩
      have hn7 : n7 ≤ 16 := by rw [← r7.1]; have := (SD.box HDB.out).len; omega
      have g7 := bnext g6 b7 g6.size
      have b17 := bnext b16 b7 b16.size
      clear o7 hd
      obtain ⟨W, hW⟩ : ∃ W, W = dualB [] K ((K : Int) + M) := ⟨_, rfl⟩
      have HW := Lib.hid hW
      have b70 : Below w7.heap.size w7 (w7.alloc (.cells #[] 3)) := (Below.refl _ _).alloc (Nat.le_refl _) _
      go_wp2_with fail
      refine (iDual_any _ _ _ ((OI.lit w7 w7.heap.size [] 0 rfl (Nat.le_refl _) (by simp)).ri) (by omega)).mono ?_
      rw [← hW]
      rintro e w8 ⟨A8, n8, c8, rfl, o8, r8, ⟨cp8, le8⟩, b8'⟩
      have b8 : Below w7.heap.size w7 w8 := b70.trans (b8'.mono b70.size)
      have hn8 : n8 ≤ 16 := by rw [← r8.1, hW, block_dual (K := K) (M := M) (by omega)]; have := block_len K M; omega
      have g8 := bnext g7 b8 g7.size
      have b18 := bnext b17 b8 b17.size
      clear o8 b8' b70 hW
      obtain ⟨X, hX⟩ : ∃ X, X = interB [l, l2] K ((K : Int) + M) := ⟨_, rfl⟩
      have HXV : Hid (X = if l2 = d then 1 else 0) := by
        show _ = _
        rw [hX, inter_two HK.out HSH.out HSH2.out]
        have h2 := (oneMeet_at HK.out HSH2.out).1
        by_cases h : l2 = d
        · rw [if_pos h, if_pos (by rw [h, HDD.out])]
        · rw [if_neg h, if_neg fun h3 => h (by rw [HD.out, h3, h2])]
      go_wp2_with fail
      refine (iInter_any (K : Int) ((K : Int) + M) (two_rows ((OI.below HO1.out b18).mono (base' := w0.heap.size) (by simp)) (OI.below HO2.out b18) HAP.out HW1.out g8.size) (fun s hs => by
        simp only [List.mem_cons, List.not_mem_nil, or_false] at hs
        rcases hs with rfl | rfl
        · have := HSH.out.len; omega
        · have := HSH2.out.len; omega)).mono ?_
      rw [← hX]
      rintro e w9 ⟨rfl, b9'⟩
      have b80 : Below w8.heap.size w8 (w8.alloc (.cells #[.slice A1 n1 c1, .slice A2 n2 c2] 30)) := (Below.refl _ _).alloc (Nat.le_refl _) _
      have b9 : Below w8.heap.size w8 w9 := b80.trans (b9'.mono b80.size)
      have g9 := bnext g8 b9 g8.size
      have b19 := bnext b18 b9 b18.size
      clear hX b9' b80
      -- the sums
      have HSMa := Lib.hid (small_shape (HSH.out.shape (by omega) (by omega)))
      have hdsh := shIn_of HDB.out
      have HSMd := Lib.hid (small_shape (hdsh.shape (by omega) (by omega)))
      obtain ⟨S1, hS1⟩ : ∃ S, S = sumL l := ⟨_, rfl⟩
      obtain ⟨S2, hS2⟩ : ∃ S, S = sumL d := ⟨_, rfl⟩
      obtain ⟨S3, hS3⟩ : ∃ S, S = sumL W := ⟨_, rfl⟩
      obtain ⟨T, hT⟩ : ∃ T : Int, T = (K : Int) * M := ⟨_, rfl⟩
      have hKM6 : (0 : Int) ≤ T ∧ T ≤ 36 := by
        rw [hT]
        exact ⟨Int.mul_nonneg (by omega) (by omega), Int.le_trans (Int.mul_le_mul (show (K : Int) ≤ 6 by omega) (show (M : Int) ≤ 6 by omega) (by omega) (by omega)) (by decide)⟩
      have hwh := oneMeet_at HK.out (shIn_nil K M)
      have hS12 : S1 + S2 = T := by rw [hS1, hS2, hT]; exact HSUM.out
      have hS3T : S3 = T := by
        have h := hwh.2.1
        rw [← HW.out, ← hS3, ← hT] at h
        have h0 : sumL [] = 0 := rfl
        omega
      have HSMw : Hid (Small W) := by
        have h := hwh.2.2.1
        rw [← HW.out] at h
        exact small_shape ((shIn_of h).shape (by omega) (by omega))
      have hS1r := sumL_shape (HSH.out.shape (K := K) (M := M) (by omega) (by omega))
      have hS2r := sumL_shape (hdsh.shape (K := K) (M := M) (by omega) (by omega))
      rw [← hS1] at hS1r
      rw [← hS2] at hS2r
      have hw12 : IntKind.i64.wrap (S1 + S2) = T := by rw [hS12]; exact IntWalk.i64_in _ (by omega)
      have hwT : IntKind.i64.wrap ((K : Int) * M) = T := by rw [← hT]; exact IntWalk.i64_in _ (by omega)
      have ht1 : (T != T) = false := by simp
      have HL1 : Hid (∀ W', Below w9.heap.size w9 W' → Calls Try.prog 28 #[.slice A1 n1 c1] W' (Gives W' (.int .i64 S1))) := fun W' bW => by rw [hS1]; exact lsum_any _ (OI.below (OI.below HO1.out b19) bW).ri HSMa.out (by omega)
      have b79 := b8.trans (b9.mono b8.size)
      have HL2 : Hid (∀ W', Below w9.heap.size w9 W' → Calls Try.prog 28 #[.slice A7 n7 c7] W' (Gives W' (.int .i64 S2))) := fun W' bW => by rw [hS2]; exact lsum_any _ ((r7.below b79).below bW) HSMd.out (by omega)
      have HL3 : Hid (∀ W', Below w9.heap.size w9 W' → Calls Try.prog 28 #[.slice A8 n8 c8] W' (Gives W' (.int .i64 T))) := fun W' bW => by rw [← hS3T, hS3]; exact lsum_any _ ((r8.below b9).below bW) HSMw.out (by omega)
      have HDL : Hid (∀ W', Below w9.heap.size w9 W' → Calls Try.prog 26 #[.slice A7 n7 c7, .int .i64 (K : Int), .int .i64 ((K : Int) + M)] W' (Makes W' l)) := fun W' bW => by
        have h := iDual_any c7 (K : Int) ((K : Int) + M) ((r7.below b79).below bW) (by omega)
        rw [HDD.out] at h
        exact h
      have HLL := Lib.hid ((OI.below HO1.out b19).ri)
      have HLB := Lib.hid ((OI.below HO2.out b19).ri)
      have HR7 := Lib.hid (r7.below b79)
      clear hS1 hS2 hS3 hT hwh hS12 hS3T hdsh r7 r8 b79
      go_wp2_with fail
      refine (HDL.out _ (Below.refl _ _)).mono ?_
      rintro e w10 ⟨A10, n10, c10, rfl, o10, r10, ⟨cp10, le10⟩, b10⟩
      have g10 := bnext g9 b10 g9.size
      clear o10
      go_wp2_with fail
      refine (ints_any true _ _ r10 (HLL.out.below b10) (by simp) (by omega) (by omega)).mono ?_
      rintro e w11 ⟨rfl, q11⟩
      have b11 : Below w9.heap.size w9 w11 := b10.trans (q11.below (B := w10.heap.size) |>.mono b10.size)
      have g11 := bnext g9 b11 g9.size
      clear q11 r10 b10 g10
      go_wp2_with fail
      refine (HL1.out _ b11).mono ?_
      rintro e w12 ⟨rfl, q12⟩
      have b12 : Below w9.heap.size w9 w12 := b11.trans (q12.below (B := w11.heap.size) |>.mono b11.size)
      clear q12
      go_wp2_with fail
      refine (HL2.out _ b12).mono ?_
      rintro e w13 ⟨rfl, q13⟩
      have b13 : Below w9.heap.size w9 w13 := b12.trans (q13.below (B := w12.heap.size) |>.mono b12.size)
      clear q13
      go_wp2_with fail
      refine (HL3.out _ b13).mono ?_
      rintro e w14 ⟨rfl, q14⟩
      have b14 : Below w9.heap.size w9 w14 := b13.trans (q14.below (B := w13.heap.size) |>.mono b13.size)
      have g14 := bnext g9 b14 g9.size
      clear q14
      rcases hd2 : decide (l2 = d) with _ | _
      · have hx0 := HXV.out
        rw [if_neg (of_decide_eq_false hd2)] at hx0
        subst hx0
        go_wp2_with fail
        refine (ints_any false _ _ (HLB.out.below b14) (HR7.out.below b14) hd2.symm (by omega) (by omega)).mono ?_
        rintro e w15 ⟨rfl, q15⟩
        have g15 := bnext g14 (q15.below (B := w14.heap.size)) g14.size
        clear q15
        go_wp2
        go_ret
        exact ⟨rfl, g15⟩
      · have hx0 := HXV.out
        rw [if_pos (of_decide_eq_true hd2)] at hx0
        subst hx0
        go_wp2_with fail
        refine (ints_any true _ _ (HLB.out.below b14) (HR7.out.below b14) hd2.symm (by omega) (by omega)).mono ?_
        rintro e w15 ⟨rfl, q15⟩
        have g15 := bnext g14 (q15.below (B := w14.heap.size)) g14.size
        clear q15
        go_wp2
        go_ret
        exact ⟨rfl, g15⟩
  · go_enter Try.func4, Try.ntmps4
    go_wp2_with (go_at_call 19; refine (big_any _).mono ?_; rintro e w' ⟨rfl, q0, rfl⟩)
    go_ret
    exact ⟨rfl, Quiet.below ⟨_, rfl⟩⟩
end Go.Proofs.Ytmodpicemlkbjaa.lawPieri
