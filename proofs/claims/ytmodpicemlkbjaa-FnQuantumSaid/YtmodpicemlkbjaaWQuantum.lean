/- The walk of FnQuantum. -/
import Derived.Test.YtmodpicemlkbjaaQFin
import Derived.Test.YtmodpicemlkbjaaQProI
import Derived.Test.YtmodpicemlkbjaaQProS
import Derived.Test.YtmodpicemlkbjaaQPieI
import Derived.Test.YtmodpicemlkbjaaQLaw
import Derived.Test.YtmodpicemlkbjaaInterT
import Derived.Test.YtmodpicemlkbjaaGauss
import Derived.ShutString
import Derived.ChangeOld
namespace Go.Proofs.Ytmodpicemlkbjaa.lawQuantum
open Go.ChangeShapes Go.WideShapes Go.ChangeAt Go.RowKit
open Go.ChangeMaps (open_string shut_string)

theorem plainQ_succ {Q : List (List Int × Int)} {j : Nat} {q cn : Int} {t : List Int} (h : j < Q.length) (e : nthP Q j = (q :: t, cn)) : plainQ (Q.take (j + 1)) = if q = 0 then plainQ (Q.take j) ++ [(t, cn)] else plainQ (Q.take j) := by
  rw [nthP_take_succ h, e]
  unfold plainQ
  rw [List.filter_append, List.map_append]
  by_cases h0 : q = 0 <;> simp [h0]
theorem plainQ_len (Q : List (List Int × Int)) : (plainQ Q).length ≤ Q.length := by
  unfold plainQ
  rw [List.length_map]
  exact List.length_filter_le _ _

set_option maxRecDepth 100000 in
set_option maxHeartbeats 8000000 in
theorem walk {A : Option Addr} {n : Nat} (c : Nat) {w : World} (hx : RB w A n) : Calls Try.prog 10 #[.slice A n c] w (Law w) := by
  obtain ⟨w0, ew⟩ : ∃ w0 : World, w0 = w := ⟨_, rfl⟩
  subst ew
  rcases hbig : decide (1048576 < n) with _ | _
  · go_enter Try.func10, Try.ntmps10
    go_wp2_with (go_at_call 19; refine (big_any _).mono ?_; rintro e w' ⟨rfl, q0, rfl⟩)
    clear hbig
    refine (drawBoxes_apart _ (hx.below (Quiet.below ⟨_, rfl⟩))).mono ?_
    rintro e w1 ⟨A1, n1, c1, A2, n2, c2, A3, n3, c3, l, l2, l3, W1, W2, K, M, rfl, hKM, hsh, hsh2, -, o1, o2, -, hW1, -, b1, hap, -⟩
    have g1 : Below w0.heap.size w0 w1 := bnext (Quiet.below ⟨_, rfl⟩) b1 (by simp)
    have HXB := Lib.hid (hx.below (g1.mono (Nat.le_refl _)))
    have hn1 : n1 ≤ 6 := by rw [← o1.ri.1]; have := hsh.len; omega
    have hn2 : n2 ≤ 6 := by rw [← o2.ri.1]; have := hsh2.len; omega
    have HO1 := Lib.hid o1
    have HO2 := Lib.hid o2
    have HSH := Lib.hid hsh
    have HSH2 := Lib.hid hsh2
    have HK := Lib.hid hKM
    have hsub : (K : Int) + M - K = M := by omega
    clear b1 o1 o2 hap hsh hsh2 hW1
    obtain ⟨hKM1, hKM2⟩ := hKM
    by_cases hK0 : K = 0
    · subst hK0
      have HNO : Hid (qOk l l2 (0 : Int) (M : Int) = false) := by show _ = _; simp [qOk]
      have HQ := Lib.hid (iQPro_any (w := w1) c1 c2 (0 : Int) (M : Int) HO1.out HO2.out (by omega) (by omega))
      rw [HNO.out, qpB_no HNO.out] at HQ
      have hgl : (gaussB (0 : Int) (M : Int)).length = 1 := by
        have hb : boxB ((0 : Nat) : Int) (((0 : Nat) : Int) + (M : Int)) = true := boxB_iff.2 (by omega)
        have h := gaussB_yes hb
        have e : gaussB (0 : Int) (M : Int) = gaussB ((0 : Nat) : Int) (((0 : Nat) : Int) + (M : Int)) := by simp
        rw [e, h, countsTo_len]
        simp
      go_wp2_with fail
      refine HQ.out.mono ?_
      rintro e w2 ⟨A4, n4, c4, cs4, rfl, o4, l4, -, b4⟩
      have g2 := bnext g1 b4 g1.size
      go_wp2_with fail
      refine (iGauss_any _ _).mono ?_
      rintro e w3 ⟨A5, n5, c5, rfl, o5, r5, ⟨cp5, le5⟩, b5⟩
      have g3 := bnext g2 b5 g2.size
      obtain rfl : n5 = 1 := r5.1.symm.trans hgl
      go_wp2
      go_ret
      exact ⟨rfl, g3⟩
    have hK1 : 1 ≤ K := by omega
    have hKi : ¬ (K : Int) = 0 := by omega
    have hKb : ((K : Int) == 0) = false := by simp; exact hK0
    obtain ⟨hq1, hq2, hq3⟩ := pairQ_at HK.out hK1 HSH.out HSH2.out
    have HOK : Hid (qOk l l2 K ((K : Int) + M) = true) := by
      show _ = _
      simp only [qOk, Bool.and_eq_true, Bool.not_eq_true', decide_eq_false_iff_not]
      exact ⟨HSH.out.box HK.out, HSH2.out.box HK.out, hKi⟩
    obtain ⟨hqi1, hqi2⟩ := qp_in HOK.out
    obtain ⟨Q, hQ⟩ : ∃ Q, Q = qpB l l2 K ((K : Int) + M) := ⟨_, rfl⟩
    have HQ := Lib.hid (iQPro_any (w := w1) c1 c2 (K : Int) ((K : Int) + M) HO1.out HO2.out (by omega) (by omega))
    have HG : Hid (∀ W, Below w1.heap.size w1 W → Calls Try.prog 23 #[.slice A1 n1 c1, .slice A2 n2 c2, .int .i64 (K : Int), .int .i64 ((K : Int) + M)] W (MakesPb W (plainQ Q) true)) := fun W bW => by
      have h := iGr_any c1 c2 (K : Int) ((K : Int) + M) (OI.below HO1.out bW) (OI.below HO2.out bW) (by omega) (by omega)
      have hok : grOk l l2 K ((K : Int) + M) = true := by simp only [grOk, Bool.and_eq_true]; exact ⟨HSH.out.box HK.out, HSH2.out.box HK.out⟩
      rw [hok, ← hq2, ← hQ] at h
      exact h
    rw [HOK.out, ← hQ] at HQ
    rw [← hQ] at hq1 hqi1 hqi2
    have HQ1 := Lib.hid hq1
    have HQ2 := Lib.hid hqi2
    clear hq1 hq2 hq3 hqi2 hQ
    go_wp2_with fail
    refine HQ.out.mono ?_
    rintro e w2 ⟨A4, n4, c4, cs4, rfl, o4, l4, -, b2⟩
    rw [decL_len] at l4
    have g2 := bnext g1 b2 g1.size
    have HL4 := Lib.hid l4
    have HO4 := Lib.hid o4
    have HB2 := Lib.hid b2
    have hs12 := b2.size
    clear o4 l4 b2
    go_wp2_with fail
    refine (HG.out _ HB2.out).mono ?_
    rintro e w3 ⟨A5, n5, c5, cs5, rfl, o5, l5, -, b3⟩
    have g3 := bnext g2 b3 g2.size
    have HO5 := Lib.hid o5
    have HB13 := Lib.hid (bnext HB2.out b3 hs12)
    have HO43 := Lib.hid (HO4.out.below b3)
    have hs23 := b3.size
    clear o5 l5 b3
    go_wp2
    go_loopw [14, 15] (fun u i wr => ∃ (j : Nat) (cs : List Value), j ≤ n4 ∧ i = .int .i64 (j : Int) ∧ OP wr w3.heap.size w1.heap.size u (plainQ (Q.take j)) cs ∧ Below w3.heap.size w3 wr ∧ Hid (∀ u' ∈ cs, u'.ownBlock = none ∨ ∃ i, i < j ∧ cs4[i * 3 + 1]? = some u')) (fun _ i _ => n4 - (intOf i).toNat)
    case atStart => exact ⟨0, [], Nat.zero_le _, rfl, OP.lit w3 _ _ (Nat.le_refl _), (Below.refl _ _).alloc (Nat.le_refl _) _, fun u' h => by cases h⟩
    case round =>
      obtain ⟨j, cs, hj, rfl, ho, hb, hcs⟩ := hrel
      by_cases hlt : j < n4
      · have hjl : j < Q.length := by rw [HL4.out]; exact hlt
        have hok := HO43.out
        obtain ⟨G, cG, hGG, _⟩ := OF.shape hok (by rw [decL_len, HL4.out]; omega)
        obtain ⟨rfl, e2, e3⟩ := slice_inj hGG
        clear e2 e3 hGG
        obtain ⟨A6, n6, c6, k0', k1', kc, k2', _, k4'⟩ := OU.cell hok (k := j) (by rw [decL_len]; exact hjl)
        have k0 := one_cell hb k0'
        have k1 := one_cell hb k1'
        have k2 := OI.below k2' hb
        have k4 := one_cell hb k4'
        have hmem := nthP_mem hjl
        obtain ⟨q, t, cn, hxx⟩ := Keyed.at (ps := Q) (fun x hx => (HQ2.out x hx).1) hjl
        have hlx := (HQ2.out _ hmem).2
        have h11 := HQ1.out _ hmem
        rw [nthQ_dec hjl hxx] at k0 k2 k4 k0' k4'
        have HC3X := Lib.hid (⟨k0', k1', k4'⟩ : _ ∧ _ ∧ _)
        rw [hxx] at hlx h11
        simp only [List.length_cons, List.tail_cons, List.headD_cons] at hlx h11
        obtain ⟨hc1, hsum, hbx⟩ := h11
        have hst := shIn_of hbx
        have hn6 : n6 ≤ 16 := by rw [← k2.ri.1]; show t.length ≤ 16; omega
        have HST := Lib.hid hst
        have HXX := Lib.hid hxx
        have HB := Lib.hid hb
        have HO := Lib.hid ho
        have HBX := Lib.hid hbx
        have hs3r := hb.size
        have HAP : Hid (∀ u' ∈ cs, u'.ownBlock = none ∨ u'.ownBlock ≠ Value.ownBlock (.slice A6 n6 c6)) := fun u' hu' => by
          rcases hcs.out u' hu' with h1 | ⟨i, hi, h1⟩
          · exact .inl h1
          · exact hok.2.2 (i * 3 + 1) (j * 3 + 1) u' _ (by omega) h1 kc
        obtain ⟨S0, hS0⟩ : ∃ S, S = sumL t := ⟨_, rfl⟩
        obtain ⟨Sa, hSa⟩ : ∃ S, S = sumL l := ⟨_, rfl⟩
        obtain ⟨Sb, hSb⟩ : ∃ S, S = sumL l2 := ⟨_, rfl⟩
        rw [← hS0, ← hSa, ← hSb] at hsum
        have hS0r := sumL_shape (hst.shape (K := K) (M := M) (by omega) (by omega))
        have hSar := sumL_shape (HSH.out.shape (K := K) (M := M) (by omega) (by omega))
        have hSbr := sumL_shape (HSH2.out.shape (K := K) (M := M) (by omega) (by omega))
        rw [← hS0] at hS0r
        rw [← hSa] at hSar
        rw [← hSb] at hSbr
        obtain ⟨Z, hZ⟩ : ∃ Z, Z = ((K : Int) + M) * q := ⟨_, rfl⟩
        rw [← hZ] at hsum
        obtain ⟨T, hT⟩ : ∃ T, T = Sa + Sb := ⟨_, rfl⟩
        have hwZ : IntKind.i64.wrap (((K : Int) + M) * q) = Z := by rw [← hZ]; exact IntWalk.i64_in _ (by omega)
        have hwS : IntKind.i64.wrap (S0 + Z) = T := by rw [hsum, ← hT]; exact IntWalk.i64_in _ (by omega)
        have hwT : IntKind.i64.wrap (Sa + Sb) = T := by rw [← hT]; exact IntWalk.i64_in _ (by omega)
        have hTT : (T != T) = false := by simp
        have hcb : decide (cn < 1) = false := decide_eq_false (by omega)
        have HC1 : Hid (∀ W, Below wr.heap.size wr W → Calls Try.prog 28 #[.slice A6 n6 c6] W (Gives W (.int .i64 S0))) := fun W bW => by rw [hS0]; exact lsum_any _ (k2.ri.below bW) (small_shape (HST.out.shape (K := K) (M := M) (by omega) (by omega))) (by omega)
        have b1r : Below w1.heap.size w1 wr := HB13.out.trans (hb.mono HB13.out.size)
        have HC2 : Hid (∀ W, Below wr.heap.size wr W → Calls Try.prog 28 #[.slice A1 n1 c1] W (Gives W (.int .i64 Sa))) := fun W bW => by rw [hSa]; exact lsum_any _ ((HO1.out.ri.below b1r).below bW) (small_shape (HSH.out.shape (K := K) (M := M) (by omega) (by omega))) (by omega)
        have HC3 : Hid (∀ W, Below wr.heap.size wr W → Calls Try.prog 28 #[.slice A2 n2 c2] W (Gives W (.int .i64 Sb))) := fun W bW => by rw [hSb]; exact lsum_any _ ((HO2.out.ri.below b1r).below bW) (small_shape (HSH2.out.shape (K := K) (M := M) (by omega) (by omega))) (by omega)
        have HC4 : Hid (∀ W, Below wr.heap.size wr W → Calls Try.prog 49 #[.slice A6 n6 c6, .int .i64 (K : Int), .int .i64 ((K : Int) + M)] W (Gives W (.bool true))) := fun W bW => by
          have h := iIsInBox_any c6 (K : Int) ((K : Int) + M) (k2.ri.below bW) (by omega)
          rw [HBX.out] at h
          exact h
        have HCX := Lib.hid (⟨k0, k1, k4⟩ : _ ∧ _ ∧ _)
        have HK2 := Lib.hid k2
        have HSUC := Lib.hid (plainQ_succ hjl hxx)
        have hplen : (plainQ (Q.take j)).length ≤ 20000000 := by have := plainQ_len (Q.take j); rw [List.length_take] at this; omega
        clear k0' k1' k2' k4' hok k0 k1 k2 k4 hst hxx hb ho hbx hS0 hSa hSb hsum hZ hT b1r hmem
        go_wp2_with fail
        go_region_held3 (fun w' => w'.cell? ⟨G, j * 3, none⟩ = some (.int .i64 q) ∧ w'.cell? ⟨G, j * 3 + 1, none⟩ = some (.slice A6 n6 c6) ∧ w'.cell? ⟨G, j * 3 + 2, none⟩ = some (.int .i64 cn)) (exact HCX.out) (first
          | (go_at_call 28; (with_reducible refine (HC1.out _ ?_).mono ?_); (exact ⟨rfl, rfl, rfl, Nat.le_refl _, fun _ _ => rfl⟩); rintro e w6 ⟨rfl, q6, rfl⟩)
          | (go_at_call 28; (with_reducible refine (HC2.out _ ?_).mono ?_); (exact ⟨rfl, rfl, rfl, Nat.le_refl _, fun _ _ => rfl⟩); rintro e w6 ⟨rfl, q6, rfl⟩)
          | (go_at_call 28; (with_reducible refine (HC3.out _ ?_).mono ?_); (exact ⟨rfl, rfl, rfl, Nat.le_refl _, fun _ _ => rfl⟩); rintro e w6 ⟨rfl, q6, rfl⟩)
          | (go_at_call 49; (with_reducible refine (HC4.out _ ?_).mono ?_); (exact ⟨rfl, rfl, rfl, Nat.le_refl _, fun _ _ => rfl⟩); rintro e w6 ⟨rfl, q6, rfl⟩))
        by_cases hq0 : q = 0
        · subst hq0
          have HCXA : Hid (∀ k o, ((wr.drewN k).alloc o).cell? ⟨G, j * 3, none⟩ = some (.int .i64 0) ∧ ((wr.drewN k).alloc o).cell? ⟨G, j * 3 + 1, none⟩ = some (.slice A6 n6 c6) ∧ ((wr.drewN k).alloc o).cell? ⟨G, j * 3 + 2, none⟩ = some (.int .i64 cn)) := fun k o => by
            have b : Below wr.heap.size wr ((wr.drewN k).alloc o) := (below_drewN (Below.refl _ _) _).alloc (by simp) _
            exact ⟨one_cell b HCX.out.1, one_cell b HCX.out.2.1, one_cell b HCX.out.2.2⟩
          go_wp2_with fail
          go_region_held3 (fun w' => w'.cell? ⟨G, j * 3, none⟩ = some (.int .i64 0) ∧ w'.cell? ⟨G, j * 3 + 1, none⟩ = some (.slice A6 n6 c6) ∧ w'.cell? ⟨G, j * 3 + 2, none⟩ = some (.int .i64 cn)) (first | exact HCX.out | exact HCXA.out _ _ | exact ⟨one_cell bb3 HC3X.out.1, one_cell bb3 HC3X.out.2.1, one_cell bb3 HC3X.out.2.2⟩) (first
            | (refine stepAppP rfl _ _ rfl w3.heap.size w1.heap.size u14 (.slice A6 n6 c6) (plainQ (Q.take j)) cs t cn rfl rfl (OP.below HO.out ⟨rfl, rfl, rfl, Nat.le_refl _, fun _ _ => rfl⟩) (OI.below HK2.out ⟨rfl, rfl, rfl, Nat.le_refl _, fun _ _ => rfl⟩) HAP.out (by omega) (by simp; omega) ?_; intro v' w' h1 h2 h3; have bb3 := ((below_drewN HB.out _).alloc (by simp; omega) _).grown h2 (by simp; omega) (fun k hk => (OF.lt HO.out k hk).1)))
          go_wp2
          go_roundw
          case rel =>
            refine ⟨j + 1, cs ++ [.slice A6 n6 c6, .int .i64 cn], by omega, by go_num, by rw [HSUC.out]; first | (rw [if_pos rfl]; exact h1) | (rw [if_pos trivial]; exact h1), bb3, fun u' hu' => ?_⟩
            rw [List.mem_append] at hu'
            rcases hu' with hu' | hu'
            · exact (hcs.out u' hu').imp id fun ⟨i, h1, h2⟩ => ⟨i, by omega, h2⟩
            · simp at hu'
              rcases hu' with rfl | rfl
              · exact .inr ⟨j, by omega, kc⟩
              · exact .inl rfl
          case measure => simp [intOf]; omega
        · have hqb : (q == 0) = false := by simpa using hq0
          have HQ0 := Lib.hid hq0
          go_wp2
          go_roundw
          case rel =>
            exact ⟨j + 1, cs, by omega, by go_num, by rw [HSUC.out, if_neg HQ0.out]; exact OP.below HO.out ⟨rfl, rfl, rfl, Nat.le_refl _, fun _ _ => rfl⟩, below_drewN HB.out _, fun u' hu' => (hcs.out u' hu').imp id fun ⟨i, h1, h2⟩ => ⟨i, by omega, h2⟩⟩
          case measure => simp [intOf]; omega
      · obtain rfl : j = n4 := by omega
        have hall : Q.take j = Q := by rw [← HL4.out, List.take_length]
        rw [hall] at ho
        have HO := Lib.hid ho
        have g4 := bnext g3 hb g3.size
        have HB1r := Lib.hid (HB13.out.trans (hb.mono HB13.out.size))
        have HO5r := Lib.hid (OF.below HO5.out hb)
        clear ho hcs hall
        go_wp2_with fail
        refine (at0_any _ (HXB.out.below HB1r.out)).mono ?_
        rintro e w4 ⟨⟨x, hx255, rfl⟩, q2⟩
        have g5 := bnext g4 (q2.below (B := wr.heap.size)) g4.size
        have HB14 := Lib.hid (HB1r.out.trans ((q2.below (B := wr.heap.size)).mono HB1r.out.size))
        have HOP4 := Lib.hid (OF.below HO.out (q2.below (B := wr.heap.size)))
        have HO54 := Lib.hid (OF.below HO5r.out (q2.below (B := wr.heap.size)))
        have hs4 : w1.heap.size ≤ w4.heap.size := HB14.out.size
        clear q2
        obtain ⟨P, hP⟩ := Int.eq_ofNat_of_zero_le (Int.emod_nonneg (x : Int) (b := (M : Int) + 1) (by omega))
        have hPM : P ≤ M := by have := Int.emod_lt_of_pos (x : Int) (b := (M : Int) + 1) (by omega); omega
        go_wp2_with fail
        rw [hP]
        have brow : Below w4.heap.size w4 (w4.alloc (.cells #[.int .i64 (P : Int)] 3)) := (Below.refl _ _).alloc (Nat.le_refl _) _
        refine (lbare_any 1 (l := [(P : Int)]) (RI.one w4 (P : Int)) (by omega) (by omega)).mono ?_
        rintro e w5 ⟨A7, n7, c7, rfl, o7, r7, ⟨cp7, le7⟩, b5'⟩
        have b5 : Below w4.heap.size w4 w5 := brow.trans (b5'.mono brow.size)
        have g6 := bnext g5 b5 g5.size
        have hn7 : n7 ≤ 1 := by rw [← r7.1]; unfold bare; rw [List.length_take]; exact Nat.min_le_right _ _
        have HO7 := Lib.hid o7
        have HB15 := Lib.hid (HB14.out.trans (b5.mono hs4))
        have HB45 := Lib.hid b5
        clear o7 r7 b5' b5 brow hP
        have hrow := rowQ_at HK.out hK1 HSH.out hPM
        have hpok : qpieOk l K ((K : Int) + M) P = true := by
          simp only [qpieOk, pieriOk, Bool.and_eq_true, decide_eq_true_eq]
          exact ⟨⟨HSH.out.box HK.out, inB_iff.2 (by omega)⟩, hKi⟩
        have hbokB : inBoxB (bare [(P : Int)]) K ((K : Int) + M) = true := ((oneMeet_at HK.out HSH.out).2.2.2 P hPM (by omega)).2 |> fun h => by simp only [grOk, Bool.and_eq_true] at h; exact h.2
        have hqok : qOk l (bare [(P : Int)]) K ((K : Int) + M) = true := by
          simp only [qOk, Bool.and_eq_true, Bool.not_eq_true', decide_eq_false_iff_not]
          exact ⟨HSH.out.box HK.out, hbokB, hKi⟩
        have hrl := (qp_in hqok).1
        obtain ⟨R, hR⟩ : ∃ R, R = qpieB l K ((K : Int) + M) P := ⟨_, rfl⟩
        have HQ5 := Lib.hid (iQPro_any (w := w5) c1 c7 (K : Int) ((K : Int) + M) (OI.below HO1.out HB15.out) HO7.out (by omega) (by omega))
        have HP5 : Hid (∀ W, Below w1.heap.size w1 W → Calls Try.prog 40 #[.slice A1 n1 c1, .int .i64 (K : Int), .int .i64 ((K : Int) + M), .int .i64 (P : Int)] W (MakesUb W (decL R) true)) := fun W bW => by
          have h := iQPieri_any c1 (K : Int) ((K : Int) + M) (P : Int) (HO1.out.ri.below bW) (by omega)
          rw [hpok, ← hR] at h
          exact h
        rw [hrow] at hrl
        rw [hrow, hqok] at HQ5
        rw [← hR] at HQ5 hrl
        clear hrow hpok hbokB hqok hR
        go_wp2_with fail
        refine HQ5.out.mono ?_
        rintro e w6 ⟨A8, n8, c8, cs8, rfl, o8, l8, -, b6⟩
        have HO8 := Lib.hid o8
        have g7 := bnext g6 b6 g6.size
        have HB16 := Lib.hid (HB15.out.trans (b6.mono HB15.out.size))
        have HB46 := Lib.hid (HB45.out.trans (b6.mono HB45.out.size))
        clear o8 l8 b6
        go_wp2_with fail
        refine (HP5.out _ HB16.out).mono ?_
        rintro e w7 ⟨A9, n9, c9, cs9, rfl, o9, l9, -, b7⟩
        have HO9 := Lib.hid o9
        have g8 := bnext g7 b7 g7.size
        have HB47 := Lib.hid (HB46.out.trans (b7.mono HB46.out.size))
        have HO87 := Lib.hid (OF.below HO8.out b7)
        clear o9 l9 b7
        have hpl := plainQ_len Q
        have HPP : Hid (∀ W, Below w7.heap.size w7 W → Calls Try.prog 25 #[u14, .slice A5 n5 c5] W (GivesB W (.bool true))) := fun W bW => parts_any (OF.below (OF.below HOP4.out HB47.out) bW) (OF.below (OF.below HO54.out HB47.out) bW) (by omega)
        have HQQ : Hid (∀ W, Below w7.heap.size w7 W → Calls Try.prog 50 #[.slice A8 n8 c8, .slice A9 n9 c9] W (GivesB W (.bool true))) := fun W bW => qparts_any (OF.below HO87.out bW) (OF.below HO9.out bW) (by rw [decL_len]; omega)
        go_wp2_with fail
        refine (HPP.out _ (Below.refl _ _)).mono ?_
        rintro e w8 ⟨rfl, b8⟩
        have g9 := bnext g8 b8 g8.size
        go_wp2_with fail
        refine (HQQ.out _ b8).mono ?_
        rintro e w9 ⟨rfl, b9⟩
        have g10 := bnext g9 b9 g9.size
        go_wp2
        go_ret
        exact ⟨rfl, g10⟩
  · go_enter Try.func10, Try.ntmps10
    go_wp2_with (go_at_call 19; refine (big_any _).mono ?_; rintro e w' ⟨rfl, q0, rfl⟩)
    go_ret
    exact ⟨rfl, Quiet.below ⟨_, rfl⟩⟩
end Go.Proofs.Ytmodpicemlkbjaa.lawQuantum
