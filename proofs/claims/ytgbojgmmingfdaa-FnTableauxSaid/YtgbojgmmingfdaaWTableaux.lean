/- The walk of FnTableaux. -/
import Derived.Test.YtgbojgmmingfdaaBoxP
import Derived.Test.YtgbojgmmingfdaaTabL
import Derived.Test.YtgbojgmmingfdaaExch
import Derived.Test.YtgbojgmmingfdaaTabW
import Derived.Test.YtgbojgmmingfdaaSwpW
import Derived.Test.YtgbojgmmingfdaaQDraw
import Derived.Test.YtgbojgmmingfdaaKeyW
import Derived.Test.YtgbojgmmingfdaaShapes
import Derived.Test.YtgbojgmmingfdaaBytes
import Derived.ShutString
import Derived.ChangeOld
namespace Go.Proofs.Ytgbojgmmingfdaa.lawTableaux
open Go.ChangeShapes Go.WideShapes Go.ChangeAt Go.RowKit
open Go.ChangeMaps (open_string shut_string)

theorem OT.belowT {w w' : World} {base b : Nat} {v : Value} {ps : List (List Int × Int)} {cells : List Value} (h : OT w base b v ps cells) (hb : Below w.heap.size w w') : OT w' base b v ps cells := OF.below h hb
set_option maxRecDepth 100000 in
set_option maxHeartbeats 8000000 in
theorem walk {A : Option Addr} {n : Nat} (c : Nat) {w : World} (hx : RB w A n) : Calls Try.prog 6 #[.slice A n c] w (Law w) := by
  obtain ⟨w0, ew⟩ : ∃ w0 : World, w0 = w := ⟨_, rfl⟩
  subst ew
  rcases hbig : decide (1048576 < n) with _ | _
  case true =>
    go_enter Try.func6, Try.ntmps6
    go_wp2_with (go_at_call 22; refine (big_any _).mono ?_; rintro e w' ⟨rfl, q0, rfl⟩)
    go_ret
    exact ⟨rfl, Quiet.below ⟨_, rfl⟩⟩
  go_enter Try.func6, Try.ntmps6
  go_wp2_with (go_at_call 22; refine (big_any _).mono ?_; rintro e w' ⟨rfl, q0, rfl⟩)
  clear hbig
  refine (drawBoxes_any _ (hx.below (Quiet.below ⟨_, rfl⟩))).mono ?_
  rintro e w1 ⟨A4, n4, c4, A5, n5, c5, A6, n6, c6, l, l5, l6, W1, W2, K, M, rfl, hKM, hsh, -, -, o4, -, -, -, -, b1⟩
  have g1 : Below w0.heap.size w0 w1 := bnext (Quiet.below ⟨_, rfl⟩) b1 (by simp)
  have HSH := Lib.hid hsh
  have HKM := Lib.hid hKM
  have R4 := Lib.hid o4.ri
  have HL4 : Hid (l.length = n4) := o4.ri.1
  have hn4 : n4 ≤ 6 := by rw [← HL4.out]; have := hsh.len; omega
  have hK6 : K ≤ 6 := by omega
  have G1 := Lib.hid g1
  obtain ⟨N, hN⟩ : ∃ N : Int, N = (K : Int) + M := ⟨_, rfl⟩
  rw [← hN]
  have HN := Lib.hid hN
  obtain ⟨S, hS⟩ : ∃ S, S = sumL l := ⟨_, rfl⟩
  have HS := Lib.hid hS
  have HSUM : Hid (∀ W, Below w1.heap.size w1 W → Calls Try.prog 33 #[.slice A4 n4 c4] W (Gives W (.int .i64 S))) := fun W bW => by
    rw [HS.out]
    exact lsum_any _ (R4.out.below bW) (fun j hj => by have := HSH.out.pos j hj; omega) (by omega)
  clear hN hKM hsh o4 b1 hS g1 hx
  by_cases h8 : 8 < S
  · have h8' : decide (8 < S) = true := decide_eq_true h8
    clear h8
    go_wp2_with (first | (go_at_call 33; (with_reducible refine (HSUM.out _ ?_).mono ?_); (first | exact Below.refl _ _ | exact below_drewN (Below.refl _ _) _); rintro e w6 ⟨rfl, q6, rfl⟩) | fail)
    go_ret
    exact ⟨rfl, below_drewN G1.out _⟩
  have h8' : decide (8 < S) = false := decide_eq_false h8
  have HF := Lib.hid (tab_facts HSH.out HKM.out (by rw [← HS.out]; exact h8))
  clear h8
  obtain ⟨F, hF⟩ : ∃ F, F = shutT (schurK K l) := ⟨_, rfl⟩
  have HFE := Lib.hid hF
  obtain ⟨gp, hgp⟩ : ∃ g, g = grassB l K N := ⟨_, rfl⟩
  have HGP := Lib.hid hgp
  have HSC : Hid (∀ W, Below w1.heap.size w1 W → Calls Try.prog 11 #[.slice A4 n4 c4, .int .i64 (K : Int)] W (MakesTm W F true)) := fun W bW => by
    have h := iSchur_any (w := W) c4 (K : Int) (R4.out.below bW) (by omega) (by omega)
    rw [HF.out.okS, HF.out.isS, ← HFE.out] at h
    exact h
  have HGR : Hid (∀ W, Below w1.heap.size w1 W → Calls Try.prog 35 #[.slice A4 n4 c4, .int .i64 (K : Int), .int .i64 N] W (Makes W gp)) := fun W bW => by
    rw [HGP.out]
    exact iGrass_any (w := W) c4 (K : Int) N (R4.out.below bW) (by omega)
  have HSB : Hid (∀ W B m d, RI W B m gp → m ≤ d → Calls Try.prog 34 #[.slice B m d] W (MakesTm W F true)) := fun W B m d hr hd => by
    have hg : gp = grassB l K ((K : Int) + M) := by rw [HGP.out, HN.out]
    have h := iSchubert_any (w := W) d hr (by rw [hg]; exact HF.out.perm) hd (by rw [hg]; exact HF.out.trim) (by rw [hg]; exact HF.out.schOk)
    rw [hg, HF.out.sch, HF.out.shut, ← HFE.out] at h
    exact h
  have HPF : Hid (polyB F = true) := by show _ = _; rw [hF]; exact shutT_poly _
  have HFL : Hid (F.length ≤ 600) := poly_len600 HPF.out
  obtain ⟨NF, hNF⟩ : ∃ NF, NF = F.length := ⟨_, rfl⟩
  have HNF := Lib.hid hNF
  have hNF6 : NF ≤ 600 := by rw [hNF]; exact HFL.out
  clear hF hgp hNF
  go_wp2_with (first | (go_at_call 33; (with_reducible refine (HSUM.out _ ?_).mono ?_); (first | exact Below.refl _ _ | exact below_drewN (Below.refl _ _) _); rintro e w6 ⟨rfl, q6, rfl⟩) | fail)
  have B2 : Hid (Below w1.heap.size w1 (w1.drewN q6)) := below_drewN (Below.refl _ _) _
  obtain ⟨w2, e2⟩ : ∃ W, W = w1.drewN q6 := ⟨_, rfl⟩
  rw [← e2] at B2 ⊢
  clear e2
  refine (HSC.out _ B2.out).mono ?_
  intro e w3 h3
  obtain ⟨A7, c7, cs7, rfl, o7, b3⟩ := h3.form
  have B3 : Hid (Below w1.heap.size w1 w3) := B2.out.trans (b3.mono B2.out.size)
  have O7 := Lib.hid o7
  rw [← HNF.out] at O7 ⊢
  clear h3 o7 b3
  go_wp2_with fail
  refine (HGR.out _ B3.out).mono ?_
  rintro e w4 ⟨A8, n8, c8, rfl, -, r8, ⟨cp8, le8⟩, b4⟩
  have B4 : Hid (Below w1.heap.size w1 w4) := B3.out.trans (b4.mono B3.out.size)
  have P4 : Hid (OT w4 w2.heap.size w2.heap.size (.slice A7 NF c7) F cs7) := OT.belowT O7.out b4
  clear b4
  go_wp2_with fail
  refine (HSB.out _ _ _ _ r8 cp8).mono ?_
  intro e w5 h5
  obtain ⟨A9, c9, cs9, rfl, o9, b5⟩ := h5.form
  have B5 : Hid (Below w1.heap.size w1 w5) := B4.out.trans (b5.mono B4.out.size)
  have P5 : Hid (OT w5 w2.heap.size w2.heap.size (.slice A7 NF c7) F cs7) := OT.belowT P4.out b5
  have Q5 := Lib.hid o9
  rw [← HNF.out] at Q5 ⊢
  clear h5 o9 b5 r8 cp8 le8
  have HTE : Hid (∀ W B d base b cells, Below w5.heap.size w5 W → OT W base b (.slice B NF d) F cells → Calls Try.prog 36 #[.slice B NF d, .slice A7 NF c7] W (GivesB W (.bool true))) := fun W B d base b cells bW h => terms_any h.tp (OF.below P5.out.tp bW) (by have := HFL.out; omega)
  have HTE1 : Hid (∀ W, Below w5.heap.size w5 W → Calls Try.prog 36 #[.slice A7 NF c7, .slice A9 NF c9] W (GivesB W (.bool true))) := fun W bW => terms_any (OF.below P5.out.tp bW) (OF.below Q5.out.tp bW) (by have := HFL.out; omega)
  go_wp2_with (first | (go_at_call 36; (with_reducible refine (HTE1.out _ ?_).mono ?_); (first | exact Below.refl _ _ | exact below_drewN (Below.refl _ _) _ | exact (Below.refl _ _).drew); rintro e w6 ⟨rfl, b6⟩) | fail)
  have C6 : Hid (Below w5.heap.size w5 w6) := by first | exact b6 | exact b6.mono (by simp)
  clear b6
  have HSY : Hid (∀ W (i : Nat), i + 1 < K → Below w5.heap.size w5 W → Calls Try.prog 37 #[.slice A7 NF c7, .int .i64 (i : Int)] W (GivesB W (.bool true))) := fun W i hi bW => by
    refine iSym_any c7 i (by omega) (OT.belowT P5.out bW).rt HPF.out (fun x hx => ?_) (by omega) ?_
    · obtain ⟨j, hj, e⟩ := List.getElem_of_mem hx
      have h1 := (poly_at HPF.out).2 j hj
      have h2 := (term_facts h1.1).1
      rw [nthP_lt hj, e] at h2
      omega
    · rw [HFE.out, HF.out.back, HF.out.sym i hi]
  have HTB : Hid (∀ W, Below w5.heap.size w5 W → Calls Try.prog 38 #[.slice A4 n4 c4, .int .i64 (K : Int)] W (fun e w' => ∃ v cells, e = .returned (.tuple #[v, .bool true]) ∧ O3 w' W.heap.size v (tabs l K) cells ∧ Below W.heap.size W w')) := fun W bW =>
    iTab_any c4 K (R4.out.below (B5.out.trans (bW.mono B5.out.size))) (by omega) HF.out.small (by omega) HF.out.len
  have R5 := Lib.hid (R4.out.below B5.out)
  have G5 : Hid (Below w0.heap.size w0 w5) := G1.out.trans (B5.out.mono G1.out.size)
  clear h8'
  go_loopw [12] (fun iv wr => ∃ k : Nat, iv = .int .i64 (k : Int) ∧ k ≤ K ∧ Hid (Below w5.heap.size w5 wr)) (fun iv _ => K - (intOf iv).toNat)
  case atStart => exact ⟨0, rfl, Nat.zero_le _, C6.out⟩
  case round =>
    clear C6
    obtain ⟨i, rfl, hi, BL⟩ := hrel
    have hw1 : IntKind.i64.wrap ((i : Int) + 1) = (i : Int) + 1 := IntWalk.i64_in _ (by omega)
    by_cases hlt : i + 1 < K
    · have hltb : decide ((i : Int) + 1 < (K : Int)) = true := decide_eq_true (by omega)
      have HSI : Hid (Calls Try.prog 37 #[.slice A7 NF c7, .int .i64 (i : Int)] wr (GivesB wr (.bool true))) := HSY.out _ i hlt BL.out
      go_wp2_with (first | (go_at_call 37; refine HSI.out.mono ?_; rintro e w7 ⟨rfl, b7⟩) | fail)
      go_roundw
      case rel => exact ⟨i + 1, by go_num, by omega, BL.out.trans (b7.mono BL.out.size)⟩
      case measure => simp [intOf]; omega
    · have hltb : decide ((i : Int) + 1 < (K : Int)) = false := decide_eq_false (by omega)
      have HBL := Lib.hid BL.out
      obtain ⟨wo, hwo⟩ : ∃ W : World, W = wr := ⟨_, rfl⟩
      rw [← hwo] at HBL ⊢
      clear hlt hi BL hwo
      go_wp2_with fail
      refine (HTB.out _ HBL.out).mono ?_
      rintro e w8 ⟨v8, cs8, rfl, o8, b8⟩
      obtain ⟨At, nt, ct, rfl, lt8, -⟩ := o8.form
      have B8 : Hid (Below w5.heap.size w5 w8) := HBL.out.trans (b8.mono HBL.out.size)
      obtain ⟨TS, hTS⟩ : ∃ TS, TS = tabs l K := ⟨_, rfl⟩
      have HTS := Lib.hid hTS
      rw [← hTS] at o8 lt8
      have HO8 := Lib.hid o8
      have HNT := Lib.hid lt8
      have hnt : nt ≤ 400 := by rw [← lt8, hTS]; exact HF.out.len
      have R8 := Lib.hid (R5.out.below B8.out)
      have H0 : Hid (OT (w8.alloc (.cells #[] 81)) w8.heap.size w8.heap.size (.slice (some ⟨w8.heap.size, 0, none⟩) 0 0) (shutT []) [] ∧ hRun (schurK K l) [] (TS.drop 0) = true ∧ Below w8.heap.size w8 (w8.alloc (.cells #[] 81))) :=
        ⟨OT.lit w8 _ _ (Nat.le_refl _), by rw [List.drop_zero, hTS]; exact HF.out.run, (Below.refl _ _).alloc (Nat.le_refl _) _⟩
      clear o8 lt8 b8 hTS
      go_wp2_with fail
      go_loopw [17, 18, 19, 20, 21] (fun hv iv _ _ _ wr => ∃ (k : Nat) (L : List (Int × Int)) (Ah : Option Addr) (nh ch : Nat) (hc : List Value), k ≤ nt ∧ iv = .int .i64 (k : Int) ∧ hv = .slice Ah nh ch ∧ Hid (OT wr w8.heap.size w8.heap.size (.slice Ah nh ch) (shutT L) hc ∧ hRun (schurK K l) L (TS.drop k) = true ∧ Below w8.heap.size w8 wr)) (fun _ iv _ _ _ _ => nt - (intOf iv).toNat)
      case atStart => exact ⟨0, [], _, _, _, [], Nat.zero_le _, rfl, rfl, H0.out⟩
      case round =>
        clear H0
        obtain ⟨k, L, Ah, nh, ch, hc, hk, rfl, rfl, HX⟩ := hrel
        by_cases hlt : k < nt
        · obtain ⟨wp, hwp⟩ : ∃ W : World, W = wr := ⟨_, rfl⟩
          rw [← hwp] at HX ⊢
          clear hwp
          obtain ⟨ad, Ar, nr, cr, pc, rfl, z1, -, oT, -⟩ := (HO8.out.below HX.out.2.2).cell hlt
          have hkl : k < TS.length := by rw [HNT.out]; exact hlt
          obtain ⟨T, hT⟩ : ∃ T, T = TS.getD k [] := ⟨_, rfl⟩
          rw [← hT] at oT
          have HT1 : Hid (TabOne l K T) := HF.out.one T (by
            rw [hT, List.getD, List.getElem?_eq_getElem hkl, ← HTS.out]
            exact List.getElem_mem _)
          have HT8 : Hid (okT8 T) := HF.out.ok8 T (by
            rw [hT, List.getD, List.getElem?_eq_getElem hkl, ← HTS.out]
            exact List.getElem_mem _)
          have HRN : Hid (hRun (schurK K l) (plusK 1 L [(keyT T, 1)]) (TS.drop (k + 1)) = true) := by
            show _ = _
            rw [hT]
            exact hRun_drop hkl HX.out.2.1
          have hlen : T.length = nr := OS.lenS oT
          obtain rfl : n4 = nr := by rw [← hlen, ← HL4.out, ← HT1.out.shape, shapeT_len]
          have RT := Lib.hid (OS.rs oT hlen.symm)
          have HTL := Lib.hid hlen
          have Z1 := Lib.hid z1
          have HOK : Hid (∀ W, Below wp.heap.size wp W → Calls Try.prog 25 #[.slice Ar n4 cr] W (GivesB W (.bool true))) := fun W bW => iTabOk_any cr (RT.out.below bW) HT1.out.ok
          have HK := Lib.hid hk
          clear hT oT hkl hlen
          go_wp2_with (first
            | (at_make; refine wpMake rfl _ _ rfl 7 _ _ rfl rfl rfl rfl (by omega) ?_; intro w9 o9 b9 s9; have z9 := one_cell b9 Z1.out; have B9 := Lib.hid b9; have O9 := Lib.hid o9; clear o9 b9 s9)
            | (go_at_call 25; (with_reducible refine (HOK.out _ ?_).mono ?_); (exact B9.out); rintro e w10 ⟨rfl, b10⟩; have z10 := one_cell b10 z9; have B10 : Hid (Below wp.heap.size wp w10) := B9.out.trans (b10.mono B9.out.size); have O10 := Lib.hid (OI.below O9.out b10); clear b10)
            | fail)
          obtain ⟨G, hG⟩ : ∃ G, G = wp.heap.size := ⟨_, rfl⟩
          have HG := Lib.hid hG
          have O11 : Hid (OI w10 G (.slice (some ⟨G, 0, none⟩) 7 7) (([] : List (List Int)).foldl expE zeroE)) := by rw [hG]; exact O10.out
          rw [← hG]
          clear z9 hG O10 O9 B9
          go_wp2_with fail
          go_loopw [20, 21] (fun rv _ wr => ∃ r : Nat, r ≤ n4 ∧ rv = .int .i64 (r : Int) ∧ Hid (OI wr G (.slice (some ⟨G, 0, none⟩) 7 7) ((T.take r).foldl expE zeroE) ∧ Below wp.heap.size wp wr)) (fun rv _ _ => n4 - (intOf rv).toNat)
          case atStart => exact ⟨0, Nat.zero_le _, rfl, by rw [List.take_zero]; exact O11.out, B10.out⟩
          case round =>
            clear O11 B10 z10
            obtain ⟨r, hr, rfl, HZ⟩ := hrel
            have zz := one_cell HZ.out.2 Z1.out
            by_cases hrl : r < n4
            · obtain ⟨wq, hwq⟩ : ∃ W : World, W = wr := ⟨_, rfl⟩
              rw [← hwq] at HZ zz ⊢
              clear hwq
              obtain ⟨ad2, A2, n2, c2, rfl, y1, r2, -⟩ := RT.out.2 r hrl
              obtain ⟨row, hrow⟩ : ∃ row, row = nthL T r := ⟨_, rfl⟩
              rw [← hrow] at r2
              have hn2 : row.length = n2 := r2.1
              have HROW := Lib.hid hrow
              have hrT : r < T.length := by rw [HTL.out]; exact hrl
              have HRT : Hid (r < T.length) := hrT
              have HE2 : Hid (∀ x ∈ row, 0 ≤ x ∧ x < (K : Int)) := fun x hx => HT1.out.ent row (by rw [hrow]; exact nthL_memL hrT) x hx
              have hs2 : nth l r = (n2 : Int) := by rw [← HT1.out.shape, nth_shapeT hrT, ← hrow, hn2]
              obtain ⟨ad3, rfl, y2⟩ := (R8.out.below HX.out.2.2).cell hrl
              rw [hs2] at y2
              have h16 : n2 ≤ 16 := by rw [← hn2, hrow]; exact (tabB_len HT1.out.ok).2 r hrT
              obtain ⟨e0, he0⟩ : ∃ e0, e0 = (T.take r).foldl expE zeroE := ⟨_, rfl⟩
              have HW : Hid (∀ q, (expE e0 (row.take q)).length = 7 ∧ ∀ j, 0 ≤ nth (expE e0 (row.take q)) j ∧ nth (expE e0 (row.take q)) j ≤ 16) := fun q => by
                rw [he0, hrow]
                exact e_way HT8.out.1 hrT HT8.out.2.1
              rw [← he0] at HZ
              have HE0 := Lib.hid he0
              have HN2 := Lib.hid hn2
              have R2 := Lib.hid r2
              have Y1 := Lib.hid y1
              have yq := one_cell HZ.out.2 y1
              have yq2 := one_cell HZ.out.2 y2
              clear hrow hn2 hrT hs2 he0 r2 y1 y2
              go_wp2_with fail
              go_quiet (fail)
              go_wp2_with fail
              go_loopw [21] (fun jv wr => ∃ j : Nat, j ≤ n2 ∧ jv = .int .i64 (j : Int) ∧ Hid (OI wr G (.slice (some ⟨G, 0, none⟩) 7 7) (expE e0 (row.take j)) ∧ Below wp.heap.size wp wr)) (fun jv _ => n2 - (intOf jv).toNat)
              case atStart => exact ⟨0, Nat.zero_le _, rfl, by rw [List.take_zero]; exact OI.below HZ.out.1 (below_drewN (Below.refl _ _) _), below_drewN HZ.out.2 _⟩
              case round =>
                clear zz yq yq2
                obtain ⟨j, hj, rfl, HV⟩ := hrel
                have zz2 := one_cell HV.out.2 Z1.out
                have yy := one_cell HV.out.2 Y1.out
                by_cases hjl : j < n2
                · obtain ⟨ad4, rfl, x1⟩ := (R2.out.below HV.out.2).cell hjl
                  have hxb := HE2.out _ (nth_mem (l := row) (k := j) (by rw [HN2.out]; exact hjl))
                  obtain ⟨X, hX⟩ : ∃ X : Nat, nth row j = (X : Int) := ⟨(nth row j).toNat, by omega⟩
                  have HXX := Lib.hid hX
                  rw [hX] at x1 hxb
                  have hX7 : X < 7 := by omega
                  have hXK : decide ((K : Int) ≤ (X : Int)) = false := decide_eq_false (by omega)
                  have hXN : ¬ K ≤ X := by omega
                  have hXD : decide (K ≤ X) = false := decide_eq_false hXN
                  have hc1 := HV.out.1.cellAt (j := X) hX7
                  have hf1 := HV.out.1.frozenAt X
                  obtain ⟨y, hy⟩ : ∃ y, y = nth (expE e0 (row.take j)) X := ⟨_, rfl⟩
                  rw [← hy] at hc1
                  have hyb : 0 ≤ y ∧ y ≤ 16 := by rw [hy]; exact (HW.out j).2 X
                  have hw : IntKind.i64.wrap (y + 1) = y + 1 := IntWalk.i64_in _ (by omega)
                  have HS : Hid (OI (wr.setCell ⟨G, X, none⟩ (.int .i64 (y + 1))) G (.slice (some ⟨G, 0, none⟩) 7 7) (expE e0 (row.take (j + 1))) ∧ Below wp.heap.size wp (wr.setCell ⟨G, X, none⟩ (.int .i64 (y + 1)))) := by
                    refine ⟨?_, HV.out.2.setCell (by rw [HG.out]; exact Nat.le_refl _) _⟩
                    rw [expE_take (by rw [HN2.out]; exact hjl), hX, bumpE, Int.toNat_natCast, ← hy]
                    exact (HV.out.1.stored X (y + 1)).1
                  clear hy hX hxb
                  go_wp2_with fail
                  go_roundw
                  case rel => exact ⟨j + 1, by omega, by go_num, HS.out⟩
                  case measure => simp [intOf]; omega
                · obtain rfl : j = n2 := by omega
                  have HR : Hid (OI wr G (.slice (some ⟨G, 0, none⟩) 7 7) ((T.take (r + 1)).foldl expE zeroE) ∧ Below wp.heap.size wp wr) := by
                    have h := HV.out
                    rw [List.take_of_length_le (by rw [HN2.out]; exact Nat.le_refl _), HE0.out, HROW.out, ← wt_take HRT.out] at h
                    exact h
                  go_wp2_with fail
                  go_roundw
                  case rel => exact ⟨r + 1, by omega, by go_num, HR.out⟩
                  case measure => simp [intOf]; omega
            · obtain rfl : r = n4 := by omega
              have HOI : Hid (OI wr G (.slice (some ⟨G, 0, none⟩) 7 7) (wtE T) ∧ Below wp.heap.size wp wr) := by
                have h := HZ.out
                rw [List.take_of_length_le (by rw [HTL.out]; exact Nat.le_refl _)] at h
                exact h
              have HMK := Lib.hid (mon_key HT8.out)
              have HMO : Hid (Calls Try.prog 41 #[.slice (some ⟨G, 0, none⟩) 7 7] wr (MakesR1 wr (wtE T, 1))) := sMono_any 7 HOI.out.1.ri HMK.out.2.1
              obtain ⟨wq, hwq⟩ : ∃ W : World, W = wr := ⟨_, rfl⟩
              rw [← hwq] at HOI HMO zz ⊢
              clear hwq HZ
              go_wp2_with fail
              refine HMO.out.mono ?_
              rintro e w12 ⟨A12, c12, rfl, r12, b12⟩
              have B12 : Hid (Below wp.heap.size wp w12) := HOI.out.2.trans (b12.mono HOI.out.2.size)
              have RF : Hid (RTm w12 Ah nh (shutT L)) := HX.out.1.rt.below B12.out
              have HKB : Hid ((shutT L).map kc = L) := keys_back (hRun_ok HX.out.2.1)
              clear b12
              go_wp2_with fail
              refine (lplus_any ch c12 1 RF.out r12 (shutT_poly L) (one_poly HMK.out.1 HMK.out.2.1) (by omega)).mono ?_
              rintro e w13 ⟨v13, cs13, rfl, o13, b13⟩
              rw [HKB.out, HMK.out.2.2] at o13
              obtain ⟨A13, c13, rfl, -⟩ := OF.form o13
              have B13 : Hid (Below w8.heap.size w8 w13) := HX.out.2.2.trans ((B12.out.trans (b13.mono B12.out.size)).mono HX.out.2.2.size)
              have hs12 : w8.heap.size ≤ w12.heap.size := Nat.le_trans HX.out.2.2.size B12.out.size
              have O13 : Hid (OT w13 w8.heap.size w8.heap.size _ _ _) := OF.mono o13 hs12 hs12
              clear o13 b13 r12 hs12
              go_wp2_with fail
              go_roundw
              case rel => exact ⟨k + 1, plusK 1 L [(keyT T, 1)], A13, _, c13, cs13, by omega, by go_num, rfl, O13.out, HRN.out, B13.out⟩
              case measure => simp [intOf]; omega
        · obtain rfl : k = nt := by omega
          have hL : L = schurK K l := hRun_nil (by
            have h := HX.out.2.1
            rw [List.drop_eq_nil_of_le (by rw [HNT.out]; exact Nat.le_refl _)] at h
            exact h)
          have HXF : Hid (OT wr w8.heap.size w8.heap.size (.slice Ah nh ch) F hc) := by
            rw [HFE.out, ← hL]
            exact HX.out.1
          have HNH : Hid (nh = NF) := by
            obtain ⟨A', c', hv, -⟩ := OF.form HXF.out
            show _ = _
            rw [HNF.out]
            exact (slice_inj hv).2.1
          have HBR : Hid (Below w5.heap.size w5 wr) := B8.out.trans (HX.out.2.2.mono B8.out.size)
          obtain rfl : nh = NF := HNH.out
          have HTF : Hid (Calls Try.prog 36 #[.slice Ah nh ch, .slice A7 nh c7] wr (GivesB wr (.bool true))) := HTE.out wr Ah ch _ _ hc HBR.out HXF.out
          clear HX hL HNH
          go_wp2_with fail
          refine HTF.out.mono ?_
          rintro e w14 ⟨rfl, b14⟩
          go_wp2_with fail
          go_ret
          exact ⟨rfl, G5.out.trans ((HBR.out.trans (b14.mono HBR.out.size)).mono G5.out.size)⟩
end Go.Proofs.Ytgbojgmmingfdaa.lawTableaux
