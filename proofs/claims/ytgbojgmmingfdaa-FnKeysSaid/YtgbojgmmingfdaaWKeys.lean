/- The walk of FnKeys. -/
import Derived.Test.YtgbojgmmingfdaaKeyPS
import Derived.Test.YtgbojgmmingfdaaKeyF
import Derived.Test.YtgbojgmmingfdaaKeyF5
import Derived.Test.YtgbojgmmingfdaaRevL
import Derived.Test.YtgbojgmmingfdaaTermL
import Derived.Test.YtgbojgmmingfdaaBytes
import Derived.ShutString
import Derived.ChangeOld
namespace Go.Proofs.Ytgbojgmmingfdaa.lawKeys
open Go.ChangeShapes Go.WideShapes Go.ChangeAt Go.RowKit
open Go.ChangeMaps (open_string shut_string)

theorem shut_poly (L : List (Int × Int)) : polyB (shutT L) = true := by
  rcases h : shutB L with _ | _
  · rw [shut_no h]; rfl
  · rw [shut_yes h]
    rw [shutB, Bool.and_eq_true] at h
    exact h.2
theorem key_poly (e : List Int) : polyB (keyR e) = true := by
  unfold keyR
  split
  · exact shut_poly _
  · rfl
theorem ok5_of {e : List Int} (h : keyOk e = true) : Ok5 e ∧ 1 ≤ e.length := by
  rw [keyOk, Bool.and_eq_true, Bool.and_eq_true, decide_eq_true_eq, decide_eq_true_eq] at h
  refine ⟨⟨h.2.1, fun j => ?_⟩, h.1⟩
  by_cases hj : j < e.length
  · exact inB_iff.1 (allB_at h.2.2 hj)
  · rw [nth_ge (by omega)]; omega
theorem ok_of5 {e : List Int} (h : Ok5 e) (h1 : 1 ≤ e.length) : keyOk e = true := by
  rw [keyOk, decide_eq_true h1, decide_eq_true h.1, allB_yes fun j _ => by have := h.2 j; simp [inB]; omega]; rfl
/-- Opened again, a key polynomial is the list of its keys. -/
theorem key_back {e : List Int} (h : Ok5 e) (hs : shutB (keyM 10 e) = true) : (shutT (keyM 10 e)).map kc = keyM 10 e := by
  rw [shut_yes hs, List.map_map]
  conv => rhs; rw [← List.map_id (keyM 10 e)]
  refine List.map_congr_left fun x hx => ?_
  have h1 := keyM_gd (n := 10) h x hx
  show (keyL (expL x.1), x.2) = x
  rw [keyL_expL (by omega)]
/-- What one round of the sorting law says. -/
theorem key_round {e : List Int} {k : Nat} (h : keyOk e = true) (hs : shutB (keyM 10 e) = true) (hk : k + 1 < e.length) :
    shutT (demK k ((keyR e).map kc)) = if nth e (k + 1) < nth e k then keyR (swA k e) else keyR e := by
  obtain ⟨h5, h1⟩ := ok5_of h
  rw [(keyR_yes h).1, key_back h5 hs, key_sort h5 hk]
  split
  · rw [(keyR_yes (ok_of5 (h5.swA k) (by rw [swA_len]; exact h1))).1]
  · rfl
theorem keys_at {n : Nat} {l : List Int} (h : 2 ≤ n ∧ n ≤ 5) (hl : l ∈ shapesIn n 4) : keyFB n l = true := by
  have : n = 2 ∨ n = 3 ∨ n = 4 ∨ n = 5 := by omega
  rcases this with rfl | rfl | rfl | rfl
  · exact List.all_eq_true.1 keyF_2 l hl
  · exact List.all_eq_true.1 keyF_3 l hl
  · exact List.all_eq_true.1 keyF_4 l hl
  · exact List.all_eq_true.1 keyF_5 l hl
theorem rows_ok {K M : Nat} {l : List Int} (h : ShIn l K M) (hn : 2 ≤ K + M ∧ K + M ≤ 5) : Ok5 (rowsR l (K + M)) ∧ (rowsR l (K + M)).length = K + M ∧ ShIn l (K + M) 4 ∧ (∀ j, 0 ≤ nth l j ∧ nth l j ≤ 4) := by
  have hl := h.len
  have hln : (rowsR l (K + M)).length = K + M := by rw [rowsR, List.length_reverse, List.length_append, List.length_replicate]; omega
  have hp : ∀ j, 0 ≤ nth l j ∧ nth l j ≤ 4 := fun j => by
    by_cases hj : j < l.length
    · have := h.pos j hj; omega
    · rw [nth_ge (by omega)]; omega
  have hmem : ∀ x ∈ rowsR l (K + M), 0 ≤ x ∧ x ≤ 4 := fun x hx => by
    rw [rowsR, List.mem_reverse, List.mem_append] at hx
    rcases hx with hx | hx
    · obtain ⟨j, hj, e⟩ := List.getElem_of_mem hx
      have := hp j
      rw [nth_lt hj, e] at this
      exact this
    · rw [List.mem_replicate] at hx; omega
  refine ⟨⟨by omega, fun j => ?_⟩, hln, ⟨by omega, fun j hj => by have := h.pos j hj; omega, h.down⟩, hp⟩
  by_cases hj : j < (rowsR l (K + M)).length
  · rw [nth_lt hj]; exact hmem _ (List.getElem_mem hj)
  · rw [nth_ge (by omega)]; omega
/-- What the last part of the statement asks. -/
theorem schur_key {K M : Nat} {l : List Int} (h : ShIn l K M) (hn : 2 ≤ K + M ∧ K + M ≤ 5) (h8 : ¬ 8 < sumL l) :
    keyB (rowsR l (K + M)) = true ∧ schurB l ((K + M : Nat) : Int) = true ∧ schurR l ((K + M : Nat) : Int) = keyR (rowsR l (K + M)) := by
  obtain ⟨h5, hln, hsh, -⟩ := rows_ok h hn
  have hk := keys_at hn (shIn_mem _ _ _ hsh)
  rw [keyFB, Bool.or_eq_true, decide_eq_true_eq, Bool.and_eq_true, decide_eq_true_eq] at hk
  have hk := hk.resolve_left h8
  have hok := ok_of5 h5 (by omega)
  have hsmall : schurOk l ((K + M : Nat) : Int) = true := by
    have h1 : isShapeB l = true := h.shape (by omega) (by omega)
    rw [schurOk, smallB, h1, decide_eq_true (show sumL l ≤ 8 by omega)]
    simp [inB]; omega
  have hSB : schurB l ((K + M : Nat) : Int) = true := by rw [schurB, hsmall, Int.toNat_natCast]; exact hk.2
  refine ⟨?_, hSB, ?_⟩
  · rw [(keyR_yes hok).2, hk.1]; exact hk.2
  · rw [schurR, if_pos hSB, schurT, Int.toNat_natCast, (keyR_yes hok).1, hk.1, shut_yes hk.2]

set_option maxRecDepth 100000 in
set_option maxHeartbeats 3200000 in
theorem walk {A : Option Addr} {n : Nat} (c : Nat) {w : World} (hx : RB w A n) : Calls Try.prog 7 #[.slice A n c] w (Law w) := by
  obtain ⟨w0, ew⟩ : ∃ w0 : World, w0 = w := ⟨_, rfl⟩
  subst ew
  rcases hbig : decide (1048576 < n) with _ | _
  case true =>
    go_enter Try.func7, Try.ntmps7
    go_wp2_with (go_at_call 22; refine (big_any _).mono ?_; rintro e w' ⟨rfl, q0, rfl⟩)
    go_ret
    exact ⟨rfl, Quiet.below ⟨_, rfl⟩⟩
  have HRB := Lib.hid hx
  go_enter Try.func7, Try.ntmps7
  go_wp2_with (go_at_call 22; refine (big_any _).mono ?_; rintro e w' ⟨rfl, q0, rfl⟩)
  clear hbig
  refine (drawKey_any _ (hx.below (Quiet.below ⟨_, rfl⟩))).mono ?_
  rintro e w1 ⟨A1, n1, c1, l, rfl, o1, hl6, b1⟩
  have g1 : Below w0.heap.size w0 w1 := bnext (Quiet.below ⟨_, rfl⟩) b1 (by simp)
  have r1 := o1.ri
  have hn1 : n1 ≤ 6 := by rw [← r1.1]; exact hl6
  have R1 := Lib.hid r1
  have O1 := Lib.hid o1
  clear b1 o1 hx r1 hl6
  go_wp2_with fail
  refine (iKeyPoly_any c1 R1.out (by omega)).mono ?_
  intro e w2 h2
  obtain ⟨A2, c2, cs2, rfl, o2, b2⟩ := h2.form
  have g2 := bnext g1 b2 g1.size
  have O2 := Lib.hid o2
  clear h2 o2
  go_wp2_with fail
  refine (sKeyPoly_any c1 (R1.out.below b2) (by omega)).mono ?_
  intro e w3 h3
  obtain ⟨A3, c3, cs3, rfl, -, b3⟩ := h3.form
  have g3 := bnext g2 b3 g2.size
  have b13 := bnext b2 b3 b2.size
  have O3 : Hid (OT w3 w1.heap.size w1.heap.size (.slice A2 (keyR l).length c2) (keyR l) cs2) := OT.belowB O2.out b3
  clear h3
  rcases hb : keyB l with _ | _
  · go_wp2_with fail
    go_ret
    exact ⟨rfl, g3⟩
  have hok : keyOk l = true := by
    rw [keyB, Bool.and_eq_true] at hb; exact hb.1
  have hsb : shutB (keyM 10 l) = true := by
    rw [keyB, Bool.and_eq_true] at hb; exact hb.2
  have HOK := Lib.hid hok
  have HSB := Lib.hid hsb
  have H5 := Lib.hid (ok5_of hok)
  have R3 : Hid (OI w3 w0.heap.size (.slice A1 n1 c1) l) := (OI.below O1.out b13).mono (by first | exact g1.size | exact Nat.le_refl _ | simp)
  have G3 := Lib.hid g3
  have HLn : Hid (l.length = n1) := R1.out.1
  have hpl := poly_len600 (key_poly l)
  have HPL := Lib.hid hpl
  clear g1 g2 g3 b2 b3 b13 hb hok hsb hpl
  obtain ⟨NF, hNF⟩ : ∃ N, N = (keyR l).length := ⟨_, rfl⟩
  rw [← hNF] at O3 HPL ⊢
  have HNF := Lib.hid hNF
  clear hNF O2
  go_wp2_with fail
  go_loopw [8, 9, 10] (fun kv _ _ wr => ∃ k : Nat, kv = .int .i64 (k : Int) ∧ k ≤ n1 ∧ Hid (Below w3.heap.size w3 wr)) (fun kv _ _ _ => n1 - (intOf kv).toNat)
  case atStart => exact ⟨0, rfl, Nat.zero_le _, Below.refl _ _⟩
  case round =>
    obtain ⟨k, rfl, hk, BL⟩ := hrel
    have hw1 : IntKind.i64.wrap ((k : Int) + 1) = (k : Int) + 1 := IntWalk.i64_in _ (by omega)
    by_cases hlt : k + 1 < n1
    · have hltb : decide ((k : Int) + 1 < (n1 : Int)) = true := decide_eq_true (by omega)
      have HRW := Lib.hid (key_round HOK.out HSB.out (k := k) (by rw [HLn.out]; exact hlt))
      obtain ⟨gl, rfl⟩ := R3.out.some2 (by omega)
      have z0 := (OI.below R3.out BL.out).cellAt (j := k) (by omega)
      have z1 := (OI.below R3.out BL.out).cellAt (j := k + 1) hlt
      obtain ⟨x, hxx⟩ : ∃ x, x = nth l k := ⟨_, rfl⟩
      obtain ⟨y, hyy⟩ : ∃ x, x = nth l (k + 1) := ⟨_, rfl⟩
      rw [← hxx] at z0
      rw [← hyy] at z1
      rw [← hxx, ← hyy] at HRW
      clear hxx hyy
      have Z0 := Lib.hid z0
      have Z1 := Lib.hid z1
      clear z0 z1
      have hk0 : (k : Int) < (n1 : Int) := by omega
      have hk1 : (k : Int) + 1 < (n1 : Int) := by omega
      have hk2 : k < n1 := by omega
      rcases hxy : decide (y < x) with _ | _
      · have hG : shutT (demK k ((keyR l).map kc)) = keyR l := by
          have h := HRW.out
          rw [if_neg (of_decide_eq_false hxy)] at h
          exact h
        have HDM : Hid (∀ W, Below w3.heap.size w3 W → Calls Try.prog 45 #[.slice A2 NF c2, .int .i64 (k : Int)] W (MakesT1 W (keyR l))) := fun W bW => by
          have h := ldemazure_any (w := W) c2 k (by omega) ((OT.rt (OT.belowB O3.out bW)) : RTm W A2 NF (keyR l)) (key_poly l)
          rw [hG] at h
          exact h
        clear hG HRW
        go_wp2_with fail
        refine (HDM.out _ BL.out).mono ?_
        rintro e w4 ⟨v4, cs4, rfl, o4, b4⟩
        have B4 : Hid (Below w3.heap.size w3 w4.drew) := (bnext BL.out b4 BL.out.size).drew
        have z0 := one_cell b4 Z0.out
        have z1 := one_cell b4 Z1.out
        have O4 : Hid (OTp w4.drew _ _ _ _ _) := OF.below o4.tp (Below.refl _ _).drew
        clear o4 b4
        obtain ⟨A4, c4, rfl, -⟩ := OF.form O4.out
        go_wp2_with fail
        go_region
        go_wp2_with fail
        refine (terms_any O4.out (OT.tp (OT.belowB O3.out (by exact B4.out))) (by have := HPL.out; have := HNF.out; omega)).mono ?_
        rintro e w6 ⟨rfl, b6⟩
        have B6 : Hid (Below w3.heap.size w3 w6) := B4.out.trans (b6.mono B4.out.size)
        clear b6
        go_wp2_with fail
        go_roundw
        case rel => exact ⟨k + 1, by go_num, by omega, B6.out⟩
        case measure => simp [intOf]; omega
      · have hlty := of_decide_eq_true hxy
        have hG : shutT (demK k ((keyR l).map kc)) = keyR (swA k l) := by
          have h := HRW.out
          rw [if_pos hlty] at h
          exact h
        have HDM : Hid (∀ W, Below w3.heap.size w3 W → Calls Try.prog 45 #[.slice A2 NF c2, .int .i64 (k : Int)] W (MakesT1 W (keyR (swA k l)))) := fun W bW => by
          have h := ldemazure_any (w := W) c2 k (by omega) ((OT.rt (OT.belowB O3.out bW)) : RTm W A2 NF (keyR l)) (key_poly l)
          rw [hG] at h
          exact h
        have HSW : Hid (∀ W, Below w3.heap.size w3 W → Calls Try.prog 46 #[.slice (some ⟨gl, 0, none⟩) n1 c1, .int .i64 (k : Int), .int .i64 ((k : Int) + 1)] W (Makes W (swA k l))) := fun W bW => by
          have h := lswapped_any (w := W) c1 k (k + 1) (OI.below R3.out bW).ri (by omega) (by omega) (by omega) (by omega)
          rw [swapL_swA k l (by rw [HLn.out]; exact hlt)] at h
          exact h
        clear hG HRW hlty
        go_wp2_with fail
        refine (HDM.out _ BL.out).mono ?_
        rintro e w4 ⟨v4, cs4, rfl, o4, b4⟩
        have B4 : Hid (Below w3.heap.size w3 w4.drew) := (bnext BL.out b4 BL.out.size).drew
        have z0 := one_cell b4 Z0.out
        have z1 := one_cell b4 Z1.out
        have O4 : Hid (OTp w4.drew _ _ _ _ _) := OF.below o4.tp (Below.refl _ _).drew
        clear o4 b4
        obtain ⟨A4, c4, rfl, -⟩ := OF.form O4.out
        go_wp2_with fail
        go_region
        go_wp2_with fail
        refine (HSW.out _ (by exact B4.out)).mono ?_
        rintro e w5 ⟨A5, n5, c5, rfl, -, r5, ⟨cp5, le5⟩, b5⟩
        have B5 : Hid (Below w3.heap.size w3 w5) := B4.out.trans (b5.mono B4.out.size)
        have O5 : Hid (OTp w5 _ _ _ _ _) := OF.below O4.out b5
        have hn5 : n5 ≤ 6 := by rw [← r5.1, swA_len, HLn.out]; exact hn1
        clear b5
        go_wp2_with fail
        refine (iKeyPoly_any c5 r5 (by omega)).mono ?_
        intro e w6 h6
        obtain ⟨A6, c6, cs6, rfl, o6, b6⟩ := h6.form
        have B6 : Hid (Below w3.heap.size w3 w6) := B5.out.trans (b6.mono B5.out.size)
        have O6 : Hid (OTp w6 _ _ _ _ _) := OF.below O5.out b6
        have Q6 := Lib.hid o6.tp
        have HP6 : Hid ((keyR (swA k l)).length ≤ 1000000000) := by have := poly_len600 (key_poly (swA k l)); show _ ≤ _; omega
        clear h6 o6 b6
        go_wp2_with fail
        refine (terms_any O6.out Q6.out HP6.out).mono ?_
        rintro e w7 ⟨rfl, b7⟩
        have B7 : Hid (Below w3.heap.size w3 w7) := B6.out.trans (b7.mono B6.out.size)
        clear b7
        go_wp2_with fail
        go_roundw
        case rel => exact ⟨k + 1, by go_num, by omega, B7.out⟩
        case measure => simp [intOf]; omega
    · have hltb : decide ((k : Int) + 1 < (n1 : Int)) = false := decide_eq_false (by omega)
      have GW := Lib.hid (bnext G3.out BL.out G3.out.size)
      go_wp2_with fail
      refine (drawBoxes_any _ (HRB.out.below (by exact GW.out))).mono ?_
      rintro e w4 ⟨A4, n4, c4, A5, n5, c5, A6, n6, c6, l4, l5, l6, W1, W2, K, M, rfl, hKM, -, -, hsh, -, -, o6, hW1, hW2, b4⟩
      have G4 : Hid (Below w0.heap.size w0 w4) := GW.out.trans (b4.mono GW.out.size)
      have O6 := Lib.hid o6
      have R6 := Lib.hid o6.ri
      have HL6 : Hid (l6.length = n6) := o6.ri.1
      have hn6 : n6 ≤ 6 := by rw [← HL6.out]; have := hsh.len; omega
      have HSH := Lib.hid hsh
      have HKM := Lib.hid hKM
      obtain ⟨T, hT⟩ : ∃ T : Int, T = (K : Int) + M := ⟨_, rfl⟩
      rw [← hT]
      have HT := Lib.hid hT
      clear hT hKM hsh o6 b4 hW1 hW2
      by_cases h5 : 5 < T
      · have h5' : decide (5 < T) = true := decide_eq_true h5
        clear h5
        go_wp2_with fail
        go_ret
        exact ⟨rfl, G4.out⟩
      · have h5' : decide (5 < T) = false := decide_eq_false h5
        have HT5 : Hid (2 ≤ K + M ∧ K + M ≤ 5) := by show _ ∧ _; have := HT.out; have := HKM.out; omega
        have HRO := Lib.hid (rows_ok HSH.out HT5.out)
        have hlen' : decide (T < (n6 : Int)) = false := decide_eq_false (by have := HT.out; have := HSH.out.len; have := HL6.out; omega)
        have HT6 : Hid ((n6 : Int) ≤ T) := Int.not_lt.1 (of_decide_eq_false hlen')
        obtain ⟨S, hS⟩ : ∃ S, S = sumL l6 := ⟨_, rfl⟩
        have HS := Lib.hid hS
        have HSUM : Hid (∀ W, Below w4.heap.size w4 W → Calls Try.prog 33 #[.slice A6 n6 c6] W (Gives W (.int .i64 S))) := fun W bW => by
          rw [HS.out]
          exact lsum_any _ (R6.out.below bW) (fun j _ => by have := HRO.out.2.2.2 j; omega) (by omega)
        clear h5 hS
        by_cases h8 : 8 < S
        · have h8' : decide (8 < S) = true := decide_eq_true h8
          clear h8
          go_wp2_with (first | (go_at_call 33; (with_reducible refine (HSUM.out _ ?_).mono ?_); (first | exact Below.refl _ _ | exact below_drewN (Below.refl _ _) _); rintro e w6 ⟨rfl, q6, rfl⟩) | fail)
          go_ret
          exact ⟨rfl, below_drewN G4.out _⟩
        · have h8' : decide (8 < S) = false := decide_eq_false h8
          have HSK := Lib.hid (schur_key HSH.out HT5.out (by rw [← HS.out]; exact h8))
          clear h8
          have HTN : Hid (T = ((K + M : Nat) : Int)) := by show _ = _; rw [HT.out]; omega
          have hT5 : 2 ≤ T ∧ T ≤ 5 := by rw [HTN.out]; have := HT5.out; omega
          have HL0 : Hid (∀ q, OI ((w4.drewN q).alloc (.cells #[] 3)) w4.heap.size (.slice (some ⟨w4.heap.size, 0, none⟩) 0 0) []) := fun q => by
            have h := OI.lit (w4.drewN q) w4.heap.size [] 0 rfl (Nat.le_refl _) (by simp)
            simpa [cellsI] using h
          have HB0 : Hid (∀ q, Below w4.heap.size w4 ((w4.drewN q).alloc (.cells #[] 3))) := fun q => (below_drewN (Below.refl _ _) q).alloc (by simp) _
          by_cases h0 : 0 < n6
          · have h0' : decide (0 < (n6 : Int)) = true := decide_eq_true (by omega)
            obtain ⟨a6, rfl, z0⟩ := R6.out.cell h0
            rw [add_zero_] at z0
            obtain ⟨x, hx⟩ : ∃ x, x = nth l6 0 := ⟨_, rfl⟩
            rw [← hx] at z0
            have hx4 : decide (4 < x) = false := decide_eq_false (by have := HRO.out.2.2.2 0; omega)
            have HR0 : Hid (∀ q, RI ((w4.drewN q).alloc (.cells #[] 3)) (some a6) n6 l6) := fun q => R6.out.below (HB0.out q)
            clear hx
            go_wp2_with (first | (go_at_call 33; (with_reducible refine (HSUM.out _ ?_).mono ?_); (first | exact Below.refl _ _ | exact below_drewN (Below.refl _ _) _); rintro e w6 ⟨rfl, q6, rfl⟩) | (at_builtin; refine wpAppI rfl _ _ rfl w4.heap.size (.slice (some ⟨w4.heap.size, 0, none⟩) 0 0) [] l6 _ n6 c6 rfl rfl (by exact HL0.out _) (by exact HR0.out _) (by simp; omega) (by simp) ?_; intro v7 w7 o7 g7 k7) | fail)
            obtain ⟨A7, n7, c7, rfl, r7, -, -⟩ := o7.form
            rw [List.nil_append] at o7
            have B7 : Hid (Below w4.heap.size w4 w7) := (HB0.out _).grown g7 (by simp) (by simp [Value.ownBlock])
            have O7 : Hid (OI w7 w4.heap.size (.slice A7 n7 c7) (l6 ++ List.replicate 0 0)) := by rw [List.replicate_zero, List.append_nil]; exact o7
            have HN7 : Hid (n7 = n6 + 0) := by show _ = _; rw [← r7.1, List.nil_append]; exact HL6.out
            clear o7 g7 k7 r7
            go_wp2_with fail
            go_loopw [16] (fun rv wr => ∃ (j : Nat) (B : Option Addr) (bn bd : Nat), rv = .slice B bn bd ∧ bn = n6 + j ∧ ((n6 + j : Nat) : Int) ≤ T ∧ Hid (OI wr w4.heap.size (.slice B bn bd) (l6 ++ List.replicate j 0) ∧ Below w4.heap.size w4 wr)) (fun rv _ => T.toNat - lnV rv)
            case atStart => exact ⟨0, A7, n7, c7, rfl, HN7.out, by have := HT6.out; omega, O7.out, B7.out⟩
            case round =>
              obtain ⟨j, B, bn, bd, rfl, hbn, hbT, HY⟩ := hrel
              by_cases hlt2 : (bn : Int) < T
              · have hlt2' : decide ((bn : Int) < T) = true := decide_eq_true hlt2
                have HBN := Lib.hid hbn
                have hbn5 : bn ≤ 5 := by omega
                have hjm : bn + 1 = n6 + (j + 1) := by omega
                have HLE : Hid ((l6 ++ List.replicate j (0 : Int)).length + 1 ≤ 1000000000000) := by show _ ≤ _; rw [List.length_append, List.length_replicate, HL6.out]; omega
                have HJM := Lib.hid hjm
                clear hbn hjm
                go_wp2_with (at_builtin; refine wpApp1 rfl _ _ rfl w4.heap.size (.slice B bn bd) (l6 ++ List.replicate j 0) 0 rfl (by exact HY.out.1) rfl (by exact HLE.out) (by exact HY.out.2.size) ?_; intro v8 w8 o8 g8 k8)
                obtain ⟨A8, n8, c8, rfl, r8, -, -⟩ := o8.form
                have HN8 : Hid (n8 = bn + 1) := by show _ = _; rw [← r8.1, List.length_append, HY.out.1.ri.1]; rfl
                have F8 : Hid (OI w8 w4.heap.size (.slice A8 n8 c8) (l6 ++ List.replicate (j + 1) 0) ∧ Below w4.heap.size w4 w8) := by
                  refine ⟨?_, HY.out.2.grown g8 HY.out.2.size fun i hi => (HY.out.1.lt i hi).1⟩
                  rw [List.replicate_succ', ← List.append_assoc]
                  exact o8
                clear o8 g8 k8 r8
                go_roundw
                case rel => exact ⟨j + 1, A8, n8, c8, rfl, by rw [HN8.out]; exact HJM.out, by have := HJM.out; have := HN8.out; omega, F8.out⟩
                case measure => simp only [lnV]; have := HN8.out; omega
              · have hlt2' : decide ((bn : Int) < T) = false := decide_eq_false hlt2
                have HRW : Hid (l6 ++ List.replicate j (0 : Int) = l6 ++ List.replicate (K + M - l6.length) 0) := by
                  show _ = _
                  rw [show K + M - l6.length = j by have := HTN.out; have := HL6.out; omega]
                have HBN := Lib.hid hbn
                have hbn6 : bn ≤ 6 := by omega
                clear hbn hlt2 hbT
                go_wp2_with fail
                refine (lreversed_any bd HY.out.1.ri (by omega)).mono ?_
                rintro e w9 ⟨A9, n9, c9, rfl, -, r9, ⟨cp9, le9⟩, b9⟩
                have B9 : Hid (Below w4.heap.size w4 w9) := HY.out.2.trans (b9.mono HY.out.2.size)
                have R9 : Hid (RI w9 A9 n9 (rowsR l6 (K + M))) := by
                  have h := r9
                  rw [HRW.out] at h
                  exact h
                have hn9 : n9 ≤ 6 := by rw [← R9.out.1, HRO.out.2.1]; have := HT5.out; omega
                clear r9 b9
                go_wp2_with fail
                refine (iKeyPoly_any c9 R9.out (by omega)).mono ?_
                intro e w10 h10
                rw [HSK.out.1] at h10
                obtain ⟨A10, c10, cs10, rfl, o10, b10⟩ := h10.form
                have B10 : Hid (Below w4.heap.size w4 w10) := B9.out.trans (b10.mono B9.out.size)
                have O10 := Lib.hid o10.tp
                clear h10 o10 b10
                go_wp2_with fail
                refine (iSchur_any c6 T (R6.out.below B10.out) (by omega) (by omega)).mono ?_
                intro e w11 h11
                rw [HTN.out, HSK.out.2.1, HSK.out.2.2] at h11
                obtain ⟨A11, c11, cs11, rfl, o11, b11⟩ := h11.form
                have B11 : Hid (Below w4.heap.size w4 w11) := B10.out.trans (b11.mono B10.out.size)
                have Q10 : Hid (OTp w11 _ _ _ _ _) := OF.below O10.out b11
                have Q11 := Lib.hid o11.tp
                have HP11 : Hid ((keyR (rowsR l6 (K + M))).length ≤ 1000000000) := by have := poly_len600 (key_poly (rowsR l6 (K + M))); show _ ≤ _; omega
                clear h11 o11 b11
                have HTE : Hid (∀ W, Below w11.heap.size w11 W → Calls Try.prog 36 #[.slice A10 (keyR (rowsR l6 (K + M))).length c10, .slice A11 (keyR (rowsR l6 (K + M))).length c11] W (GivesB W (.bool true))) := fun W bW => terms_any (OF.below Q10.out bW) (OF.below Q11.out bW) HP11.out
                obtain ⟨NF2, hNF2⟩ : ∃ N, N = (keyR (rowsR l6 (K + M))).length := ⟨_, rfl⟩
                rw [← hNF2] at HTE ⊢
                clear hNF2
                go_wp2_with (first | (go_at_call 36; (with_reducible refine (HTE.out _ ?_).mono ?_); (first | exact Below.refl _ _ | exact below_drewN (Below.refl _ _) _); rintro e w12 ⟨rfl, b12⟩) | fail)
                go_ret
                exact ⟨rfl, G4.out.trans ((B11.out.trans (Below.mono b12 B11.out.size)).mono G4.out.size)⟩
          · have h0' : decide (0 < (n6 : Int)) = false := decide_eq_false (by omega)
            have HR0 : Hid (∀ q, RI ((w4.drewN q).alloc (.cells #[] 3)) A6 n6 l6) := fun q => R6.out.below (HB0.out q)
            go_wp2_with (first | (go_at_call 33; (with_reducible refine (HSUM.out _ ?_).mono ?_); (first | exact Below.refl _ _ | exact below_drewN (Below.refl _ _) _); rintro e w6 ⟨rfl, q6, rfl⟩) | (at_builtin; refine wpAppI rfl _ _ rfl w4.heap.size (.slice (some ⟨w4.heap.size, 0, none⟩) 0 0) [] l6 _ n6 c6 rfl rfl (by exact HL0.out _) (by exact HR0.out _) (by simp; omega) (by simp) ?_; intro v7 w7 o7 g7 k7) | fail)
            obtain ⟨A7, n7, c7, rfl, r7, -, -⟩ := o7.form
            rw [List.nil_append] at o7
            have B7 : Hid (Below w4.heap.size w4 w7) := (HB0.out _).grown g7 (by simp) (by simp [Value.ownBlock])
            have O7 : Hid (OI w7 w4.heap.size (.slice A7 n7 c7) (l6 ++ List.replicate 0 0)) := by rw [List.replicate_zero, List.append_nil]; exact o7
            have HN7 : Hid (n7 = n6 + 0) := by show _ = _; rw [← r7.1, List.nil_append]; exact HL6.out
            clear o7 g7 k7 r7
            go_wp2_with fail
            go_loopw [16] (fun rv wr => ∃ (j : Nat) (B : Option Addr) (bn bd : Nat), rv = .slice B bn bd ∧ bn = n6 + j ∧ ((n6 + j : Nat) : Int) ≤ T ∧ Hid (OI wr w4.heap.size (.slice B bn bd) (l6 ++ List.replicate j 0) ∧ Below w4.heap.size w4 wr)) (fun rv _ => T.toNat - lnV rv)
            case atStart => exact ⟨0, A7, n7, c7, rfl, HN7.out, by have := HT6.out; omega, O7.out, B7.out⟩
            case round =>
              obtain ⟨j, B, bn, bd, rfl, hbn, hbT, HY⟩ := hrel
              by_cases hlt2 : (bn : Int) < T
              · have hlt2' : decide ((bn : Int) < T) = true := decide_eq_true hlt2
                have HBN := Lib.hid hbn
                have hbn5 : bn ≤ 5 := by omega
                have hjm : bn + 1 = n6 + (j + 1) := by omega
                have HLE : Hid ((l6 ++ List.replicate j (0 : Int)).length + 1 ≤ 1000000000000) := by show _ ≤ _; rw [List.length_append, List.length_replicate, HL6.out]; omega
                have HJM := Lib.hid hjm
                clear hbn hjm
                go_wp2_with (at_builtin; refine wpApp1 rfl _ _ rfl w4.heap.size (.slice B bn bd) (l6 ++ List.replicate j 0) 0 rfl (by exact HY.out.1) rfl (by exact HLE.out) (by exact HY.out.2.size) ?_; intro v8 w8 o8 g8 k8)
                obtain ⟨A8, n8, c8, rfl, r8, -, -⟩ := o8.form
                have HN8 : Hid (n8 = bn + 1) := by show _ = _; rw [← r8.1, List.length_append, HY.out.1.ri.1]; rfl
                have F8 : Hid (OI w8 w4.heap.size (.slice A8 n8 c8) (l6 ++ List.replicate (j + 1) 0) ∧ Below w4.heap.size w4 w8) := by
                  refine ⟨?_, HY.out.2.grown g8 HY.out.2.size fun i hi => (HY.out.1.lt i hi).1⟩
                  rw [List.replicate_succ', ← List.append_assoc]
                  exact o8
                clear o8 g8 k8 r8
                go_roundw
                case rel => exact ⟨j + 1, A8, n8, c8, rfl, by rw [HN8.out]; exact HJM.out, by have := HJM.out; have := HN8.out; omega, F8.out⟩
                case measure => simp only [lnV]; have := HN8.out; omega
              · have hlt2' : decide ((bn : Int) < T) = false := decide_eq_false hlt2
                have HRW : Hid (l6 ++ List.replicate j (0 : Int) = l6 ++ List.replicate (K + M - l6.length) 0) := by
                  show _ = _
                  rw [show K + M - l6.length = j by have := HTN.out; have := HL6.out; omega]
                have HBN := Lib.hid hbn
                have hbn6 : bn ≤ 6 := by omega
                clear hbn hlt2 hbT
                go_wp2_with fail
                refine (lreversed_any bd HY.out.1.ri (by omega)).mono ?_
                rintro e w9 ⟨A9, n9, c9, rfl, -, r9, ⟨cp9, le9⟩, b9⟩
                have B9 : Hid (Below w4.heap.size w4 w9) := HY.out.2.trans (b9.mono HY.out.2.size)
                have R9 : Hid (RI w9 A9 n9 (rowsR l6 (K + M))) := by
                  have h := r9
                  rw [HRW.out] at h
                  exact h
                have hn9 : n9 ≤ 6 := by rw [← R9.out.1, HRO.out.2.1]; have := HT5.out; omega
                clear r9 b9
                go_wp2_with fail
                refine (iKeyPoly_any c9 R9.out (by omega)).mono ?_
                intro e w10 h10
                rw [HSK.out.1] at h10
                obtain ⟨A10, c10, cs10, rfl, o10, b10⟩ := h10.form
                have B10 : Hid (Below w4.heap.size w4 w10) := B9.out.trans (b10.mono B9.out.size)
                have O10 := Lib.hid o10.tp
                clear h10 o10 b10
                go_wp2_with fail
                refine (iSchur_any c6 T (R6.out.below B10.out) (by omega) (by omega)).mono ?_
                intro e w11 h11
                rw [HTN.out, HSK.out.2.1, HSK.out.2.2] at h11
                obtain ⟨A11, c11, cs11, rfl, o11, b11⟩ := h11.form
                have B11 : Hid (Below w4.heap.size w4 w11) := B10.out.trans (b11.mono B10.out.size)
                have Q10 : Hid (OTp w11 _ _ _ _ _) := OF.below O10.out b11
                have Q11 := Lib.hid o11.tp
                have HP11 : Hid ((keyR (rowsR l6 (K + M))).length ≤ 1000000000) := by have := poly_len600 (key_poly (rowsR l6 (K + M))); show _ ≤ _; omega
                clear h11 o11 b11
                have HTE : Hid (∀ W, Below w11.heap.size w11 W → Calls Try.prog 36 #[.slice A10 (keyR (rowsR l6 (K + M))).length c10, .slice A11 (keyR (rowsR l6 (K + M))).length c11] W (GivesB W (.bool true))) := fun W bW => terms_any (OF.below Q10.out bW) (OF.below Q11.out bW) HP11.out
                obtain ⟨NF2, hNF2⟩ : ∃ N, N = (keyR (rowsR l6 (K + M))).length := ⟨_, rfl⟩
                rw [← hNF2] at HTE ⊢
                clear hNF2
                go_wp2_with (first | (go_at_call 36; (with_reducible refine (HTE.out _ ?_).mono ?_); (first | exact Below.refl _ _ | exact below_drewN (Below.refl _ _) _); rintro e w12 ⟨rfl, b12⟩) | fail)
                go_ret
                exact ⟨rfl, G4.out.trans ((B11.out.trans (Below.mono b12 B11.out.size)).mono G4.out.size)⟩
end Go.Proofs.Ytgbojgmmingfdaa.lawKeys
