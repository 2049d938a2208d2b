/- l6Reduce and WrapShape of the reference. -/
import Derived.Test.YtmodpicemlkbjaaWrap
namespace Go.Proofs.Ytmodpicemlkbjaa
open Go.RowKit

theorem lssTo_add (d : List Int) (v : Int) (k : Nat) : lssTo (d ++ [v]) k (d.length + 1) = lssTo d k d.length ++ [v - ((k : Int) - 1 - d.length)] := by
  unfold lssTo
  rw [gen_succ, nth_append_right (Nat.le_refl _), Nat.sub_self]
  have e : nth [v] 0 = v := rfl
  rw [e]
  congr 1
  refine ext_nth (by rw [gen_len, gen_len]) fun j hj => ?_
  rw [gen_len] at hj
  rw [nth_gen hj, nth_gen hj, nth_append_left hj]

set_option maxRecDepth 1000000 in
set_option maxHeartbeats 4000000 in
theorem sReduce_any {A : Option Addr} {n0 : Nat} {l : List Int} {w : World} (c K N : Nat) (hx : RI w A n0 l) (hn : n0 ≤ 1000000000) (h1 : isShapeB l = true) (h2 : 1 ≤ N) (h3 : N ≤ 7) (h4 : 1 ≤ K) (h5 : K ≤ N) :
    Calls Try.prog 78 #[.slice A n0 c, .int .i64 (K : Int), .int .i64 (N : Int)] w (MakesW w (reduceW l K N).1 (reduceW l K N).2.1 (reduceW l K N).2.2) := by
  have HX := Lib.hid hx
  have HSH := Lib.hid h1
  clear h1 hx
  have hK7 : K ≤ 7 := by omega
  have hN1 : 1 ≤ N := h2
  have hKN : ¬ N < K := by omega
  go_enter Try.func78, Try.ntmps78
  go_wp2
  obtain ⟨gb, hgb⟩ : ∃ gb, gb = w.heap.size := ⟨_, rfl⟩
  obtain ⟨w1, hw1⟩ : ∃ w1, w1 = w.alloc (.cells #[.int .i64 0, .slice none 0 0, .int .i64 0] 46) := ⟨_, rfl⟩
  have kb1 : BK w1 gb 46 [.int .i64 0, .slice none 0 0, .int .i64 0] := by rw [hw1, hgb]; exact BK.new w _ _
  have bb1 : Below gb w w1 := by rw [hw1, hgb]; exact (Below.refl _ _).alloc (Nat.le_refl _) _
  have hs1 : w1.heap.size = gb + 1 := by rw [hw1, hgb]; simp
  rw [← hw1]
  obtain ⟨w2, hw2⟩ : ∃ w2, w2 = w1.alloc (.cells #[] 3) := ⟨_, rfl⟩
  have kb2 : BK w2 gb 46 [.int .i64 0, .slice none 0 0, .int .i64 0] := by rw [hw2]; exact kb1.alloc _
  have bb2 : Below gb w w2 := by rw [hw2]; exact bb1.alloc (by omega) _
  have hs2 : w2.heap.size = gb + 2 := by rw [hw2]; simp [hs1]
  have o2 : OI w2 (gb + 1) (.slice (some ⟨gb + 1, 0, none⟩) 0 0) (remsW l K N 0) := by rw [hw2, ← hs1]; exact OI.lit w1 w1.heap.size [] 0 rfl (Nat.le_refl _) (by simp)
  rw [← hw2, ← hgb]
  have KB2 := Lib.hid kb2
  have BB2 := Lib.hid bb2
  have HGB := Lib.hid hgb
  have HS2 := Lib.hid hs2
  clear kb1 bb1 hs1 kb2 bb2 hw1 hw2 hgb hs2
  go_loopw [7, 8, 9, 10] (fun e pw i _ wr => ∃ j : Nat, j ≤ K ∧ i = .int .i64 (j : Int) ∧ pw = .int .i64 (powW l K N j) ∧ OI wr (gb + 1) e (remsW l K N j) ∧ Hid (Below (gb + 1) w2 wr)) (fun _ _ i _ _ => K - (intOf i).toNat)
  case atStart => exact ⟨0, Nat.zero_le _, rfl, rfl, o2, Below.refl _ _⟩
  case round =>
    clear o2
    obtain ⟨j, hj, rfl, rfl, ho, hb⟩ := hrel
    have hxr : RI wr A n0 l := HX.out.below ((BB2.out.trans (hb.out.mono (Nat.le_succ _))).mono (by rw [HGB.out]; exact Nat.le_refl _))
    by_cases hlt : j < K
    · have hr := shape_range HSH.out j
      obtain ⟨v, hv⟩ : ∃ v, v = numW l K j := ⟨_, rfl⟩
      have hv1 : nth l j + K - 1 - j = v := hv.symm
      have hvr := numW_range HSH.out hlt hK7
      have hpr := powW_range HSH.out hK7 hN1 j (by omega)
      rw [← hv] at hvr
      have HV := Lib.hid hv
      obtain ⟨dq, hdq⟩ : ∃ dq, dq = v / (N : Int) := ⟨_, rfl⟩
      obtain ⟨dr, hdr⟩ : ∃ dr, dr = v % (N : Int) := ⟨_, rfl⟩
      obtain ⟨pw, hpw⟩ : ∃ pw, pw = powW l K N j := ⟨_, rfl⟩
      have hq0 : 0 ≤ dq := by rw [hdq]; exact Int.ediv_nonneg hvr.1 (by omega)
      have hq1 : dq ≤ v := by rw [hdq]; exact Int.ediv_le_self _ hvr.1
      have HP : Hid (powW l K N (j + 1) = pw + dq) := by show _ = _; rw [powW, ← HV.out, ← hdq, ← hpw]
      have HR : Hid (remsW l K N (j + 1) = remsW l K N j ++ [dr]) := by show _ = _; unfold remsW; rw [gen_succ, ← HV.out, ← hdr]
      have hlen := remsW_len l K N j
      rw [← hpw] at hpr
      rw [← hpw]
      have hdq' : v / (N : Int) = dq := hdq.symm
      have hdr' : v % (N : Int) = dr := hdr.symm
      have HB := Lib.hid hb.out
      have hsz := hb.out.size
      have HO := Lib.hid ho
      rw [HS2.out] at hsz
      clear hv hdq hdr hpw hb ho
      go_wp2_with (first
          | (go_at_call 88; refine (l4At_any _ _ hxr (by omega) (by omega)).mono ?_; rintro e w' ⟨rfl, q0, rfl⟩)
          | (at_builtin; refine wpAppI rfl _ _ rfl (gb + 1) _ (remsW l K N j) [dr] (some ⟨wr.heap.size, 0, none⟩) 1 1 rfl rfl (by exact HO.out.alloc _) (by exact RI.one wr _) (by rw [hlen]; omega) (by simp; omega) ?_; intro v' w' h1 h2 h3))
      have HF : Hid (OI w' (gb + 1) v' (remsW l K N (j + 1)) ∧ Below (gb + 1) w2 w') := by
        refine ⟨by rw [HR.out]; exact h1, (below_drewN (HB.out.alloc (by omega) _) _).grown h2 (by simp; omega) (fun k hk => (HO.out.lt k hk).1)⟩
      clear h1 h2 h3
      go_roundw
      case rel => exact ⟨j + 1, by omega, by go_num, by rw [HP.out], HF.out.1, HF.out.2⟩
      case measure => simp [intOf]; omega
    · obtain rfl : j = K := by omega
      have hlen := remsW_len l j N j
      obtain ⟨g, ce, he, hgl, hgs⟩ := World.ownsRow.form ho (by rw [hlen]; omega)
      rw [hlen] at he
      subst he
      obtain ⟨E, hE⟩ : ∃ E, E = remsW l j N j := ⟨_, rfl⟩
      obtain ⟨P, hP⟩ : ∃ P, P = powW l j N j := ⟨_, rfl⟩
      obtain ⟨Q, hQ⟩ : ∃ Q, Q = ((j : Int) - 1) * P := ⟨_, rfl⟩
      have hpr := powW_range HSH.out hK7 hN1 j (Nat.le_refl _)
      rw [← hP] at hpr
      have hQr : 0 ≤ Q ∧ Q ≤ 6 * 7000070 := by
        rw [hQ]
        exact ⟨Int.mul_nonneg (by omega) hpr.1, Int.mul_le_mul (show (j : Int) - 1 ≤ 6 by omega) (show P ≤ 7000070 by omega) hpr.1 (by omega)⟩
      have hQ' : ((j : Int) - 1) * P = Q := hQ.symm
      rw [← hE] at ho
      rw [← hP]
      have HE := Lib.hid hE
      have HP := Lib.hid hP
      have HQ := Lib.hid hQ
      have HO := Lib.hid ho
      have HB := hb
      have HEL : Hid (E.length = j) := by show _ = _; rw [hE]; exact hlen
      have HER : Hid (∀ q, q < E.length → 0 ≤ nth E q ∧ nth E q < N) := by show ∀ q, _; rw [hE]; exact remsW_range hN1
      have HKL : Hid (BK wr gb 46 [.int .i64 0, .slice none 0 0, .int .i64 0]) := KB2.out.below hb.out (Nat.lt_succ_self _)
      obtain ⟨ws, hws⟩ : ∃ ws, ws = wr := ⟨_, rfl⟩
      subst hws
      clear ho hb hE hP hQ hxr
      go_wp2
      go_loopw [11, 12, 13] (fun od i _ wr => ∃ p : Nat, p ≤ j ∧ i = .int .i64 (p : Int) ∧ od = .int .i64 (invR E j p) ∧ Quiet ws wr ∧ Hid (∀ p', p' < p → ∀ q, p' < q → q < j → nth E p' ≠ nth E q)) (fun _ i _ _ => j - (intOf i).toNat)
      case atStart => exact ⟨0, Nat.zero_le _, rfl, rfl, (by first | exact ⟨_, rfl⟩ | exact ⟨_, (World.drewN_drewN _ _ _).symm⟩ | exact Quiet.refl _ | (simp only [World.drewN_drewN]; exact ⟨_, rfl⟩)), fun p' hp' => by omega⟩
      case round =>
        obtain ⟨p, hp, rfl, rfl, hqq, hdf⟩ := hrel
        by_cases hlt2 : p < j
        · obtain ⟨I, hI⟩ : ∃ I, I = invR E j p := ⟨_, rfl⟩
          have hIr := invR_range E j hK7 p (by omega)
          rw [← hI] at hIr
          rw [← hI]
          have HI := Lib.hid hI
          obtain ⟨wo, hwo⟩ : ∃ wo, wo = wr := ⟨_, rfl⟩
          subst hwo
          clear hI
          go_wp2
          go_loopw [11, 13] (fun od i wr => ∃ q : Nat, q ≤ j - 1 - p ∧ i = .int .i64 ((p + 1 + q : Nat) : Int) ∧ od = .int .i64 (I + cntI E p q) ∧ Quiet ws wr ∧ Hid (∀ q', p < q' → q' < p + 1 + q → nth E p ≠ nth E q')) (fun _ i _ => j - (intOf i).toNat)
          case atStart => exact ⟨0, Nat.zero_le _, by simp, by simp [cntI], hqq, fun q' h1 h2 => by omega⟩
          case round =>
            clear hqq
            obtain ⟨q, hq, rfl, rfl, ⟨qq, rfl⟩, hdq⟩ := hrel
            obtain ⟨J, hJ⟩ : ∃ J, J = cntI E p q := ⟨_, rfl⟩
            have hJr := cntI_range E p q
            rw [← hJ] at hJr
            rw [← hJ]
            have HJ := Lib.hid hJ
            clear hJ
            obtain ⟨t, ht⟩ : ∃ t, t = p + 1 + q := ⟨_, rfl⟩
            rw [← ht]
            have HT := Lib.hid ht
            by_cases hlt3 : t < j
            · have z1 : ws.cell? ⟨g, p, none⟩ = some (.int .i64 (nth E p)) := HO.out.cellAt (by omega)
              have z2 : ws.cell? ⟨g, t, none⟩ = some (.int .i64 (nth E t)) := HO.out.cellAt (by omega)
              obtain ⟨x, hx⟩ : ∃ x, x = nth E p := ⟨_, rfl⟩
              obtain ⟨y, hy⟩ : ∃ y, y = nth E t := ⟨_, rfl⟩
              rw [← hx] at z1
              rw [← hy] at z2
              have hqj : (t : Int) < (j : Int) := by omega
              have hpj : (p : Int) < (j : Int) := by omega
              have HXx := Lib.hid hx
              have HYy := Lib.hid hy
              have hq2 : q + 1 ≤ j - 1 - p := by omega
              have hpt : p < t := by omega
              clear hx hy ht
              rcases hxy : decide (x = y) with _ | _
              · have hne : x ≠ y := of_decide_eq_false hxy
                have hne2 : (x == y) = false := by simpa using hne
                have HNE : Hid (∀ q', p < q' → q' < p + 1 + (q + 1) → nth E p ≠ nth E q') := fun q' h1 h2 => by
                  by_cases h3 : q' = t
                  · subst h3; rw [← HXx.out, ← HYy.out]; exact hne
                  · exact hdq.out q' h1 (by have := HT.out; omega)
                clear hne hxy
                rcases hlt4 : decide (x < y) with _ | _
                · have HC : Hid (cntI E p (q + 1) = J) := by
                    have h := of_decide_eq_false hlt4
                    rw [HXx.out, HYy.out, HT.out] at h
                    show _ = _
                    rw [cntI, if_neg h, ← HJ.out]; omega
                  have hlt4' : ¬ x < y := of_decide_eq_false hlt4
                  go_wp2_with fail
                  go_quiet (fail)
                  go_wp2_with fail
                  go_quiet (fail)
                  go_wp2
                  go_roundw
                  case rel => exact ⟨q + 1, hq2, by rw [HT.out]; go_num, by rw [HC.out], (by first | exact ⟨_, rfl⟩ | exact ⟨_, (World.drewN_drewN _ _ _).symm⟩ | exact Quiet.refl _ | (simp only [World.drewN_drewN]; exact ⟨_, rfl⟩)), HNE.out⟩
                  case measure => simp [intOf]; omega
                · have HC : Hid (cntI E p (q + 1) = J + 1) := by
                    have h := of_decide_eq_true hlt4
                    rw [HXx.out, HYy.out, HT.out] at h
                    show _ = _
                    rw [cntI, if_pos h, ← HJ.out]
                  have hlt4' : x < y := of_decide_eq_true hlt4
                  go_wp2_with fail
                  go_quiet (fail)
                  go_wp2_with fail
                  go_quiet (fail)
                  go_wp2
                  go_roundw
                  case rel => exact ⟨q + 1, hq2, by rw [HT.out]; go_num, by rw [HC.out]; congr 1; omega, (by first | exact ⟨_, rfl⟩ | exact ⟨_, (World.drewN_drewN _ _ _).symm⟩ | exact Quiet.refl _ | (simp only [World.drewN_drewN]; exact ⟨_, rfl⟩)), HNE.out⟩
                  case measure => simp [intOf]; omega
              · have heq : x = y := of_decide_eq_true hxy
                subst heq
                have HD : Hid (diffB E = false) := diffB_no (i := p) (j := t) hpt (by rw [HEL.out]; exact hlt3) (by rw [← HXx.out, ← HYy.out])
                have hne2 : (x == x) = true := by simp
                clear hxy
                have x0 := HKL.out.cell (j := 0) rfl
                have x1 := HKL.out.cell (j := 1) rfl
                have x2 := HKL.out.cell (j := 2) rfl
                have f0 := HKL.out.frozen (j := 0)
                have f1 := HKL.out.frozen (j := 1)
                have f2 := HKL.out.frozen (j := 2)
                go_wp2_with fail
                go_quiet (fail)
                go_wp2_with fail
                clear x0 x1 x2 f0 f1 f2
                have kf : ∀ q, BK ((((ws.drewN q).setCell ⟨gb, 0, none⟩ (.int .i64 0)).setCell ⟨gb, 1, none⟩ (.slice none 0 0)).setCell ⟨gb, 2, none⟩ (.int .i64 0)) gb 46 [.int .i64 0, .slice none 0 0, .int .i64 0] :=
                  fun q => BK.store3 (BK.below HKL.out (Quiet.below (B := gb + 1) ⟨q, rfl⟩) (Nat.lt_succ_self _))
                have bf : ∀ q, Below gb w ((((ws.drewN q).setCell ⟨gb, 0, none⟩ (.int .i64 0)).setCell ⟨gb, 1, none⟩ (.slice none 0 0)).setCell ⟨gb, 2, none⟩ (.int .i64 0)) :=
                  fun q => (((below_drewN (BB2.out.trans (HB.out.mono (Nat.le_succ _))) q).setCell (Nat.le_refl _) _).setCell (Nat.le_refl _) _).setCell (Nat.le_refl _) _
                have c0 := fun q => (kf q).cell (j := 0) rfl
                have c1 := fun q => (kf q).cell (j := 1) rfl
                have c2 := fun q => (kf q).cell (j := 2) rfl
                have HRW : reduceW l j N = (0, [], 0) := by rw [reduceW, if_neg (by rw [← HE.out, HD.out]; simp)]
                rw [HRW]
                refine bodyPost_ret (v := .agg #[.int .i64 0, .slice none 0 0, .int .i64 0]) (by simp [results, Try.results78, go_sem, c0, c1, c2]) rfl ?_
                exact ⟨_, _, _, rfl, OI.nil_ _ _, Nat.le_refl _, by rw [← HGB.out]; exact bf _⟩
            · have hqe : q = j - 1 - p := by omega
              have htj : t = j := by omega
              have HN : Hid (invR E j (p + 1) = I + J) := by show _ = _; rw [invR, ← hqe, ← HI.out, ← HJ.out]
              have HDF : Hid (∀ p', p' < p + 1 → ∀ q, p' < q → q < j → nth E p' ≠ nth E q) := upTo (P := fun p' => ∀ q, p' < q → q < j → nth E p' ≠ nth E q) hdf.out fun q' h1 h2 => hdq.out q' h1 (by omega)
              clear hqe ht
              subst htj
              go_wp2
              go_roundw
              case rel => exact ⟨p + 1, by omega, by go_num, by rw [HN.out], (by first | exact ⟨_, rfl⟩ | exact ⟨_, (World.drewN_drewN _ _ _).symm⟩ | exact Quiet.refl _ | (simp only [World.drewN_drewN]; exact ⟨_, rfl⟩)), HDF.out⟩
              case measure => simp [intOf]; omega
        · obtain rfl : p = j := by omega
          have HD : Hid (diffB E = true) := diffB_yes fun x hx y hy => hdf.out y (by have := HEL.out; omega) x hy (by have := HEL.out; omega)
          have HSRT : Hid ((dscTo E N N).length = p) := by
            have h := sort_desc HD.out HER.out
            show _ = _
            rw [← h, List.length_reverse, sortTo_len, HEL.out]
          obtain ⟨I, hI⟩ : ∃ I, I = invR E p p := ⟨_, rfl⟩
          have hIr := invR_range E p hK7 p (by omega)
          rw [← hI] at hIr
          rw [← hI]
          have HI := Lib.hid hI
          obtain ⟨qq, hqq⟩ := hqq
          have bs : Below (gb + 1) ws wr := Quiet.below ⟨qq, hqq⟩
          have osr : RI wr (some ⟨g, 0, none⟩) p E := (HO.out.below (Quiet.below ⟨qq, hqq⟩)).ri
          have HB7 : Hid (Below (gb + 1) w2 wr) := HB.out.trans bs
          have HOS := Lib.hid osr
          obtain ⟨w7, hw7⟩ : ∃ w7, w7 = wr := ⟨_, rfl⟩
          subst hw7
          have hs2 : gb + 1 ≤ w7.heap.size := by have := HB7.out.size; rw [HS2.out] at this; omega
          have HS7 := Lib.hid hs2
          clear hI hqq bs osr hs2
          go_wp2
          go_loopw [14, 15] (fun u i wr => ∃ (x : Nat), x ≤ N ∧ i = .int .i64 ((N : Int) - 1 - x) ∧ OI wr w7.heap.size u (lssTo (dscTo E N x) p (dscTo E N x).length) ∧ Hid (Below w7.heap.size w7 wr)) (fun _ i _ => (intOf i + 1).toNat)
          case atStart => exact ⟨0, Nat.zero_le _, by simp, OI.lit w7 w7.heap.size [] 0 rfl (Nat.le_refl _) (by simp), (Below.refl _ _).alloc (Nat.le_refl _) _⟩
          case round =>
            obtain ⟨x, hx, rfl, ho, hbx⟩ := hrel
            by_cases hlt5 : x < N
            · obtain ⟨v, hv⟩ : ∃ v, v = (N : Int) - 1 - x := ⟨_, rfl⟩
              have hv0 : 0 ≤ v := by omega
              have hv7 : v ≤ 7 := by omega
              have HV := Lib.hid hv
              have HHas : Hid (∀ W, Below wr.heap.size wr W → Calls Try.prog 118 #[.slice (some ⟨g, 0, none⟩) p ce, .int .i64 v] W (Gives W (.bool (hasB E v)))) := fun W bW => l1Has_any ce v ((HOS.out.below hbx.out).below bW) (by omega)
              have hvx : v - 1 = (N : Int) - 1 - (x + 1 : Nat) := by omega
              have hme : (v - 1 + 1).toNat < (v + 1).toNat := by omega
              obtain ⟨d, hd⟩ : ∃ d, d = dscTo E N x := ⟨_, rfl⟩
              have hdl : d.length ≤ x := by rw [hd]; exact dscTo_len E N x
              rw [← hd] at ho
              have HDd := Lib.hid hd
              rw [← hv]
              have HVX := Lib.hid hvx
              have HME := Lib.hid hme
              clear hv hd hvx hme
              rcases hh : hasB E v with _ | _
              · have HNX : Hid (dscTo E N (x + 1) = d) := by show _ = _; rw [dscTo, ← HV.out, if_neg (by rw [hh]; simp), ← HDd.out]
                rw [hh] at HHas
                have HOO := Lib.hid ho
                clear hh ho
                go_wp2_with (go_at_call 118; (with_reducible refine (HHas.out _ (Below.refl _ _)).mono ?_); rintro e w' ⟨rfl, q0, rfl⟩)
                go_roundw
                case rel => exact ⟨x + 1, by omega, by rw [← HVX.out], by rw [HNX.out]; exact HOO.out.below (Quiet.below ⟨_, rfl⟩), below_drewN hbx.out _⟩
                case measure => simp only [intOf]; exact HME.out
              · have HNX : Hid (dscTo E N (x + 1) = d ++ [v]) := by show _ = _; rw [dscTo, ← HV.out, if_pos hh, ← HDd.out]
                rw [hh] at HHas
                obtain ⟨A6, n6, c6, rfl, r6, _, _⟩ := ho.form
                have hl6 := r6.1
                rw [lssTo, gen_len] at hl6
                obtain ⟨m6, hm6⟩ : ∃ m6, m6 = lssTo d p d.length := ⟨_, rfl⟩
                have HLA : Hid (lssTo (d ++ [v]) p (d ++ [v]).length = m6 ++ [v - ((p : Int) - 1 - n6)]) := by
                  show _ = _
                  rw [List.length_append, List.length_singleton, lssTo_add, ← hm6, ← hl6]
                have hml : m6.length = n6 := by rw [hm6, lssTo, gen_len, hl6]
                rw [← hm6] at ho
                have HOO := Lib.hid ho
                have hn6 : n6 ≤ x := by omega
                have hsz := hbx.out.size
                have hs7 : gb + 1 ≤ wr.heap.size := Nat.le_trans HS7.out hsz
                clear hh ho r6 hm6 hl6
                go_wp2_with (first
                  | (go_at_call 118; (with_reducible refine (HHas.out _ (Below.refl _ _)).mono ?_); rintro e w' ⟨rfl, q0, rfl⟩)
                  | (at_builtin; refine wpAppI rfl _ _ rfl w7.heap.size _ m6 [v - ((p : Int) - 1 - n6)] (some ⟨wr.heap.size, 0, none⟩) 1 1 rfl rfl (by exact HOO.out.alloc _) (by exact RI.one wr _) (by rw [hml]; simp; omega) (by simp; omega) ?_; intro v' w' h1 h2 h3))
                have HF : Hid (OI w' w7.heap.size v' (lssTo (dscTo E N (x + 1)) p (dscTo E N (x + 1)).length) ∧ Below w7.heap.size w7 w') := by
                  refine ⟨by rw [HNX.out, HLA.out]; exact h1, (below_drewN (hbx.out.alloc hsz _) _).grown h2 (by simp; omega) (fun k hk => (HOO.out.lt k hk).1)⟩
                clear h1 h2 h3
                go_roundw
                case rel => exact ⟨x + 1, by omega, by rw [← HVX.out], HF.out.1, HF.out.2⟩
                case measure => simp only [intOf]; exact HME.out
            · obtain rfl : x = N := by omega
              obtain ⟨A6, n6, c6, rfl, r6, hc6, hc63, _⟩ := ho.form
              have hl6 := r6.1
              rw [HSRT.out, lssTo, gen_len] at hl6
              subst hl6
              have HM : Hid (lssTo (dscTo E x x) p (dscTo E x x).length = rowsW l p x) := by
                show _ = _
                rw [HSRT.out, rowsW, ← HE.out]
              rw [HM.out] at r6
              have HR6 := Lib.hid r6
              have HB9 : Hid (Below (gb + 1) w2 wr) := HB7.out.trans (hbx.out.mono HS7.out)
              have HBX : Hid (Below gb w wr) := BB2.out.trans (HB9.out.mono (Nat.le_succ _))
              have hs9 : gb + 1 ≤ wr.heap.size := Nat.le_trans HS7.out hbx.out.size
              have HS9 := Lib.hid hs9
              have HINV := Lib.hid (inv_same E p)
              have hp2 : p ≤ 1000000000 := by omega
              clear ho r6 hbx hs9
              have hm2 := Int.emod_two_eq (Q + I)
              have HSW : Hid (signW l p x = if (Q + I) % 2 = 1 then -1 else 1) := by
                show _ = _
                unfold signW
                rw [← HE.out, ← HP.out, HINV.out, ← HQ.out, ← HI.out]
              obtain ⟨sg, hsg⟩ : ∃ sg, sg = signW l p x := ⟨_, rfl⟩
              rcases hm2 with hm2 | hm2
              all_goals
                have hsv := hsg
                rw [HSW.out, hm2] at hsv
                simp at hsv
                have hm3 : ((Q + I) % 2 == 1) = decide ((Q + I) % 2 = 1) := by rw [hm2]; rfl
                rw [hm2] at hm3
                have HSG := Lib.hid hsg
                clear hsg
                subst hsv
                go_wp2_with fail
                refine (l4Bare_any _ HR6.out hp2 hc6).mono ?_
                rintro e w8 ⟨A8, n8, c8, rfl, o8, r8, ⟨cp8, le8⟩, b8⟩
                have hKB : Hid (BK w8 gb 46 [.int .i64 0, .slice none 0 0, .int .i64 0]) := BK.below (KB2.out.below HB9.out (Nat.lt_succ_self _)) b8 (by have := HS9.out; omega)
                have x0 := hKB.out.cell (j := 0) rfl
                have x1 := hKB.out.cell (j := 1) rfl
                have x2 := hKB.out.cell (j := 2) rfl
                have f0 := hKB.out.frozen (j := 0)
                have f1 := hKB.out.frozen (j := 1)
                have f2 := hKB.out.frozen (j := 2)
                have O8 := Lib.hid (o8.mono HS9.out)
                have HB8 : Hid (Below gb w w8) := HBX.out.trans (b8.mono (Nat.le_trans (Nat.le_succ _) HS9.out))
                clear o8 r8 b8
                go_wp2_with fail
                clear x0 x1 x2 f0 f1 f2
                have HRW : reduceW l p x = (P, bare (rowsW l p x), signW l p x) := by
                  rw [reduceW, if_pos (by rw [← HE.out]; exact HD.out), ← HP.out]
                rw [HRW, ← HSG.out]
                have kf := BK.store3 (a := .int .i64 P) (b := .slice A8 n8 c8) (c := .int .i64 (signW l p x)) hKB.out
                rw [← HSG.out] at kf
                have c0 := kf.cell (j := 0) rfl
                have c1 := kf.cell (j := 1) rfl
                have c2 := kf.cell (j := 2) rfl
                refine bodyPost_ret (v := .agg #[.int .i64 P, .slice A8 n8 c8, .int .i64 _]) (by simp [results, Try.results78, go_sem, c0, c1, c2]; rfl) rfl ?_
                exact ⟨_, _, _, rfl, (((O8.out.far gb 0 _ (Nat.lt_succ_self _)).far gb 1 _ (Nat.lt_succ_self _)).far gb 2 _ (Nat.lt_succ_self _)).mono (by rw [← HGB.out]; exact Nat.le_succ _), cp8, by rw [← HGB.out]; exact (((HB8.out.setCell (Nat.le_refl _) _).setCell (Nat.le_refl _) _).setCell (Nat.le_refl _) _)⟩

theorem signW_ne (l : List Int) (k n : Nat) : (signW l k n != 0) = true := by rcases signW_sign l k n with h | h <;> rw [h] <;> rfl
theorem reduceW_cnt (l : List Int) (k n : Nat) : ((reduceW l k n).2.2 != 0) = diffB (remsW l k n k) := by
  unfold reduceW
  rcases h : diffB (remsW l k n k) with _ | _
  · rfl
  · exact signW_ne l k n
set_option maxRecDepth 100000 in
set_option maxHeartbeats 4000000 in
theorem sWrap_no {A : Option Addr} {n0 : Nat} {l : List Int} {w : World} (c : Nat) (k n : Int) (hx : RI w A n0 l) (hn : n0 ≤ 1000000000) (h : wrapOk l k n = false) :
    Calls Try.prog 31 #[.slice A n0 c, .int .i64 k, .int .i64 n] w (MakesWb w 0 [] 0 false) := by
  have HS : Hid (∀ W, Below w.heap.size w W → Calls Try.prog 76 #[.slice A n0 c] W (Gives W (.bool (isShapeB l)))) := fun W b => sIsShape_any c (hx.below b) hn
  have HZ : Hid (∀ W, Calls Try.prog 77 #[.int .i64 n, .int .i64 1, .int .i64 7] W (Gives W (.bool (inB n 1 7)))) := fun W => l1In_any n 1 7
  have HY : Hid (∀ W, Calls Try.prog 77 #[.int .i64 k, .int .i64 1, .int .i64 n] W (Gives W (.bool (inB k 1 n)))) := fun W => l1In_any k 1 n
  have hl := hx.1
  have hc : isShapeB l = false ∨ (isShapeB l = true ∧ inB n 1 7 = false) ∨ (isShapeB l = true ∧ inB n 1 7 = true ∧ inB k 1 n = false) ∨ (isShapeB l = true ∧ inB n 1 7 = true ∧ inB k 1 n = true ∧ k < n0) := by
    rcases h1 : isShapeB l with _ | _
    · exact .inl rfl
    · rcases h2 : inB n 1 7 with _ | _
      · exact .inr (.inl ⟨rfl, rfl⟩)
      · refine .inr (.inr ?_)
        rcases h3 : inB k 1 n with _ | _
        · exact .inl ⟨rfl, rfl, rfl⟩
        · refine .inr ⟨rfl, rfl, rfl, ?_⟩
          refine Classical.byContradiction fun h5 => ?_
          have h6 : wrapOk l k n = true := wrapOk_iff.2 ⟨h1, inB_iff.1 h2, inB_iff.1 h3, by rw [hl]; omega⟩
          rw [h] at h6
          cases h6
  clear h
  have kf : ∀ q, BK (((((w.alloc (.cells #[.int .i64 0, .slice none 0 0, .int .i64 0] 46)).drewN q).setCell ⟨w.heap.size, 0, none⟩ (.int .i64 0)).setCell ⟨w.heap.size, 1, none⟩ (.slice none 0 0)).setCell ⟨w.heap.size, 2, none⟩ (.int .i64 0)) w.heap.size 46 [.int .i64 0, .slice none 0 0, .int .i64 0] :=
    fun q => BK.store3 (BK.below (BK.new w _ _) (Quiet.below (B := w.heap.size + 1) ⟨q, rfl⟩) (Nat.lt_succ_self _))
  have bf : ∀ q, Below w.heap.size w (((((w.alloc (.cells #[.int .i64 0, .slice none 0 0, .int .i64 0] 46)).drewN q).setCell ⟨w.heap.size, 0, none⟩ (.int .i64 0)).setCell ⟨w.heap.size, 1, none⟩ (.slice none 0 0)).setCell ⟨w.heap.size, 2, none⟩ (.int .i64 0)) :=
    fun q => (((below_drewN ((Below.refl _ _).alloc (Nat.le_refl _) _) q).setCell (Nat.le_refl _) _).setCell (Nat.le_refl _) _).setCell (Nat.le_refl _) _
  have c0 := fun q => (kf q).cell (j := 0) rfl
  have c1 := fun q => (kf q).cell (j := 1) rfl
  have c2 := fun q => (kf q).cell (j := 2) rfl
  have C0 := Lib.hid c0
  have C1 := Lib.hid c1
  have C2 := Lib.hid c2
  clear kf c0 c1 c2
  rcases hc with h1 | ⟨h1, h2⟩ | ⟨h1, h2, h3⟩ | ⟨h1, h2, h3, h4⟩
  all_goals
    first | rw [h1] at HS | skip
    first | rw [h2] at HZ | skip
    first | rw [h3] at HY | skip
    clear hx hl
    go_enter Try.func31, Try.ntmps31
    go_wp2_with (first
      | (go_at_call 76; (with_reducible refine (HS.out _ ?_).mono ?_); (exact (Below.refl _ _).alloc (Nat.le_refl _) _); rintro e w' ⟨rfl, q0, rfl⟩)
      | (go_at_call 77; (with_reducible refine (HZ.out _).mono ?_); rintro e w' ⟨rfl, q1, rfl⟩)
      | (go_at_call 77; (with_reducible refine (HY.out _).mono ?_); rintro e w' ⟨rfl, q2, rfl⟩))
    refine bodyPost_ret (v := .tuple #[.agg #[.int .i64 0, .slice none 0 0, .int .i64 0], .bool false]) (by simp [results, Try.results31, go_sem, C0.out, C1.out, C2.out]) rfl ?_
    exact ⟨_, _, _, rfl, OI.nil_ _ _, Nat.le_refl _, bf _⟩
set_option maxRecDepth 100000 in
set_option maxHeartbeats 4000000 in
theorem sWrap_yes {A : Option Addr} {n0 : Nat} {l : List Int} {w : World} (c K N : Nat) (hx : RI w A n0 l) (hn : n0 ≤ 1000000000) (h : wrapOk l K N = true) :
    Calls Try.prog 31 #[.slice A n0 c, .int .i64 (K : Int), .int .i64 (N : Int)] w (MakesWb w (reduceW l K N).1 (reduceW l K N).2.1 (reduceW l K N).2.2 (diffB (remsW l K N K))) := by
  obtain ⟨h1, ⟨h2, h3⟩, ⟨h4, h5⟩, h6⟩ := wrapOk_iff.1 h
  have HS : Hid (∀ W, Below w.heap.size w W → Calls Try.prog 76 #[.slice A n0 c] W (Gives W (.bool true))) := fun W b => by have := sIsShape_any c (hx.below b) hn; rw [h1] at this; exact this
  have HZ : Hid (∀ W, Calls Try.prog 77 #[.int .i64 (N : Int), .int .i64 1, .int .i64 7] W (Gives W (.bool true))) := fun W => by have := l1In_any (w := W) N 1 7; rw [inB_yes h2 h3] at this; exact this
  have HY : Hid (∀ W, Calls Try.prog 77 #[.int .i64 (K : Int), .int .i64 1, .int .i64 (N : Int)] W (Gives W (.bool true))) := fun W => by have := l1In_any (w := W) K 1 N; rw [inB_yes h4 h5] at this; exact this
  rw [hx.1] at h6
  have HC := Lib.hid (reduceW_cnt l K N)
  obtain ⟨rp, hrp⟩ : ∃ rp, rp = (reduceW l K N).1 := ⟨_, rfl⟩
  obtain ⟨rs, hrs⟩ : ∃ rs, rs = (reduceW l K N).2.1 := ⟨_, rfl⟩
  obtain ⟨rc, hrc⟩ : ∃ rc, rc = (reduceW l K N).2.2 := ⟨_, rfl⟩
  obtain ⟨rd, hrd⟩ : ∃ rd, rd = diffB (remsW l K N K) := ⟨_, rfl⟩
  have HRD : Hid (∀ W, Below w.heap.size w W → Calls Try.prog 78 #[.slice A n0 c, .int .i64 (K : Int), .int .i64 (N : Int)] W (MakesW W rp rs rc)) := fun W b => by
    rw [hrp, hrs, hrc]
    exact sReduce_any c K N (hx.below b) hn h1 (by omega) (by omega) (by omega) (by omega)
  rw [← hrp, ← hrs, ← hrc, ← hrd]
  have hcnt : (rc != 0) = rd := by rw [hrc, hrd]; exact HC.out
  clear hrp hrs hrc hrd HC h h1 hx
  have hKn : ¬ K < n0 := by omega
  have hcnt2 : (!decide (rc = 0)) = rd := by rw [← hcnt]; rfl
  go_enter Try.func31, Try.ntmps31
  go_wp2_with (first
      | (go_at_call 76; (with_reducible refine (HS.out _ ?_).mono ?_); (exact (Below.refl _ _).alloc (Nat.le_refl _) _); rintro e w' ⟨rfl, q0, rfl⟩)
      | (go_at_call 77; (with_reducible refine (HZ.out _).mono ?_); rintro e w' ⟨rfl, q1, rfl⟩)
      | (go_at_call 77; (with_reducible refine (HY.out _).mono ?_); rintro e w' ⟨rfl, q2, rfl⟩))
  obtain ⟨gb, hgb⟩ : ∃ gb, gb = w.heap.size := ⟨_, rfl⟩
  have hb1 : Below w.heap.size w ((w.alloc (.cells #[.int .i64 0, .slice none 0 0, .int .i64 0] 46)).drewN (q0 + q1 + q2)) := below_drewN ((Below.refl _ _).alloc (Nat.le_refl _) _) _
  have kb1 : BK ((w.alloc (.cells #[.int .i64 0, .slice none 0 0, .int .i64 0] 46)).drewN (q0 + q1 + q2)) gb 46 [.int .i64 0, .slice none 0 0, .int .i64 0] := by rw [hgb]; exact BK.below (BK.new w _ _) (Quiet.below (B := w.heap.size + 1) ⟨_, rfl⟩) (Nat.lt_succ_self _)
  refine (HRD.out _ hb1).mono ?_
  rintro e w9 ⟨A9, n9, c9, rfl, o9, cp9, b9⟩
  have hs9 : gb + 1 ≤ w9.heap.size := by have := b9.size; simp at this; omega
  have KB9 := Lib.hid (kb1.below b9 (by rw [hgb]; simp))
  have BB9 : Hid (Below w.heap.size w w9) := hb1.trans (b9.mono (by simp))
  have O9 : Hid (OI w9 (gb + 1) (.slice A9 n9 c9) rs) := o9.mono (by rw [hgb]; simp)
  have HGB := Lib.hid hgb
  rw [← hgb]
  clear hb1 kb1 o9 b9 hgb
  go_wp2_with fail
  obtain ⟨gv, hgv⟩ : ∃ gv, gv = w9.heap.size := ⟨_, rfl⟩
  obtain ⟨wv, hwv⟩ : ∃ wv, wv = w9.alloc (.cells #[.int .i64 rp, .slice A9 n9 c9, .int .i64 rc] 46) := ⟨_, rfl⟩
  have kv : BK wv gv 46 [.int .i64 rp, .slice A9 n9 c9, .int .i64 rc] := by rw [hwv, hgv]; exact BK.new w9 _ _
  have kb : BK wv gb 46 [.int .i64 0, .slice none 0 0, .int .i64 0] := by rw [hwv]; exact KB9.out.alloc _
  have hne : gb ≠ gv := by omega
  have v0 := kv.cell (j := 0) rfl
  have v1 := kv.cell (j := 1) rfl
  have v2 := kv.cell (j := 2) rfl
  have x0 := kb.cell (j := 0) rfl
  have x1 := kb.cell (j := 1) rfl
  have x2 := kb.cell (j := 2) rfl
  have f0 := kb.frozen (j := 0)
  have f1 := kb.frozen (j := 1)
  have f2 := kb.frozen (j := 2)
  have KB := Lib.hid kb
  have HF : Hid (Below gb w wv ∧ OI wv (gb + 1) (.slice A9 n9 c9) rs) := by
    rw [hwv]
    exact ⟨(BB9.out.mono (by rw [HGB.out]; exact Nat.le_refl _)).alloc (by omega) _, O9.out.alloc _⟩
  rw [← hgv, ← hwv]
  clear hgv hwv kv kb
  go_region
  all_goals go_wp2
  have kf := BK.store3 (a := .int .i64 rp) (b := .slice A9 n9 c9) (c := .int .i64 rc) KB.out
  have c0 := kf.cell (j := 0) rfl
  have c1 := kf.cell (j := 1) rfl
  have c2 := kf.cell (j := 2) rfl
  refine bodyPost_ret (v := .tuple #[.agg #[.int .i64 rp, .slice A9 n9 c9, .int .i64 rc], .bool rd]) (by simp [results, Try.results31, go_sem, c0, c1, c2]) rfl ?_
  have b := (((HF.out.1.setCell (p := ⟨gb, 0, none⟩) (Nat.le_refl _) (.int .i64 rp)).setCell (p := ⟨gb, 1, none⟩) (Nat.le_refl _) (.slice A9 n9 c9)).setCell (p := ⟨gb, 2, none⟩) (Nat.le_refl _) (.int .i64 rc)).drew
  have o := ((((HF.out.2.far gb 0 (.int .i64 rp) (Nat.lt_succ_self _)).far gb 1 (.slice A9 n9 c9) (Nat.lt_succ_self _)).far gb 2 (.int .i64 rc) (Nat.lt_succ_self _)).below (Below.drew (Below.refl _ _))).mono (base' := gb) (Nat.le_succ _)
  rw [HGB.out] at b o
  exact ⟨_, _, _, rfl, by rw [HGB.out]; exact o, cp9, by rw [HGB.out]; exact b⟩
theorem sWrap_any {A : Option Addr} {n0 : Nat} {l : List Int} {w : World} (c : Nat) (k n : Int) (hx : RI w A n0 l) (hn : n0 ≤ 1000000000) :
    Calls Try.prog 31 #[.slice A n0 c, .int .i64 k, .int .i64 n] w (MakesWb w (wrapB l k n).1.1 (wrapB l k n).1.2.1 (wrapB l k n).1.2.2 (wrapB l k n).2) := by
  rcases h : wrapOk l k n with _ | _
  · rw [wrapB_no h]
    exact sWrap_no c k n hx hn h
  · obtain ⟨h1, h2, h3, h4⟩ := wrapOk_iff.1 h
    obtain ⟨K, rfl⟩ := Int.eq_ofNat_of_zero_le (a := k) (by omega)
    obtain ⟨N, rfl⟩ := Int.eq_ofNat_of_zero_le (a := n) (by omega)
    have h5 : wrapOk l K N = true := h
    rw [wrapB_yes h5]
    exact sWrap_yes c K N hx hn h5
end Go.Proofs.Ytmodpicemlkbjaa
