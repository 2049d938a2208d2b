/- IntersectionNumber of the program, where the arguments are in order. -/
import Derived.Test.YtmodpicemlkbjaaInterS
namespace Go.Proofs.Ytmodpicemlkbjaa
open Go.RowKit

set_option maxRecDepth 100000 in
set_option maxHeartbeats 1000000 in
theorem iInter_main {w : World} {base b : Nat} {v : Value} {ls : List (List Int)} {cells : List Value} {K M : Nat} (ho : OS w base b v ls cells) (hKM : K + M ≤ 7) (h1 : 1 ≤ K + M) (h12 : ls.length ≤ 12) (hin : ∀ s ∈ ls, inBoxB s K ((K : Int) + M) = true) (hlens : ∀ s ∈ ls, s.length ≤ 16) :
    Calls Try.prog 17 #[v, .int .i64 (K : Int), .int .i64 ((K : Int) + M)] w (GivesB w (.int .i64 (cntP (interL K ((K : Int) + M) ls) (dualB [] K ((K : Int) + M))))) := by
  obtain ⟨A0, n0, c0, rfl, hn0, hc0, hc63⟩ := ho.form
  rw [hn0] at h12
  have hbox : boxB K ((K : Int) + M) = true := boxB_iff.2 (by omega)
  have hnil : inBoxB [] K ((K : Int) + M) = true := inBoxB_iff.2 ⟨hbox, by decide, by simp, by simp [nth, List.getD]; omega⟩
  have HBX : Hid (∀ (W : World) (A : Option Addr) (n c : Nat) (l : List Int), RI W A n l → n ≤ 1000000000 → inBoxB l K ((K : Int) + M) = true → Calls Try.prog 49 #[.slice A n c, .int .i64 (K : Int), .int .i64 ((K : Int) + M)] W (Gives W (.bool true))) := fun W A n c l h hn hb => by
    have := iIsInBox_any c K ((K : Int) + M) h hn
    rw [hb] at this
    exact this
  have HB0 : Hid (∀ W, Calls Try.prog 62 #[.int .i64 (K : Int), .int .i64 ((K : Int) + M)] W (Gives W (.bool true))) := fun W => by
    have := isBox_any (w := W) K ((K : Int) + M)
    rw [hbox] at this
    exact this
  have HO := Lib.hid ho
  have HN := Lib.hid hn0
  have HIN := Lib.hid hin
  have HLEN := Lib.hid hlens
  have HNIL := Lib.hid hnil
  clear ho hn0 hin hlens hnil
  go_enter Try.func17, Try.ntmps17
  have hd12 : decide ((12 : Int) < (n0 : Int)) = false := decide_eq_false (by omega)
  go_wp2_with (go_at_call 62; (with_reducible refine (HB0.out _).mono ?_); rintro e w' ⟨rfl, q0, rfl⟩)
  go_loopw [8, 30] (fun _ i wr => ∃ j : Nat, j ≤ n0 ∧ i = .int .i64 (j : Int) ∧ Quiet w wr) (fun _ i _ => n0 - (intOf i).toNat)
  case atStart => exact ⟨0, Nat.zero_le _, rfl, (by first | exact ⟨_, rfl⟩ | exact ⟨_, (World.drewN_drewN _ _ _).symm⟩ | exact Quiet.refl _ | (simp only [World.drewN_drewN]; exact ⟨_, rfl⟩))⟩
  case round =>
    obtain ⟨j, hj, rfl, hqq⟩ := hrel
    have hB : Below w.heap.size w wr := Quiet.below hqq
    by_cases hlt : j < n0
    · obtain ⟨ad, A', n', c', hA, hc, _, ho', hnc⟩ := OS.cell (HO.out.below hB) hlt
      subst hA
      have hmem := nthL_mem (ls := ls) (k := j) (by rw [HN.out]; exact hlt)
      have hbx := HIN.out _ hmem
      have hlx := HLEN.out _ hmem
      rw [ho'.ri.1] at hlx
      have HR := Lib.hid ho'.ri
      clear ho'
      go_wp2_with (go_at_call 49; (with_reducible refine (HBX.out _ _ _ _ _ HR.out (by omega) hbx).mono ?_); rintro e w' ⟨rfl, q1, rfl⟩)
      go_roundw
      case rel => obtain ⟨qq, rfl⟩ := hqq; exact ⟨j + 1, by omega, by go_num, (by first | exact ⟨_, rfl⟩ | exact ⟨_, (World.drewN_drewN _ _ _).symm⟩ | exact Quiet.refl _ | (simp only [World.drewN_drewN]; exact ⟨_, rfl⟩))⟩
      case measure => simp [intOf]; omega
    · obtain rfl : j = n0 := by omega
      have HBJ := Lib.hid hB
      clear hqq hB
      have op0 := OP.one (w := wr) (base := w.heap.size) (b := w.heap.size) (OI.nil_ wr _) HBJ.out.size
      have gp0 : Below w.heap.size w (wr.alloc (.cells #[.slice none 0 0, .int .i64 1] 65)) := HBJ.out.alloc HBJ.out.size _
      go_wp2
      go_loopw [9, 11, 12, 14, 15, 16, 18, 44] (fun u _ _ _ _ _ _ i wr => ∃ (x : Nat) (cs : List Value), x ≤ j ∧ i = .int .i64 (x : Int) ∧ OP wr w.heap.size w.heap.size u (interTo K ((K : Int) + M) ls x) cs ∧ Below w.heap.size w wr) (fun _ _ _ _ _ _ _ i _ => j - (intOf i).toNat)
      case atStart => exact ⟨0, _, Nat.zero_le _, rfl, by rw [interTo_zero]; exact op0, gp0⟩
      case round =>
        clear op0 gp0
        obtain ⟨x, cs, hx, rfl, hop, hb⟩ := hrel
        by_cases hlt2 : x < j
        · have hxl : x < ls.length := by rw [HN.out]; exact hlt2
          have hW := inter_wt K ((K : Int) + M) ls x (by omega)
          have hsix := six_small (i := x + 1) (by omega)
          have hBX := inter_box ls hbox x (by omega)
          obtain ⟨ad, A', n', c', hA, hc, _, ho', hnc⟩ := OS.cell (HO.out.below hb) hlt2
          subst hA
          have hmem := nthL_mem (ls := ls) (k := x) hxl
          obtain ⟨s, hs⟩ : ∃ s, s = nthL ls x := ⟨_, rfl⟩
          rw [← hs] at ho' hmem
          have hsb := HIN.out _ hmem
          obtain ⟨now, hnow⟩ : ∃ now, now = interTo K ((K : Int) + M) ls x := ⟨_, rfl⟩
          rw [← hnow] at hop hW hBX
          have HNOW : Hid (interTo K ((K : Int) + M) ls (x + 1) = stepN K ((K : Int) + M) s now) := by show _ = _; rw [interTo_succ hxl, hs, hnow]
          obtain ⟨A1, m, c1, rfl, hm, _, _⟩ := hop.form
          have HM := Lib.hid hm
          have HOPN := Lib.hid hop
          have HWT := Lib.hid hW
          have HBXN := Lib.hid hBX
          have HB := Lib.hid hb
          have HSO := Lib.hid ho'
          obtain ⟨wo, hwo⟩ : ∃ wo, wo = wr := ⟨_, rfl⟩
          subst hwo
          have hop0 : OP (wo.alloc (.cells #[] 65)) wo.heap.size w.heap.size (.slice (some ⟨wo.heap.size, 0, none⟩) 0 0) [] [] := OP.lit wo _ _ (Nat.le_refl _)
          have hb00 : Below wo.heap.size wo (wo.alloc (.cells #[] 65)) := (Below.refl _ _).alloc (Nat.le_refl _) _
          clear hs hnow hm hop hW hBX hb ho'
          go_wp2
          go_loopw [12, 14, 15, 16, 18, 51] (fun u _ _ _ _ i wr => ∃ (y : Nat) (cs2 : List Value), y ≤ m ∧ i = .int .i64 (y : Int) ∧ OP wr wo.heap.size wo.heap.size u (stepTo K ((K : Int) + M) s now y) cs2 ∧ Below wo.heap.size wo wr) (fun _ _ _ _ _ i _ => m - (intOf i).toNat)
          case atStart => exact ⟨0, [], Nat.zero_le _, rfl, by rw [stepTo_zero]; exact OP.lit wo _ _ (Nat.le_refl _), hb00⟩
          case round =>
            clear hop0 hb00
            obtain ⟨y, cs2, hy, rfl, hop2, hby⟩ := hrel
            by_cases hlt3 : y < m
            · have hyl : y < now.length := by rw [HM.out]; exact hlt3
              obtain ⟨G, cc, hGG, _⟩ := OF.shape (HOPN.out.below hby) (by rw [HM.out]; omega)
              obtain ⟨rfl, e2, e3⟩ := slice_inj hGG
              clear e2 e3 hGG
              obtain ⟨A4, n4, c4, k1, _, k2, k3, k4⟩ := OP.cell (HOPN.out.below hby) (k := y) hyl
              have hpm := HBXN.out _ (nthP_mem hyl)
              have hps := HWT.out.short _ (nthP_mem hyl)
              obtain ⟨p, hp⟩ : ∃ p, p = nthP now y := ⟨_, rfl⟩
              rw [← hp] at k2 k4 hpm hps
              rw [k2.ri.1] at hps
              have HST : Hid (stepTo K ((K : Int) + M) s now (y + 1) = addG p.2 (stepTo K ((K : Int) + M) s now y) (grB p.1 s K ((K : Int) + M))) := by show _ = _; rw [stepTo_succ hyl, hp]
              have hpc := HWT.out.cnt p (by rw [hp]; exact nthP_mem hyl)
              have hlx := HLEN.out _ hmem
              have hso := HSO.out
              rw [hso.ri.1] at hlx
              have HCALL : Hid (∀ X : World, Below wr.heap.size wr X → Calls Try.prog 23 #[.slice A4 n4 c4, .slice A' n' c', .int .i64 (K : Int), .int .i64 ((K : Int) + M)] X (MakesPb X (grB p.1 s K ((K : Int) + M)) (grOk p.1 s K ((K : Int) + M)))) := fun X bX =>
                iGr_any c4 c' _ _ (OI.below k2 bX) (OI.below (OI.below HSO.out hby) bX) (by omega) (by omega)
              have HB2 := Lib.hid hby
              have HOP2 := Lib.hid hop2
              have HK2 := Lib.hid k2
              obtain ⟨gp, hgp⟩ : ∃ gp, gp = wr.heap.size := ⟨_, rfl⟩
              have HGP := Lib.hid hgp
              obtain ⟨W1, hW1⟩ : ∃ W1, W1 = wr.alloc (.cells #[.slice A4 n4 c4, .int .i64 p.2] 65) := ⟨_, rfl⟩
              have HW1 := Lib.hid hW1
              have kbp : BK W1 gp 65 [.slice A4 n4 c4, .int .i64 p.2] := by rw [hW1, hgp]; exact BK.new wr _ _
              have KBP := Lib.hid kbp
              have kp0 := kbp.cell (j := 0) rfl
              clear hp k2 hop2 hW1 kbp
              go_wp2_with fail
              refine (HCALL.out _ ((Below.refl _ _).alloc (Nat.le_refl _) _)).mono ?_
              rw [← HW1.out]
              rintro e w2 ⟨A5, n5, c5, cs5, rfl, o5, r5, ⟨cp5, le5⟩, b5⟩
              have bw1 : Below wr.heap.size wr W1 := by rw [HW1.out]; exact (Below.refl _ _).alloc (Nat.le_refl _) _
              have b5x : Below wr.heap.size wr w2 := bw1.trans (b5.mono bw1.size)
              obtain ⟨LG, hLG⟩ : ∃ LG, LG = grB p.1 s K ((K : Int) + M) := ⟨_, rfl⟩
              have HLG := Lib.hid hLG
              rw [← hLG] at o5 r5
              have HLW : Hid (Wt LG 6) := by show Wt _ _; rw [hLG]; exact grB_wt _ _ _ _
              have HO5 := Lib.hid o5
              have HR5 := Lib.hid r5
              have HB5 := Lib.hid b5x
              obtain ⟨acc, hacc⟩ : ∃ acc, acc = stepTo K ((K : Int) + M) s now y := ⟨_, rfl⟩
              have HACC := Lib.hid hacc
              have HAW : Hid (Wt acc (6 * six x)) := by show Wt _ _; rw [hacc]; exact stepTo_wt HWT.out (by have := six_pos x; omega) y (by omega)
              have hop3 : OP w2 wo.heap.size wo.heap.size u12 acc cs2 := by rw [hacc]; exact HOP2.out.below b5x
              have HOP3 := Lib.hid hop3
              have KBP2 := Lib.hid (KBP.out.below b5 KBP.out.lt)
              obtain ⟨wi, hwi⟩ : ∃ wi, wi = wr := ⟨_, rfl⟩
              subst hwi
              obtain ⟨v0, hv0⟩ : ∃ v0, v0 = u12 := ⟨_, rfl⟩
              subst hv0
              clear hLG o5 r5 b5 b5x hacc bw1
              go_wp2
              go_loopw [12, 18, 66] (fun u _ i wr => ∃ (z : Nat) (cs3 : List Value), z ≤ n5 ∧ i = .int .i64 (z : Int) ∧ OP wr wo.heap.size wo.heap.size u (addG p.2 acc (LG.take z)) cs3 ∧ w2.grownBy wr v0.ownBlock ∧ From w2 v0 u) (fun _ _ i _ => n5 - (intOf i).toNat)
              case atStart => exact ⟨0, cs2, Nat.zero_le _, rfl, hop3, World.grownBy.refl _ _, From.refl _ _⟩
              case round =>
                clear hop3
                obtain ⟨z, cs3, hz, rfl, hop4, hg4, hf4⟩ := hrel
                by_cases hlt4 : z < n5
                · have hzl : z < LG.length := by rw [HR5.out]; exact hlt4
                  have hty := OF.typed' HOP3.out (by decide)
                  have hok5 := OF.kept HO5.out hg4 (OF.apart HOP2.out HO5.out (by rw [HW1.out]; simp)) hty
                  obtain ⟨G2, cc2, hGG2, _⟩ := OF.shape hok5 (by omega)
                  obtain ⟨rfl, e2, e3⟩ := slice_inj hGG2
                  clear e2 e3 hGG2
                  obtain ⟨A6, n6, c6, m1, _, m2, m3, m4⟩ := OP.cell hok5 (k := z) hzl
                  have hgpb : some gp ≠ v0.ownBlock := fun e => by
                    have h5 := (OF.lt HOP2.out gp e.symm).2
                    rw [HGP.out] at h5
                    omega
                  have kbp : BK wr gp 65 [.slice A4 n4 c4, .int .i64 p.2] := (hg4.block gp KBP2.out.lt hgpb).trans KBP2.out
                  have kp1 : wr.cell? ⟨wi.heap.size, 1, none⟩ = some (.int .i64 p.2) := by rw [← HGP.out]; exact kbp.cell (j := 1) rfl
                  have kp2 : ∀ o, (wr.alloc o).cell? ⟨wi.heap.size, 1, none⟩ = some (.int .i64 p.2) := fun o => one_cell ((Below.refl _ _).alloc (Nat.le_refl _) o) kp1
                  obtain ⟨xx, hxx⟩ : ∃ xx, xx = nthP LG z := ⟨_, rfl⟩
                  have hxm : xx ∈ LG := by rw [hxx]; exact nthP_mem hzl
                  rw [← hxx] at m2 m4
                  have hx1 := HLW.out.cnt xx hxm
                  have hx2 := HLW.out.short xx hxm
                  rw [m2.ri.1] at hx2
                  have HM2 := Lib.hid m2
                  have HXX := Lib.hid hxx
                  obtain ⟨Y, hY⟩ : ∃ Y, Y = p.2 * xx.2 := ⟨_, rfl⟩
                  have hY1 : 1 ≤ Y := by rw [hY]; have := Int.mul_le_mul hpc.1 hx1.1 (by omega) (by omega); omega
                  have hY2 : Y ≤ p.2 * 6 := by rw [hY]; exact Int.mul_le_mul_of_nonneg_left hx1.2 (by omega)
                  have hs6 : six (x + 1) = 6 * six x := rfl
                  have hw : IntKind.i64.wrap (p.2 * xx.2) = Y := by rw [← hY]; exact IntWalk.i64_in _ (by omega)
                  obtain ⟨acc2, hacc2⟩ : ∃ acc2, acc2 = addG p.2 acc (LG.take z) := ⟨_, rfl⟩
                  have HA2 : Hid (addG p.2 acc (LG.take (z + 1)) = addP acc2 xx.1 Y) := by show _ = _; rw [addG_succ hzl, ← hxx, ← hacc2, hY]
                  have HW2 : Hid (Wt acc2 (12 * six x)) := by
                    show Wt _ _
                    rw [hacc2]
                    refine (Wt.addG hpc.1 (LG.take z) HAW.out fun t ht => ⟨HLW.out.pos t (List.mem_of_mem_take ht), HLW.out.short t (List.mem_of_mem_take ht)⟩).mono ?_
                    have h1 : total (LG.take z) ≤ 6 := by
                      have h2 := total_split (ps := LG) z
                      have h3 := (total_mem (ps := LG.drop z) fun t ht => HLW.out.pos t (List.mem_of_mem_drop ht)).1
                      have h4 := HLW.out.tot
                      omega
                    have h5 : p.2 * total (LG.take z) ≤ p.2 * 6 := Int.mul_le_mul_of_nonneg_left h1 (by omega)
                    omega
                  rw [← hacc2] at hop4
                  have hsz4 : wo.heap.size ≤ wr.heap.size := Nat.le_trans HB2.out.size (Nat.le_trans HB5.out.size hg4.size)
                  have HSZ4 := Lib.hid hsz4
                  have HSUM : Hid (∀ X : World, Below wr.heap.size wr X → Calls Try.prog 63 #[u12, .slice A6 n6 c6, .int .i64 Y] X (InsP X wo.heap.size wo.heap.size u12 (addP acc2 xx.1 Y))) := fun X bX =>
                    summed_any c6 Y (m2.ri.below bX) (by omega) (hop4.below bX) HW2.out.srt (fun t ht => by have := HW2.out.cnt t ht; omega) (by have := HW2.out.len; omega) ⟨hY1, by omega⟩ (fun k hk => by have := HW2.out.short _ (nthP_mem hk); omega) (Nat.le_trans HSZ4.out bX.size) (Nat.le_trans HSZ4.out bX.size)
                  have HG4 := Lib.hid hg4
                  have HF4 := Lib.hid hf4
                  clear m2 hxx hY kbp hok5 hs6 hop4 hacc2 hg4 hf4 hsz4
                  go_wp2_with fail
                  refine (HSUM.out _ ((Below.refl _ _).alloc (Nat.le_refl _) _)).mono ?_
                  rintro e w4 ⟨v4, cs4, rfl, o4, gr4, f4⟩
                  have HF : Hid (OP w4 wo.heap.size wo.heap.size v4 (addG p.2 acc (LG.take (z + 1))) cs4 ∧ w2.grownBy w4 v0.ownBlock ∧ From w2 v0 v4) := by
                    have hs := HG4.out.size
                    have hs4 := gr4.size
                    simp at hs4
                    refine ⟨by rw [HA2.out]; exact o4, ⟨gr4.os.trans HG4.out.os, gr4.tape.trans HG4.out.tape, gr4.output.trans HG4.out.output, by omega, fun k hk hne => ?_⟩, HF4.out.next (by simp; omega) f4⟩
                    have hne4 : some k ≠ u12.ownBlock := fun e => by
                      rcases HF4.out with h2 | h2
                      · exact hne (e.trans h2)
                      · have := h2 k e.symm; omega
                    exact (gr4.block k (by simp; omega) hne4).trans ((Below.heap_alloc wr _ k (by omega)).trans (HG4.out.block k hk hne))
                  clear o4 gr4 f4
                  go_wp2
                  go_roundw
                  case rel => exact ⟨z + 1, cs4, by omega, by go_num, HF.out⟩
                  case measure => simp [intOf]; omega
                · obtain rfl : z = n5 := by omega
                  have HE : Hid (OP wr wo.heap.size wo.heap.size u12 (stepTo K ((K : Int) + M) s now (y + 1)) cs3) := by
                    show OP _ _ _ _ _ _
                    rw [HST.out, ← HLG.out, ← HACC.out, ← addG_all (l := LG), HR5.out]
                    exact hop4
                  have b02 : Below wo.heap.size wo w2 := HB2.out.trans (HB5.out.mono HB2.out.size)
                  have HBZ : Hid (Below wo.heap.size wo wr) := b02.grown hg4 (by first | exact b02.size | exact Nat.le_refl _) (fun k hk => (OF.lt HOP3.out k hk).1)
                  clear hop4 hg4 hf4 b02
                  go_wp2
                  go_roundw
                  case rel => exact ⟨y + 1, cs3, by omega, by go_num, HE.out, HBZ.out⟩
                  case measure => simp [intOf]; omega
            · obtain rfl : y = m := by omega
              have HE : Hid (OP wr w.heap.size w.heap.size u12 (interTo K ((K : Int) + M) ls (x + 1)) cs2 ∧ Below w.heap.size w wr) := by
                refine ⟨?_, HB.out.trans (hby.mono HB.out.size)⟩
                rw [HNOW.out, ← stepTo_all, HM.out]
                exact hop2.low HB.out.size HB.out.size
              clear hop2 hby
              go_wp2
              go_roundw
              case rel => exact ⟨x + 1, cs2, by omega, by go_num, HE.out⟩
              case measure => simp [intOf]; omega
        · obtain rfl : x = j := by omega
          have hW := inter_wt K ((K : Int) + M) ls x (by rw [HN.out]; exact Nat.le_refl _)
          have hsix := six_small (i := x) (by omega)
          have hfin : interTo K ((K : Int) + M) ls x = interL K ((K : Int) + M) ls := by rw [← interTo_all, HN.out]
          rw [hfin] at hop hW
          have HOPF := Lib.hid hop
          have HWF := Lib.hid hW
          have HBF := Lib.hid hb
          have HDU := Lib.hid (block_dual ⟨h1, hKM⟩)
          clear hop hW hb hfin
          go_wp2_with fail
          refine (block_any K M _ rfl ⟨h1, hKM⟩).mono ?_
          rintro e w5 ⟨A8, n8, c8, rfl, o8, r8, ⟨cp8, le8⟩, b8⟩
          have hn8 : n8 ≤ 1000000 := by rw [← r8.1]; have := block_len K M; omega
          have HCI : Hid (∀ X : World, Below w5.heap.size w5 X → Calls Try.prog 64 #[u9, .slice A8 n8 c8] X (GivesB X (.int .i64 (cntP (interL K ((K : Int) + M) ls) (blockB K M))))) := fun X bX =>
            countOf_any c8 (o8.ri.below bX) hn8 ((HOPF.out.below b8).below bX) (fun k hk => by have := HWF.out.short _ (nthP_mem hk); omega) (by have := HWF.out.len; omega)
          have HB8 := Lib.hid (HBF.out.trans (b8.mono HBF.out.size))
          clear o8 r8 b8
          go_wp2_with fail
          refine (HCI.out _ (Below.refl _ _)).mono ?_
          rintro e w6 ⟨rfl, b6⟩
          have HB9 := Lib.hid (HB8.out.trans (b6.mono HB8.out.size))
          clear b6
          go_wp2
          go_ret
          rw [HDU.out]
          exact ⟨rfl, HB9.out⟩
end Go.Proofs.Ytmodpicemlkbjaa
