/- IntersectionNumber of the reference and of the program. -/
import Derived.Test.YtmodpicemlkbjaaInterP
import Derived.Test.YtmodpicemlkbjaaCnt
import Derived.Test.YtmodpicemlkbjaaGrW
import Derived.Test.YtmodpicemlkbjaaBlock
namespace Go.Proofs.Ytmodpicemlkbjaa
open Go.RowKit

theorem OP.one {w : World} {base b : Nat} {u : Value} (hu : OI w b u []) (hb : base ≤ w.heap.size) : OP (w.alloc (.cells #[u, .int .i64 1] 65)) base b (.slice (some ⟨w.heap.size, 0, none⟩) 1 1) [([], 1)] [u, .int .i64 1] := by
  have h1 := World.ownsRow_lit (e := 65) (size := 2) (base := base) w #[u, .int .i64 1] 1 hb (by simp only [maxLen]; omega) (by simp)
  refine ⟨by simpa using h1, ⟨rfl, fun j x v hx hv => ?_⟩, fun i j v v' hij hv hv' => ?_⟩
  · match j with
    | 0 => simp [partF] at hx hv; subst hx hv; exact OI.alloc hu _
    | 1 => simp [partF] at hx hv; subst hx hv; rfl
    | j + 2 => simp [partF] at hx
  · match i, j with
    | 0, 1 => simp at hv hv'; subst hv hv'
              rcases h : u.ownBlock with _ | k
              · exact .inl rfl
              · exact .inr (by simp [Value.ownBlock])
    | 1, 0 => omega
    | 0, 0 => omega
    | 1, 1 => omega
    | i + 2, _ => simp at hv
    | 0, j + 2 => simp at hv'
    | 1, j + 2 => simp at hv'
def interOk (ls : List (List Int)) (k n : Int) : Bool := boxB k n && decide (ls.length ≤ 12) && ls.all fun s => inBoxB s k n
def interB (ls : List (List Int)) (k n : Int) : Int := if interOk ls k n then cntP (interL k n ls) (dualB [] k n) else -1
set_option maxRecDepth 100000 in
set_option maxHeartbeats 1000000 in
theorem sInter_main {w : World} {base b : Nat} {v : Value} {ls : List (List Int)} {cells : List Value} {K M : Nat} (ho : OS w base b v ls cells) (hKM : K + M ≤ 7) (h1 : 1 ≤ K + M) (h12 : ls.length ≤ 12) (hin : ∀ s ∈ ls, inBoxB s K ((K : Int) + M) = true) (hlens : ∀ s ∈ ls, s.length ≤ 16) :
    Calls Try.prog 15 #[v, .int .i64 (K : Int), .int .i64 ((K : Int) + M)] w (GivesB w (.int .i64 (cntP (interL K ((K : Int) + M) ls) (dualB [] K ((K : Int) + M))))) := by
  obtain ⟨A0, n0, c0, rfl, hn0, hc0, hc63⟩ := ho.form
  rw [hn0] at h12
  have hbox : boxB K ((K : Int) + M) = true := boxB_iff.2 (by omega)
  have hnil : inBoxB [] K ((K : Int) + M) = true := inBoxB_iff.2 ⟨hbox, by decide, by simp, by simp [nth, List.getD]; omega⟩
  have HBX : Hid (∀ (W : World) (A : Option Addr) (n c : Nat) (l : List Int), RI W A n l → n ≤ 1000000000 → inBoxB l K ((K : Int) + M) = true → Calls Try.prog 57 #[.slice A n c, .int .i64 (K : Int), .int .i64 ((K : Int) + M)] W (Gives W (.bool true))) := fun W A n c l h hn hb => by
    have := l4Box_any c K ((K : Int) + M) h hn
    rw [hb] at this
    exact this
  have HO := Lib.hid ho
  have HN := Lib.hid hn0
  have HIN := Lib.hid hin
  have HLEN := Lib.hid hlens
  have HNIL := Lib.hid hnil
  clear ho hn0 hin hlens hnil
  go_enter Try.func15, Try.ntmps15
  go_wp2_with (go_at_call 57; (with_reducible refine (HBX.out _ _ _ _ [] ?_ (by omega) HNIL.out).mono ?_); (exact (OI.lit w w.heap.size [] 0 rfl (Nat.le_refl _) (by simp)).ri); rintro e w' ⟨rfl, q0, rfl⟩)
  have ou : OI (((w.alloc (.cells #[] 3)).drewN q0).alloc (.cells #[] 3)) w.heap.size (.slice (some ⟨w.heap.size + 1, 0, none⟩) 0 0) [] := by
    have := OI.lit ((w.alloc (.cells #[] 3)).drewN q0) w.heap.size [] 0 rfl (by simp) (by simp)
    simpa [cellsI] using this
  have op0 := OP.one (base := w.heap.size) ou (by simp; omega)
  obtain ⟨W3, hW3⟩ : ∃ W3, W3 = ((((w.alloc (.cells #[] 3)).drewN q0).alloc (.cells #[] 3)).alloc (.cells #[.slice (some ⟨w.heap.size + 1, 0, none⟩) 0 0, .int .i64 1] 65)) := ⟨_, rfl⟩
  have g3 : Below w.heap.size w W3 := by rw [hW3]; exact (((below_drewN ((Below.refl _ _).alloc (Nat.le_refl _) _) q0).alloc (by simp) _).alloc (by simp; omega) _)
  rw [← hW3] at op0
  have hsz3 : (((w.alloc (.cells #[] 3)).drewN q0).alloc (.cells #[] 3)).heap.size = w.heap.size + 1 + 1 := by simp
  rw [hsz3] at op0
  have HW3 := Lib.hid hW3
  have OP0 := Lib.hid op0
  have G3 := Lib.hid g3
  clear ou op0 hW3 hsz3 g3
  rw [← HW3.out]
  go_loopw [8] (fun i wr => ∃ j : Nat, j ≤ n0 ∧ i = .int .i64 (j : Int) ∧ Quiet W3 wr) (fun i _ => n0 - (intOf i).toNat)
  case atStart => exact ⟨0, Nat.zero_le _, rfl, (by first | exact ⟨_, rfl⟩ | exact ⟨_, (World.drewN_drewN _ _ _).symm⟩ | exact Quiet.refl _ | (simp only [World.drewN_drewN]; exact ⟨_, rfl⟩))⟩
  case round =>
    obtain ⟨j, hj, rfl, hqq⟩ := hrel
    have hB : Below W3.heap.size W3 wr := Quiet.below hqq
    by_cases hlt : j < n0
    · obtain ⟨ad, A', n', c', hA, hc, _, ho', hnc⟩ := OS.cell ((HO.out.below G3.out).below hB) hlt
      subst hA
      have hmem := nthL_mem (ls := ls) (k := j) (by rw [HN.out]; exact hlt)
      have hbx := HIN.out _ hmem
      have hlx := HLEN.out _ hmem
      rw [ho'.ri.1] at hlx
      have HR := Lib.hid ho'.ri
      clear ho'
      go_wp2_with (go_at_call 57; (with_reducible refine (HBX.out _ _ _ _ _ HR.out (by omega) hbx).mono ?_); rintro e w' ⟨rfl, q1, rfl⟩)
      go_roundw
      case rel => obtain ⟨qq, rfl⟩ := hqq; exact ⟨j + 1, by omega, by go_num, (by first | exact ⟨_, rfl⟩ | exact ⟨_, (World.drewN_drewN _ _ _).symm⟩ | exact Quiet.refl _ | (simp only [World.drewN_drewN]; exact ⟨_, rfl⟩))⟩
      case measure => simp [intOf]; omega
    · obtain rfl : j = n0 := by omega
      have HBJ := Lib.hid hB
      go_wp2
      go_loopw [7, 9, 10, 11, 12, 13] (fun u i _ _ _ _ wr => ∃ (x : Nat) (cs : List Value), x ≤ j ∧ i = .int .i64 (x : Int) ∧ OP wr w.heap.size w.heap.size u (interTo K ((K : Int) + M) ls x) cs ∧ Below w.heap.size w wr) (fun _ i _ _ _ _ _ => j - (intOf i).toNat)
      case atStart => exact ⟨0, _, Nat.zero_le _, rfl, by rw [interTo_zero]; exact OP0.out.below HBJ.out, G3.out.trans (HBJ.out.mono G3.out.size)⟩
      case round =>
        obtain ⟨x, cs, hx, rfl, hop, hb⟩ := hrel
        by_cases hlt2 : x < j
        · have hxl : x < ls.length := by rw [HN.out]; exact hlt2
          have hW := inter_wt K ((K : Int) + M) ls x (by omega)
          have hsix := six_small (i := x + 1) (by omega)
          have hBX := inter_box ls hbox x (by omega)
          obtain ⟨ad, A', n', c', hA, hc, _, ho', hnc⟩ := OS.cell (HO.out.below hb) hlt2
          subst hA
          have hmem := nthL_mem (ls := ls) (k := x) hxl
          obtain ⟨s, hs⟩ : ∃ s, s = nthL ls x := ⟨_, rfl⟩
          rw [← hs] at ho' hmem
          have hsb := HIN.out _ hmem
          obtain ⟨now, hnow⟩ : ∃ now, now = interTo K ((K : Int) + M) ls x := ⟨_, rfl⟩
          rw [← hnow] at hop hW hBX
          have HNOW : Hid (interTo K ((K : Int) + M) ls (x + 1) = stepN K ((K : Int) + M) s now) := by show _ = _; rw [interTo_succ hxl, hs, hnow]
          obtain ⟨A1, m, c1, rfl, hm, _, _⟩ := hop.form
          have HM := Lib.hid hm
          have HOPN := Lib.hid hop
          have HWT := Lib.hid hW
          have HBXN := Lib.hid hBX
          have HB := Lib.hid hb
          clear hs hnow hm hop hW hBX
          obtain ⟨wo, hwo⟩ : ∃ wo, wo = wr := ⟨_, rfl⟩
          subst hwo
          have hop0 : OP (wo.alloc (.cells #[] 65)) w.heap.size w.heap.size (.slice (some ⟨wo.heap.size, 0, none⟩) 0 0) [] [] := OP.lit wo _ _ HB.out.size
          have hb0 : Below w.heap.size w (wo.alloc (.cells #[] 65)) := HB.out.alloc HB.out.size _
          have hb00 : Below wo.heap.size wo (wo.alloc (.cells #[] 65)) := (Below.refl _ _).alloc (Nat.le_refl _) _
          have HSO := Lib.hid ho'
          have HSC := Lib.hid hc
          clear ho' hc
          go_wp2
          go_loopw [10, 11, 12, 13] (fun u i _ _ wy => ∃ (y : Nat) (cs2 : List Value), y ≤ m ∧ i = .int .i64 (y : Int) ∧ OP wy w.heap.size w.heap.size u (stepTo K ((K : Int) + M) s now y) cs2 ∧ Below wo.heap.size wo wy) (fun _ i _ _ _ => m - (intOf i).toNat)
          case atStart => exact ⟨0, [], Nat.zero_le _, rfl, by rw [stepTo_zero]; exact hop0, hb00⟩
          case round =>
            clear hop0 hb0 hb00
            obtain ⟨y, cs2, hy, rfl, hop2, hby⟩ := hrel
            by_cases hlt3 : y < m
            · have hyl : y < now.length := by rw [HM.out]; exact hlt3
              obtain ⟨G, cc, hGG, _⟩ := OF.shape (HOPN.out.below hby) (by rw [HM.out]; omega)
              obtain ⟨rfl, e2, e3⟩ := slice_inj hGG
              clear e2 e3 hGG
              obtain ⟨A4, n4, c4, k1, _, k2, k3, k4⟩ := OP.cell (HOPN.out.below hby) (k := y) hyl
              have hpm := HBXN.out _ (nthP_mem hyl)
              have hcx := HSC.out
              have hc1 : wr.cell? (ad.add x) = some (.slice A' n' c') := one_cell hby hcx
              obtain ⟨p, hp⟩ : ∃ p, p = nthP now y := ⟨_, rfl⟩
              rw [← hp] at k2 k4 hpm
              have HST : Hid (stepTo K ((K : Int) + M) s now (y + 1) = addG p.2 (stepTo K ((K : Int) + M) s now y) (grB p.1 s K ((K : Int) + M))) := by show _ = _; rw [stepTo_succ hyl, hp]
              have hpc := HWT.out.cnt p (by rw [hp]; exact nthP_mem hyl)
              have HGR : Hid (grB p.1 s K ((K : Int) + M) = fillB p.1 s K M) := grB_yes (by simp [grOk, hpm, hsb])
              have HCALL : Hid (∀ X : World, Below wr.heap.size wr X → Calls Try.prog 58 #[.slice A4 n4 c4, .slice A' n' c', .int .i64 (K : Int), .int .i64 ((K : Int) + M)] X (MakesP X (grB p.1 s K ((K : Int) + M)))) := fun X bX => by
                rw [HGR.out]
                exact l6Gr_any c4 c' (k2.ri.below bX) k3 ((HSO.out.ri.below hby).below bX) (SD.box hpm) (SD.box hsb) hKM
              have K1 := Lib.hid k1
              have K4 := Lib.hid k4
              have HC1 := Lib.hid hc1
              have HB2 := Lib.hid hby
              have HOP2 := Lib.hid hop2
              clear hp k2 hop2
              go_wp2
              go_region_held3 (fun w' => w'.cell? ⟨G, y * 2, none⟩ = some (.slice A4 n4 c4) ∧ w'.cell? (ad.add x) = some (.slice A' n' c')) (first | exact ⟨K1.out, HC1.out⟩ | exact two_cells b5 K1.out HC1.out | exact two_cells b5x K1.out HC1.out) ((go_at_call 58; (with_reducible refine (HCALL.out _ ?_).mono ?_); (first | exact Below.refl _ _ | exact Quiet.below ⟨1, rfl⟩); rintro e w2 ⟨A5, n5, c5, cs5, rfl, o5, r5, ⟨cp5, le5⟩, b5⟩; have b5x : Below wr.heap.size wr w2 := (by first | exact b5 | exact ⟨b5.os, b5.tape, b5.output, b5.size, b5.block⟩)))
              obtain ⟨LG, hLG⟩ : ∃ LG, LG = grB p.1 s K ((K : Int) + M) := ⟨_, rfl⟩
              have HLG := Lib.hid hLG
              rw [← hLG] at o5 r5
              have HLW : Hid (Wt LG 6) := by show Wt _ _; rw [hLG]; exact grB_wt _ _ _ _
              have HO5 := Lib.hid o5
              have HR5 := Lib.hid r5
              have HB5 := Lib.hid b5x
              obtain ⟨acc, hacc⟩ : ∃ acc, acc = stepTo K ((K : Int) + M) s now y := ⟨_, rfl⟩
              have HACC := Lib.hid hacc
              have HAW : Hid (Wt acc (6 * six x)) := by show Wt _ _; rw [hacc]; exact stepTo_wt HWT.out (by have := six_pos x; omega) y (by omega)
              have hop3 : OP w2 w.heap.size w.heap.size u10 acc cs2 := by rw [hacc]; exact HOP2.out.below b5x
              obtain ⟨wi, hwi⟩ : ∃ wi, wi = wr := ⟨_, rfl⟩
              subst hwi
              clear hLG o5 r5 b5 b5x hacc
              go_wp2
              go_loopw [10, 13] (fun u i wr => ∃ (z : Nat) (cs3 : List Value), z ≤ n5 ∧ i = .int .i64 (z : Int) ∧ OP wr w.heap.size w.heap.size u (addG p.2 acc (LG.take z)) cs3 ∧ Below w2.heap.size w2 wr) (fun _ i _ => n5 - (intOf i).toNat)
              case atStart => exact ⟨0, cs2, Nat.zero_le _, rfl, hop3, Below.refl _ _⟩
              case round =>
                clear hop3
                obtain ⟨z, cs3, hz, rfl, hop4, hbz⟩ := hrel
                by_cases hlt4 : z < n5
                · have hzl : z < LG.length := by rw [HR5.out]; exact hlt4
                  have hok5 := HO5.out.below hbz
                  obtain ⟨G2, cc2, hGG2, _⟩ := OF.shape hok5 (by omega)
                  obtain ⟨rfl, e2, e3⟩ := slice_inj hGG2
                  clear e2 e3 hGG2
                  obtain ⟨A6, n6, c6, m1, _, m2, m3, m4⟩ := OP.cell hok5 (k := z) hzl
                  obtain ⟨xx, hxx⟩ : ∃ xx, xx = nthP LG z := ⟨_, rfl⟩
                  have hxm : xx ∈ LG := by rw [hxx]; exact nthP_mem hzl
                  have HXX := Lib.hid hxx
                  rw [← hxx] at m2 m4
                  have hx1 := HLW.out.cnt xx hxm
                  have hx2 := HLW.out.short xx hxm
                  rw [m2.ri.1] at hx2
                  obtain ⟨Y, hY⟩ : ∃ Y, Y = xx.2 * p.2 := ⟨_, rfl⟩
                  have hY1 : 1 ≤ Y := by rw [hY]; have := Int.mul_le_mul hx1.1 hpc.1 (by omega) (by omega); omega
                  have hY2 : Y ≤ 6 * p.2 := by rw [hY]; exact Int.mul_le_mul_of_nonneg_right hx1.2 (by omega)
                  have hs6 : six (x + 1) = 6 * six x := rfl
                  have hw : IntKind.i64.wrap (xx.2 * p.2) = Y := by rw [← hY]; exact IntWalk.i64_in _ (by omega)
                  obtain ⟨acc2, hacc2⟩ : ∃ acc2, acc2 = addG p.2 acc (LG.take z) := ⟨_, rfl⟩
                  have HA2 : Hid (addG p.2 acc (LG.take (z + 1)) = addP acc2 xx.1 Y) := by show _ = _; rw [addG_succ hzl, ← hxx, ← hacc2, hY, Int.mul_comm]
                  have HW2 : Hid (Wt acc2 (12 * six x)) := by
                    show Wt _ _
                    rw [hacc2]
                    refine (Wt.addG hpc.1 (LG.take z) HAW.out fun t ht => ⟨HLW.out.pos t (List.mem_of_mem_take ht), HLW.out.short t (List.mem_of_mem_take ht)⟩).mono ?_
                    have h1 : total (LG.take z) ≤ 6 := by
                      have h2 := total_split (ps := LG) z
                      have h3 := (total_mem (ps := LG.drop z) fun t ht => HLW.out.pos t (List.mem_of_mem_drop ht)).1
                      have h4 := HLW.out.tot
                      omega
                    have h5 : p.2 * total (LG.take z) ≤ p.2 * 6 := Int.mul_le_mul_of_nonneg_left h1 (by omega)
                    omega
                  rw [← hacc2] at hop4
                  have k1' : wr.cell? ⟨G2, z * 2, none⟩ = some (.slice A6 n6 c6) := m1
                  have k2' : wr.cell? ⟨G2, z * 2 + 1, none⟩ = some (.int .i64 xx.2) := m4
                  have k3' : wr.cell? ⟨G, y * 2 + 1, none⟩ = some (.int .i64 p.2) := one_cell hbz (one_cell HB5.out K4.out)
                  have HK1 := Lib.hid k1'
                  have HK2 := Lib.hid k2'
                  have HK3 := Lib.hid k3'
                  have HCADD : Hid (∀ X : World, Below wr.heap.size wr X → Calls Try.prog 59 #[u10, .slice A6 n6 c6, .int .i64 Y] X (MakesP X (addP acc2 xx.1 Y))) := fun X bX =>
                    l4Add_any c6 Y (hop4.below bX) (m2.ri.below bX) (by omega) (by have := HW2.out.len; omega) (fun k hk => ⟨by have := HW2.out.short _ (nthP_mem hk); omega, by have := HW2.out.cnt _ (nthP_mem hk); omega, by have := HW2.out.cnt _ (nthP_mem hk); omega⟩) (by omega) (by omega)
                  have HBZ := Lib.hid hbz
                  clear hop4 hok5 m1 m2 m4 hY hacc2 hxx hbz hxm hs6
                  go_wp2
                  go_region_held3 (fun w' => w'.cell? ⟨G2, z * 2, none⟩ = some (.slice A6 n6 c6) ∧ w'.cell? ⟨G2, z * 2 + 1, none⟩ = some (.int .i64 xx.2) ∧ w'.cell? ⟨G, y * 2 + 1, none⟩ = some (.int .i64 p.2)) (first | exact ⟨HK1.out, HK2.out, HK3.out⟩ | exact ⟨one_cell b6x HK1.out, one_cell b6x HK2.out, one_cell b6x HK3.out⟩) ((go_at_call 59; (with_reducible refine (HCADD.out _ ?_).mono ?_); (first | exact Below.refl _ _ | exact Quiet.below ⟨1, rfl⟩); rintro e w4 ⟨A7, n7, c7, cs7, rfl, o7, r7, ⟨cp7, le7⟩, b6⟩; have b6x : Below wr.heap.size wr w4 := (by first | exact b6 | exact ⟨b6.os, b6.tape, b6.output, b6.size, b6.block⟩)))
                  have HF : Hid (OP w4 w.heap.size w.heap.size (.slice A7 n7 c7) (addG p.2 acc (LG.take (z + 1))) cs7 ∧ Below w2.heap.size w2 w4) := by
                    refine ⟨?_, HBZ.out.trans (b6x.mono HBZ.out.size)⟩
                    rw [HA2.out]
                    have hle : w.heap.size ≤ wr.heap.size := Nat.le_trans HB.out.size (Nat.le_trans HB2.out.size (Nat.le_trans HB5.out.size HBZ.out.size))
                    exact OP.low o7 (by first | exact hle | (simp; exact hle)) (by first | exact hle | (simp; exact hle))
                  clear o7 r7 b6 b6x
                  go_wp2
                  go_roundw
                  case rel => exact ⟨z + 1, cs7, by omega, by go_num, HF.out⟩
                  case measure => simp [intOf]; omega
                · obtain rfl : z = n5 := by omega
                  have HE : Hid (OP wr w.heap.size w.heap.size u10 (stepTo K ((K : Int) + M) s now (y + 1)) cs3) := by
                    show OP _ _ _ _ _ _
                    rw [HST.out, ← HLG.out, ← HACC.out, ← addG_all (l := LG), HR5.out]
                    exact hop4
                  have HBZ : Hid (Below wo.heap.size wo wr) := HB2.out.trans ((HB5.out.mono HB2.out.size).trans (hbz.mono (Nat.le_trans HB2.out.size HB5.out.size)))
                  clear hop4 hbz
                  go_wp2
                  go_roundw
                  case rel => exact ⟨y + 1, cs3, by omega, by go_num, HE.out, HBZ.out⟩
                  case measure => simp [intOf]; omega
            · obtain rfl : y = m := by omega
              have HE : Hid (OP wr w.heap.size w.heap.size u10 (interTo K ((K : Int) + M) ls (x + 1)) cs2 ∧ Below w.heap.size w wr) := by
                refine ⟨?_, HB.out.trans (hby.mono HB.out.size)⟩
                rw [HNOW.out, ← stepTo_all, HM.out]
                exact hop2
              clear hop2 hby
              go_wp2
              go_roundw
              case rel => exact ⟨x + 1, cs2, by omega, by go_num, HE.out⟩
              case measure => simp [intOf]; omega
        · obtain rfl : x = j := by omega
          have hW := inter_wt K ((K : Int) + M) ls x (by rw [HN.out]; exact Nat.le_refl _)
          have hsix := six_small (i := x) (by omega)
          have hfin : interTo K ((K : Int) + M) ls x = interL K ((K : Int) + M) ls := by rw [← interTo_all, HN.out]
          rw [hfin] at hop hW
          have HOPF := Lib.hid hop
          have HWF := Lib.hid hW
          have HBF := Lib.hid hb
          clear hop hW hb hfin
          go_wp2_with fail
          refine (sDual_any _ _ _ ((OI.lit wr wr.heap.size [] 0 rfl (Nat.le_refl _) (by simp)).ri) (by omega)).mono ?_
          rintro e w5 ⟨A8, n8, c8, rfl, o8, r8, ⟨cp8, le8⟩, b8⟩
          have hb8 : Below wr.heap.size wr w5 := ((Below.refl _ _).alloc (Nat.le_refl _) _).trans (b8.mono (by simp))
          have hn8 : n8 ≤ 1000000 := by rw [← r8.1, block_dual ⟨h1, hKM⟩]; have := block_len K M; omega
          have HCI : Hid (∀ X : World, Below w5.heap.size w5 X → Calls Try.prog 60 #[u7, .slice A8 n8 c8] X (Gives X (.int .i64 (cntP (interL K ((K : Int) + M) ls) (dualB [] K ((K : Int) + M)))))) := fun X bX =>
            l4CountIn_any c8 (o8.ri.below bX) hn8 ((HOPF.out.below hb8).below bX) (fun k hk => by have := HWF.out.short _ (nthP_mem hk); omega) (by have := HWF.out.len; omega)
          have HB8 := Lib.hid (HBF.out.trans (hb8.mono HBF.out.size))
          clear o8 r8 b8 hb8
          go_wp2_with fail
          refine (HCI.out _ (Below.refl _ _)).mono ?_
          rintro e w6 ⟨rfl, q6, rfl⟩
          go_wp2
          go_ret
          exact ⟨rfl, below_drewN HB8.out _⟩
end Go.Proofs.Ytmodpicemlkbjaa
