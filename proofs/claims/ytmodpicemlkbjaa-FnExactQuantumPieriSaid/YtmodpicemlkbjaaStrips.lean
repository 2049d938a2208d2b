/- PieriShapes of the reference. -/
import Derived.Test.YtmodpicemlkbjaaPieri
namespace Go.Proofs.Ytmodpicemlkbjaa
open Go.RowKit

theorem pieriTo_smallP {K M : Nat} {s : List Int} {p : Int} {mm j : Nat} (h : K ≤ 7) (hj : j ≤ (shapesIn K M).length) : SmallP (pieriTo (shapesIn K M) s p mm j) := by
  intro k hk
  rw [nthP_lt hk]
  obtain ⟨i, hi, e⟩ := pieriTo_mem (List.getElem_mem hk)
  rw [e]
  have := (shapesIn_rows (nthL_mem (ls := shapesIn K M) (k := i) (by omega))).1
  exact ⟨by simp only; omega, by simp only; omega, by simp only; omega⟩

set_option maxHeartbeats 1600000 in
theorem strips_any {A : Option Addr} {n0 : Nat} {s : List Int} {w : World} (c : Nat) (K M : Nat) (p N : Int) (hx : RI w A n0 s) (hn : n0 ≤ 1000000000) (hN : N = (K : Int) + M) (hKM : K + M ≤ 7) (hs : isShapeB s = true) (hp1 : 0 ≤ p) (hp2 : p ≤ M) :
    Calls Try.prog 84 #[.slice A n0 c, .int .i64 (K : Int), .int .i64 N, .int .i64 p] w (MakesP w (pieriTo (shapesIn K M) s p (K - 1) (shapesIn K M).length)) := by
  subst hN
  have hsub : (K : Int) + M - K = M := by omega
  have HS := Lib.hid hs
  have hss := sumL_shape hs
  have HSm := Lib.hid (small_shape hs)
  have hsl : n0 ≤ 16 := by rw [← hx.1]; unfold isShapeB at hs; rw [Bool.and_eq_true, decide_eq_true_eq] at hs; exact hs.1
  clear hs
  go_enter Try.func84, Try.ntmps84
  go_wp2_with fail
  obtain ⟨u0, hu0⟩ : ∃ u0 : Value, u0 = .slice (some ⟨w.heap.size, 0, none⟩) 0 0 := ⟨_, rfl⟩
  have hos0 : OP (w.alloc (.cells #[] 65)) w.heap.size w.heap.size u0 [] [] := by rw [hu0]; exact OP.lit w _ _ (Nat.le_refl _)
  obtain ⟨w2, hw2⟩ : ∃ w2 : World, w2 = w.alloc (.cells #[] 65) := ⟨_, rfl⟩
  rw [← hw2]
  rw [← hw2] at hos0
  have g2 : Below w.heap.size w w2 := by rw [hw2]; exact (Below.refl _ _).alloc (Nat.le_refl _) _
  have hu2 : w.heap.size < w2.heap.size := by rw [hw2]; simp
  have hsz : w.heap.size + 1 = w2.heap.size := by rw [hw2]; simp
  rw [hsz]
  clear hsz
  obtain ⟨z, hz⟩ : ∃ z, z = w.heap.size := ⟨_, rfl⟩
  have HZ := Lib.hid hz
  rw [← hz] at g2 hu2 hos0 hu0 ⊢
  clear hz
  have hcnt := shapesIn_small (r := K) (c := M) (by omega) (by omega)
  refine (l4Shapes_any K _ 0 0 [] _ _ M (.slice (some ⟨w2.heap.size + 1, 0, none⟩) 0 0) [] [] w2.heap.size w2.heap.size _ rfl rfl ((OI.lit w2 w2.heap.size [] 0 rfl (Nat.le_refl _) (by simp)).alloc _)
    (by simpa [cellsI] using OS.lit (w2.alloc (.cells #[] 3)) w2.heap.size w2.heap.size [] [] (by simp) FRs.nil_ Dist.nil_ (by simp) 0 rfl) (by simp) (by simp; omega) (by simp; omega) (by omega) (by omega) (by simp; omega)).mono ?_
  rintro e w1 ⟨vL, csL, rfl, osL, gL, fL⟩
  have b3' : Below w2.heap.size w2 w1 := (((Below.refl _ _).alloc (Nat.le_refl _) _).alloc (by simp) _).grown gL (by simp; omega) (by simp [Value.ownBlock])
  simp only [List.nil_append, List.map_id'] at osL
  obtain ⟨AL, nL, cL, rfl, hL1, hL2, hL3⟩ := osL.form
  clear hcnt gL fL
  have hL4 : nL ≤ 10000 := by rw [← hL1]; exact shapesIn_small (by omega) (by omega)
  have HL1 := Lib.hid hL1
  have hos1 := OP.below hos0 b3'
  have g1 := bnext g2 b3' (by omega)
  have HU := Lib.hid hu0
  clear hos0 hL1 hu0 b3' g2 hw2
  go_wp2
  go_loopw [9, 11, 12, 13] (fun u i _ _ wr => ∃ (j : Nat) (cs : List Value), j ≤ nL ∧ i = .int .i64 (j : Int) ∧ OP wr z z u (pieriTo (shapesIn K M) s p (K - 1) j) cs ∧ Below z w wr ∧ Below w1.heap.size w1 wr) (fun _ i _ _ _ => nL - (intOf i).toNat)
  case atStart => exact ⟨0, [], Nat.zero_le _, rfl, by rw [← HU.out]; exact hos1, g1, Below.refl _ _⟩
  case round =>
    clear hos1 g1
    obtain ⟨j, cs, hj, rfl, hos, hbl, hb1⟩ := hrel
    by_cases hlt : j < nL
    · obtain ⟨wo, rfl⟩ : ∃ wo : World, wo = wr := ⟨_, rfl⟩
      have osL2 := OS.below osL hb1
      obtain ⟨ad, A', n', c', hA, hcell, hcs2, hoi, hcc⟩ := OS.cell osL2 hlt
      subst hA
      have hmem := nthL_mem (ls := shapesIn K M) (k := j) (by rw [HL1.out]; exact hlt)
      have hshape := (box_ok (k := K) (m := M) (by omega)).2 _ hmem
      have hn' := (shapesIn_rows hmem).1
      rw [hoi.ri.1] at hn'
      have hsc := sumL_shape hshape
      have hsm := Lib.hid (small_shape hshape)
      have hri := hoi.ri
      have hxr := hx.below (by rw [← HZ.out]; exact hbl)
      obtain ⟨C, hC⟩ : ∃ C, C = nthL (shapesIn K M) j := ⟨_, rfl⟩
      have HC := Lib.hid hC
      rw [← hC] at hri hoi hsc hsm
      have HCL := Lib.hid hri.1
      clear hmem hshape osL2 hC
      have HF0 : Hid (fitTo C s p 0 = (within C s && (sumL C == sumL s + p))) := by
        show fitTo C s p 0 = _
        rw [fitTo_zero]; rfl
      have key : ∀ (b : Bool) (h : Hid (fitTo C s p 0 = b)), True := fun _ _ => trivial
      clear key
      rcases hqb : (sumL C == sumL s + p) with _ | _
      · rcases hcb : within C s with _ | _
        all_goals
          have HF1 : Hid (fitTo C s p 0 = false) := by
            show fitTo C s p 0 = false
            rw [HF0.out, hcb, hqb]; rfl
          clear HF0 hcb
          go_wp2_with (go_at_call 87; refine (sSum_any _ (by first | exact hri.drewN _ | exact hxr.drewN _ | exact hri | exact hxr) (by first | exact hsm.out | exact HSm.out) (by omega)).mono ?_; rintro e w' ⟨rfl, q0, rfl⟩)
          clear hqb
          go_loopw [12, 13] (fun f i wr => ∃ q : Nat, (q + 1 ≤ K ∨ q = 0) ∧ i = .int .i64 ((q : Int) + 1) ∧ f = .bool (fitTo C s p q) ∧ Quiet wo wr) (fun _ i _ => (K + 1 - intOf i).toNat)
          case atStart => exact ⟨0, .inr rfl, by simp, by rw [HF1.out], (by first | exact ⟨_, rfl⟩ | exact ⟨_, (World.drewN_drewN _ _ _).symm⟩ | exact Quiet.refl _ | (simp only [World.drewN_drewN]; exact ⟨_, rfl⟩))⟩
          case round =>
            obtain ⟨q, hq, rfl, rfl, ⟨qq, rfl⟩⟩ := hrel
            by_cases hlt2 : q + 1 < K
            · have hw1 : IntKind.i64.wrap ((q : Int) + 1 - 1) = q := by rw [IntWalk.i64_in _ (by omega)]; omega
              have HS1 := Lib.hid (fitTo_succ C s p q)
              have HT1 : Hid (nth C ((q : Int) + 1).toNat = nth C (q + 1)) := by show nth C _ = _; rw [show ((q : Int) + 1).toNat = q + 1 by omega]
              rcases hfq : fitTo C s p q with _ | _
              · have HFQ := Lib.hid hfq
                clear hfq
                go_wp2
                go_roundw
                case rel => exact ⟨q + 1, by omega, by go_num, by rw [HS1.out, HFQ.out]; rfl, (by first | exact ⟨_, rfl⟩ | exact ⟨_, (World.drewN_drewN _ _ _).symm⟩ | exact Quiet.refl _ | (simp only [World.drewN_drewN]; exact ⟨_, rfl⟩))⟩
                case measure => simp [intOf]; omega
              · have HFQ := Lib.hid hfq
                clear hfq
                go_wp2_with fail
                refine (l4At_any _ _ (hri.drewN _) (by omega) (by omega)).mono ?_
                rintro e w' ⟨rfl, q1, rfl⟩
                go_wp2_with fail
                refine (l4At_any _ (q : Int) (hxr.drewN _) (by omega) (by omega)).mono ?_
                rintro e w' ⟨rfl, q2, rfl⟩
                go_wp2
                go_roundw
                case rel => exact ⟨q + 1, by omega, by go_num, by rw [HS1.out, HFQ.out]; first | rfl | (rw [HT1.out]; rfl), (by first | exact ⟨_, rfl⟩ | exact ⟨_, (World.drewN_drewN _ _ _).symm⟩ | exact Quiet.refl _ | (simp only [World.drewN_drewN]; exact ⟨_, rfl⟩))⟩
                case measure => simp [intOf]; omega
            · have hfk : fitTo C s p (K - 1) = fitTo C s p q := by
                rcases Nat.eq_zero_or_pos q with h | h
                · obtain rfl : q = 0 := h
                  rw [show K - 1 = 0 by omega]
                · rw [show K - 1 = q by omega]
              have HE := Lib.hid hfk
              clear hfk
              rcases hfq : fitTo C s p q with _ | _
              · have HFQ : Hid (fitTo (nthL (shapesIn K M) j) s p (K - 1) = false) := by
                  show fitTo _ s p _ = false
                  rw [← HC.out, HE.out, hfq]
                clear hfq
                go_wp2
                go_roundw
                case rel => exact ⟨j + 1, cs, by omega, by go_num, by rw [pieriTo_no HFQ.out]; exact OP.below hos (Quiet.below ⟨_, rfl⟩), below_drewN hbl _, below_drewN hb1 _⟩
                case measure => simp [intOf]; omega
              · have HFQ : Hid (fitTo (nthL (shapesIn K M) j) s p (K - 1) = true) := by
                  show fitTo _ s p _ = true
                  rw [← HC.out, HE.out, hfq]
                have HP := Lib.hid (pieriTo_smallP (M := M) (s := s) (p := p) (mm := K - 1) (show K ≤ 7 by omega) (show j ≤ (shapesIn K M).length by rw [HL1.out]; omega))
                have HAD := Lib.hid (pieri_add (k := K) (m := M) (by omega) (s := s) (p := p) (mm := K - 1) (show j < (shapesIn K M).length by rw [HL1.out]; omega))
                have HQ2 := Lib.hid (OP.below hos (Quiet.below ⟨_, rfl⟩) (w' := wo.drewN qq))
                have hpl := pieriTo_len (shapesIn K M) s p (K - 1) j
                obtain ⟨Ac, nc, cc, rfl, hlc, _⟩ := hos.form
                clear hfq hos hlc
                have hbs : z ≤ wo.heap.size := by rw [HZ.out]; exact hbl.size
                go_wp2_with fail
                refine (l4Add_any _ _ (HQ2.out) (hri.drewN _) (by omega) (by omega) HP.out (by omega) (by omega)).mono ?_
                rintro e w5 ⟨A5, n5, c5, cs5, rfl, o5, l5, ⟨cp5, le5⟩, b5⟩
                rw [HC.out, HAD.out, ← pieriTo_yes HFQ.out] at o5
                go_wp2
                go_roundw
                case rel => exact ⟨j + 1, cs5, by omega, by go_num, o5.mono (by simpa using hbs) (by simpa using hbs), bnext (below_drewN hbl _) b5 (by simpa using hbs), bnext (below_drewN hb1 _) b5 (by simpa using hb1.size)⟩
                case measure => simp [intOf]; omega
      · rcases hcb : within C s with _ | _
        · have HF1 : Hid (fitTo C s p 0 = false) := by
            show fitTo C s p 0 = false
            rw [HF0.out, hcb, hqb]; rfl
          clear HF0
          go_wp2_with (first
            | (go_at_call 121; refine (l4Contains_any _ _ (hri.drewN _) (hxr.drewN _) (by omega) (by omega)).mono ?_; rintro e w' ⟨rfl, q0, rfl⟩)
            | (go_at_call 87; refine (sSum_any _ (by first | exact hri.drewN _ | exact hxr.drewN _ | exact hri | exact hxr) (by first | exact hsm.out | exact HSm.out) (by omega)).mono ?_; rintro e w' ⟨rfl, q0, rfl⟩))
          clear hqb hcb
          go_loopw [12, 13] (fun f i wr => ∃ q : Nat, (q + 1 ≤ K ∨ q = 0) ∧ i = .int .i64 ((q : Int) + 1) ∧ f = .bool (fitTo C s p q) ∧ Quiet wo wr) (fun _ i _ => (K + 1 - intOf i).toNat)
          case atStart => exact ⟨0, .inr rfl, by simp, by rw [HF1.out], (by first | exact ⟨_, rfl⟩ | exact ⟨_, (World.drewN_drewN _ _ _).symm⟩ | exact Quiet.refl _ | (simp only [World.drewN_drewN]; exact ⟨_, rfl⟩))⟩
          case round =>
            obtain ⟨q, hq, rfl, rfl, ⟨qq, rfl⟩⟩ := hrel
            by_cases hlt2 : q + 1 < K
            · have hw1 : IntKind.i64.wrap ((q : Int) + 1 - 1) = q := by rw [IntWalk.i64_in _ (by omega)]; omega
              have HS1 := Lib.hid (fitTo_succ C s p q)
              have HT1 : Hid (nth C ((q : Int) + 1).toNat = nth C (q + 1)) := by show nth C _ = _; rw [show ((q : Int) + 1).toNat = q + 1 by omega]
              rcases hfq : fitTo C s p q with _ | _
              · have HFQ := Lib.hid hfq
                clear hfq
                go_wp2
                go_roundw
                case rel => exact ⟨q + 1, by omega, by go_num, by rw [HS1.out, HFQ.out]; rfl, (by first | exact ⟨_, rfl⟩ | exact ⟨_, (World.drewN_drewN _ _ _).symm⟩ | exact Quiet.refl _ | (simp only [World.drewN_drewN]; exact ⟨_, rfl⟩))⟩
                case measure => simp [intOf]; omega
              · have HFQ := Lib.hid hfq
                clear hfq
                go_wp2_with fail
                refine (l4At_any _ _ (hri.drewN _) (by omega) (by omega)).mono ?_
                rintro e w' ⟨rfl, q1, rfl⟩
                go_wp2_with fail
                refine (l4At_any _ (q : Int) (hxr.drewN _) (by omega) (by omega)).mono ?_
                rintro e w' ⟨rfl, q2, rfl⟩
                go_wp2
                go_roundw
                case rel => exact ⟨q + 1, by omega, by go_num, by rw [HS1.out, HFQ.out]; first | rfl | (rw [HT1.out]; rfl), (by first | exact ⟨_, rfl⟩ | exact ⟨_, (World.drewN_drewN _ _ _).symm⟩ | exact Quiet.refl _ | (simp only [World.drewN_drewN]; exact ⟨_, rfl⟩))⟩
                case measure => simp [intOf]; omega
            · have hfk : fitTo C s p (K - 1) = fitTo C s p q := by
                rcases Nat.eq_zero_or_pos q with h | h
                · obtain rfl : q = 0 := h
                  rw [show K - 1 = 0 by omega]
                · rw [show K - 1 = q by omega]
              have HE := Lib.hid hfk
              clear hfk
              rcases hfq : fitTo C s p q with _ | _
              · have HFQ : Hid (fitTo (nthL (shapesIn K M) j) s p (K - 1) = false) := by
                  show fitTo _ s p _ = false
                  rw [← HC.out, HE.out, hfq]
                clear hfq
                go_wp2
                go_roundw
                case rel => exact ⟨j + 1, cs, by omega, by go_num, by rw [pieriTo_no HFQ.out]; exact OP.below hos (Quiet.below ⟨_, rfl⟩), below_drewN hbl _, below_drewN hb1 _⟩
                case measure => simp [intOf]; omega
              · have HFQ : Hid (fitTo (nthL (shapesIn K M) j) s p (K - 1) = true) := by
                  show fitTo _ s p _ = true
                  rw [← HC.out, HE.out, hfq]
                have HP := Lib.hid (pieriTo_smallP (M := M) (s := s) (p := p) (mm := K - 1) (show K ≤ 7 by omega) (show j ≤ (shapesIn K M).length by rw [HL1.out]; omega))
                have HAD := Lib.hid (pieri_add (k := K) (m := M) (by omega) (s := s) (p := p) (mm := K - 1) (show j < (shapesIn K M).length by rw [HL1.out]; omega))
                have HQ2 := Lib.hid (OP.below hos (Quiet.below ⟨_, rfl⟩) (w' := wo.drewN qq))
                have hpl := pieriTo_len (shapesIn K M) s p (K - 1) j
                obtain ⟨Ac, nc, cc, rfl, hlc, _⟩ := hos.form
                clear hfq hos hlc
                have hbs : z ≤ wo.heap.size := by rw [HZ.out]; exact hbl.size
                go_wp2_with fail
                refine (l4Add_any _ _ (HQ2.out) (hri.drewN _) (by omega) (by omega) HP.out (by omega) (by omega)).mono ?_
                rintro e w5 ⟨A5, n5, c5, cs5, rfl, o5, l5, ⟨cp5, le5⟩, b5⟩
                rw [HC.out, HAD.out, ← pieriTo_yes HFQ.out] at o5
                go_wp2
                go_roundw
                case rel => exact ⟨j + 1, cs5, by omega, by go_num, o5.mono (by simpa using hbs) (by simpa using hbs), bnext (below_drewN hbl _) b5 (by simpa using hbs), bnext (below_drewN hb1 _) b5 (by simpa using hb1.size)⟩
                case measure => simp [intOf]; omega
        · have HF1 : Hid (fitTo C s p 0 = true) := by
            show fitTo C s p 0 = true
            rw [HF0.out, hcb, hqb]; rfl
          clear HF0
          go_wp2_with (first
            | (go_at_call 121; refine (l4Contains_any _ _ (hri.drewN _) (hxr.drewN _) (by omega) (by omega)).mono ?_; rintro e w' ⟨rfl, q0, rfl⟩)
            | (go_at_call 87; refine (sSum_any _ (by first | exact hri.drewN _ | exact hxr.drewN _ | exact hri | exact hxr) (by first | exact hsm.out | exact HSm.out) (by omega)).mono ?_; rintro e w' ⟨rfl, q0, rfl⟩))
          clear hqb hcb
          go_loopw [12, 13] (fun f i wr => ∃ q : Nat, (q + 1 ≤ K ∨ q = 0) ∧ i = .int .i64 ((q : Int) + 1) ∧ f = .bool (fitTo C s p q) ∧ Quiet wo wr) (fun _ i _ => (K + 1 - intOf i).toNat)
          case atStart => exact ⟨0, .inr rfl, by simp, by rw [HF1.out], (by first | exact ⟨_, rfl⟩ | exact ⟨_, (World.drewN_drewN _ _ _).symm⟩ | exact Quiet.refl _ | (simp only [World.drewN_drewN]; exact ⟨_, rfl⟩))⟩
          case round =>
            obtain ⟨q, hq, rfl, rfl, ⟨qq, rfl⟩⟩ := hrel
            by_cases hlt2 : q + 1 < K
            · have hw1 : IntKind.i64.wrap ((q : Int) + 1 - 1) = q := by rw [IntWalk.i64_in _ (by omega)]; omega
              have HS1 := Lib.hid (fitTo_succ C s p q)
              have HT1 : Hid (nth C ((q : Int) + 1).toNat = nth C (q + 1)) := by show nth C _ = _; rw [show ((q : Int) + 1).toNat = q + 1 by omega]
              rcases hfq : fitTo C s p q with _ | _
              · have HFQ := Lib.hid hfq
                clear hfq
                go_wp2
                go_roundw
                case rel => exact ⟨q + 1, by omega, by go_num, by rw [HS1.out, HFQ.out]; rfl, (by first | exact ⟨_, rfl⟩ | exact ⟨_, (World.drewN_drewN _ _ _).symm⟩ | exact Quiet.refl _ | (simp only [World.drewN_drewN]; exact ⟨_, rfl⟩))⟩
                case measure => simp [intOf]; omega
              · have HFQ := Lib.hid hfq
                clear hfq
                go_wp2_with fail
                refine (l4At_any _ _ (hri.drewN _) (by omega) (by omega)).mono ?_
                rintro e w' ⟨rfl, q1, rfl⟩
                go_wp2_with fail
                refine (l4At_any _ (q : Int) (hxr.drewN _) (by omega) (by omega)).mono ?_
                rintro e w' ⟨rfl, q2, rfl⟩
                go_wp2
                go_roundw
                case rel => exact ⟨q + 1, by omega, by go_num, by rw [HS1.out, HFQ.out]; first | rfl | (rw [HT1.out]; rfl), (by first | exact ⟨_, rfl⟩ | exact ⟨_, (World.drewN_drewN _ _ _).symm⟩ | exact Quiet.refl _ | (simp only [World.drewN_drewN]; exact ⟨_, rfl⟩))⟩
                case measure => simp [intOf]; omega
            · have hfk : fitTo C s p (K - 1) = fitTo C s p q := by
                rcases Nat.eq_zero_or_pos q with h | h
                · obtain rfl : q = 0 := h
                  rw [show K - 1 = 0 by omega]
                · rw [show K - 1 = q by omega]
              have HE := Lib.hid hfk
              clear hfk
              rcases hfq : fitTo C s p q with _ | _
              · have HFQ : Hid (fitTo (nthL (shapesIn K M) j) s p (K - 1) = false) := by
                  show fitTo _ s p _ = false
                  rw [← HC.out, HE.out, hfq]
                clear hfq
                go_wp2
                go_roundw
                case rel => exact ⟨j + 1, cs, by omega, by go_num, by rw [pieriTo_no HFQ.out]; exact OP.below hos (Quiet.below ⟨_, rfl⟩), below_drewN hbl _, below_drewN hb1 _⟩
                case measure => simp [intOf]; omega
              · have HFQ : Hid (fitTo (nthL (shapesIn K M) j) s p (K - 1) = true) := by
                  show fitTo _ s p _ = true
                  rw [← HC.out, HE.out, hfq]
                have HP := Lib.hid (pieriTo_smallP (M := M) (s := s) (p := p) (mm := K - 1) (show K ≤ 7 by omega) (show j ≤ (shapesIn K M).length by rw [HL1.out]; omega))
                have HAD := Lib.hid (pieri_add (k := K) (m := M) (by omega) (s := s) (p := p) (mm := K - 1) (show j < (shapesIn K M).length by rw [HL1.out]; omega))
                have HQ2 := Lib.hid (OP.below hos (Quiet.below ⟨_, rfl⟩) (w' := wo.drewN qq))
                have hpl := pieriTo_len (shapesIn K M) s p (K - 1) j
                obtain ⟨Ac, nc, cc, rfl, hlc, _⟩ := hos.form
                clear hfq hos hlc
                have hbs : z ≤ wo.heap.size := by rw [HZ.out]; exact hbl.size
                go_wp2_with fail
                refine (l4Add_any _ _ (HQ2.out) (hri.drewN _) (by omega) (by omega) HP.out (by omega) (by omega)).mono ?_
                rintro e w5 ⟨A5, n5, c5, cs5, rfl, o5, l5, ⟨cp5, le5⟩, b5⟩
                rw [HC.out, HAD.out, ← pieriTo_yes HFQ.out] at o5
                go_wp2
                go_roundw
                case rel => exact ⟨j + 1, cs5, by omega, by go_num, o5.mono (by simpa using hbs) (by simpa using hbs), bnext (below_drewN hbl _) b5 (by simpa using hbs), bnext (below_drewN hb1 _) b5 (by simpa using hb1.size)⟩
                case measure => simp [intOf]; omega
    · obtain rfl : j = nL := by omega
      go_wp2
      go_ret
      rw [HL1.out]
      rw [HZ.out] at hos hbl
      exact MakesP.of hos hbl
theorem pieriB_small {s : List Int} {k n p : Int} : (pieriB s k n p).length ≤ 10000 ∧ ∀ i, i < (pieriB s k n p).length → (nthP (pieriB s k n p) i).1.length ≤ 100000 := by
  rcases Bool.eq_false_or_eq_true (pieriOk s k n p) with h | h
  · have h0 := h
    unfold pieriOk at h0
    rw [Bool.and_eq_true] at h0
    obtain ⟨hb1, _, _, _⟩ := inBoxB_iff.1 h0.1
    obtain ⟨⟨b1, b2⟩, b3, b4⟩ := boxB_iff.1 hb1
    obtain ⟨K, rfl⟩ := Int.eq_ofNat_of_zero_le b3
    obtain ⟨M, hM⟩ := Int.eq_ofNat_of_zero_le (a := n - K) (by omega)
    obtain rfl : n = (K : Int) + M := by omega
    rw [pieriB_yes h, stripsB_eq]
    have h1 := pieriTo_len (shapesIn K M) s p (K - 1) (shapesIn K M).length
    have h2 := shapesIn_small (r := K) (c := M) (by omega) (by omega)
    refine ⟨by omega, fun i hi => ?_⟩
    rw [nthP_lt hi]
    obtain ⟨q, hq, e⟩ := pieriTo_mem (List.getElem_mem hi)
    rw [e]
    have := (shapesIn_rows (nthL_mem (ls := shapesIn K M) (k := q) (by omega))).1
    show (nthL (shapesIn K M) q).length ≤ 100000
    omega
  · rw [pieriB_no h]
    exact ⟨by simp, fun i hi => by simp at hi⟩
end Go.Proofs.Ytmodpicemlkbjaa
