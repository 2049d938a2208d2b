/- QuantumPieri of the program. -/
import Derived.Test.YtmodpicemlkbjaaPlain
import Derived.Test.YtmodpicemlkbjaaQAdd
import Derived.Test.YtmodpicemlkbjaaPieri
namespace Go.Proofs.Ytmodpicemlkbjaa
open Go.RowKit

set_option maxRecDepth 100000 in
set_option maxHeartbeats 4000000 in
theorem iQPieri_no {A : Option Addr} {n0 : Nat} {s : List Int} {w : World} (c : Nat) (k n p : Int) (hx : RI w A n0 s) (hn : n0 ≤ 1000000000) (h : qpieOk s k n p = false) :
    Calls Try.prog 40 #[.slice A n0 c, .int .i64 k, .int .i64 n, .int .i64 p] w (MakesUb w [] false) := by
  have HP := Lib.hid (iPieri_any c k n p hx hn)
  have hc : k = 0 ∨ (k ≠ 0 ∧ pieriOk s k n p = false) := by
    by_cases h0 : k = 0
    · exact .inl h0
    · refine .inr ⟨h0, ?_⟩
      simpa [qpieOk, h0] using h
  clear h
  rcases hc with rfl | ⟨h1, h2⟩
  · go_enter Try.func40, Try.ntmps40
    go_wp2_with fail
    refine HP.out.mono ?_
    rintro e w1 ⟨A1, n1, c1, cs1, rfl, o1, l1, -, b1⟩
    go_wp2
    go_ret2
    exact MakesUb.of (OU.nil_ _ _ _) b1
  · rw [h2] at HP
    have hk : (k == 0) = false := by simpa using h1
    go_enter Try.func40, Try.ntmps40
    go_wp2_with fail
    refine HP.out.mono ?_
    rintro e w1 ⟨A1, n1, c1, cs1, rfl, o1, l1, -, b1⟩
    go_wp2
    go_ret2
    exact MakesUb.of (OU.nil_ _ _ _) b1

set_option maxRecDepth 100000 in
set_option maxHeartbeats 4000000 in
theorem iQPieri_yes {A : Option Addr} {n0 : Nat} {s : List Int} {w : World} (c K M : Nat) (p : Int) (hx : RI w A n0 s) (hn : n0 ≤ 1000000000) (h : qpieOk s K ((K : Int) + M) p = true) :
    Calls Try.prog 40 #[.slice A n0 c, .int .i64 (K : Int), .int .i64 ((K : Int) + M), .int .i64 p] w (MakesUb w (decL (qpieL s K M p (shapesIn K M).length)) true) := by
  have hok := h
  simp only [qpieOk, pieriOk, Bool.and_eq_true, decide_eq_true_eq] at h
  obtain ⟨⟨hb, hpb⟩, hk0⟩ := h
  have hpok : pieriOk s K ((K : Int) + M) p = true := by simp only [pieriOk, Bool.and_eq_true]; exact ⟨hb, hpb⟩
  have HP : Hid (Calls Try.prog 24 #[.slice A n0 c, .int .i64 (K : Int), .int .i64 ((K : Int) + M), .int .i64 p] w (MakesPb w (pieriB s K ((K : Int) + M) p) true)) := by
    have := iPieri_any c (K : Int) ((K : Int) + M) p hx hn
    rw [hpok] at this
    exact this
  obtain ⟨hb1, hb2, hb3, hb4⟩ := inBoxB_iff.1 hb
  obtain ⟨⟨b1, b2⟩, b3, b4⟩ := boxB_iff.1 hb1
  obtain ⟨hp1, hp2⟩ := inB_iff.1 hpb
  have hsub : (K : Int) + M - K = M := by omega
  have HS := Lib.hid hb2
  have hss := sumL_shape hb2
  have HSm := Lib.hid (small_shape hb2)
  rw [hx.1] at hb3
  have hKb : (((K : Nat) : Int) == 0) = false := by simp; omega
  have hK0 : ¬ (K : Int) = 0 := by omega
  have hK1 : ¬ K = 0 := by omega
  have hPL : (pieriB s K ((K : Int) + M) p).length ≤ 10000 := by
    rw [pieriB_yes hpok, stripsB_eq]
    have h1 := pieriTo_len (shapesIn K M) s p (K - 1) (shapesIn K M).length
    have h2 := shapesIn_small (r := K) (c := M) (by omega) (by omega)
    omega
  obtain ⟨PL, hPLe⟩ : ∃ PL, PL = pieriB s K ((K : Int) + M) p := ⟨_, rfl⟩
  have HQL : Hid (qpieL s K M p (shapesIn K M).length = PL.map key0 ++ qpTo (shapesIn K M) s (p - ((K : Int) + M)) K (shapesIn K M).length) := by show _ = _; rw [qpieL, ← hPLe]
  rw [← hPLe] at HP hPL
  have HX := Lib.hid hx
  clear hb hpb hb1 hb2 hb4 hpok hok hPLe hx
  go_enter Try.func40, Try.ntmps40
  go_wp2_with fail
  refine HP.out.mono ?_
  rintro e w1 ⟨A1, n1, c1, csP, rfl, oP, lP, -, bP⟩
  rw [lP] at hPL
  have HLP := Lib.hid lP
  have HOP := Lib.hid oP
  have HBP := Lib.hid bP
  have hs1 := bP.size
  clear oP lP bP
  go_wp2
  have oU0 : OU (w1.alloc (.cells #[] 46)) w1.heap.size w.heap.size (.slice (some ⟨w1.heap.size, 0, none⟩) 0 0) (decL ((PL.take 0).map key0)) [] := OU.lit w1 _ _ (Nat.le_refl _)
  go_loopw [12, 14, 36] (fun u _ i wr => ∃ (j : Nat) (cs : List Value), j ≤ n1 ∧ i = .int .i64 (j : Int) ∧ OU wr w1.heap.size w.heap.size u (decL ((PL.take j).map key0)) cs ∧ Below w1.heap.size w1 wr ∧ Hid (∀ u' ∈ cs, u'.ownBlock = none ∨ ∃ i, i < j ∧ csP[i * 2]? = some u')) (fun _ _ i _ => n1 - (intOf i).toNat)
  case atStart => exact ⟨0, [], Nat.zero_le _, rfl, oU0, (Below.refl _ _).alloc (Nat.le_refl _) _, fun u' h => by cases h⟩
  case round =>
    clear oU0
    obtain ⟨j, cs, hj, rfl, ho, hb, hcs⟩ := hrel
    by_cases hlt : j < n1
    · have hoP := HOP.out.below hb
      obtain ⟨G, cc, hG, _⟩ := OF.shape hoP (by rw [HLP.out]; omega)
      obtain ⟨rfl, e2, e3⟩ := slice_inj hG
      clear e2 e3 hG
      obtain ⟨A4, n4, c4, x1, x2, x3, x4, x5⟩ := OP.cell hoP (k := j) (by rw [HLP.out]; exact hlt)
      obtain ⟨y, hy⟩ : ∃ y, y = (nthP PL j).2 := ⟨_, rfl⟩
      rw [← hy] at x5
      have HT : Hid (decL ((PL.take (j + 1)).map key0) = decL ((PL.take j).map key0) ++ [(0, (nthP PL j).1, 1)]) := by
        show _ = _
        rw [nthP_take_succ (by rw [HLP.out]; exact hlt)]; simp [key0, decL, decQ]
      have hlen : (decL ((PL.take j).map key0)).length = j := by rw [decL_len, List.length_map, List.length_take, HLP.out]; omega
      have HAP : Hid (∀ u' ∈ cs, u'.ownBlock = none ∨ u'.ownBlock ≠ Value.ownBlock (.slice A4 n4 c4)) := fun u' hu' => by
        rcases hcs.out u' hu' with h1 | ⟨i, hi, h1⟩
        · exact .inl h1
        · exact hoP.2.2 (i * 2) (j * 2) u' _ (by omega) h1 x2
      have HO := Lib.hid ho
      have HB := Lib.hid hb
      have HX3 := Lib.hid x3
      have hsz := hb.size
      clear hoP ho hb hy
      go_wp2_with (at_builtin; refine wpAppU rfl _ _ rfl w1.heap.size w.heap.size u12 (.slice A4 n4 c4) (decL ((PL.take j).map key0)) cs (nthP PL j).1 0 1 rfl (by first | rfl | (simp [go_sem]; done)) (by exact HO.out.below ((Below.refl _ _).alloc (Nat.le_refl _) _)) (by exact HX3.out.alloc _) (by exact HAP.out) (by omega) (by simp; omega) ?_; intro v5 w5 h1 h2 h3)
      have HF : Hid (OU w5 w1.heap.size w.heap.size v5 (decL ((PL.take (j + 1)).map key0)) (cs ++ [.int .i64 0, .slice A4 n4 c4, .int .i64 1]) ∧ Below w1.heap.size w1 w5) := by
        refine ⟨by rw [HT.out]; exact h1, ((HB.out.alloc hsz _).alloc (by simp; omega) _).grown h2 (by simp; omega) (fun k hk => (OF.lt HO.out k hk).1)⟩
      clear h1 h2 h3
      go_roundw
      case rel =>
        refine ⟨j + 1, _, by omega, by go_num, HF.out.1, HF.out.2, fun u' hu' => ?_⟩
        rw [List.mem_append] at hu'
        rcases hu' with hu' | hu'
        · exact (hcs.out u' hu').imp id fun ⟨i, h1, h2⟩ => ⟨i, by omega, h2⟩
        · simp at hu'
          rcases hu' with rfl | rfl | rfl
          · exact .inl rfl
          · exact .inr ⟨j, by omega, x2⟩
          · exact .inl rfl
      case measure => simp [intOf]; omega
    · obtain rfl : j = n1 := by omega
      have hall : PL.take j = PL := by rw [← HLP.out, List.take_length]
      rw [hall] at ho
      have HU0 := Lib.hid ho
      have hsz := hb.size
      have HB1 := Lib.hid hb
      -- what stands among the shapes so far lies below
      have HLOW : Hid (∀ u' ∈ cs, u'.ownBlock = none ∨ ∀ k, u'.ownBlock = some k → k < wr.heap.size) := fun u' hu' => by
        rcases hcs.out u' hu' with h1 | ⟨i, hi, h1⟩
        · exact .inl h1
        · refine .inr fun k hk => ?_
          have := FRs.in_ (OF.below HOP.out hb).2.1 u' (List.mem_of_getElem? h1) k hk
          omega
      obtain ⟨w2, hw2⟩ : ∃ w2, w2 = wr := ⟨_, rfl⟩
      subst hw2
      obtain ⟨u0, hu0⟩ : ∃ u0, u0 = u12 := ⟨_, rfl⟩
      subst hu0
      clear ho hb hcs hall
      go_wp2_with fail
      refine (shapesIn_any K M _ _ _ rfl rfl (by omega) (by omega)).mono ?_
      rintro e w3 ⟨AL, nL, cL, csL, rfl, osL, hL1, ⟨hL2, hL3⟩, bL⟩
      have hL4 : nL ≤ 10000 := by rw [← hL1]; exact shapesIn_small (by omega) (by omega)
      have HL1 := Lib.hid hL1
      have hap := OF.apart HU0.out osL (Nat.le_refl _)
      have hos1 := OF.below HU0.out bL
      have hty := OF.typed' hos1 (by decide)
      have HAPT := Lib.hid hap
      have HTY := Lib.hid hty
      have HOSL := Lib.hid osL
      have HBL := Lib.hid bL
      have HOS1 := Lib.hid hos1
      obtain ⟨d, hd⟩ : ∃ d, d = p - ((K : Int) + M) := ⟨_, rfl⟩
      have hpl := hPL
      clear hL1 hap hty osL bL hos1
      go_wp2
      go_loopw [12, 16, 17, 18, 53] (fun u _ _ _ i wr => ∃ (j2 : Nat) (cs2 : List Value), j2 ≤ nL ∧ i = .int .i64 (j2 : Int) ∧ OU wr w1.heap.size w.heap.size u (decL (PL.map key0 ++ qpTo (shapesIn K M) s d K j2)) cs2 ∧ Hid (Below w1.heap.size w1 wr) ∧ Hid (w3.grownBy wr u0.ownBlock) ∧ Hid (From w3 u0 u) ∧ Hid (∀ u' ∈ cs2, u'.ownBlock = none ∨ (∀ k, u'.ownBlock = some k → k < w2.heap.size) ∨ ∃ i, i < j2 ∧ csL[i]? = some u')) (fun _ _ _ _ i _ => nL - (intOf i).toNat)
      case atStart => exact ⟨0, cs, Nat.zero_le _, rfl, by rw [show PL.map key0 ++ qpTo (shapesIn K M) s d K 0 = PL.map key0 from List.append_nil _]; exact HOS1.out, HB1.out.trans (HBL.out.mono hsz), World.grownBy.refl _ _, From.refl _ _, fun u' h => (HLOW.out u' h).imp id .inl⟩
      case round =>
        obtain ⟨j2, cs2, hj2, rfl, ho2, hb2, hg2, hf2, hc2⟩ := hrel
        by_cases hlt : j2 < nL
        · obtain ⟨wo, hwo⟩ : ∃ wo : World, wo = wr := ⟨_, rfl⟩
          subst hwo
          have osL2 := OF.kept HOSL.out hg2.out HAPT.out HTY.out
          obtain ⟨ad, A', n', c', hA, hcell, hcs2, hoi, hcc⟩ := OS.cell osL2 hlt
          subst hA
          have hmem := nthL_mem (ls := shapesIn K M) (k := j2) (by rw [HL1.out]; exact hlt)
          have hshape := (box_ok (k := K) (m := M) (by omega)).2 _ hmem
          have hn' := (shapesIn_rows hmem).1
          rw [hoi.ri.1] at hn'
          have hsc := sumL_shape hshape
          have hsm := Lib.hid (small_shape hshape)
          obtain ⟨C, hC⟩ : ∃ C, C = nthL (shapesIn K M) j2 := ⟨_, rfl⟩
          have HC := Lib.hid hC
          rw [← hC] at hoi hsc hsm hshape
          have hri := hoi.ri
          have HSC := Lib.hid hshape
          have hbx : Below w.heap.size w wo := HBP.out.trans (hb2.out.mono hs1)
          have hxr := HX.out.below hbx
          obtain ⟨S1, hS1⟩ : ∃ S1, S1 = sumL C := ⟨_, rfl⟩
          obtain ⟨S2, hS2⟩ : ∃ S2, S2 = sumL s := ⟨_, rfl⟩
          have hss2 := hss
          rw [← hS1] at hsc
          rw [← hS2] at hss2
          have HSUM1 : Hid (∀ W, Quiet wo W → Calls Try.prog 72 #[.slice A' n' c'] W (Gives W (.int .i64 S1))) := fun W qW => by rw [hS1]; exact iSum_any _ (hri.below (Quiet.below qW)) hsm.out (by omega)
          have HSUM2 : Hid (∀ W, Quiet wo W → Calls Try.prog 72 #[.slice A n0 c] W (Gives W (.int .i64 S2))) := fun W qW => by rw [hS2]; exact iSum_any _ (hxr.below (Quiet.below qW)) HSm.out (by omega)
          have HF0 : Hid (fitQTo C s d K 0 = (S1 == S2 - ((K : Int) + M - p))) := by
            show _ = _
            rw [fitQTo_zero, ← hS1, ← hS2, hd]
            rw [Bool.eq_iff_iff]
            simp only [beq_iff_eq]
            omega
          have HOI := Lib.hid hoi
          have HO2 := Lib.hid ho2
          have HCS := Lib.hid hcs2
          have hw0 : wo = wo.drewN 0 := rfl
          clear hmem osL2 hC hS1 hS2 hoi ho2 hcs2 hw0 hshape
          go_wp2_with (first
            | (go_at_call 72; (with_reducible refine (HSUM1.out _ ?_).mono ?_); exact (by first | exact ⟨_, rfl⟩ | exact ⟨_, (World.drewN_drewN _ _ _).symm⟩ | exact Quiet.refl _ | (simp only [World.drewN_drewN]; exact ⟨_, rfl⟩)); rintro e w' ⟨rfl, qs1, rfl⟩)
            | (go_at_call 72; (with_reducible refine (HSUM2.out _ ?_).mono ?_); exact (by first | exact ⟨_, rfl⟩ | exact ⟨_, (World.drewN_drewN _ _ _).symm⟩ | exact Quiet.refl _ | (simp only [World.drewN_drewN]; exact ⟨_, rfl⟩)); rintro e w' ⟨rfl, qs2, rfl⟩))
          go_loopw [17, 18, 67] (fun f _ i wr => ∃ r : Nat, r ≤ K ∧ i = .int .i64 (r : Int) ∧ f = .bool (fitQTo C s d K r) ∧ Quiet wo wr) (fun _ _ i _ => K - (intOf i).toNat)
          case atStart => exact ⟨0, Nat.zero_le _, rfl, by rw [HF0.out], (by first | exact ⟨_, rfl⟩ | exact ⟨_, (World.drewN_drewN _ _ _).symm⟩ | exact Quiet.refl _ | (simp only [World.drewN_drewN]; exact ⟨_, rfl⟩))⟩
          case round =>
            obtain ⟨r, hr, rfl, rfl, hqq⟩ := hrel
            by_cases hlt2 : r < K
            · obtain ⟨x, hx⟩ : ∃ x, x = nth C r := ⟨_, rfl⟩
              obtain ⟨y, hy⟩ : ∃ y, y = nth s r := ⟨_, rfl⟩
              obtain ⟨z, hz⟩ : ∃ z, z = nth s (r + 1) := ⟨_, rfl⟩
              have hxR := shape_range HSC.out r
              have hyR := shape_range HS.out r
              have hzR := shape_range HS.out (r + 1)
              rw [← hx] at hxR
              rw [← hy] at hyR
              rw [← hz] at hzR
              have ht1 : ((r : Int)).toNat = r := by omega
              have ht2 : ((r : Int) + 1).toNat = r + 1 := by omega
              have HRC : Hid (∀ W, Quiet wo W → Calls Try.prog 73 #[.slice A' n' c', .int .i64 (r : Int)] W (Gives W (.int .i64 x))) := fun W qW => by
                have h := rowOf_any c' (r : Int) (hri.below (Quiet.below qW)) (by omega) (by omega)
                rw [ht1, ← hx] at h
                exact h
              have HRS : Hid (∀ W, Quiet wo W → Calls Try.prog 73 #[.slice A n0 c, .int .i64 (r : Int)] W (Gives W (.int .i64 y))) := fun W qW => by
                have h := rowOf_any c (r : Int) (hxr.below (Quiet.below qW)) (by omega) (by omega)
                rw [ht1, ← hy] at h
                exact h
              have HRZ : Hid (∀ W, Quiet wo W → Calls Try.prog 73 #[.slice A n0 c, .int .i64 ((r : Int) + 1)] W (Gives W (.int .i64 z))) := fun W qW => by
                have h := rowOf_any c ((r : Int) + 1) (hxr.below (Quiet.below qW)) (by omega) (by omega)
                rw [ht2, ← hz] at h
                exact h
              have HST : Hid (stepQ C s K r = (decide (x < y) && (decide (r = K - 1) || decide (z - 1 ≤ x)))) := by show _ = _; rw [stepQ, ← hx, ← hy, ← hz]
              have HSU := Lib.hid (fitQTo_succ C s d K r)
              clear ht1 ht2 hx hy hz
              obtain ⟨qq, rfl⟩ := hqq
              rcases hf : fitQTo C s d K r with _ | _
              · have HV : Hid (fitQTo C s d K (r + 1) = false) := by show _ = _; rw [HSU.out, hf]; rfl
                clear hf
                go_wp2
                go_roundw
                case rel => exact ⟨r + 1, by omega, by go_num, by rw [HV.out], (by first | exact ⟨_, rfl⟩ | exact ⟨_, (World.drewN_drewN _ _ _).symm⟩ | exact Quiet.refl _ | (simp only [World.drewN_drewN]; exact ⟨_, rfl⟩))⟩
                case measure => simp [intOf]; omega
              · have HFT := Lib.hid hf
                clear hf
                rcases hxy : decide (x < y) with _ | _
                · have HV : Hid (fitQTo C s d K (r + 1) = false) := by show _ = _; rw [HSU.out, HST.out, hxy]; simp
                  go_wp2_with (first
                    | (go_at_call 73; (with_reducible refine (HRC.out _ ?_).mono ?_); exact (by first | exact ⟨_, rfl⟩ | exact ⟨_, (World.drewN_drewN _ _ _).symm⟩ | exact Quiet.refl _ | (simp only [World.drewN_drewN]; exact ⟨_, rfl⟩)); rintro e w' ⟨rfl, qr1, rfl⟩)
                    | (go_at_call 73; (with_reducible refine (HRS.out _ ?_).mono ?_); exact (by first | exact ⟨_, rfl⟩ | exact ⟨_, (World.drewN_drewN _ _ _).symm⟩ | exact Quiet.refl _ | (simp only [World.drewN_drewN]; exact ⟨_, rfl⟩)); rintro e w' ⟨rfl, qr2, rfl⟩))
                  go_roundw
                  case rel => exact ⟨r + 1, by omega, by go_num, by rw [HV.out], (by first | exact ⟨_, rfl⟩ | exact ⟨_, (World.drewN_drewN _ _ _).symm⟩ | exact Quiet.refl _ | (simp only [World.drewN_drewN]; exact ⟨_, rfl⟩))⟩
                  case measure => simp [intOf]; omega
                · by_cases hrk : r = K - 1
                  · have HV : Hid (fitQTo C s d K (r + 1) = true) := by show _ = _; rw [HSU.out, HST.out, HFT.out, hxy]; simp [hrk]
                    have hrk1 : ((r : Int) == (K : Int) - 1) = true := by simp; omega
                    clear hrk
                    go_wp2_with (first
                      | (go_at_call 73; (with_reducible refine (HRC.out _ ?_).mono ?_); exact (by first | exact ⟨_, rfl⟩ | exact ⟨_, (World.drewN_drewN _ _ _).symm⟩ | exact Quiet.refl _ | (simp only [World.drewN_drewN]; exact ⟨_, rfl⟩)); rintro e w' ⟨rfl, qr1, rfl⟩)
                      | (go_at_call 73; (with_reducible refine (HRS.out _ ?_).mono ?_); exact (by first | exact ⟨_, rfl⟩ | exact ⟨_, (World.drewN_drewN _ _ _).symm⟩ | exact Quiet.refl _ | (simp only [World.drewN_drewN]; exact ⟨_, rfl⟩)); rintro e w' ⟨rfl, qr2, rfl⟩))
                    go_roundw
                    case rel => exact ⟨r + 1, by omega, by go_num, by rw [HV.out], (by first | exact ⟨_, rfl⟩ | exact ⟨_, (World.drewN_drewN _ _ _).symm⟩ | exact Quiet.refl _ | (simp only [World.drewN_drewN]; exact ⟨_, rfl⟩))⟩
                    case measure => simp [intOf]; omega
                  · have hrk1 : ((r : Int) == (K : Int) - 1) = false := by simp; omega
                    have HRK := Lib.hid hrk
                    clear hrk
                    rcases hzx : decide (z - 1 ≤ x) with _ | _
                    all_goals
                      have HZX := Lib.hid hzx
                      have HXY := Lib.hid hxy
                      go_wp2_with (first
                        | (go_at_call 73; (with_reducible refine (HRC.out _ ?_).mono ?_); exact (by first | exact ⟨_, rfl⟩ | exact ⟨_, (World.drewN_drewN _ _ _).symm⟩ | exact Quiet.refl _ | (simp only [World.drewN_drewN]; exact ⟨_, rfl⟩)); rintro e w' ⟨rfl, qr1, rfl⟩)
                        | (go_at_call 73; (with_reducible refine (HRS.out _ ?_).mono ?_); exact (by first | exact ⟨_, rfl⟩ | exact ⟨_, (World.drewN_drewN _ _ _).symm⟩ | exact Quiet.refl _ | (simp only [World.drewN_drewN]; exact ⟨_, rfl⟩)); rintro e w' ⟨rfl, qr2, rfl⟩)
                        | (go_at_call 73; (with_reducible refine (HRZ.out _ ?_).mono ?_); exact (by first | exact ⟨_, rfl⟩ | exact ⟨_, (World.drewN_drewN _ _ _).symm⟩ | exact Quiet.refl _ | (simp only [World.drewN_drewN]; exact ⟨_, rfl⟩)); rintro e w' ⟨rfl, qr3, rfl⟩))
                      go_roundw
                      case rel => exact ⟨r + 1, by omega, by go_num, by rw [HSU.out, HST.out, HFT.out, HXY.out, HZX.out]; simp [HRK.out], (by first | exact ⟨_, rfl⟩ | exact ⟨_, (World.drewN_drewN _ _ _).symm⟩ | exact Quiet.refl _ | (simp only [World.drewN_drewN]; exact ⟨_, rfl⟩))⟩
                      case measure => simp [intOf]; omega
            · obtain rfl : r = K := by omega
              obtain ⟨qq, hqw⟩ := hqq
              have hbq : Below wo.heap.size wo wr := Quiet.below ⟨qq, hqw⟩
              have hgq : w3.grownBy wr u0.ownBlock := by rw [← hqw]; exact grown_drewN hg2.out _
              have hb3 : Below w1.heap.size w1 wr := by rw [← hqw]; exact below_drewN hb2.out _
              have ho3 := HO2.out.below hbq
              have hszq : wo.heap.size = wr.heap.size := by rw [← hqw]; simp
              have HGQ := Lib.hid hgq
              have HB3 := Lib.hid hb3
              have HO3 := Lib.hid ho3
              have HOI3 := Lib.hid (HOI.out.below hbq)
              clear hqw hbq hgq hb3 ho3
              rcases hf : fitQTo C s d r r with _ | _
              · have HN : Hid (qpTo (shapesIn r M) s d r (j2 + 1) = qpTo (shapesIn r M) s d r j2) := qpTo_no (by rw [← HC.out]; exact hf)
                clear hf
                go_wp2
                go_roundw
                case rel => exact ⟨j2 + 1, cs2, by omega, by go_num, by rw [HN.out]; exact HO3.out, HB3, HGQ, hf2, fun u' hu' => (hc2.out u' hu').imp id fun h => h.imp id fun ⟨i, h1, h2⟩ => ⟨i, by omega, h2⟩⟩
                case measure => simp [intOf]; omega
              · have HY : Hid (qpTo (shapesIn r M) s d r (j2 + 1) = qpTo (shapesIn r M) s d r j2 ++ [(1 :: C, 1)]) := by rw [HC.out]; exact qpTo_yes (by rw [← HC.out]; exact hf)
                have hql := qpTo_len (shapesIn r M) s d r j2
                have hll : (decL (PL.map key0 ++ qpTo (shapesIn r M) s d r j2)).length + 1 ≤ 1000000000000 := by rw [decL_len, List.length_append, List.length_map, HLP.out]; omega
                have hs3 : w1.heap.size ≤ wr.heap.size := HB3.out.size
                have HAP : Hid (∀ u' ∈ cs2, u'.ownBlock = none ∨ u'.ownBlock ≠ Value.ownBlock (.slice A' n' c')) := fun u' hu' => by
                  rcases hc2.out u' hu' with h1 | h1 | ⟨i, hi, h1⟩
                  · exact .inl h1
                  · rcases hk : u'.ownBlock with _ | k
                    · exact .inl rfl
                    · refine .inr fun e => ?_
                      have h2 := h1 k hk
                      have h3 := (HOI.out.lt k e.symm).1
                      omega
                  · exact HOSL.out.2.2 i j2 u' _ hi h1 HCS.out
                clear hf
                go_wp2_with (at_builtin; refine wpAppU rfl _ _ rfl w1.heap.size w.heap.size u12 (.slice A' n' c') (decL (PL.map key0 ++ qpTo (shapesIn r M) s d r j2)) cs2 C 1 1 rfl rfl (by exact HO3.out) (by exact HOI3.out.mono (by omega)) (by exact HAP.out) (by exact hll) (by exact hs3) ?_; intro v5 w5 h1 h2 h3)
                have HF : Hid (OU w5 w1.heap.size w.heap.size v5 (decL (PL.map key0 ++ qpTo (shapesIn r M) s d r (j2 + 1))) (cs2 ++ [.int .i64 1, .slice A' n' c', .int .i64 1]) ∧ Below w1.heap.size w1 w5 ∧ w3.grownBy w5 u0.ownBlock ∧ From w3 u0 v5) := by
                  refine ⟨?_, (HB3.out.alloc hs3 _).grown h2 (by simp; omega) (fun k hk => (OF.lt HO3.out k hk).1), ?_, hf2.out.app (n := wr.heap.size + 1) (by have := HGQ.out.size; omega) h3⟩
                  · rw [HY.out, ← List.append_assoc, decL_append]; exact h1
                  · exact grown_step (grown_alloc HGQ.out _) h2 (hf2.out.imp id fun h k hk => h k hk)
                clear h1 h2 h3
                go_roundw
                case rel =>
                  refine ⟨j2 + 1, _, by omega, by go_num, HF.out.1, HF.out.2.1, HF.out.2.2.1, HF.out.2.2.2, fun u' hu' => ?_⟩
                  rw [List.mem_append] at hu'
                  rcases hu' with hu' | hu'
                  · exact (hc2.out u' hu').imp id fun h => h.imp id fun ⟨i, h1, h2⟩ => ⟨i, by omega, h2⟩
                  · simp at hu'
                    rcases hu' with rfl | rfl | rfl
                    · exact .inl rfl
                    · exact .inr (.inr ⟨j2, by omega, HCS.out⟩)
                    · exact .inl rfl
                case measure => simp [intOf]; omega
        · obtain rfl : j2 = nL := by omega
          have HE : Hid (OU wr w.heap.size w.heap.size u12 (decL (qpieL s K M p (shapesIn K M).length)) cs2 ∧ Below w.heap.size w wr) := by
            refine ⟨?_, HBP.out.trans (hb2.out.mono hs1)⟩
            rw [HQL.out, ← hd, HL1.out]
            exact OF.mono ho2 hs1 (Nat.le_refl _)
          clear ho2
          go_wp2
          go_ret2
          exact MakesUb.of HE.out.1 HE.out.2

theorem iQPieri_any {A : Option Addr} {n0 : Nat} {s : List Int} {w : World} (c : Nat) (k n p : Int) (hx : RI w A n0 s) (hn : n0 ≤ 1000000000) :
    Calls Try.prog 40 #[.slice A n0 c, .int .i64 k, .int .i64 n, .int .i64 p] w (MakesUb w (decL (qpieB s k n p)) (qpieOk s k n p)) := by
  rcases h : qpieOk s k n p with _ | _
  · rw [qpieB_no h]
    exact iQPieri_no c k n p hx hn h
  · have h0 := h
    simp only [qpieOk, pieriOk, Bool.and_eq_true] at h0
    obtain ⟨⟨b1, b2⟩, b3, b4⟩ := boxB_iff.1 (inBoxB_iff.1 h0.1.1).1
    obtain ⟨K, rfl⟩ := Int.eq_ofNat_of_zero_le b3
    obtain ⟨M, hM⟩ := Int.eq_ofNat_of_zero_le (a := n - K) (by omega)
    obtain rfl : n = (K : Int) + M := by omega
    rw [qpieB_yes h]
    exact iQPieri_yes c K M p hx hn h
end Go.Proofs.Ytmodpicemlkbjaa
