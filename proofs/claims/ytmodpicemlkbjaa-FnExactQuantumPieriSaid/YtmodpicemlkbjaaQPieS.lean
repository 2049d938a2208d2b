/- QuantumPieri of the reference. -/
import Derived.Test.YtmodpicemlkbjaaQPieP
import Derived.Test.YtmodpicemlkbjaaQAdd
import Derived.Test.YtmodpicemlkbjaaStrips
namespace Go.Proofs.Ytmodpicemlkbjaa
open Go.RowKit

theorem smallK_of {ps : List (List Int × Int)} (h : ∀ x ∈ ps, x.1.length ≤ 1000000 ∧ x.2 = 1) : SmallK ps := fun k hk => by
  obtain ⟨h1, h2⟩ := h _ (nthP_mem hk)
  exact ⟨h1, by omega, by omega⟩
theorem key0_small {ps : List (List Int × Int)} (h : ∀ k, k < ps.length → (nthP ps k).1.length ≤ 100000) : ∀ x ∈ ps.map key0, x.1.length ≤ 1000000 ∧ x.2 = 1 := fun x hx => by
  obtain ⟨y, hy, rfl⟩ := List.mem_map.1 hx
  obtain ⟨k, hk, e⟩ := List.getElem_of_mem hy
  have := h k hk
  rw [nthP_lt hk, e] at this
  simp [key0]; omega
theorem qpTo_small {K M : Nat} (hK : K ≤ 7) (s : List Int) (d : Int) {j : Nat} (hj : j ≤ (shapesIn K M).length) : ∀ x ∈ qpTo (shapesIn K M) s d K j, x.1.length ≤ 1000000 ∧ x.2 = 1 := fun x hx => by
  obtain ⟨i, hi, rfl⟩ := qpTo_mem hx
  have := (shapesIn_rows (nthL_mem (ls := shapesIn K M) (k := i) (by omega))).1
  simp; omega

set_option maxRecDepth 100000 in
set_option maxHeartbeats 4000000 in
theorem sQPieri_no {A : Option Addr} {n0 : Nat} {s : List Int} {w : World} (c : Nat) (k n p : Int) (hx : RI w A n0 s) (hn : n0 ≤ 1000000000) (h : qpieOk s k n p = false) :
    Calls Try.prog 39 #[.slice A n0 c, .int .i64 k, .int .i64 n, .int .i64 p] w (MakesUb w [] false) := by
  have HBX : Hid (Calls Try.prog 57 #[.slice A n0 c, .int .i64 k, .int .i64 n] w (Gives w (.bool (inBoxB s k n)))) := l4Box_any c k n hx hn
  rcases hb : inBoxB s k n with _ | _
  · rw [hb] at HBX
    go_enter Try.func39, Try.ntmps39
    go_wp2_with (go_at_call 57; (with_reducible refine HBX.out.mono ?_); rintro e w' ⟨rfl, q0, rfl⟩)
    go_ret2
    exact MakesUb.of (OU.nil_ _ _ _) (Quiet.below ⟨_, rfl⟩)
  · rw [hb] at HBX
    have hbb := boxB_iff.1 (inBoxB_iff.1 hb).1
    obtain ⟨⟨b1, b2⟩, b3, b4⟩ := hbb
    by_cases hk : k = 0
    · subst hk
      go_enter Try.func39, Try.ntmps39
      go_wp2_with (go_at_call 57; (with_reducible refine HBX.out.mono ?_); rintro e w' ⟨rfl, q0, rfl⟩)
      go_ret2
      exact MakesUb.of (OU.nil_ _ _ _) (Quiet.below ⟨_, rfl⟩)
    · have hin : inB p 0 (n - k) = false := by
        simp only [qpieOk, pieriOk, hb, Bool.true_and, Bool.and_eq_false_iff, decide_eq_false_iff_not] at h
        rcases h with h | h
        · exact h
        · exact absurd hk h
      have HIN : Hid (∀ W, Calls Try.prog 77 #[.int .i64 p, .int .i64 0, .int .i64 (n - k)] W (Gives W (.bool false))) := fun W => by have := l1In_any (w := W) p 0 (n - k); rw [hin] at this; exact this
      have hk1 : (k == 0) = false := by simpa using hk
      clear h hb hin
      go_enter Try.func39, Try.ntmps39
      go_wp2_with (first
        | (go_at_call 57; (with_reducible refine HBX.out.mono ?_); rintro e w' ⟨rfl, q0, rfl⟩)
        | (go_at_call 77; (with_reducible refine (HIN.out _).mono ?_); rintro e w' ⟨rfl, q1, rfl⟩))
      go_ret2
      exact MakesUb.of (OU.nil_ _ _ _) (Quiet.below ⟨_, rfl⟩)

set_option maxRecDepth 100000 in
set_option maxHeartbeats 4000000 in
theorem sQPieri_yes {A : Option Addr} {n0 : Nat} {s : List Int} {w : World} (c K M : Nat) (p : Int) (hx : RI w A n0 s) (hn : n0 ≤ 1000000000) (h : qpieOk s K ((K : Int) + M) p = true) :
    Calls Try.prog 39 #[.slice A n0 c, .int .i64 (K : Int), .int .i64 ((K : Int) + M), .int .i64 p] w (MakesUb w (decL (qpieL s K M p (shapesIn K M).length)) true) := by
  simp only [qpieOk, pieriOk, Bool.and_eq_true, decide_eq_true_eq] at h
  obtain ⟨⟨hb, hpb⟩, hk0⟩ := h
  have hpok : pieriOk s K ((K : Int) + M) p = true := by simp only [pieriOk, Bool.and_eq_true]; exact ⟨hb, hpb⟩
  have HBX : Hid (Calls Try.prog 57 #[.slice A n0 c, .int .i64 (K : Int), .int .i64 ((K : Int) + M)] w (Gives w (.bool true))) := by have := l4Box_any c (K : Int) ((K : Int) + M) hx hn; rw [hb] at this; exact this
  obtain ⟨hb1, hb2, hb3, hb4⟩ := inBoxB_iff.1 hb
  obtain ⟨⟨b1, b2⟩, b3, b4⟩ := boxB_iff.1 hb1
  obtain ⟨hp1, hp2⟩ := inB_iff.1 hpb
  have hsub : (K : Int) + M - K = M := by omega
  rw [hsub] at hp2 hpb
  have HIN : Hid (∀ W, Calls Try.prog 77 #[.int .i64 p, .int .i64 0, .int .i64 (M : Int)] W (Gives W (.bool true))) := fun W => by have := l1In_any (w := W) p 0 M; rw [hpb] at this; exact this
  have HST : Hid (∀ W, Quiet w W ∨ Below w.heap.size w W → Calls Try.prog 84 #[.slice A n0 c, .int .i64 (K : Int), .int .i64 ((K : Int) + M), .int .i64 p] W (MakesP W (pieriB s K ((K : Int) + M) p))) := fun W hW => by
    have hr : RI W A n0 s := by
      rcases hW with h | h
      · exact hx.below (Quiet.below h)
      · exact hx.below h
    have := strips_any c K M p ((K : Int) + M) hr hn rfl (by omega) hb2 hp1 hp2
    rw [pieriB_yes hpok, stripsB_eq]
    exact this
  have HS := Lib.hid hb2
  have hss := sumL_shape hb2
  have HSm := Lib.hid (small_shape hb2)
  rw [hx.1] at hb3
  have hKb : (((K : Nat) : Int) == 0) = false := by simp; omega
  have hK1 : ¬ K = 0 := by omega
  have hPS := pieriB_small (s := s) (k := (K : Int)) (n := (K : Int) + M) (p := p)
  obtain ⟨PL, hPLe⟩ : ∃ PL, PL = pieriB s K ((K : Int) + M) p := ⟨_, rfl⟩
  have HSRT : Hid (Srt PL) := by show Srt _; rw [hPLe, pieriB_yes hpok, stripsB_eq]; exact pieri_srt (by omega) _ _ _ _ (Nat.le_refl _)
  have HQL : Hid (qpieL s K M p (shapesIn K M).length = PL.map key0 ++ qpTo (shapesIn K M) s (p - ((K : Int) + M)) K (shapesIn K M).length) := by show _ = _; rw [qpieL, ← hPLe]
  rw [← hPLe] at HST hPS
  obtain ⟨hPL, hPS2⟩ := hPS
  have HSMK := Lib.hid (key0_small hPS2)
  have HPS := Lib.hid hPS2
  have HX := Lib.hid hx
  clear hb hpb hb1 hb2 hb4 hpok hPLe hPS2 hx
  go_enter Try.func39, Try.ntmps39
  go_wp2_with (first
    | (go_at_call 57; (with_reducible refine HBX.out.mono ?_); rintro e w' ⟨rfl, q0, rfl⟩)
    | (go_at_call 77; (with_reducible refine (HIN.out _).mono ?_); rintro e w' ⟨rfl, q1, rfl⟩))
  have hb2x : Below w.heap.size w ((w.drewN (q0 + q1)).alloc (.cells #[] 46)) := (below_drewN (Below.refl _ _) _).alloc (by simp) _
  refine (HST.out _ (.inr hb2x)).mono ?_
  rintro e w3 ⟨A1, n1, c1, csP, rfl, oP, lP, -, bP⟩
  have oU0 : OU w3 w.heap.size w.heap.size (.slice (some ⟨w.heap.size, 0, none⟩) 0 0) (decL ((PL.take 0).map key0)) [] := by
    have h0 : OU ((w.drewN (q0 + q1)).alloc (.cells #[] 46)) w.heap.size w.heap.size (.slice (some ⟨w.heap.size, 0, none⟩) 0 0) [] [] := OU.lit (w.drewN (q0 + q1)) _ _ (by simp)
    exact OU.below h0 bP
  have g3 : Below w.heap.size w w3 := hb2x.trans (bP.mono hb2x.size)
  rw [lP] at hPL
  have HLP := Lib.hid lP
  have HOP := Lib.hid oP
  have G3 := Lib.hid g3
  have hs3 := g3.size
  clear oP lP bP g3 hb2x
  go_wp2
  go_loopw [10, 12] (fun u i wr => ∃ (j : Nat) (cs : List Value), j ≤ n1 ∧ i = .int .i64 (j : Int) ∧ OU wr w.heap.size w.heap.size u (decL ((PL.take j).map key0)) cs ∧ Hid (Below w3.heap.size w3 wr)) (fun _ i _ => n1 - (intOf i).toNat)
  case atStart => exact ⟨0, [], Nat.zero_le _, rfl, oU0, Below.refl _ _⟩
  case round =>
    clear oU0
    obtain ⟨j, cs, hj, rfl, ho, hb⟩ := hrel
    by_cases hlt : j < n1
    · have hoP := HOP.out.below hb.out
      obtain ⟨G, cc, hG, _⟩ := OF.shape hoP (by rw [HLP.out]; omega)
      obtain ⟨rfl, e2, e3⟩ := slice_inj hG
      clear e2 e3 hG
      obtain ⟨A4, n4, c4, x1, x2, x3, x4, x5⟩ := OP.cell hoP (k := j) (by rw [HLP.out]; exact hlt)
      have hn4 : n4 ≤ 100000 := by rw [← x3.ri.1]; exact HPS.out j (by rw [HLP.out]; exact hlt)
      have hcall := l6Add_any c4 0 1 ho (key0_keyed _) x3.ri (by omega) (by rw [List.length_map, List.length_take, HLP.out]; omega) (smallK_of fun x hx => HSMK.out x (by
        obtain ⟨y, hy, rfl⟩ := List.mem_map.1 hx
        exact List.mem_map.2 ⟨y, List.mem_of_mem_take hy, rfl⟩)) (by decide) (by decide)
      rw [add_key0 HSRT.out (by rw [HLP.out]; exact hlt)] at hcall
      have HC := Lib.hid hcall
      have hsz := hb.out.size
      clear hoP ho x2 x3 x5 hcall
      go_wp2_with fail
      refine HC.out.mono ?_
      rintro e w4 ⟨A5, n5, c5, cs5, rfl, o5, l5, -, b5⟩
      have HF : Hid (OU w4 w.heap.size w.heap.size (.slice A5 n5 c5) (decL ((PL.take (j + 1)).map key0)) cs5 ∧ Below w3.heap.size w3 w4) :=
        ⟨OF.mono o5 (by omega) (by omega), hb.out.trans (b5.mono hsz)⟩
      clear o5 l5 b5
      go_wp2
      go_roundw
      case rel => exact ⟨j + 1, cs5, by omega, by go_num, HF.out.1, HF.out.2⟩
      case measure => simp [intOf]; omega
    · obtain rfl : j = n1 := by omega
      have hall : PL.take j = PL := by rw [← HLP.out, List.take_length]
      rw [hall] at ho
      have HU0 := Lib.hid ho
      have hsz := hb.out.size
      obtain ⟨w5, hw5⟩ : ∃ w5, w5 = wr := ⟨_, rfl⟩
      subst hw5
      clear ho hall
      have hcnt := shapesIn_small (r := K) (c := M) (by omega) (by omega)
      go_wp2_with fail
      refine (l4Shapes_any K _ 0 0 [] _ _ M (.slice (some ⟨w5.heap.size + 1, 0, none⟩) 0 0) [] [] w5.heap.size w5.heap.size _ rfl rfl ((OI.lit w5 w5.heap.size [] 0 rfl (Nat.le_refl _) (by simp)).alloc _)
        (by simpa [cellsI] using OS.lit (w5.alloc (.cells #[] 3)) w5.heap.size w5.heap.size [] [] (by simp) FRs.nil_ Dist.nil_ (by simp) 0 rfl) (by simp) (by simp; omega) (by simp; omega) (by omega) (by omega) (by simp; omega)).mono ?_
      rintro e w6 ⟨vL, csL, rfl, osL, gL, fL⟩
      have b6 : Below w5.heap.size w5 w6 := (((Below.refl _ _).alloc (Nat.le_refl _) _).alloc (by simp) _).grown gL (by simp; omega) (by simp [Value.ownBlock])
      simp only [List.nil_append, List.map_id'] at osL
      obtain ⟨AL, nL, cL, rfl, hL1, hL2, hL3⟩ := osL.form
      have hL4 : nL ≤ 10000 := by rw [← hL1]; exact hcnt
      have HL1 := Lib.hid hL1
      have HOSL := Lib.hid osL
      have HU6 := Lib.hid (HU0.out.below b6)
      have g6 : Below w.heap.size w w6 := G3.out.trans ((hb.out.trans (b6.mono hsz)).mono hs3)
      have G6 := Lib.hid g6
      have hs6 := g6.size
      obtain ⟨d, hd⟩ : ∃ d, d = p - ((K : Int) + M) := ⟨_, rfl⟩
      clear hcnt gL fL hL1 osL b6 g6
      go_wp2
      go_loopw [10, 14, 15, 16] (fun u i _ _ wr => ∃ (j2 : Nat) (cs2 : List Value), j2 ≤ nL ∧ i = .int .i64 (j2 : Int) ∧ OU wr w.heap.size w.heap.size u (decL (PL.map key0 ++ qpTo (shapesIn K M) s d K j2)) cs2 ∧ Hid (Below w6.heap.size w6 wr)) (fun _ i _ _ _ => nL - (intOf i).toNat)
      case atStart => exact ⟨0, cs, Nat.zero_le _, rfl, by rw [show PL.map key0 ++ qpTo (shapesIn K M) s d K 0 = PL.map key0 from List.append_nil _]; exact HU6.out, Below.refl _ _⟩
      case round =>
        obtain ⟨j2, cs2, hj2, rfl, ho2, hb2⟩ := hrel
        by_cases hlt : j2 < nL
        · obtain ⟨wo, hwo⟩ : ∃ wo : World, wo = wr := ⟨_, rfl⟩
          subst hwo
          have osL2 := OF.below HOSL.out hb2.out
          obtain ⟨ad, A', n', c', hA, hcell, hcs2, hoi, hcc⟩ := OS.cell osL2 hlt
          subst hA
          have hmem := nthL_mem (ls := shapesIn K M) (k := j2) (by rw [HL1.out]; exact hlt)
          have hshape := (box_ok (k := K) (m := M) (by omega)).2 _ hmem
          have hn' := (shapesIn_rows hmem).1
          rw [hoi.ri.1] at hn'
          have hsc := sumL_shape hshape
          have hsm := Lib.hid (small_shape hshape)
          obtain ⟨C, hC⟩ : ∃ C, C = nthL (shapesIn K M) j2 := ⟨_, rfl⟩
          have HC := Lib.hid hC
          rw [← hC] at hoi hsc hsm hshape
          have hri := hoi.ri
          have HSC := Lib.hid hshape
          have hbx : Below w.heap.size w wo := G6.out.trans (hb2.out.mono hs6)
          have hxr := HX.out.below hbx
          obtain ⟨S1, hS1⟩ : ∃ S1, S1 = sumL C := ⟨_, rfl⟩
          obtain ⟨S2, hS2⟩ : ∃ S2, S2 = sumL s := ⟨_, rfl⟩
          have hss2 := hss
          rw [← hS1] at hsc
          rw [← hS2] at hss2
          have HSUM1 : Hid (∀ W, Quiet wo W → Calls Try.prog 87 #[.slice A' n' c'] W (Gives W (.int .i64 S1))) := fun W qW => by rw [hS1]; exact sSum_any _ (hri.below (Quiet.below qW)) hsm.out (by omega)
          have HSUM2 : Hid (∀ W, Quiet wo W → Calls Try.prog 87 #[.slice A n0 c] W (Gives W (.int .i64 S2))) := fun W qW => by rw [hS2]; exact sSum_any _ (hxr.below (Quiet.below qW)) HSm.out (by omega)
          have HF0 : Hid (fitQTo C s d K 0 = (S1 == S2 + p - ((K : Int) + M))) := by
            show _ = _
            rw [fitQTo_zero, ← hS1, ← hS2, hd]
            rw [Bool.eq_iff_iff]
            simp only [beq_iff_eq]
            omega
          have HO2 := Lib.hid ho2
          have HRI := Lib.hid hri
          clear hmem osL2 hC hS1 hS2 hoi ho2 hcs2 hshape
          go_wp2_with (first
            | (go_at_call 87; (with_reducible refine (HSUM1.out _ ?_).mono ?_); exact (by first | exact ⟨_, rfl⟩ | exact ⟨_, (World.drewN_drewN _ _ _).symm⟩ | exact Quiet.refl _ | (simp only [World.drewN_drewN]; exact ⟨_, rfl⟩)); rintro e w' ⟨rfl, qs1, rfl⟩)
            | (go_at_call 87; (with_reducible refine (HSUM2.out _ ?_).mono ?_); exact (by first | exact ⟨_, rfl⟩ | exact ⟨_, (World.drewN_drewN _ _ _).symm⟩ | exact Quiet.refl _ | (simp only [World.drewN_drewN]; exact ⟨_, rfl⟩)); rintro e w' ⟨rfl, qs2, rfl⟩))
          go_loopw [15, 16] (fun f i wr => ∃ r : Nat, r ≤ K ∧ i = .int .i64 (r : Int) ∧ f = .bool (fitQTo C s d K r) ∧ Quiet wo wr) (fun _ i _ => K - (intOf i).toNat)
          case atStart => exact ⟨0, Nat.zero_le _, rfl, by rw [HF0.out], (by first | exact ⟨_, rfl⟩ | exact ⟨_, (World.drewN_drewN _ _ _).symm⟩ | exact Quiet.refl _ | (simp only [World.drewN_drewN]; exact ⟨_, rfl⟩))⟩
          case round =>
            obtain ⟨r, hr, rfl, rfl, hqq⟩ := hrel
            by_cases hlt2 : r < K
            · obtain ⟨x, hx⟩ : ∃ x, x = nth C r := ⟨_, rfl⟩
              obtain ⟨y, hy⟩ : ∃ y, y = nth s r := ⟨_, rfl⟩
              obtain ⟨z, hz⟩ : ∃ z, z = nth s (r + 1) := ⟨_, rfl⟩
              have hxR := shape_range HSC.out r
              have hyR := shape_range HS.out r
              have hzR := shape_range HS.out (r + 1)
              rw [← hx] at hxR
              rw [← hy] at hyR
              rw [← hz] at hzR
              have ht1 : ((r : Int)).toNat = r := by omega
              have ht2 : ((r : Int) + 1).toNat = r + 1 := by omega
              have HRC : Hid (∀ W, Quiet wo W → Calls Try.prog 88 #[.slice A' n' c', .int .i64 (r : Int)] W (Gives W (.int .i64 x))) := fun W qW => by
                have h := l4At_any c' (r : Int) (hri.below (Quiet.below qW)) (by omega) (by omega)
                rw [ht1, ← hx] at h
                exact h
              have HRS : Hid (∀ W, Quiet wo W → Calls Try.prog 88 #[.slice A n0 c, .int .i64 (r : Int)] W (Gives W (.int .i64 y))) := fun W qW => by
                have h := l4At_any c (r : Int) (hxr.below (Quiet.below qW)) (by omega) (by omega)
                rw [ht1, ← hy] at h
                exact h
              have HRZ : Hid (∀ W, Quiet wo W → Calls Try.prog 88 #[.slice A n0 c, .int .i64 ((r : Int) + 1)] W (Gives W (.int .i64 z))) := fun W qW => by
                have h := l4At_any c ((r : Int) + 1) (hxr.below (Quiet.below qW)) (by omega) (by omega)
                rw [ht2, ← hz] at h
                exact h
              have HST2 : Hid (stepQ C s K r = (decide (x < y) && (decide (r = K - 1) || decide (z - 1 ≤ x)))) := by show _ = _; rw [stepQ, ← hx, ← hy, ← hz]
              have HSU := Lib.hid (fitQTo_succ C s d K r)
              clear ht1 ht2 hx hy hz
              obtain ⟨qq, rfl⟩ := hqq
              rcases hf : fitQTo C s d K r with _ | _
              · have HV : Hid (fitQTo C s d K (r + 1) = false) := by show _ = _; rw [HSU.out, hf]; rfl
                clear hf
                by_cases hrk : r = K - 1
                · have h1 : ¬ (r : Int) + 1 < (K : Int) := by omega
                  have h1b : ¬ r + 1 < K := by omega
                  go_wp2
                  go_roundw
                  case rel => exact ⟨r + 1, by omega, by go_num, by rw [HV.out], (by first | exact ⟨_, rfl⟩ | exact ⟨_, (World.drewN_drewN _ _ _).symm⟩ | exact Quiet.refl _ | (simp only [World.drewN_drewN]; exact ⟨_, rfl⟩))⟩
                  case measure => simp [intOf]; omega
                · have h1 : (r : Int) + 1 < (K : Int) := by omega
                  have h1b : r + 1 < K := by omega
                  go_wp2
                  go_roundw
                  case rel => exact ⟨r + 1, by omega, by go_num, by rw [HV.out], (by first | exact ⟨_, rfl⟩ | exact ⟨_, (World.drewN_drewN _ _ _).symm⟩ | exact Quiet.refl _ | (simp only [World.drewN_drewN]; exact ⟨_, rfl⟩))⟩
                  case measure => simp [intOf]; omega
              · have HFT := Lib.hid hf
                clear hf
                by_cases hrk : r = K - 1
                · have h1 : ¬ (r : Int) + 1 < (K : Int) := by omega
                  have h1b : ¬ r + 1 < K := by omega
                  have HRK := Lib.hid hrk
                  clear hrk
                  rcases hxy : decide (x < y) with _ | _
                  all_goals
                    have HXY := Lib.hid hxy
                    have hxy2 : decide (x ≤ y - 1) = decide (x < y) := by rw [decide_eq_decide]; omega
                    rw [hxy] at hxy2
                    clear hxy
                    go_wp2_with (first
                      | (go_at_call 88; (with_reducible refine (HRC.out _ ?_).mono ?_); exact (by first | exact ⟨_, rfl⟩ | exact ⟨_, (World.drewN_drewN _ _ _).symm⟩ | exact Quiet.refl _ | (simp only [World.drewN_drewN]; exact ⟨_, rfl⟩)); rintro e w' ⟨rfl, qr1, rfl⟩)
                      | (go_at_call 88; (with_reducible refine (HRS.out _ ?_).mono ?_); exact (by first | exact ⟨_, rfl⟩ | exact ⟨_, (World.drewN_drewN _ _ _).symm⟩ | exact Quiet.refl _ | (simp only [World.drewN_drewN]; exact ⟨_, rfl⟩)); rintro e w' ⟨rfl, qr2, rfl⟩))
                    go_roundw
                    case rel => exact ⟨r + 1, by omega, by go_num, by rw [HSU.out, HST2.out, HFT.out, HXY.out]; simp [HRK.out], (by first | exact ⟨_, rfl⟩ | exact ⟨_, (World.drewN_drewN _ _ _).symm⟩ | exact Quiet.refl _ | (simp only [World.drewN_drewN]; exact ⟨_, rfl⟩))⟩
                    case measure => simp [intOf]; omega
                · have h1 : (r : Int) + 1 < (K : Int) := by omega
                  have h1b : r + 1 < K := by omega
                  have HRK := Lib.hid hrk
                  clear hrk
                  rcases hxy : decide (x < y) with _ | _
                  · have HXY := Lib.hid hxy
                    have hxy2 : decide (x ≤ y - 1) = decide (x < y) := by rw [decide_eq_decide]; omega
                    rw [hxy] at hxy2
                    clear hxy
                    go_wp2_with (first
                      | (go_at_call 88; (with_reducible refine (HRC.out _ ?_).mono ?_); exact (by first | exact ⟨_, rfl⟩ | exact ⟨_, (World.drewN_drewN _ _ _).symm⟩ | exact Quiet.refl _ | (simp only [World.drewN_drewN]; exact ⟨_, rfl⟩)); rintro e w' ⟨rfl, qr1, rfl⟩)
                      | (go_at_call 88; (with_reducible refine (HRS.out _ ?_).mono ?_); exact (by first | exact ⟨_, rfl⟩ | exact ⟨_, (World.drewN_drewN _ _ _).symm⟩ | exact Quiet.refl _ | (simp only [World.drewN_drewN]; exact ⟨_, rfl⟩)); rintro e w' ⟨rfl, qr2, rfl⟩))
                    go_roundw
                    case rel => exact ⟨r + 1, by omega, by go_num, by rw [HSU.out, HST2.out, HFT.out, HXY.out]; simp, (by first | exact ⟨_, rfl⟩ | exact ⟨_, (World.drewN_drewN _ _ _).symm⟩ | exact Quiet.refl _ | (simp only [World.drewN_drewN]; exact ⟨_, rfl⟩))⟩
                    case measure => simp [intOf]; omega
                  · rcases hzx : decide (z - 1 ≤ x) with _ | _
                    all_goals
                      have HZX := Lib.hid hzx
                      have HXY := Lib.hid hxy
                      have hxy2 : decide (x ≤ y - 1) = decide (x < y) := by rw [decide_eq_decide]; omega
                      rw [hxy] at hxy2
                      go_wp2_with (first
                        | (go_at_call 88; (with_reducible refine (HRC.out _ ?_).mono ?_); exact (by first | exact ⟨_, rfl⟩ | exact ⟨_, (World.drewN_drewN _ _ _).symm⟩ | exact Quiet.refl _ | (simp only [World.drewN_drewN]; exact ⟨_, rfl⟩)); rintro e w' ⟨rfl, qr1, rfl⟩)
                        | (go_at_call 88; (with_reducible refine (HRS.out _ ?_).mono ?_); exact (by first | exact ⟨_, rfl⟩ | exact ⟨_, (World.drewN_drewN _ _ _).symm⟩ | exact Quiet.refl _ | (simp only [World.drewN_drewN]; exact ⟨_, rfl⟩)); rintro e w' ⟨rfl, qr2, rfl⟩)
                        | (go_at_call 88; (with_reducible refine (HRZ.out _ ?_).mono ?_); exact (by first | exact ⟨_, rfl⟩ | exact ⟨_, (World.drewN_drewN _ _ _).symm⟩ | exact Quiet.refl _ | (simp only [World.drewN_drewN]; exact ⟨_, rfl⟩)); rintro e w' ⟨rfl, qr3, rfl⟩))
                      go_roundw
                      case rel => exact ⟨r + 1, by omega, by go_num, by rw [HSU.out, HST2.out, HFT.out, HXY.out, HZX.out]; simp [HRK.out], (by first | exact ⟨_, rfl⟩ | exact ⟨_, (World.drewN_drewN _ _ _).symm⟩ | exact Quiet.refl _ | (simp only [World.drewN_drewN]; exact ⟨_, rfl⟩))⟩
                      case measure => simp [intOf]; omega
            · obtain rfl : r = K := by omega
              obtain ⟨qq, hqw⟩ := hqq
              have hbq : Below wo.heap.size wo wr := Quiet.below ⟨qq, hqw⟩
              have HO3 := Lib.hid (HO2.out.below hbq)
              have HB3 : Hid (Below w6.heap.size w6 wr) := by show Below _ _ _; rw [← hqw]; exact below_drewN hb2.out _
              have HRI3 := Lib.hid (HRI.out.below hbq)
              have hcell3 := one_cell hbq hcell
              clear hqw hbq
              rcases hf : fitQTo C s d r r with _ | _
              · have HN : Hid (qpTo (shapesIn r M) s d r (j2 + 1) = qpTo (shapesIn r M) s d r j2) := qpTo_no (by rw [← HC.out]; exact hf)
                clear hf
                go_wp2
                go_roundw
                case rel => exact ⟨j2 + 1, cs2, by omega, by go_num, by rw [HN.out]; exact HO3.out, HB3⟩
                case measure => simp [intOf]; omega
              · have HY : Hid (qpTo (shapesIn r M) s d r (j2 + 1) = qpTo (shapesIn r M) s d r j2 ++ [(1 :: C, 1)]) := by rw [HC.out]; exact qpTo_yes (by rw [← HC.out]; exact hf)
                have hql := qpTo_len (shapesIn r M) s d r j2
                have hcall := l6Add_any c' 1 1 HO3.out (fun x hx => by
                  rcases List.mem_append.1 hx with h | h
                  · exact key0_keyed _ x h
                  · exact qpTo_keyed _ _ _ _ _ x h) HRI3.out (by omega) (by rw [List.length_append, List.length_map, HLP.out]; omega) (smallK_of fun x hx => by
                  rcases List.mem_append.1 hx with h | h
                  · exact HSMK.out x h
                  · exact qpTo_small (by omega) s d (by rw [HL1.out]; omega) x h) (by decide) (by decide)
                have hkey := add_key1 (K := r) (M := M) (by omega) (s := s) (d := d) (L := PL) (j := j2) (by rw [HL1.out]; exact hlt)
                rw [← HC.out] at hkey
                rw [hkey, List.append_assoc, ← HY.out] at hcall
                have HCC := Lib.hid hcall
                have hs3' := HB3.out.size
                clear hf hcall hkey
                go_wp2_with fail
                refine HCC.out.mono ?_
                rintro e w7 ⟨A5, n5, c5, cs5, rfl, o5, l5, -, b5⟩
                have HF : Hid (OU w7 w.heap.size w.heap.size (.slice A5 n5 c5) (decL (PL.map key0 ++ qpTo (shapesIn r M) s d r (j2 + 1))) cs5 ∧ Below w6.heap.size w6 w7) :=
                  ⟨OF.mono o5 (by omega) (by omega), HB3.out.trans (b5.mono hs3')⟩
                clear o5 l5 b5
                go_wp2
                go_roundw
                case rel => exact ⟨j2 + 1, cs5, by omega, by go_num, HF.out.1, HF.out.2⟩
                case measure => simp [intOf]; omega
        · obtain rfl : j2 = nL := by omega
          have HE : Hid (OU wr w.heap.size w.heap.size u10 (decL (qpieL s K M p (shapesIn K M).length)) cs2 ∧ Below w.heap.size w wr) := by
            refine ⟨?_, G6.out.trans (hb2.out.mono hs6)⟩
            rw [HQL.out, ← hd, HL1.out]
            exact ho2
          clear ho2
          go_wp2
          go_ret2
          exact MakesUb.of HE.out.1 HE.out.2

theorem sQPieri_any {A : Option Addr} {n0 : Nat} {s : List Int} {w : World} (c : Nat) (k n p : Int) (hx : RI w A n0 s) (hn : n0 ≤ 1000000000) :
    Calls Try.prog 39 #[.slice A n0 c, .int .i64 k, .int .i64 n, .int .i64 p] w (MakesUb w (decL (qpieB s k n p)) (qpieOk s k n p)) := by
  rcases h : qpieOk s k n p with _ | _
  · rw [qpieB_no h]
    exact sQPieri_no c k n p hx hn h
  · have h0 := h
    simp only [qpieOk, pieriOk, Bool.and_eq_true] at h0
    obtain ⟨⟨b1, b2⟩, b3, b4⟩ := boxB_iff.1 (inBoxB_iff.1 h0.1.1).1
    obtain ⟨K, rfl⟩ := Int.eq_ofNat_of_zero_le b3
    obtain ⟨M, hM⟩ := Int.eq_ofNat_of_zero_le (a := n - K) (by omega)
    obtain rfl : n = (K : Int) + M := by omega
    rw [qpieB_yes h]
    exact sQPieri_yes c K M p hx hn h
end Go.Proofs.Ytmodpicemlkbjaa
