/- The walk of FnRotated. -/
import Derived.Test.YtmodpicemlkbjaaQFinR
import Derived.Test.YtmodpicemlkbjaaQProI
import Derived.Test.YtmodpicemlkbjaaLawF
import Derived.Test.YtmodpicemlkbjaaStrOf
import Derived.Test.YtmodpicemlkbjaaRotate
import Derived.Test.YtmodpicemlkbjaaShapes
import Derived.ShutString
import Derived.ChangeOld
namespace Go.Proofs.Ytmodpicemlkbjaa.lawRotated
open Go.ChangeShapes Go.WideShapes Go.ChangeAt Go.RowKit
open Go.ChangeMaps (open_string shut_string)

def longF (b : List Int) (N : Nat) (i : Nat) : Int := nth b i + if i = 0 then (N : Int) else 0
def vlen : Value → Nat
  | .slice _ n _ => n
  | _ => 0
set_option maxRecDepth 100000 in
set_option maxHeartbeats 8000000 in
theorem walk {A : Option Addr} {n : Nat} (c : Nat) {w : World} (hx : RB w A n) : Calls Try.prog 13 #[.slice A n c] w (Law w) := by
  obtain ⟨w0, ew⟩ : ∃ w0 : World, w0 = w := ⟨_, rfl⟩
  subst ew
  rcases hbig : decide (1048576 < n) with _ | _
  · go_enter Try.func13, Try.ntmps13
    go_wp2_with (go_at_call 19; refine (big_any _).mono ?_; rintro e w' ⟨rfl, q0, rfl⟩)
    clear hbig
    refine (drawBoxes_apart _ (hx.below (Quiet.below ⟨_, rfl⟩))).mono ?_
    rintro e w1 ⟨A1, n1, c1, A2, n2, c2, A3, n3, c3, l, l2, l3, W1, W2, K, M, rfl, hKM, hsh, hsh2, -, o1, o2, -, hW1, -, b1, hap, -⟩
    have g1 : Below w0.heap.size w0 w1 := bnext (Quiet.below ⟨_, rfl⟩) b1 (by simp)
    have hn1 : n1 ≤ 6 := by rw [← o1.ri.1]; have := hsh.len; omega
    have hn2 : n2 ≤ 6 := by rw [← o2.ri.1]; have := hsh2.len; omega
    have HO1 := Lib.hid o1
    have HO2 := Lib.hid o2
    have HSH := Lib.hid hsh
    have HSH2 := Lib.hid hsh2
    have HK := Lib.hid hKM
    have hsub : (K : Int) + M - K = M := by omega
    clear b1 o1 o2 hap hsh hsh2 hW1
    obtain ⟨hKM1, hKM2⟩ := hKM
    obtain ⟨N, hN⟩ : ∃ N : Nat, N = K + M := ⟨_, rfl⟩
    have hNi : (K : Int) + M = N := by omega
    by_cases h0 : K = 0 ∨ M = 0
    · obtain ⟨e1, e2⟩ := colQ_edge HK.out HSH.out h0
      rw [hNi] at e1 e2
      obtain ⟨s, hs⟩ : ∃ s, s = strB l K N := ⟨_, rfl⟩
      have HST : Hid (∀ W, Below w1.heap.size w1 W → Calls Try.prog 53 #[.slice A1 n1 c1, .int .i64 (K : Int), .int .i64 (N : Int)] W (Makes W s)) := fun W bW => by rw [hs]; exact iStrOf_any c1 _ _ (HO1.out.ri.below bW) (by omega)
      rw [← hs] at e1 e2
      rw [← hN] at e1
      have HE := Lib.hid e2
      have hcase : (K = 0 ∧ (K : Int) = 0) ∨ (K = N ∧ ¬ K = 0 ∧ ¬ (K : Int) = 0) := by omega
      have HHN := Lib.hid hN
      have hs7 : N ≤ 6 := by omega
      rw [hNi]
      clear hs e2 hNi hsub hN h0 hKM1 hKM2
      have hkk : (decide ((K : Int) = 0) || decide ((K : Int) = N)) = true := by rcases hcase with h | h <;> simp [h]
      rcases hcase with ⟨rfl, _⟩ | ⟨rfl, h1, h2⟩
      all_goals
        go_wp2_with fail
        refine (HST.out _ (Below.refl _ _)).mono ?_
        rintro e w2 ⟨A4, n4, c4, rfl, o4, r4, ⟨cp4, le4⟩, b4⟩
        obtain rfl := r4.1.symm.trans e1
        have g2 := bnext g1 b4 g1.size
        go_wp2_with fail
        refine (iRotate_any _ r4 (by omega) (by omega)).mono ?_
        rw [HE.out]
        rintro e w3 ⟨A5, n5, c5, rfl, o5, r5, ⟨cp5, le5⟩, b5⟩
        have g3 := bnext g2 b5 g2.size
        go_wp2_with fail
        refine (ints_any true _ _ r5 (r4.below b5) (by simp) (by omega) (by omega)).mono ?_
        rintro e w4 ⟨rfl, q4⟩
        have g4 := bnext g3 (q4.below (B := w3.heap.size)) g3.size
        go_wp2
        go_ret
        exact ⟨rfl, g4⟩
    obtain ⟨e1, e2, e3, -⟩ := colQ_mid HK.out HSH.out h0
    obtain ⟨-, -, -, e4, e5, e6, e7, e8⟩ := colQ_mid HK.out HSH2.out h0
    rw [hNi] at e1 e2 e3 e4 e5 e6 e7 e8
    rw [← hN] at e1 e3 e5 e6 e7 e8
    rw [hNi]
    obtain ⟨s, hs⟩ : ∃ s, s = strB l K N := ⟨_, rfl⟩
    rw [← hs] at e1 e2 e3
    have HST : Hid (∀ W, Below w1.heap.size w1 W → Calls Try.prog 53 #[.slice A1 n1 c1, .int .i64 (K : Int), .int .i64 (N : Int)] W (Makes W s)) := fun W bW => by rw [hs]; exact iStrOf_any c1 _ _ (HO1.out.ri.below bW) (by omega)
    have E2 := Lib.hid e2
    have E3 := Lib.hid e3
    have E4 := Lib.hid e4
    have E5 := Lib.hid e5
    have E6 := Lib.hid e6
    have E7 := Lib.hid e7
    have E7b := Lib.hid e8
    have hKlt : 1 ≤ K ∧ K < N ∧ N ≤ 6 := by omega
    have HHN := Lib.hid hN
    have HQOK : Hid (qOk (List.replicate K 1) l K N = true) := by
      show _ = _
      rcases hq : qOk (List.replicate K 1) l K N with _ | _
      · have := e3
        rw [qpB_no hq] at this
        cases this
      · rfl
    clear hs e2 e3 e4 e5 e6 e7 e8 hNi hsub hN h0 hKM1 hKM2
    obtain ⟨hk1, hk2, hk3⟩ := hKlt
    have hkb : ((K : Int) == 0) = false := by simp; omega
    have hkc : ((K : Int) == (N : Int)) = false := by simp; omega
    have hkd : ¬ (K : Int) = 0 := by omega
    have hke : ¬ (K : Int) = (N : Int) := by omega
    have hkf : ¬ K = 0 := by omega
    have hkg : ¬ K = N := by omega
    go_wp2
    go_loopw [9] (fun u wr => ∃ j : Nat, j ≤ K ∧ OI wr w1.heap.size u (List.replicate j 1) ∧ Below w1.heap.size w1 wr) (fun u _ => K - vlen u)
    case atStart => exact ⟨0, Nat.zero_le _, OI.lit w1 w1.heap.size [] 0 rfl (Nat.le_refl _) (by simp), (Below.refl _ _).alloc (Nat.le_refl _) _⟩
    case round =>
      obtain ⟨j, hj, ho, hb⟩ := hrel
      obtain ⟨A4, n4, c4, rfl, r4, hc4, hc5, _⟩ := ho.form
      have hn4 : n4 = j := by rw [← r4.1, List.length_replicate]
      subst hn4
      by_cases hlt : n4 < K
      · have hlen : (List.replicate n4 (1 : Int)).length + 1 ≤ 1000000000000 := by rw [List.length_replicate]; omega
        have hbs := hb.size
        have HB := Lib.hid hb
        clear r4 hb
        go_wp2_with (at_builtin; refine wpApp1 rfl _ _ rfl w1.heap.size (.slice A4 n4 c4) (List.replicate n4 1) 1 rfl (by exact ho) rfl hlen (by exact hbs) ?_; intro v' w' h1 h2 h3)
        go_roundw
        case rel => exact ⟨n4 + 1, by omega, by rw [List.replicate_succ']; exact h1, HB.out.grown h2 hbs (fun k hk => (ho.lt k hk).1)⟩
        case measure =>
          obtain ⟨A5, n5, c5, rfl, r5, _⟩ := h1.form
          have : n5 = n4 + 1 := by rw [← r5.1]; simp
          simp [vlen]; omega
      · obtain rfl : n4 = K := by omega
        have HO := Lib.hid ho
        have HB := Lib.hid hb
        have g2 := bnext g1 hb g1.size
        have hs1 := hb.size
        clear ho hb r4
        have hqp := iQPro_any (w := wr) c4 c1 (n4 : Int) (N : Int) HO.out (OI.below HO1.out HB.out) (by omega) (by omega)
        rw [HQOK.out, E3.out] at hqp
        have HQP := Lib.hid hqp
        clear hqp
        go_wp2_with fail
        refine HQP.out.mono ?_
        rintro e w2 ⟨A5, n5, c5, cs5, rfl, o5, l5, -, b5⟩
        have g3 := bnext g2 b5 g2.size
        have HB2 := Lib.hid (HB.out.trans (b5.mono hs1))
        obtain rfl : n5 = 1 := l5.symm
        have HO5 := Lib.hid o5
        have hs2 := b5.size
        clear o5 l5 b5
        go_wp2_with fail
        refine (HST.out _ HB2.out).mono ?_
        rintro e w3 ⟨A6, n6, c6, rfl, o6, r6, ⟨cp6, le6⟩, b6⟩
        obtain rfl := r6.1.symm.trans e1
        have g4 := bnext g3 b6 g3.size
        have HO6 := Lib.hid (OF.below HO5.out b6)
        have HR6 := Lib.hid r6
        have HB3 := Lib.hid (HB2.out.trans (b6.mono HB2.out.size))
        have hs3 := b6.size
        clear o6 r6 b6
        go_wp2_with fail
        refine (iRotate_any _ HR6.out (by omega) (by omega)).mono ?_
        rintro e w4 ⟨A7, n7, c7, rfl, o7, r7, ⟨cp7, le7⟩, b7⟩
        have g5 := bnext g4 b7 g4.size
        have HR7 := Lib.hid r7
        have HO7 := Lib.hid (OF.below HO6.out b7)
        have HR67 := Lib.hid (HR6.out.below b7)
        have HB4 := Lib.hid (HB3.out.trans (b7.mono HB3.out.size))
        have hn7 : n7 ≤ 1000000000 := by
          rw [← r7.1]
          unfold rotB
          split
          · simp; omega
          · simp
        have hs4 := b7.size
        clear o7 r7 b7
        go_wp2_with fail
        refine (iShapeStr_any _ HR7.out hn7).mono ?_
        rw [E2.out]
        rintro e w5 ⟨A8, n8, c8, rfl, o8, r8, ⟨cp8, le8⟩, b8⟩
        have g6 := bnext g5 b8 g5.size
        have HO8 := OF.below HO7.out b8
        have hr6 := HR67.out.below b8
        have HB5 := Lib.hid (HB4.out.trans (b8.mono HB4.out.size))
        obtain ⟨G, cG, hGG, _⟩ := OF.shape HO8 (by simp [decL])
        obtain ⟨rfl, e2, e3⟩ := slice_inj hGG
        clear e2 e3 hGG
        obtain ⟨A9, n9, c9, k0, k1, _, k2, _, k4⟩ := OU.cell HO8 (k := 0) (by simp [decL])
        obtain ⟨P, hP⟩ : ∃ P, P = nth s (n6 - 1) := ⟨_, rfl⟩
        obtain ⟨T, hT⟩ : ∃ T, T = shapeStr (rotB s) := ⟨_, rfl⟩
        have hq : nthQ (decL [(P :: T, (1 : Int))]) 0 = (P, T, 1) := rfl
        rw [← hP, ← hT, hq] at k0 k2 k4
        rw [← hT] at r8
        obtain ⟨ad, hA, hcl⟩ := hr6.cell (k := n6 - 1) (by omega)
        obtain rfl := hA
        rw [← hP] at hcl
        have hw1 : IntKind.i64.wrap ((n6 : Int) - 1) = ((n6 - 1 : Nat) : Int) := by rw [show (n6 : Int) - 1 = ((n6 - 1 : Nat) : Int) by omega]; exact IntWalk.i64_in _ (by omega)
        have hTT : (P != P) = false := by simp
        have HC : Hid (∀ W, Below w5.heap.size w5 W → Calls Try.prog 27 #[.slice A9 n9 c9, .slice A8 n8 c8] W (Gives W (.bool true))) := fun W bW => ints_any true _ _ (k2.ri.below bW) (r8.below bW) (by simp) (by have := k2.le; omega) (by omega)
        have HX := Lib.hid (⟨k0, k1, k4, hcl⟩ : _ ∧ _ ∧ _ ∧ _)
        have hi0 : (0 : Int) ≤ ((n6 - 1 : Nat) : Int) := by omega
        have hi1 : ((n6 - 1 : Nat) : Int) < (n6 : Int) := by omega
        have hi2 : n6 - 1 < n6 := by omega
        have hnn : ((n6 : Int) != (n6 : Int)) = false := by simp
        clear hP hT k0 k1 k2 k4 hcl hq HO8 hr6 o8 r8 b8
        go_wp2_with fail
        go_region_held3 (fun w' => w'.cell? ⟨G, 0, none⟩ = some (.int .i64 P) ∧ w'.cell? ⟨G, 1, none⟩ = some (.slice A9 n9 c9) ∧ w'.cell? ⟨G, 2, none⟩ = some (.int .i64 1) ∧ w'.cell? (ad.add (n6 - 1)) = some (.int .i64 P)) (exact HX.out) (first
          | (go_at_call 27; (with_reducible refine (HC.out _ ?_).mono ?_); (exact ⟨rfl, rfl, rfl, Nat.le_refl _, fun _ _ => rfl⟩); rintro e w6 ⟨rfl, q6, rfl⟩))
        have HKN : Hid (longW l2 n4 n6 = gen (longF l2 n6) n4) := rfl
        go_wp2
        go_loopw [16, 17, 18] (fun u i _ wr => ∃ j : Nat, j ≤ n4 ∧ i = .int .i64 (j : Int) ∧ OI wr w5.heap.size u (gen (longF l2 n6) j) ∧ Below w5.heap.size w5 wr) (fun _ i _ _ => n4 - (intOf i).toNat)
        case atStart => exact ⟨0, Nat.zero_le _, rfl, OI.lit (w5.drewN _) w5.heap.size [] 0 rfl (by simp) (by simp), (below_drewN (Below.refl _ _) _).alloc (by simp) _⟩
        case round =>
          obtain ⟨i, hi, rfl, ho, hb⟩ := hrel
          by_cases hlt2 : i < n4
          · have HO := Lib.hid ho
            have HB := Lib.hid hb
            have hbs := hb.size
            have hBr := (HO2.out.ri.below HB5.out).below hb
            obtain ⟨X, hX⟩ : ∃ X, X = nth l2 i := ⟨_, rfl⟩
            have hXr := shape_range (HSH2.out.shape (K := n4) (M := M) (by omega) (by have := HHN.out; omega)) i
            rw [← hX] at hXr
            have hw : IntKind.i64.wrap (X + (n6 : Int)) = X + n6 := IntWalk.i64_in _ (by omega)
            have hw0 : IntKind.i64.wrap (0 + (n6 : Int)) = n6 := by rw [Int.zero_add]; exact IntWalk.i64_in _ (by omega)
            by_cases hin : i < n2
            · obtain ⟨ad2, hA2, hcl2⟩ := hBr.cell hin
              subst hA2
              rw [← hX] at hcl2
              by_cases hi0 : i = 0
              · subst hi0
                have hcl3 : wr.cell? ad2 = some (.int .i64 X) := hcl2
                have HV : Hid (longF l2 n6 0 = X + n6) := by show _ = _; rw [longF, if_pos rfl, hX]
                clear ho hb hBr hX
                have hlen : (gen (longF l2 n6) 0).length + 1 ≤ 1000000000000 := by rw [gen_len]; omega
                go_wp2_with (at_builtin; refine wpApp1 rfl _ _ rfl w5.heap.size u16 (gen (longF l2 n6) 0) (X + n6) rfl (by exact HO.out) rfl hlen (by exact hbs) ?_; intro v' w' h1 h2 h3)
                have HF : Hid (OI w' w5.heap.size v' (gen (longF l2 n6) (0 + 1)) ∧ Below w5.heap.size w5 w') := ⟨by rw [gen_succ]; rw [HV.out]; exact h1, HB.out.grown h2 hbs (fun k hk => (HO.out.lt k hk).1)⟩
                clear h1 h2 h3
                go_roundw
                case rel => exact ⟨0 + 1, by omega, by go_num, HF.out.1, HF.out.2⟩
                case measure => simp [intOf]; omega
              · have hib : ((i : Int) == 0) = false := by simp; omega
                have HV : Hid (longF l2 n6 i = X) := by show _ = _; rw [longF, if_neg hi0, hX]; simp
                clear ho hb hBr hX
                have hlen : (gen (longF l2 n6) i).length + 1 ≤ 1000000000000 := by rw [gen_len]; omega
                go_wp2_with (at_builtin; refine wpApp1 rfl _ _ rfl w5.heap.size u16 (gen (longF l2 n6) i) X rfl (by exact HO.out) rfl hlen (by exact hbs) ?_; intro v' w' h1 h2 h3)
                have HF : Hid (OI w' w5.heap.size v' (gen (longF l2 n6) (i + 1)) ∧ Below w5.heap.size w5 w') := ⟨by rw [gen_succ]; rw [HV.out]; exact h1, HB.out.grown h2 hbs (fun k hk => (HO.out.lt k hk).1)⟩
                clear h1 h2 h3
                go_roundw
                case rel => exact ⟨i + 1, by omega, by go_num, HF.out.1, HF.out.2⟩
                case measure => simp [intOf]; omega
            · have hX0 : X = 0 := by rw [hX]; exact nth_ge (by rw [hBr.1]; omega)
              by_cases hi0 : i = 0
              · subst hi0
                have HV : Hid (longF l2 n6 0 = n6) := by show _ = _; rw [longF, if_pos rfl, ← hX, hX0]; simp
                clear ho hb hBr hX hX0 hw
                have hlen : (gen (longF l2 n6) 0).length + 1 ≤ 1000000000000 := by rw [gen_len]; omega
                go_wp2_with (at_builtin; refine wpApp1 rfl _ _ rfl w5.heap.size u16 (gen (longF l2 n6) 0) (n6 : Int) rfl (by exact HO.out) rfl hlen (by exact hbs) ?_; intro v' w' h1 h2 h3)
                have HF : Hid (OI w' w5.heap.size v' (gen (longF l2 n6) (0 + 1)) ∧ Below w5.heap.size w5 w') := ⟨by rw [gen_succ]; rw [HV.out]; exact h1, HB.out.grown h2 hbs (fun k hk => (HO.out.lt k hk).1)⟩
                clear h1 h2 h3
                go_roundw
                case rel => exact ⟨0 + 1, by omega, by go_num, HF.out.1, HF.out.2⟩
                case measure => simp [intOf]; omega
              · have hib : ((i : Int) == 0) = false := by simp; omega
                have HV : Hid (longF l2 n6 i = 0) := by show _ = _; rw [longF, if_neg hi0, ← hX, hX0]; simp
                clear ho hb hBr hX hX0 hw
                have hlen : (gen (longF l2 n6) i).length + 1 ≤ 1000000000000 := by rw [gen_len]; omega
                go_wp2_with (at_builtin; refine wpApp1 rfl _ _ rfl w5.heap.size u16 (gen (longF l2 n6) i) 0 rfl (by exact HO.out) rfl hlen (by exact hbs) ?_; intro v' w' h1 h2 h3)
                have HF : Hid (OI w' w5.heap.size v' (gen (longF l2 n6) (i + 1)) ∧ Below w5.heap.size w5 w') := ⟨by rw [gen_succ]; rw [HV.out]; exact h1, HB.out.grown h2 hbs (fun k hk => (HO.out.lt k hk).1)⟩
                clear h1 h2 h3
                go_roundw
                case rel => exact ⟨i + 1, by omega, by go_num, HF.out.1, HF.out.2⟩
                case measure => simp [intOf]; omega
          · obtain rfl : i = n4 := by omega
            have hgb := bnext g6 (hb.mono (Nat.le_refl _)) g6.size
            obtain ⟨A10, n10, c10, rfl, r10, hc10, hc10', _⟩ := ho.form
            have hn10 : n10 = i := by rw [← r10.1, gen_len]
            subst hn10
            obtain ⟨ad3, hA3, hcl3⟩ := r10.cell (k := 0) (by omega)
            subst hA3
            obtain ⟨X0, hX0⟩ : ∃ X0, X0 = nth l2 0 := ⟨_, rfl⟩
            have hX0r : 0 ≤ X0 ∧ X0 ≤ 6 := by
              rw [hX0]
              by_cases hz : 0 < l2.length
              · have := HSH2.out.pos 0 hz
                have := HHN.out
                omega
              · rw [nth_ge (by omega)]; omega
            have hv0 : nth (gen (longF l2 n6) n10) 0 = X0 + n6 := by rw [nth_gen (by omega), longF, if_pos rfl, hX0]
            rw [hv0] at hcl3
            have hd16 : decide (16 < X0 + (n6 : Int)) = false := decide_eq_false (by omega)
            have HR10 := Lib.hid r10
            have HB := Lib.hid (HB5.out.trans (hb.mono HB5.out.size))
            have hcl3' : wr.cell? ad3 = some (.int .i64 (X0 + (n6 : Int))) := hcl3
            have hbl := lbare_any (w := wr) c10 HR10.out (by omega) hc10
            rw [← HKN.out] at hbl
            obtain ⟨S, hS⟩ : ∃ S, S = bare (longW l2 n10 n6) := ⟨_, rfl⟩
            rw [← hS] at hbl
            have E5' : Hid ((wrapB S n10 n6).1.1 = 1) := by rw [hS]; exact E5.out
            have E6' : Hid ((wrapB S n10 n6).2 = true) := by rw [hS]; exact E6.out
            have E7' : Hid (sumL (wrapB S n10 n6).1.2.1 = sumL l2) := by rw [hS]; exact E7.out
            have E9' : Hid (isShapeB (wrapB S n10 n6).1.2.1 = true) := by rw [hS]; exact E7b.out
            have hSl : S.length ≤ 1000 := by rw [hS]; unfold bare; rw [List.length_take, longW, gen_len]; omega
            have HBL := Lib.hid hbl
            clear hS hbl hX0 hv0 ho hb r10 hcl3
            go_wp2_with fail
            refine HBL.out.mono ?_
            rintro e w6 ⟨A11, n11, c11, rfl, o11, r11, ⟨cp11, le11⟩, b11⟩
            have hg7 := bnext hgb b11 hgb.size
            have HB6 := Lib.hid (HB.out.trans (b11.mono HB.out.size))
            have hn11 : n11 ≤ 1000 := by rw [← r11.1]; exact hSl
            have hwp := iWrap_any c11 (n10 : Int) (n6 : Int) r11 (by omega)
            rw [E5'.out, E6'.out] at hwp
            obtain ⟨T1, hT1⟩ : ∃ T, T = (wrapB S n10 n6).1.2.1 := ⟨_, rfl⟩
            obtain ⟨C1, hC1⟩ : ∃ C, C = (wrapB S n10 n6).1.2.2 := ⟨_, rfl⟩
            have E8 : Hid (sumL T1 = sumL l2) := by rw [hT1]; exact E7'.out
            have E9 : Hid (isShapeB T1 = true) := by rw [hT1]; exact E9'.out
            rw [← hT1, ← hC1] at hwp
            have HWP := Lib.hid hwp
            clear hwp hT1 hC1 o11 r11 b11
            go_wp2_with fail
            refine HWP.out.mono ?_
            rintro e w7 ⟨A12, n12, c12, rfl, o12, cp12, b12⟩
            have hg8 := bnext hg7 b12 hg7.size
            have HB7 := Lib.hid (HB6.out.trans (b12.mono HB6.out.size))
            have HO12 := Lib.hid o12
            clear o12 b12
            go_wp2_with fail
            obtain ⟨w8, ew8⟩ : ∃ W : World, W = w7.alloc (.cells #[.int .i64 1, .slice A12 n12 c12, .int .i64 C1] 46) := ⟨_, rfl⟩
            have b8x : Below w7.heap.size w7 w8 := by rw [ew8]; exact (Below.refl _ _).alloc (Nat.le_refl _) _
            obtain ⟨G8, hG8⟩ : ∃ g, g = w7.heap.size := ⟨_, rfl⟩
            have KQ : Hid (BK w8 G8 46 [.int .i64 1, .slice A12 n12 c12, .int .i64 C1]) := by rw [ew8, hG8]; exact BK.new w7 _ _
            rw [← ew8, ← hG8]
            clear ew8 hG8
            have HB8 := Lib.hid (HB7.out.trans (b8x.mono HB7.out.size))
            have hg9 := bnext hg8 b8x hg8.size
            have hwp2 := iWrap_any c2 (n10 : Int) (n6 : Int) (HO2.out.ri.below HB8.out) (by omega)
            rw [E4.out] at hwp2
            have HO12c := Lib.hid (HO12.out.below b8x)
            clear b8x
            refine hwp2.mono ?_
            rintro e w9 ⟨A13, n13, c13, rfl, o13, cp13, b13⟩
            have KQ9 := Lib.hid (KQ.out.below b13 KQ.out.lt)
            have HO12b := Lib.hid (HO12c.out.below b13)
            have HB9 := Lib.hid (HB8.out.trans (b13.mono HB8.out.size))
            have hg10 := bnext hg9 b13 hg9.size
            have HO13 := Lib.hid o13
            clear o13 b13 hwp2
            go_wp2_with fail
            obtain ⟨wx, ewx⟩ : ∃ W : World, W = w9.alloc (.cells #[.int .i64 0, .slice A13 n13 c13, .int .i64 1] 46) := ⟨_, rfl⟩
            have bx : Below w9.heap.size w9 wx := by rw [ewx]; exact (Below.refl _ _).alloc (Nat.le_refl _) _
            obtain ⟨G9, hG9⟩ : ∃ g, g = w9.heap.size := ⟨_, rfl⟩
            have KR : Hid (BK wx G9 46 [.int .i64 0, .slice A13 n13 c13, .int .i64 1]) := by rw [ewx, hG9]; exact BK.new w9 _ _
            rw [← ewx, ← hG9]
            clear ewx hG9
            have KQX := Lib.hid (KQ9.out.below bx KQ9.out.lt)
            have hg11 := bnext hg10 bx hg10.size
            have HRB := Lib.hid ((HO2.out.ri.below HB9.out).below bx)
            have hl2n : n2 ≤ 6 := hn2
            have hs12 : T1.length ≤ 16 := by
              have := E9.out
              unfold isShapeB at this
              rw [Bool.and_eq_true] at this
              exact of_decide_eq_true this.1
            have hn12 : n12 ≤ 16 := by rw [← HO12b.out.ri.1]; exact hs12
            have hn13 : n13 ≤ 6 := by rw [← HO13.out.ri.1, HRB.out.1]; exact hn2
            obtain ⟨Z, hZ⟩ : ∃ Z, Z = sumL l2 := ⟨_, rfl⟩
            have HC2 : Hid (∀ W, Below wx.heap.size wx W → Calls Try.prog 27 #[.slice A13 n13 c13, .slice A2 n2 c2] W (Gives W (.bool true))) := fun W bW => ints_any true _ _ ((HO13.out.below bx).ri.below bW) (HRB.out.below bW) (by simp) (by omega) (by omega)
            have HS1 : Hid (∀ W, Below wx.heap.size wx W → Calls Try.prog 28 #[.slice A12 n12 c12] W (Gives W (.int .i64 Z))) := fun W bW => by rw [hZ, ← E8.out]; exact lsum_any _ ((HO12b.out.below bx).ri.below bW) (small_shape E9.out) (by omega)
            have HS2 : Hid (∀ W, Below wx.heap.size wx W → Calls Try.prog 28 #[.slice A2 n2 c2] W (Gives W (.int .i64 Z))) := fun W bW => by rw [hZ]; exact lsum_any _ (HRB.out.below bW) (fun j hj => by have := HSH2.out.pos j hj; have := HHN.out; omega) (by omega)
            have HX2 : Hid (wx.cell? ⟨G9, 0, none⟩ = some (.int .i64 0) ∧ wx.cell? ⟨G9, 2, none⟩ = some (.int .i64 1) ∧ wx.cell? ⟨G9, 1, none⟩ = some (.slice A13 n13 c13) ∧ wx.cell? ⟨G8, 0, none⟩ = some (.int .i64 1) ∧ wx.cell? ⟨G8, 1, none⟩ = some (.slice A12 n12 c12)) :=
              ⟨KR.out.cell (j := 0) rfl, KR.out.cell (j := 2) rfl, KR.out.cell (j := 1) rfl, KQX.out.cell (j := 0) rfl, KQX.out.cell (j := 1) rfl⟩
            have hZZ : (Z == Z) = true := by simp
            clear hZ bx
            obtain ⟨f1, f2, f3, f4, f5⟩ := HX2.out
            refine (HC2.out _ (Below.refl _ _)).mono ?_
            rintro e w6 ⟨rfl, q6, rfl⟩
            go_wp2_with fail
            refine (HS1.out _ (Quiet.below ⟨_, rfl⟩)).mono ?_
            rintro e w6 ⟨rfl, q7, rfl⟩
            rw [World.drewN_drewN]
            go_wp2_with fail
            refine (HS2.out _ (Quiet.below ⟨_, rfl⟩)).mono ?_
            rintro e w6 ⟨rfl, q8, rfl⟩
            rw [World.drewN_drewN]
            go_wp2
            go_ret
            exact ⟨rfl, below_drewN hg11 _⟩
  · go_enter Try.func13, Try.ntmps13
    go_wp2_with (go_at_call 19; refine (big_any _).mono ?_; rintro e w' ⟨rfl, q0, rfl⟩)
    go_ret
    exact ⟨rfl, Quiet.below ⟨_, rfl⟩⟩
end Go.Proofs.Ytmodpicemlkbjaa.lawRotated
