/- For every three lists of numbers: the program's WeightedProduct returns what the reference's returns, in new memory, and again so at a second call; the arguments read afterwards as they read before. -/
import Derived.Test.YtnljlophgolejaaWProT
import Derived.Test.YtnljlophgolejaaWords
import Derived.Test.YtnljlophgolejaaPartsB
import Derived.ShutString
import Derived.ChangeOld
namespace Go.Proofs.Ytnljlophgolejaa.lawWeightedProduct
open Go.ChangeShapes Go.WideShapes Go.ChangeAt Go.RowKit
open Go.ChangeMaps (open_string shut_string)


set_option maxHeartbeats 1600000 in
theorem walk {A0 : Option Addr} {n0 : Nat} (c0 : Nat) {l0 : List Int} {A1 : Option Addr} {n1 : Nat} (c1 : Nat) {l1 : List Int} {A2 : Option Addr} {n2 : Nat} (c2 : Nat) {l2 : List Int} {w : World} (hx0 : RI w A0 n0 l0) (hn0 : n0 ≤ 9223372036854775807) (hx1 : RI w A1 n1 l1) (hn1 : n1 ≤ 9223372036854775807) (hx2 : RI w A2 n2 l2) (hn2 : n2 ≤ 9223372036854775807) :
    Calls Try.prog 7 #[.slice A0 n0 c0, .slice A1 n1 c1, .slice A2 n2 c2] w (Law w) := by
  by_cases hbig0 : 1048576 < n0
  · go_enter Try.func7, Try.ntmps7
    go_wp2
    go_ret
    exact ⟨rfl, Below.refl _ _⟩
  by_cases hbig1 : 1048576 < n1
  · go_enter Try.func7, Try.ntmps7
    go_wp2
    go_ret
    exact ⟨rfl, Below.refl _ _⟩
  by_cases hbig2 : 1048576 < n2
  · go_enter Try.func7, Try.ntmps7
    go_wp2
    go_ret
    exact ⟨rfl, Below.refl _ _⟩
  obtain ⟨w0, ew⟩ : ∃ w0 : World, w0 = w := ⟨_, rfl⟩
  subst ew
  obtain ⟨hlen0, hsml0⟩ := wpB_small (a := l0) (b := l1) (Y := l2)
  have HSB0 := Lib.hid (smallF_16z hsml0)
  have HS0 := Lib.hid (smallF_of (fun k hk => Nat.le_trans (hsml0 _ (nthP_mem hk)) (by omega)))
  clear hsml0
  go_enter Try.func7, Try.ntmps7
  go_wp2_with fail
  refine (toI_any _ hx0 (by omega)).mono ?_
  rintro e w1 ⟨A1s, m1, c1s, rfl, o1, r1, ⟨cp1, le1⟩, b1⟩
  obtain rfl : n0 = m1 := hx0.1.symm.trans r1.1
  have s1_ := b1.size
  have g1 : Below w0.heap.size w0 w1 := b1
  have rg_t1 := o1.lt
  go_wp2_with fail
  refine (toI_any _ (hx1.below g1) (by omega)).mono ?_
  rintro e w2 ⟨A2s, m2, c2s, rfl, o2, r2, ⟨cp2, le2⟩, b2⟩
  obtain rfl : n1 = m2 := hx1.1.symm.trans r2.1
  have s2_ := b2.size
  have g2 := bnext g1 b2 g1.size
  have rg_t2 := o2.lt
  go_wp2_with fail
  refine (toI_any _ (hx2.below g2) (by omega)).mono ?_
  rintro e w3 ⟨A3s, m3, c3s, rfl, o3, r3, ⟨cp3, le3⟩, b3⟩
  obtain rfl : n2 = m3 := hx2.1.symm.trans r3.1
  have s3_ := b3.size
  have g3 := bnext g2 b3 g2.size
  have rg_t3 := o3.lt
  go_wp2_with fail
  refine (sWPro_any _ _ _ ((o1.below b2).below b3).ri (o2.below b3).ri o3.ri (by omega) (by omega) (by omega)).mono ?_
  rintro e w4 ⟨A4s0, m4_0, c4s0, cs4_0, rfl, o4_0, r4_0, ⟨cp4_0, le4_0⟩, b4⟩
  have s4_ := b4.size
  have g4 := bnext g3 b4 g3.size
  clear r4_0
  have rg_t4_0 := OF.in_ o4_0 (Nat.le_refl _)
  go_wp2_with fail
  refine (toI_any _ (hx0.below g4) (by omega)).mono ?_
  rintro e w5 ⟨A5s, m5, c5s, rfl, o5, r5, ⟨cp5, le5⟩, b5⟩
  obtain rfl : n0 = m5 := hx0.1.symm.trans r5.1
  have s5_ := b5.size
  have g5 := bnext g4 b5 g4.size
  have rg_t5 := o5.lt
  go_wp2_with fail
  refine (toI_any _ (hx1.below g5) (by omega)).mono ?_
  rintro e w6 ⟨A6s, m6, c6s, rfl, o6, r6, ⟨cp6, le6⟩, b6⟩
  obtain rfl : n1 = m6 := hx1.1.symm.trans r6.1
  have s6_ := b6.size
  have g6 := bnext g5 b6 g5.size
  have rg_t6 := o6.lt
  go_wp2_with fail
  refine (toI_any _ (hx2.below g6) (by omega)).mono ?_
  rintro e w7 ⟨A7s, m7, c7s, rfl, o7, r7, ⟨cp7, le7⟩, b7⟩
  obtain rfl : n2 = m7 := hx2.1.symm.trans r7.1
  have s7_ := b7.size
  have g7 := bnext g6 b7 g6.size
  have rg_t7 := o7.lt
  go_wp2_with fail
  refine (iWPro_any _ _ _ ((o5.below b6).below b7).ri (o6.below b7).ri o7.ri (by omega) (by omega) (by omega)).mono ?_
  rintro e w8 ⟨A8s0, m8_0, c8s0, cs8_0, rfl, o8_0, r8_0, ⟨cp8_0, le8_0⟩, b8⟩
  have s8_ := b8.size
  have g8 := bnext g7 b8 g7.size
  clear r8_0
  have rg_t8_0 := OF.in_ o8_0 (Nat.le_refl _)
  go_wp2_with fail
  refine (eqPartS_big o8_0 ((((o4_0.below b5).below b6).below b7).below b8) (by omega)).mono ?_
  rintro e w9 ⟨rfl, b9⟩
  have s9_ := b9.size
  have g9 := bnext g8 b9 g8.size
  go_wp2_with fail
  refine (toI_any _ (hx0.below g9) (by omega)).mono ?_
  rintro e w10 ⟨A10s, m10, c10s, rfl, o10, r10, ⟨cp10, le10⟩, b10⟩
  obtain rfl : n0 = m10 := hx0.1.symm.trans r10.1
  have s10_ := b10.size
  have g10 := bnext g9 b10 g9.size
  have rg_t10 := o10.lt
  go_wp2_with fail
  refine (eqI_any true _ _ (((((o5.below b6).below b7).below b8).below b9).below b10).ri o10.ri (by simp) (by omega) (by omega)).mono ?_
  rintro e w11 ⟨rfl, q11⟩
  have b11 := q11.below (B := w10.heap.size)
  have s11_ := b11.size
  have g11 := bnext g10 b11 g10.size
  go_wp2_with fail
  refine (toI_any _ (hx1.below g11) (by omega)).mono ?_
  rintro e w12 ⟨A12s, m12, c12s, rfl, o12, r12, ⟨cp12, le12⟩, b12⟩
  obtain rfl : n1 = m12 := hx1.1.symm.trans r12.1
  have s12_ := b12.size
  have g12 := bnext g11 b12 g11.size
  have rg_t12 := o12.lt
  go_wp2_with fail
  refine (eqI_any true _ _ ((((((o6.below b7).below b8).below b9).below b10).below b11).below b12).ri o12.ri (by simp) (by omega) (by omega)).mono ?_
  rintro e w13 ⟨rfl, q13⟩
  have b13 := q13.below (B := w12.heap.size)
  have s13_ := b13.size
  have g13 := bnext g12 b13 g12.size
  go_wp2_with fail
  refine (toI_any _ (hx2.below g13) (by omega)).mono ?_
  rintro e w14 ⟨A14s, m14, c14s, rfl, o14, r14, ⟨cp14, le14⟩, b14⟩
  obtain rfl : n2 = m14 := hx2.1.symm.trans r14.1
  have s14_ := b14.size
  have g14 := bnext g13 b14 g13.size
  have rg_t14 := o14.lt
  go_wp2_with fail
  refine (eqI_any true _ _ (((((((o7.below b8).below b9).below b10).below b11).below b12).below b13).below b14).ri o14.ri (by simp) (by omega) (by omega)).mono ?_
  rintro e w15 ⟨rfl, q15⟩
  have b15 := q15.below (B := w14.heap.size)
  have s15_ := b15.size
  have g15 := bnext g14 b15 g14.size
  go_wp2_with fail
  refine (markI_any (1) ((((((((((o5.below b6).below b7).below b8).below b9).below b10).below b11).below b12).below b13).below b14).below b15) (by omega) (by omega) (by omega)).mono ?_
  rintro e w16 ⟨rfl, p16, s16⟩
  have v16 := grown_within s16 rg_t5
  have s16_ := v16.size
  have g16 := below_within g15 v16 (by omega) g15.size
  go_wp2_with fail
  refine (markI_any (1 + (n0 : Int)) ((((((((((o6.below b7).below b8).below b9).below b10).below b11).below b12).below b13).below b14).below b15).within v16 (range_apart rg_t6 (by omega))) (by omega) (by omega) (by omega)).mono ?_
  rintro e w17 ⟨rfl, p17, s17⟩
  have v17 := grown_within s17 rg_t6
  have s17_ := v17.size
  have g17 := below_within g16 v17 (by omega) g16.size
  go_wp2_with fail
  refine (markI_any (1 + (n0 : Int) + (n1 : Int)) ((((((((((o7.below b8).below b9).below b10).below b11).below b12).below b13).below b14).below b15).within v16 (range_apart rg_t7 (by omega))).within v17 (range_apart rg_t7 (by omega))) (by omega) (by omega) (by omega)).mono ?_
  rintro e w18 ⟨rfl, p18, s18⟩
  have v18 := grown_within s18 rg_t7
  have s18_ := v18.size
  have g18 := below_within g17 v18 (by omega) g17.size
  go_wp2_with fail
  refine (eqPartS_big (OF.within (OF.within (OF.within (((((((o8_0.below b9).below b10).below b11).below b12).below b13).below b14).below b15) rg_t8_0 v16 (by omega)) rg_t8_0 v17 (by omega)) rg_t8_0 v18 (by omega)) (OF.within (OF.within (OF.within (((((((((((o4_0.below b5).below b6).below b7).below b8).below b9).below b10).below b11).below b12).below b13).below b14).below b15) rg_t4_0 v16 (by omega)) rg_t4_0 v17 (by omega)) rg_t4_0 v18 (by omega)) (by omega)).mono ?_
  rintro e w19 ⟨rfl, b19⟩
  have s19_ := b19.size
  have g19 := bnext g18 b19 g18.size
  go_wp2_with fail
  refine (markPartS_big (1) ((OF.within (OF.within (OF.within (((((((o8_0.below b9).below b10).below b11).below b12).below b13).below b14).below b15) rg_t8_0 v16 (by omega)) rg_t8_0 v17 (by omega)) rg_t8_0 v18 (by omega)).below b19) rg_t8_0 (by omega) (by omega) (by omega) HSB0.out).mono ?_
  rintro e w20 ⟨cs20, rfl, p20, v20⟩
  have hk20 := kF_pos HS0.out (show (0 : Int) ≤ 1 by omega) ((wpB l0 l1 l2).length * 2)
  have s20_ := v20.size
  have g20 := below_within g19 v20 (by omega) g19.size
  go_wp2_with fail
  refine (heldPartS_big (1) p20 (by omega) (by omega) (by omega) HSB0.out).mono ?_
  rintro e w21 ⟨rfl, q21⟩
  have b21 := q21.below (B := w20.heap.size)
  have s21_ := b21.size
  have g21 := bnext g20 b21 g20.size
  go_wp2_with fail
  refine (toI_any _ (hx0.below g21) (by omega)).mono ?_
  rintro e w22 ⟨A22s, m22, c22s, rfl, o22, r22, ⟨cp22, le22⟩, b22⟩
  obtain rfl : n0 = m22 := hx0.1.symm.trans r22.1
  have s22_ := b22.size
  have g22 := bnext g21 b22 g21.size
  have rg_t22 := o22.lt
  go_wp2_with fail
  refine (toI_any _ (hx1.below g22) (by omega)).mono ?_
  rintro e w23 ⟨A23s, m23, c23s, rfl, o23, r23, ⟨cp23, le23⟩, b23⟩
  obtain rfl : n1 = m23 := hx1.1.symm.trans r23.1
  have s23_ := b23.size
  have g23 := bnext g22 b23 g22.size
  have rg_t23 := o23.lt
  go_wp2_with fail
  refine (toI_any _ (hx2.below g23) (by omega)).mono ?_
  rintro e w24 ⟨A24s, m24, c24s, rfl, o24, r24, ⟨cp24, le24⟩, b24⟩
  obtain rfl : n2 = m24 := hx2.1.symm.trans r24.1
  have s24_ := b24.size
  have g24 := bnext g23 b24 g23.size
  have rg_t24 := o24.lt
  go_wp2_with fail
  refine (iWPro_any _ _ _ ((o22.below b23).below b24).ri (o23.below b24).ri o24.ri (by omega) (by omega) (by omega)).mono ?_
  rintro e w25 ⟨A25s0, m25_0, c25s0, cs25_0, rfl, o25_0, r25_0, ⟨cp25_0, le25_0⟩, b25⟩
  have s25_ := b25.size
  have g25 := bnext g24 b25 g24.size
  clear r25_0
  have rg_t25_0 := OF.in_ o25_0 (Nat.le_refl _)
  go_wp2_with fail
  refine (eqPartS_big o25_0 ((((((OF.within ((OF.within (OF.within (OF.within (((((((((((o4_0.below b5).below b6).below b7).below b8).below b9).below b10).below b11).below b12).below b13).below b14).below b15) rg_t4_0 v16 (by omega)) rg_t4_0 v17 (by omega)) rg_t4_0 v18 (by omega)).below b19) rg_t4_0 v20 (by omega)).below b21).below b22).below b23).below b24).below b25) (by omega)).mono ?_
  rintro e w26 ⟨rfl, b26⟩
  have s26_ := b26.size
  have g26 := bnext g25 b26 g25.size
  go_wp2_with fail
  refine (heldPartS_big (1) ((((((p20.below b21).below b22).below b23).below b24).below b25).below b26) (by omega) (by omega) (by omega) HSB0.out).mono ?_
  rintro e w27 ⟨rfl, q27⟩
  have b27 := q27.below (B := w26.heap.size)
  have s27_ := b27.size
  have g27 := bnext g26 b27 g26.size
  go_wp2
  go_ret
  exact ⟨rfl, g27⟩

set_option maxRecDepth 100000 in
theorem lifted (os : Os) (started : os.Started) (H : Type) (enc : TypeId × Value → H) :
    ReturnsInHanded {} Try.checked os 7 .any (Rows.fnExactWeightedProductSpec.pre6 enc Try.prog Try.f7 Rows.fnExactWeightedProductRow.domain false) (Rows.fnExactWeightedProductSpec.post enc Try.prog Try.f7 false true false false) := by
  refine returnsInHanded_of_change (C := Try.checked) own started (by kernel_rfl) Try.func7
    (ChangeSpec.witness6 (enc := enc) (C := Try.checked) false ⟨#[], #[.slice none 0 0, .slice none 0 0, .slice none 0 0], []⟩ 8 (by kernel_rfl) (by kernel_rfl) (by kernel_rfl) (by kernel_rfl)) ?_
  intro W base args ds gs before hval0 hW hcnd _
  have hval : ∀ (j : Nat) t v, Try.f7.params[j]? = some t → args[j]? = some v → Value.okWide Try.prog W .any base t v := hval0
  have hW' := hW
  obtain ⟨p, q, hA0, hV, rfl, hfz, hnd⟩ := hW
  have hA : DataW.TrodAll enc Try.prog W 0 (fun _ => true) true Try.f7.params.toList args.toList ds p := hA0
  rw [Try.params7] at hA hval
  obtain ⟨v0, vs0, d0, ds0, p0, q0, hargs, rfl, rfl, h0, r0⟩ := trodAll_cons hA
  obtain ⟨v1, vs1, d1, ds1, p1, q1, rfl, rfl, rfl, h1, r1⟩ := trodAll_cons r0
  obtain ⟨v2, vs2, d2, ds2, p2, q2, rfl, rfl, rfl, h2, r2⟩ := trodAll_cons r1
  obtain ⟨rfl, rfl, rfl⟩ := trodAll_nil r2
  obtain rfl : args = #[v0, v1, v2] := by cases args; simp_all
  obtain ⟨rfl, rfl⟩ := trodVars_none hV
  obtain ⟨a0, len0, cap0, rfl⟩ := okWide_slice Try.underlying22 (hval 0 22 v0 rfl rfl)
  have k0 := h0
  have lt0 : ∀ x ∈ p0, x.block < W.heap.size := by obtain ⟨m, hm⟩ := k0; exact DataW.trod_lt m _ _ _ hm
  obtain ⟨l0, x0, y0⟩ := open_RI h0
  obtain ⟨a1, len1, cap1, rfl⟩ := okWide_slice Try.underlying22 (hval 1 22 v1 rfl rfl)
  have k1 := h1
  have lt1 : ∀ x ∈ p1, x.block < W.heap.size := by obtain ⟨m, hm⟩ := k1; exact DataW.trod_lt m _ _ _ hm
  obtain ⟨l1, x1, y1⟩ := open_RI h1
  obtain ⟨a2, len2, cap2, rfl⟩ := okWide_slice Try.underlying22 (hval 2 22 v2 rfl rfl)
  have k2 := h2
  have lt2 : ∀ x ∈ p2, x.block < W.heap.size := by obtain ⟨m, hm⟩ := k2; exact DataW.trod_lt m _ _ _ hm
  obtain ⟨l2, x2, y2⟩ := open_RI h2
  clear hA0 hval0
  refine (walk cap0 cap1 cap2 x0 y0 x1 y1 x2 y2).mono fun e W' ⟨he, bel⟩ => ?_
  subst he
  exact ⟨_, rfl, _, _, _, [], _, [], hW', trodAll_mk1 (shut_bool Try.underlying4 _), (trodAll_cons_mk (Below.trod laidOut (by kernel_rfl) (of_decide_eq_true (by kernel_rfl)) k0 bel lt0) (trodAll_cons_mk (Below.trod laidOut (by kernel_rfl) (of_decide_eq_true (by kernel_rfl)) k1 bel lt1) (trodAll_cons_mk (Below.trod laidOut (by kernel_rfl) (of_decide_eq_true (by kernel_rfl)) k2 bel lt2) trodAll_mk0))), rfl, bel.frame _, fun h => by cases h⟩

theorem over : Rows.fnExactWeightedProductRow.holds Try.pinned (OpenSpec.ofChange Rows.fnExactWeightedProductSpec) :=
  OpenClaim.holds_of_wide 7 Try.f7 rfl rfl rfl rfl rfl rfl rfl ⟨rfl, rfl, rfl, rfl, rfl⟩ rfl rfl rfl rfl rfl (by kernel_rfl) Try.func7 (by kernel_rfl)
    (of_decide_eq_true (by kernel_rfl)) (by unfold Func.isWrapper; first | (rw [if_pos (by decide +kernel)]; kernel_rfl) | (rw [if_neg (by decide +kernel)]; exact ⟨rfl, rfl⟩))
    (fun os started H enc _ => lifted os started H enc)

theorem proved : Rows.FnExactWeightedProductSaid := over
end Go.Proofs.Ytnljlophgolejaa.lawWeightedProduct
