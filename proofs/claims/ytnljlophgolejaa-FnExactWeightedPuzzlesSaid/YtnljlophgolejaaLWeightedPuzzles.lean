/- For every two lists of numbers: the program's WeightedPuzzles returns what the reference's returns, in new memory, and again so at a second call; the arguments read afterwards as they read before. -/
import Derived.Test.YtnljlophgolejaaPzOf
import Derived.Test.YtnljlophgolejaaZMark
import Derived.Test.YtnljlophgolejaaWords
import Derived.ShutString
import Derived.ChangeOld
namespace Go.Proofs.Ytnljlophgolejaa.lawWeightedPuzzles
open Go.ChangeShapes Go.WideShapes Go.ChangeAt Go.RowKit
open Go.ChangeMaps (open_string shut_string)


set_option maxHeartbeats 1600000 in
theorem walk {A0 : Option Addr} {n0 : Nat} (c0 : Nat) {l0 : List Int} {A1 : Option Addr} {n1 : Nat} (c1 : Nat) {l1 : List Int} {w : World} (hx0 : RI w A0 n0 l0) (hn0 : n0 ≤ 9223372036854775807) (hx1 : RI w A1 n1 l1) (hn1 : n1 ≤ 9223372036854775807) :
    Calls Try.prog 5 #[.slice A0 n0 c0, .slice A1 n1 c1] w (Law w) := by
  by_cases hbig0 : 1048576 < n0
  · go_enter Try.func5, Try.ntmps5
    go_wp2
    go_ret
    exact ⟨rfl, Below.refl _ _⟩
  by_cases hbig1 : 1048576 < n1
  · go_enter Try.func5, Try.ntmps5
    go_wp2
    go_ret
    exact ⟨rfl, Below.refl _ _⟩
  obtain ⟨w0, ew⟩ : ∃ w0 : World, w0 = w := ⟨_, rfl⟩
  subst ew
  obtain ⟨hlen0, hsml0⟩ := pzB_small (wt := true) (a := l0) (b := l1)
  have HS0 := Lib.hid (smallZ_of (n := (l0.length : Int)) hsml0)
  clear hsml0
  go_enter Try.func5, Try.ntmps5
  go_wp2_with fail
  refine (toI_any _ hx0 (by omega)).mono ?_
  rintro e w1 ⟨A1s, m1, c1s, rfl, o1, r1, ⟨cp1, le1⟩, b1⟩
  obtain rfl : n0 = m1 := hx0.1.symm.trans r1.1
  have s1_ := b1.size
  have g1 : Below w0.heap.size w0 w1 := b1
  have rg_t1 := o1.lt
  go_wp2_with fail
  refine (toI_any _ (hx1.below g1) (by omega)).mono ?_
  rintro e w2 ⟨A2s, m2, c2s, rfl, o2, r2, ⟨cp2, le2⟩, b2⟩
  obtain rfl : n1 = m2 := hx1.1.symm.trans r2.1
  have s2_ := b2.size
  have g2 := bnext g1 b2 g1.size
  have rg_t2 := o2.lt
  go_wp2_with fail
  refine (sWPz_any _ _ (o1.below b2).ri o2.ri (by omega) (by omega)).mono ?_
  rintro e w3 ⟨A3s0, m3_0, c3s0, cs3_0, rfl, o3_0, r3_0, ⟨cp3_0, le3_0⟩, b3⟩
  have s3_ := b3.size
  have g3 := bnext g2 b3 g2.size
  clear r3_0
  have rg_t3_0 := OF.in_ o3_0 (Nat.le_refl _)
  go_wp2_with fail
  refine (toI_any _ (hx0.below g3) (by omega)).mono ?_
  rintro e w4 ⟨A4s, m4, c4s, rfl, o4, r4, ⟨cp4, le4⟩, b4⟩
  obtain rfl : n0 = m4 := hx0.1.symm.trans r4.1
  have s4_ := b4.size
  have g4 := bnext g3 b4 g3.size
  have rg_t4 := o4.lt
  go_wp2_with fail
  refine (toI_any _ (hx1.below g4) (by omega)).mono ?_
  rintro e w5 ⟨A5s, m5, c5s, rfl, o5, r5, ⟨cp5, le5⟩, b5⟩
  obtain rfl : n1 = m5 := hx1.1.symm.trans r5.1
  have s5_ := b5.size
  have g5 := bnext g4 b5 g4.size
  have rg_t5 := o5.lt
  go_wp2_with fail
  refine (iWPz_any _ _ (o4.below b5).ri o5.ri (by omega) (by omega)).mono ?_
  rintro e w6 ⟨A6s0, m6_0, c6s0, cs6_0, rfl, o6_0, r6_0, ⟨cp6_0, le6_0⟩, b6⟩
  have s6_ := b6.size
  have g6 := bnext g5 b6 g5.size
  clear r6_0
  have rg_t6_0 := OF.in_ o6_0 (Nat.le_refl _)
  go_wp2_with fail
  refine (eqPuzzleS_any o6_0 (((o3_0.below b4).below b5).below b6) (by omega)).mono ?_
  rintro e w7 ⟨rfl, b7⟩
  have s7_ := b7.size
  have g7 := bnext g6 b7 g6.size
  go_wp2_with fail
  refine (toI_any _ (hx0.below g7) (by omega)).mono ?_
  rintro e w8 ⟨A8s, m8, c8s, rfl, o8, r8, ⟨cp8, le8⟩, b8⟩
  obtain rfl : n0 = m8 := hx0.1.symm.trans r8.1
  have s8_ := b8.size
  have g8 := bnext g7 b8 g7.size
  have rg_t8 := o8.lt
  go_wp2_with fail
  refine (eqI_any true _ _ ((((o4.below b5).below b6).below b7).below b8).ri o8.ri (by simp) (by omega) (by omega)).mono ?_
  rintro e w9 ⟨rfl, q9⟩
  have b9 := q9.below (B := w8.heap.size)
  have s9_ := b9.size
  have g9 := bnext g8 b9 g8.size
  go_wp2_with fail
  refine (toI_any _ (hx1.below g9) (by omega)).mono ?_
  rintro e w10 ⟨A10s, m10, c10s, rfl, o10, r10, ⟨cp10, le10⟩, b10⟩
  obtain rfl : n1 = m10 := hx1.1.symm.trans r10.1
  have s10_ := b10.size
  have g10 := bnext g9 b10 g9.size
  have rg_t10 := o10.lt
  go_wp2_with fail
  refine (eqI_any true _ _ (((((o5.below b6).below b7).below b8).below b9).below b10).ri o10.ri (by simp) (by omega) (by omega)).mono ?_
  rintro e w11 ⟨rfl, q11⟩
  have b11 := q11.below (B := w10.heap.size)
  have s11_ := b11.size
  have g11 := bnext g10 b11 g10.size
  go_wp2_with fail
  refine (markI_any (1) (((((((o4.below b5).below b6).below b7).below b8).below b9).below b10).below b11) (by omega) (by omega) (by omega)).mono ?_
  rintro e w12 ⟨rfl, p12, s12⟩
  have v12 := grown_within s12 rg_t4
  have s12_ := v12.size
  have g12 := below_within g11 v12 (by omega) g11.size
  go_wp2_with fail
  refine (markI_any (1 + (n0 : Int)) (((((((o5.below b6).below b7).below b8).below b9).below b10).below b11).within v12 (range_apart rg_t5 (by omega))) (by omega) (by omega) (by omega)).mono ?_
  rintro e w13 ⟨rfl, p13, s13⟩
  have v13 := grown_within s13 rg_t5
  have s13_ := v13.size
  have g13 := below_within g12 v13 (by omega) g12.size
  go_wp2_with fail
  refine (eqPuzzleS_any (OF.within (OF.within (((((o6_0.below b7).below b8).below b9).below b10).below b11) rg_t6_0 v12 (by omega)) rg_t6_0 v13 (by omega)) (OF.within (OF.within ((((((((o3_0.below b4).below b5).below b6).below b7).below b8).below b9).below b10).below b11) rg_t3_0 v12 (by omega)) rg_t3_0 v13 (by omega)) (by omega)).mono ?_
  rintro e w14 ⟨rfl, b14⟩
  have s14_ := b14.size
  have g14 := bnext g13 b14 g13.size
  go_wp2_with fail
  refine (markPuzzleS_any (1) ((OF.within (OF.within (((((o6_0.below b7).below b8).below b9).below b10).below b11) rg_t6_0 v12 (by omega)) rg_t6_0 v13 (by omega)).below b14) rg_t6_0 (by omega) (by omega) (by omega) HS0.out).mono ?_
  rintro e w15 ⟨cs15, rfl, p15, v15⟩
  have hk15 := kF_pos HS0.out (show (0 : Int) ≤ 1 by omega) ((pzB true l0 l1).length * 4)
  have s15_ := v15.size
  have g15 := below_within g14 v15 (by omega) g14.size
  go_wp2_with fail
  refine (heldPuzzleS_any (1) p15 (by omega) (by omega) (by omega) HS0.out).mono ?_
  rintro e w16 ⟨rfl, q16⟩
  have b16 := q16.below (B := w15.heap.size)
  have s16_ := b16.size
  have g16 := bnext g15 b16 g15.size
  go_wp2_with fail
  refine (toI_any _ (hx0.below g16) (by omega)).mono ?_
  rintro e w17 ⟨A17s, m17, c17s, rfl, o17, r17, ⟨cp17, le17⟩, b17⟩
  obtain rfl : n0 = m17 := hx0.1.symm.trans r17.1
  have s17_ := b17.size
  have g17 := bnext g16 b17 g16.size
  have rg_t17 := o17.lt
  go_wp2_with fail
  refine (toI_any _ (hx1.below g17) (by omega)).mono ?_
  rintro e w18 ⟨A18s, m18, c18s, rfl, o18, r18, ⟨cp18, le18⟩, b18⟩
  obtain rfl : n1 = m18 := hx1.1.symm.trans r18.1
  have s18_ := b18.size
  have g18 := bnext g17 b18 g17.size
  have rg_t18 := o18.lt
  go_wp2_with fail
  refine (iWPz_any _ _ (o17.below b18).ri o18.ri (by omega) (by omega)).mono ?_
  rintro e w19 ⟨A19s0, m19_0, c19s0, cs19_0, rfl, o19_0, r19_0, ⟨cp19_0, le19_0⟩, b19⟩
  have s19_ := b19.size
  have g19 := bnext g18 b19 g18.size
  clear r19_0
  have rg_t19_0 := OF.in_ o19_0 (Nat.le_refl _)
  go_wp2_with fail
  refine (eqPuzzleS_any o19_0 (((((OF.within ((OF.within (OF.within ((((((((o3_0.below b4).below b5).below b6).below b7).below b8).below b9).below b10).below b11) rg_t3_0 v12 (by omega)) rg_t3_0 v13 (by omega)).below b14) rg_t3_0 v15 (by omega)).below b16).below b17).below b18).below b19) (by omega)).mono ?_
  rintro e w20 ⟨rfl, b20⟩
  have s20_ := b20.size
  have g20 := bnext g19 b20 g19.size
  go_wp2_with fail
  refine (heldPuzzleS_any (1) (((((p15.below b16).below b17).below b18).below b19).below b20) (by omega) (by omega) (by omega) HS0.out).mono ?_
  rintro e w21 ⟨rfl, q21⟩
  have b21 := q21.below (B := w20.heap.size)
  have s21_ := b21.size
  have g21 := bnext g20 b21 g20.size
  go_wp2
  go_ret
  exact ⟨rfl, g21⟩

set_option maxRecDepth 100000 in
theorem lifted (os : Os) (started : os.Started) (H : Type) (enc : TypeId × Value → H) :
    ReturnsInHanded {} Try.checked os 5 .any (Rows.fnExactWeightedPuzzlesSpec.pre6 enc Try.prog Try.f5 Rows.fnExactWeightedPuzzlesRow.domain false) (Rows.fnExactWeightedPuzzlesSpec.post enc Try.prog Try.f5 false true false false) := by
  refine returnsInHanded_of_change (C := Try.checked) own started (by kernel_rfl) Try.func5
    (ChangeSpec.witness6 (enc := enc) (C := Try.checked) false ⟨#[], #[.slice none 0 0, .slice none 0 0], []⟩ 8 (by kernel_rfl) (by kernel_rfl) (by kernel_rfl) (by kernel_rfl)) ?_
  intro W base args ds gs before hval0 hW hcnd _
  have hval : ∀ (j : Nat) t v, Try.f5.params[j]? = some t → args[j]? = some v → Value.okWide Try.prog W .any base t v := hval0
  have hW' := hW
  obtain ⟨p, q, hA0, hV, rfl, hfz, hnd⟩ := hW
  have hA : DataW.TrodAll enc Try.prog W 0 (fun _ => true) true Try.f5.params.toList args.toList ds p := hA0
  rw [Try.params5] at hA hval
  obtain ⟨v0, vs0, d0, ds0, p0, q0, hargs, rfl, rfl, h0, r0⟩ := trodAll_cons hA
  obtain ⟨v1, vs1, d1, ds1, p1, q1, rfl, rfl, rfl, h1, r1⟩ := trodAll_cons r0
  obtain ⟨rfl, rfl, rfl⟩ := trodAll_nil r1
  obtain rfl : args = #[v0, v1] := by cases args; simp_all
  obtain ⟨rfl, rfl⟩ := trodVars_none hV
  obtain ⟨a0, len0, cap0, rfl⟩ := okWide_slice Try.underlying22 (hval 0 22 v0 rfl rfl)
  have k0 := h0
  have lt0 : ∀ x ∈ p0, x.block < W.heap.size := by obtain ⟨m, hm⟩ := k0; exact DataW.trod_lt m _ _ _ hm
  obtain ⟨l0, x0, y0⟩ := open_RI h0
  obtain ⟨a1, len1, cap1, rfl⟩ := okWide_slice Try.underlying22 (hval 1 22 v1 rfl rfl)
  have k1 := h1
  have lt1 : ∀ x ∈ p1, x.block < W.heap.size := by obtain ⟨m, hm⟩ := k1; exact DataW.trod_lt m _ _ _ hm
  obtain ⟨l1, x1, y1⟩ := open_RI h1
  clear hA0 hval0
  refine (walk cap0 cap1 x0 y0 x1 y1).mono fun e W' ⟨he, bel⟩ => ?_
  subst he
  exact ⟨_, rfl, _, _, _, [], _, [], hW', trodAll_mk1 (shut_bool Try.underlying4 _), (trodAll_cons_mk (Below.trod laidOut (by kernel_rfl) (of_decide_eq_true (by kernel_rfl)) k0 bel lt0) (trodAll_cons_mk (Below.trod laidOut (by kernel_rfl) (of_decide_eq_true (by kernel_rfl)) k1 bel lt1) trodAll_mk0)), rfl, bel.frame _, fun h => by cases h⟩

theorem over : Rows.fnExactWeightedPuzzlesRow.holds Try.pinned (OpenSpec.ofChange Rows.fnExactWeightedPuzzlesSpec) :=
  OpenClaim.holds_of_wide 5 Try.f5 rfl rfl rfl rfl rfl rfl rfl ⟨rfl, rfl, rfl, rfl, rfl⟩ rfl rfl rfl rfl rfl (by kernel_rfl) Try.func5 (by kernel_rfl)
    (of_decide_eq_true (by kernel_rfl)) (by unfold Func.isWrapper; first | (rw [if_pos (by decide +kernel)]; kernel_rfl) | (rw [if_neg (by decide +kernel)]; exact ⟨rfl, rfl⟩))
    (fun os started H enc _ => lifted os started H enc)

theorem proved : Rows.FnExactWeightedPuzzlesSaid := over
end Go.Proofs.Ytnljlophgolejaa.lawWeightedPuzzles
