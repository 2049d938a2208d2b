/- For every list of numbers: the program's StanleyShapes returns what the reference's returns, in new memory, and again so at a second call; the argument reads afterwards as it read before. -/
import Derived.Test.YtgbojgmmingfdaaStanW
import Derived.Test.YtgbojgmmingfdaaSStan
import Derived.Test.YtgbojgmmingfdaaWords
import Derived.ShutString
import Derived.ChangeOld
namespace Go.Proofs.Ytgbojgmmingfdaa.lawStanleyShapes
open Go.ChangeShapes Go.WideShapes Go.ChangeAt Go.RowKit
open Go.ChangeMaps (open_string shut_string)


set_option maxHeartbeats 1600000 in
theorem walk {A0 : Option Addr} {n0 : Nat} (c0 : Nat) {l0 : List Int} {w : World} (hx0 : RI w A0 n0 l0) (hn0 : n0 ≤ 9223372036854775807) :
    Calls Try.prog 4 #[.slice A0 n0 c0] w (Law w) := by
  by_cases hbig0 : 1048576 < n0
  · go_enter Try.func4, Try.ntmps4
    go_wp2
    go_ret
    exact ⟨rfl, Below.refl _ _⟩
  obtain ⟨w0, ew⟩ : ∃ w0 : World, w0 = w := ⟨_, rfl⟩
  subst ew
  obtain ⟨hlen0, hsml0⟩ := stanR_small (l := l0)
  have HS0 := Lib.hid (smallF_of hsml0)
  clear hsml0
  go_enter Try.func4, Try.ntmps4
  go_wp2_with fail
  refine (toI_any _ hx0 (by omega)).mono ?_
  rintro e w1 ⟨A1s, m1, c1s, rfl, o1, r1, ⟨cp1, le1⟩, b1⟩
  obtain rfl : n0 = m1 := hx0.1.symm.trans r1.1
  have s1_ := b1.size
  have g1 : Below w0.heap.size w0 w1 := b1
  have rg_t1 := o1.lt
  go_wp2_with fail
  refine (sStan_any _ o1.ri (by omega) (by omega)).mono ?_
  rintro e w2 ⟨A2s0, m2_0, c2s0, cs2_0, rfl, o2_0, r2_0, ⟨cp2_0, le2_0⟩, b2⟩
  have s2_ := b2.size
  have g2 := bnext g1 b2 g1.size
  clear r2_0
  have rg_t2_0 := OF.in_ o2_0 (Nat.le_refl _)
  go_wp2_with fail
  refine (toI_any _ (hx0.below g2) (by omega)).mono ?_
  rintro e w3 ⟨A3s, m3, c3s, rfl, o3, r3, ⟨cp3, le3⟩, b3⟩
  obtain rfl : n0 = m3 := hx0.1.symm.trans r3.1
  have s3_ := b3.size
  have g3 := bnext g2 b3 g2.size
  have rg_t3 := o3.lt
  go_wp2_with fail
  refine (iStan_any _ o3.ri (by omega)).mono ?_
  rintro e w4 ⟨A4s0, m4_0, c4s0, cs4_0, rfl, o4_0, r4_0, ⟨cp4_0, le4_0⟩, b4⟩
  have s4_ := b4.size
  have g4 := bnext g3 b4 g3.size
  clear r4_0
  have rg_t4_0 := OF.in_ o4_0 (Nat.le_refl _)
  go_wp2_with fail
  refine (eqPartS_any o4_0 ((o2_0.below b3).below b4) (by omega)).mono ?_
  rintro e w5 ⟨rfl, b5⟩
  have s5_ := b5.size
  have g5 := bnext g4 b5 g4.size
  go_wp2_with fail
  refine (toI_any _ (hx0.below g5) (by omega)).mono ?_
  rintro e w6 ⟨A6s, m6, c6s, rfl, o6, r6, ⟨cp6, le6⟩, b6⟩
  obtain rfl : n0 = m6 := hx0.1.symm.trans r6.1
  have s6_ := b6.size
  have g6 := bnext g5 b6 g5.size
  have rg_t6 := o6.lt
  go_wp2_with fail
  refine (eqI_any true _ _ (((o3.below b4).below b5).below b6).ri o6.ri (by simp) (by omega) (by omega)).mono ?_
  rintro e w7 ⟨rfl, q7⟩
  have b7 := q7.below (B := w6.heap.size)
  have s7_ := b7.size
  have g7 := bnext g6 b7 g6.size
  go_wp2_with fail
  refine (markI_any (1) ((((o3.below b4).below b5).below b6).below b7) (by omega) (by omega) (by omega)).mono ?_
  rintro e w8 ⟨rfl, p8, s8⟩
  have v8 := grown_within s8 rg_t3
  have s8_ := v8.size
  have g8 := below_within g7 v8 (by omega) g7.size
  go_wp2_with fail
  refine (eqPartS_any (OF.within (((o4_0.below b5).below b6).below b7) rg_t4_0 v8 (by omega)) (OF.within (((((o2_0.below b3).below b4).below b5).below b6).below b7) rg_t2_0 v8 (by omega)) (by omega)).mono ?_
  rintro e w9 ⟨rfl, b9⟩
  have s9_ := b9.size
  have g9 := bnext g8 b9 g8.size
  go_wp2_with fail
  refine (markPartS_any (1) ((OF.within (((o4_0.below b5).below b6).below b7) rg_t4_0 v8 (by omega)).below b9) rg_t4_0 (by omega) (by omega) (by omega) HS0.out).mono ?_
  rintro e w10 ⟨cs10, rfl, p10, v10⟩
  have hk10 := kF_pos HS0.out (show (0 : Int) ≤ 1 by omega) ((stanR l0).length * 2)
  have s10_ := v10.size
  have g10 := below_within g9 v10 (by omega) g9.size
  go_wp2_with fail
  refine (heldPartS_any (1) p10 (by omega) (by omega) (by omega) HS0.out).mono ?_
  rintro e w11 ⟨rfl, q11⟩
  have b11 := q11.below (B := w10.heap.size)
  have s11_ := b11.size
  have g11 := bnext g10 b11 g10.size
  go_wp2_with fail
  refine (toI_any _ (hx0.below g11) (by omega)).mono ?_
  rintro e w12 ⟨A12s, m12, c12s, rfl, o12, r12, ⟨cp12, le12⟩, b12⟩
  obtain rfl : n0 = m12 := hx0.1.symm.trans r12.1
  have s12_ := b12.size
  have g12 := bnext g11 b12 g11.size
  have rg_t12 := o12.lt
  go_wp2_with fail
  refine (iStan_any _ o12.ri (by omega)).mono ?_
  rintro e w13 ⟨A13s0, m13_0, c13s0, cs13_0, rfl, o13_0, r13_0, ⟨cp13_0, le13_0⟩, b13⟩
  have s13_ := b13.size
  have g13 := bnext g12 b13 g12.size
  clear r13_0
  have rg_t13_0 := OF.in_ o13_0 (Nat.le_refl _)
  go_wp2_with fail
  refine (eqPartS_any o13_0 ((((OF.within ((OF.within (((((o2_0.below b3).below b4).below b5).below b6).below b7) rg_t2_0 v8 (by omega)).below b9) rg_t2_0 v10 (by omega)).below b11).below b12).below b13) (by omega)).mono ?_
  rintro e w14 ⟨rfl, b14⟩
  have s14_ := b14.size
  have g14 := bnext g13 b14 g13.size
  go_wp2_with fail
  refine (heldPartS_any (1) ((((p10.below b11).below b12).below b13).below b14) (by omega) (by omega) (by omega) HS0.out).mono ?_
  rintro e w15 ⟨rfl, q15⟩
  have b15 := q15.below (B := w14.heap.size)
  have s15_ := b15.size
  have g15 := bnext g14 b15 g14.size
  go_wp2
  go_ret
  exact ⟨rfl, g15⟩

set_option maxRecDepth 100000 in
theorem lifted (os : Os) (started : os.Started) (H : Type) (enc : TypeId × Value → H) :
    ReturnsInHanded {} Try.checked os 4 .any (Rows.fnExactStanleyShapesSpec.pre6 enc Try.prog Try.f4 Rows.fnExactStanleyShapesRow.domain false) (Rows.fnExactStanleyShapesSpec.post enc Try.prog Try.f4 false true false false) := by
  refine returnsInHanded_of_change (C := Try.checked) own started (by kernel_rfl) Try.func4
    (ChangeSpec.witness6 (enc := enc) (C := Try.checked) false ⟨#[], #[.slice none 0 0], []⟩ 8 (by kernel_rfl) (by kernel_rfl) (by kernel_rfl) (by kernel_rfl)) ?_
  intro W base args ds gs before hval0 hW hcnd _
  have hval : ∀ (j : Nat) t v, Try.f4.params[j]? = some t → args[j]? = some v → Value.okWide Try.prog W .any base t v := hval0
  have hW' := hW
  obtain ⟨p, q, hA0, hV, rfl, hfz, hnd⟩ := hW
  have hA : DataW.TrodAll enc Try.prog W 0 (fun _ => true) true Try.f4.params.toList args.toList ds p := hA0
  rw [Try.params4] at hA hval
  obtain ⟨v0, vs0, d0, ds0, p0, q0, hargs, rfl, rfl, h0, r0⟩ := trodAll_cons hA
  obtain ⟨rfl, rfl, rfl⟩ := trodAll_nil r0
  obtain rfl : args = #[v0] := by cases args; simp_all
  obtain ⟨rfl, rfl⟩ := trodVars_none hV
  obtain ⟨a0, len0, cap0, rfl⟩ := okWide_slice Try.underlying22 (hval 0 22 v0 rfl rfl)
  have k0 := h0
  have lt0 : ∀ x ∈ p0, x.block < W.heap.size := by obtain ⟨m, hm⟩ := k0; exact DataW.trod_lt m _ _ _ hm
  obtain ⟨l0, x0, y0⟩ := open_RI h0
  clear hA0 hval0
  refine (walk cap0 x0 y0).mono fun e W' ⟨he, bel⟩ => ?_
  subst he
  exact ⟨_, rfl, _, _, _, [], _, [], hW', trodAll_mk1 (shut_bool Try.underlying4 _), (trodAll_cons_mk (Below.trod laidOut (by kernel_rfl) (of_decide_eq_true (by kernel_rfl)) k0 bel lt0) trodAll_mk0), rfl, bel.frame _, fun h => by cases h⟩

theorem over : Rows.fnExactStanleyShapesRow.holds Try.pinned (OpenSpec.ofChange Rows.fnExactStanleyShapesSpec) :=
  OpenClaim.holds_of_wide 4 Try.f4 rfl rfl rfl rfl rfl rfl rfl ⟨rfl, rfl, rfl, rfl, rfl⟩ rfl rfl rfl rfl rfl (by kernel_rfl) Try.func4 (by kernel_rfl)
    (of_decide_eq_true (by kernel_rfl)) (by unfold Func.isWrapper; first | (rw [if_pos (by decide +kernel)]; kernel_rfl) | (rw [if_neg (by decide +kernel)]; exact ⟨rfl, rfl⟩))
    (fun os started H enc _ => lifted os started H enc)

theorem proved : Rows.FnExactStanleyShapesSaid := over
end Go.Proofs.Ytgbojgmmingfdaa.lawStanleyShapes
