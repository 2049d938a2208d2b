/- For all integers: the program's GaussCounts returns what the reference's returns, in new memory, and again so at a second call. -/
import Derived.Test.YtmglobbidgoebaaGauss
import Derived.Test.YtmglobbidgoebaaFrame
import Derived.ShutString
import Derived.ChangeOld
namespace Go.Proofs.Ytmglobbidgoebaa.lawGaussCounts
open Go.ChangeShapes Go.WideShapes Go.ChangeAt Go.RowKit
open Go.ChangeMaps (open_string shut_string)


theorem walk (a0 : Int) (a1 : Int) {w : World} (ha0 : -9223372036854775808 ≤ a0 ∧ a0 ≤ 9223372036854775807) (ha1 : -9223372036854775808 ≤ a1 ∧ a1 ≤ 9223372036854775807) :
    Calls Try.prog 8 #[.int .i64 a0, .int .i64 a1] w (Law w) := by
  obtain ⟨hl0, hh0⟩ := ha0
  obtain ⟨hl1, hh1⟩ := ha1
  obtain ⟨w0, ew⟩ : ∃ w0 : World, w0 = w := ⟨_, rfl⟩
  subst ew
  go_enter Try.func8, Try.ntmps8
  go_wp2_with fail
  refine (sGauss_any _ _).mono ?_
  rintro e w1 ⟨A1s0, m1_0, c1s0, rfl, o1_0, r1_0, ⟨cp1_0, le1_0⟩, b1⟩
  have s1_ := b1.size
  have g1 : Below w0.heap.size w0 w1 := b1
  go_wp2_with fail
  refine (iGauss_any _ _).mono ?_
  rintro e w2 ⟨A2s0, m2_0, c2s0, rfl, o2_0, r2_0, ⟨cp2_0, le2_0⟩, b2⟩
  have s2_ := b2.size
  have g2 := bnext g1 b2 g1.size
  go_wp2_with fail
  refine (eqI_any true _ _ o2_0.ri (o1_0.below b2).ri (by simp) (by omega) (by omega)).mono ?_
  rintro e w3 ⟨rfl, q3⟩
  have b3 := q3.below (B := w2.heap.size)
  have s3_ := b3.size
  have g3 := bnext g2 b3 g2.size
  go_wp2_with fail
  refine (markI_any (1) (o2_0.below b3) (by omega) (by omega) (by omega)).mono ?_
  rintro e w4 ⟨rfl, p4, s4⟩
  have s4_ := s4.size
  have g4 := bmark g3 s4 o2_0 (Nat.le_trans g1.size (Nat.le_refl _)) g3.size
  have ap4_t1_0 := Lib.hid (apart o1_0 o2_0 (Nat.le_refl _))
  go_wp2_with fail
  refine (heldI_any _ (1) p4.ri (by omega) (by omega) (by omega)).mono ?_
  rintro e w5 ⟨rfl, q5⟩
  have b5 := q5.below (B := w4.heap.size)
  have s5_ := b5.size
  have g5 := bnext g4 b5 g4.size
  go_wp2_with fail
  refine (iGauss_any _ _).mono ?_
  rintro e w6 ⟨A6s0, m6_0, c6s0, rfl, o6_0, r6_0, ⟨cp6_0, le6_0⟩, b6⟩
  have s6_ := b6.size
  have g6 := bnext g5 b6 g5.size
  go_wp2_with fail
  refine (eqI_any true _ _ o6_0.ri (((((o1_0.below b2).below b3).kept s4 ap4_t1_0.out).below b5).below b6).ri (by simp) (by omega) (by omega)).mono ?_
  rintro e w7 ⟨rfl, q7⟩
  have b7 := q7.below (B := w6.heap.size)
  have s7_ := b7.size
  have g7 := bnext g6 b7 g6.size
  go_wp2_with fail
  refine (heldI_any _ (1) (((p4.below b5).below b6).below b7).ri (by omega) (by omega) (by omega)).mono ?_
  rintro e w8 ⟨rfl, q8⟩
  have b8 := q8.below (B := w7.heap.size)
  have s8_ := b8.size
  have g8 := bnext g7 b8 g7.size
  go_wp2
  go_ret
  exact ⟨rfl, g8⟩

set_option maxRecDepth 100000 in
theorem lifted (os : Os) (started : os.Started) (H : Type) (enc : TypeId × Value → H) :
    ReturnsInHanded {} Try.checked os 8 .any (Rows.fnExactGaussCountsSpec.pre6 enc Try.prog Try.f8 Rows.fnExactGaussCountsRow.domain false) (Rows.fnExactGaussCountsSpec.post enc Try.prog Try.f8 false true false false) := by
  refine returnsInHanded_of_change (C := Try.checked) own started (by kernel_rfl) Try.func8
    (ChangeSpec.witness6 (enc := enc) (C := Try.checked) false ⟨#[], #[.int .i64 0, .int .i64 0], []⟩ 8 (by kernel_rfl) (by kernel_rfl) (by kernel_rfl) (by kernel_rfl)) ?_
  intro W base args ds gs before hval0 hW hcnd _
  have hval : ∀ (j : Nat) t v, Try.f8.params[j]? = some t → args[j]? = some v → Value.okWide Try.prog W .any base t v := hval0
  have hW' := hW
  obtain ⟨p, q, hA0, hV, rfl, hfz, hnd⟩ := hW
  have hA : DataW.TrodAll enc Try.prog W 0 (fun _ => true) true Try.f8.params.toList args.toList ds p := hA0
  rw [Try.params8] at hA hval
  obtain ⟨v0, vs0, d0, ds0, p0, q0, hargs, rfl, rfl, h0, r0⟩ := trodAll_cons hA
  obtain ⟨v1, vs1, d1, ds1, p1, q1, rfl, rfl, rfl, h1, r1⟩ := trodAll_cons r0
  obtain ⟨rfl, rfl, rfl⟩ := trodAll_nil r1
  obtain rfl : args = #[v0, v1] := by cases args; simp_all
  obtain ⟨rfl, rfl⟩ := trodVars_none hV
  obtain ⟨a0, rfl, rfl, rfl, w0⟩ := open_int Try.underlying3 (hval 0 3 v0 rfl rfl) h0
  obtain ⟨a1, rfl, rfl, rfl, w1⟩ := open_int Try.underlying3 (hval 1 3 v1 rfl rfl) h1
  clear hA0 hval0
  refine (walk a0 a1 (wfI w0) (wfI w1)).mono fun e W' ⟨he, bel⟩ => ?_
  subst he
  exact ⟨_, rfl, _, _, _, [], _, [], hW', trodAll_mk1 (shut_bool Try.underlying4 _), (trodAll_cons_mk (shut_int Try.underlying3 w0) (trodAll_cons_mk (shut_int Try.underlying3 w1) trodAll_mk0)), rfl, bel.frame _, fun h => by cases h⟩

theorem over : Rows.fnExactGaussCountsRow.holds Try.pinned (OpenSpec.ofChange Rows.fnExactGaussCountsSpec) :=
  OpenClaim.holds_of_wide 8 Try.f8 rfl rfl rfl rfl rfl rfl rfl ⟨rfl, rfl, rfl, rfl, rfl⟩ rfl rfl rfl rfl rfl (by kernel_rfl) Try.func8 (by kernel_rfl)
    (of_decide_eq_true (by kernel_rfl)) (by unfold Func.isWrapper; first | (rw [if_pos (by decide +kernel)]; kernel_rfl) | (rw [if_neg (by decide +kernel)]; exact ⟨rfl, rfl⟩))
    (fun os started H enc _ => lifted os started H enc)

theorem proved : Rows.FnExactGaussCountsSaid := over
end Go.Proofs.Ytmglobbidgoebaa.lawGaussCounts
