/- For every matrix: the program's MatrixOk returns what the reference's returns, and the matrix reads afterwards as it read before. -/
import Derived.Test.YtmglobbidgoebaaMatC
import Derived.ShutString
import Derived.ChangeOld
import Derived.Deep.RegionHeld3
namespace Go.Proofs.Ytmglobbidgoebaa.lawMatrixOk
open Go.ChangeShapes Go.WideShapes Go.ChangeAt Go.RowKit
open Go.ChangeMaps (open_string shut_string)

set_option maxHeartbeats 2000000 in
theorem walk {A : Option Addr} {n : Nat} (c : Nat) (P Rw C : Int) {D : List Int} {w : World} (hD : RI w A n D) (hn : n ≤ 9223372036854775807) :
    Calls Try.prog 6 #[.agg #[.int .i64 P, .int .i64 Rw, .int .i64 C, .slice A n c]] w (Law w) := by
  go_enter Try.func6, Try.ntmps6
  go_wp2_with fail
  obtain ⟨w0, e0⟩ : ∃ w0 : World, w0 = w.alloc (Obj.cells #[Value.int IntKind.i64 P, Value.int IntKind.i64 Rw, Value.int IntKind.i64 C, Value.slice A n c] 29) := ⟨_, rfl⟩
  have g0 : Below w.heap.size w w0 := by rw [e0]; exact (Below.refl _ _).alloc (Nat.le_refl _) _
  obtain ⟨bx, hbx⟩ : ∃ g, g = w.heap.size := ⟨_, rfl⟩
  have K0 : Hid (BK w0 bx 29 [Value.int IntKind.i64 P, Value.int IntKind.i64 Rw, Value.int IntKind.i64 C, Value.slice A n c]) := by
    rw [e0, hbx]; exact BK.new w _ _
  rw [← e0, ← hbx]
  clear e0 hbx
  refine (szM_any _ P Rw C hn).mono ?_
  rintro e w1 ⟨rfl | ⟨rfl, hle⟩, b1⟩
  · have g1 := bnext g0 b1 g0.size
    go_wp2
    go_ret
    exact ⟨rfl, g1⟩
  have g1 := bnext g0 b1 g0.size
  have K1 : Hid (BK w1 bx _ _) := K0.out.below b1 K0.out.lt
  obtain ⟨q0, q1, q2, q3⟩ := K1.out.four
  go_wp2_with fail
  clear q0 q1 q2 q3
  refine (toM_any _ P Rw C (hD.below g1) (by omega)).mono ?_
  rintro e w2 ⟨B1, p1, d1, rfl, r1, b2⟩
  obtain rfl : n = p1 := hD.1.symm.trans r1.1
  have g2 := bnext g1 b2 g1.size
  have K2 : Hid (BK w2 bx _ _) := K1.out.below b2 K1.out.lt
  go_wp2_with fail
  refine (sMatrixOk_any _ P Rw C r1 (by omega)).mono ?_
  rintro e w3 ⟨rfl, b3⟩
  have g3 := bnext g2 b3 g2.size
  have K3 : Hid (BK w3 bx _ _) := K2.out.below b3 K2.out.lt
  obtain ⟨q0, q1, q2, q3⟩ := K3.out.four
  go_wp2_with fail
  clear q0 q1 q2 q3
  refine (toM_any _ P Rw C (hD.below g3) (by omega)).mono ?_
  rintro e w4 ⟨C1, p1, e1, rfl, r1, b4⟩
  obtain rfl : n = p1 := hD.1.symm.trans r1.1
  have g4 := bnext g3 b4 g3.size
  have K4 : Hid (BK w4 bx _ _) := K3.out.below b4 K3.out.lt
  go_wp2_with fail
  obtain ⟨w5, e5⟩ : ∃ w5 : World, w5 = w4.alloc (Obj.cells #[Value.int IntKind.i64 P, Value.int IntKind.i64 Rw, Value.int IntKind.i64 C, Value.slice C1 n e1] 32) := ⟨_, rfl⟩
  have b5 : Below w4.heap.size w4 w5 := by rw [e5]; exact (Below.refl _ _).alloc (Nat.le_refl _) _
  obtain ⟨by_, hby⟩ : ∃ g, g = w4.heap.size := ⟨_, rfl⟩
  have J5 : Hid (BK w5 by_ 32 [Value.int IntKind.i64 P, Value.int IntKind.i64 Rw, Value.int IntKind.i64 C, Value.slice C1 n e1]) := by
    rw [e5, hby]; exact BK.new w4 _ _
  rw [← e5, ← hby]
  clear e5 hby
  have g5 := bnext g4 b5 g4.size
  have K5 : Hid (BK w5 bx _ _) := K4.out.below b5 K4.out.lt
  refine (iMatrixOk_any _ P Rw C (r1.below b5) (by omega)).mono ?_
  rintro e w6 ⟨rfl, b6⟩
  have g6 := bnext g5 b6 g5.size
  have K6 : Hid (BK w6 bx _ _) := K5.out.below b6 K5.out.lt
  have J6 : Hid (BK w6 by_ _ _) := J5.out.below b6 J5.out.lt
  obtain ⟨q0, q1, q2, q3⟩ := K6.out.four
  obtain ⟨t0, t1, t2, t3⟩ := J6.out.four
  go_wp2_with fail
  have i1 : RI w6 A n D := hD.below g6
  go_region_held3 (fun w' => (w'.cell? ⟨bx, 0, none⟩ = some (Value.int IntKind.i64 P) ∧ w'.cell? ⟨bx, 1, none⟩ = some (Value.int IntKind.i64 Rw) ∧ w'.cell? ⟨bx, 2, none⟩ = some (Value.int IntKind.i64 C) ∧ w'.cell? ⟨bx, 3, none⟩ = some (Value.slice A n c)) ∧ w'.cell? ⟨by_, 0, none⟩ = some (Value.int IntKind.i64 P) ∧ w'.cell? ⟨by_, 1, none⟩ = some (Value.int IntKind.i64 Rw) ∧ w'.cell? ⟨by_, 2, none⟩ = some (Value.int IntKind.i64 C) ∧ w'.cell? ⟨by_, 3, none⟩ = some (Value.slice C1 n e1)) (first | exact ⟨⟨q0, q1, q2, q3⟩, t0, t1, t2, t3⟩ | exact ⟨K7.out.four, J7.out.four⟩ | exact ⟨K8.out.four, J8.out.four⟩) (first
    | (go_at_call 27; refine (toM_any _ P Rw C (by exact i1) (by omega)).mono ?_; rintro e w7 ⟨D1, p1, f1, rfl, y1, b7⟩; obtain rfl : n = p1 := hD.1.symm.trans y1.1; have b7 : Below w6.heap.size w6 w7 := ⟨b7.os, b7.tape, b7.output, b7.size, b7.block⟩; have g7 := bnext g6 b7 g6.size; have K7 : Hid (BK w7 bx _ _) := K6.out.below b7 K6.out.lt; have J7 : Hid (BK w7 by_ _ _) := J6.out.below b7 J6.out.lt; have i4 : RI w7 C1 n D := ((r1.below b5).below b6).below b7)
    | (go_at_call 29; refine (eqM_any _ _ P Rw C (by exact i4) (by exact y1) (by omega)).mono ?_; rintro e w8 ⟨rfl, b8⟩; have b8 : Below w7.heap.size w7 w8 := ⟨b8.os, b8.tape, b8.output, b8.size, b8.block⟩; have g8 := bnext g7 b8 g7.size; have K8 : Hid (BK w8 bx _ _) := K7.out.below b8 K7.out.lt; have J8 : Hid (BK w8 by_ _ _) := J7.out.below b8 J7.out.lt))
  go_wp2
  go_ret
  exact ⟨rfl, g8⟩

set_option maxRecDepth 100000 in
theorem lifted (os : Os) (started : os.Started) (H : Type) (enc : TypeId × Value → H) :
    ReturnsInHanded {} Try.checked os 6 .any (Rows.fnExactMatrixOkSpec.pre6 enc Try.prog Try.f6 Rows.fnExactMatrixOkRow.domain false) (Rows.fnExactMatrixOkSpec.post enc Try.prog Try.f6 false true false false) := by
  refine returnsInHanded_of_change (C := Try.checked) own started (by kernel_rfl) Try.func6
    (ChangeSpec.witness6 (enc := enc) (C := Try.checked) false ⟨#[], #[.agg #[.int .i64 0, .int .i64 0, .int .i64 0, .slice none 0 0]], []⟩ 8 (by kernel_rfl) (by kernel_rfl) (by kernel_rfl) (by kernel_rfl)) ?_
  intro W base args ds gs before hval0 hW hcnd _
  have hval : ∀ (j : Nat) t v, Try.f6.params[j]? = some t → args[j]? = some v → Value.okWide Try.prog W .any base t v := hval0
  have hW' := hW
  obtain ⟨p, q, hA0, hV, rfl, hfz, hnd⟩ := hW'
  have hA : DataW.TrodAll enc Try.prog W 0 (fun _ => true) true Try.f6.params.toList args.toList ds p := hA0
  rw [Try.params6] at hA hval
  obtain ⟨v0, vs0, d0, ds0, p0, q0, hargs, rfl, rfl, h0, r0⟩ := trodAll_cons hA
  obtain ⟨rfl, rfl, rfl⟩ := trodAll_nil r0
  obtain rfl : args = #[v0] := by cases args; simp_all
  obtain ⟨rfl, rfl⟩ := trodVars_none hV
  have k0 := h0
  have lt0 : ∀ x ∈ p0, x.block < W.heap.size := by obtain ⟨m, hm⟩ := k0; exact DataW.trod_lt m _ _ _ hm
  obtain ⟨P0, R0, C0, a1, n1, c1, D, rfl, x1, z1⟩ := open_M (hval 0 29 v0 rfl rfl) h0
  clear hA0 hval0
  refine (walk c1 P0 R0 C0 x1 z1).mono fun e W' ⟨he, bel⟩ => ?_
  subst he
  exact ⟨_, rfl, _, _, _, [], _, [], hW, trodAll_mk1 (shut_bool Try.underlying4 _), (trodAll_cons_mk (Below.trod laidOut (by kernel_rfl) (of_decide_eq_true (by kernel_rfl)) k0 bel lt0) trodAll_mk0), rfl, bel.frame _, fun h => by cases h⟩

theorem over : Rows.fnExactMatrixOkRow.holds Try.pinned (OpenSpec.ofChange Rows.fnExactMatrixOkSpec) :=
  OpenClaim.holds_of_wide 6 Try.f6 rfl rfl rfl rfl rfl rfl rfl ⟨rfl, rfl, rfl, rfl, rfl⟩ rfl rfl rfl rfl rfl (by kernel_rfl) Try.func6 (by kernel_rfl)
    (of_decide_eq_true (by kernel_rfl)) (by unfold Func.isWrapper; first | (rw [if_pos (by decide +kernel)]; kernel_rfl) | (rw [if_neg (by decide +kernel)]; exact ⟨rfl, rfl⟩))
    (fun os started H enc _ => lifted os started H enc)

theorem proved : Rows.FnExactMatrixOkSaid := over
end Go.Proofs.Ytmglobbidgoebaa.lawMatrixOk
