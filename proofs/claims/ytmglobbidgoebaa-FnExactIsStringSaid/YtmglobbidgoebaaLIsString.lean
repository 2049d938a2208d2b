/- For every list of numbers: the program's IsString returns what the reference's returns, and the list reads afterwards as it read before. -/
import Derived.Test.YtmglobbidgoebaaShapes
import Derived.Test.YtmglobbidgoebaaFrame
import Derived.ShutString
import Derived.ChangeOld
namespace Go.Proofs.Ytmglobbidgoebaa.lawIsString
open Go.ChangeShapes Go.WideShapes Go.ChangeAt Go.RowKit
open Go.ChangeMaps (open_string shut_string)


theorem walk {A0 : Option Addr} {n0 : Nat} (c0 : Nat) {l0 : List Int} {w : World} (hx0 : RI w A0 n0 l0) (hn0 : n0 ≤ 9223372036854775807) :
    Calls Try.prog 3 #[.slice A0 n0 c0] w (Law w) := by
  by_cases hbig0 : 1048576 < n0
  · go_enter Try.func3, Try.ntmps3
    go_wp2
    go_ret
    exact ⟨rfl, Below.refl _ _⟩
  go_enter Try.func3, Try.ntmps3
  go_wp2_with fail
  refine (toI_any _ hx0 (by omega)).mono ?_
  rintro e w1 ⟨A1s, m1, c1s, rfl, o1, r1, le1, b1⟩
  obtain rfl : n0 = m1 := hx0.1.symm.trans r1.1
  have g1 : Below w.heap.size w w1 := b1
  go_wp2_with fail
  refine (sIsString_any _ r1 (by omega)).mono ?_
  rintro e w2 ⟨rfl, b2⟩
  have b2 := b2.below (B := w1.heap.size)
  have g2 := bnext g1 b2 g1.size
  go_wp2_with fail
  refine (toI_any _ (hx0.below g2) (by omega)).mono ?_
  rintro e w3 ⟨A3s, m3, c3s, rfl, o3, r3, le3, b3⟩
  obtain rfl : n0 = m3 := hx0.1.symm.trans r3.1
  have g3 := bnext g2 b3 g2.size
  go_wp2_with fail
  refine (iIsString_any _ r3 (by omega)).mono ?_
  rintro e w4 ⟨rfl, b4⟩
  have b4 := b4.below (B := w3.heap.size)
  have g4 := bnext g3 b4 g3.size
  go_wp2_with fail
  refine (toI_any _ (hx0.below g4) (by omega)).mono ?_
  rintro e w5 ⟨A5s, m5, c5s, rfl, o5, r5, le5, b5⟩
  obtain rfl : n0 = m5 := hx0.1.symm.trans r5.1
  have g5 := bnext g4 b5 g4.size
  go_wp2_with fail
  refine (eqI_any true _ _ ((r3.below b4).below b5) r5 (by simp) (by omega) (by omega)).mono ?_
  rintro e w6 ⟨rfl, q6⟩
  have b6 := q6.below (B := w5.heap.size)
  have g6 := bnext g5 b6 g5.size
  go_wp2
  go_ret
  exact ⟨rfl, g6⟩

set_option maxRecDepth 100000 in
theorem lifted (os : Os) (started : os.Started) (H : Type) (enc : TypeId × Value → H) :
    ReturnsInHanded {} Try.checked os 3 .any (Rows.fnExactIsStringSpec.pre6 enc Try.prog Try.f3 Rows.fnExactIsStringRow.domain false) (Rows.fnExactIsStringSpec.post enc Try.prog Try.f3 false true false false) := by
  refine returnsInHanded_of_change (C := Try.checked) own started (by kernel_rfl) Try.func3
    (ChangeSpec.witness6 (enc := enc) (C := Try.checked) false ⟨#[], #[.slice none 0 0], []⟩ 8 (by kernel_rfl) (by kernel_rfl) (by kernel_rfl) (by kernel_rfl)) ?_
  intro W base args ds gs before hval0 hW hcnd _
  have hval : ∀ (j : Nat) t v, Try.f3.params[j]? = some t → args[j]? = some v → Value.okWide Try.prog W .any base t v := hval0
  have hW' := hW
  obtain ⟨p, q, hA0, hV, rfl, hfz, hnd⟩ := hW
  have hA : DataW.TrodAll enc Try.prog W 0 (fun _ => true) true Try.f3.params.toList args.toList ds p := hA0
  rw [Try.params3] at hA hval
  obtain ⟨v0, vs0, d0, ds0, p0, q0, hargs, rfl, rfl, h0, r0⟩ := trodAll_cons hA
  obtain ⟨rfl, rfl, rfl⟩ := trodAll_nil r0
  obtain rfl : args = #[v0] := by cases args; simp_all
  obtain ⟨rfl, rfl⟩ := trodVars_none hV
  obtain ⟨a0, len0, cap0, rfl⟩ := okWide_slice Try.underlying22 (hval 0 22 v0 rfl rfl)
  have k0 := h0
  have lt0 : ∀ x ∈ p0, x.block < W.heap.size := by obtain ⟨m, hm⟩ := k0; exact DataW.trod_lt m _ _ _ hm
  obtain ⟨l0, x0, y0⟩ := open_RI h0
  clear hA0 hval0
  refine (walk cap0 x0 y0).mono fun e W' ⟨he, bel⟩ => ?_
  subst he
  exact ⟨_, rfl, _, _, _, [], _, [], hW', trodAll_mk1 (shut_bool Try.underlying4 _), (trodAll_cons_mk (Below.trod laidOut (by kernel_rfl) (of_decide_eq_true (by kernel_rfl)) k0 bel lt0) trodAll_mk0), rfl, bel.frame _, fun h => by cases h⟩

theorem over : Rows.fnExactIsStringRow.holds Try.pinned (OpenSpec.ofChange Rows.fnExactIsStringSpec) :=
  OpenClaim.holds_of_wide 3 Try.f3 rfl rfl rfl rfl rfl rfl rfl ⟨rfl, rfl, rfl, rfl, rfl⟩ rfl rfl rfl rfl rfl (by kernel_rfl) Try.func3 (by kernel_rfl)
    (of_decide_eq_true (by kernel_rfl)) (by unfold Func.isWrapper; first | (rw [if_pos (by decide +kernel)]; kernel_rfl) | (rw [if_neg (by decide +kernel)]; exact ⟨rfl, rfl⟩))
    (fun os started H enc _ => lifted os started H enc)

theorem proved : Rows.FnExactIsStringSaid := over
end Go.Proofs.Ytmglobbidgoebaa.lawIsString
