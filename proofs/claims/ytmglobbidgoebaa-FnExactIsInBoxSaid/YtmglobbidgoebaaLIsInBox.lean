/- For every list of numbers and all integers: the program's IsInBox returns what the reference's returns, and the arguments read afterwards as they read before. -/
import Derived.Test.YtmglobbidgoebaaBox
import Derived.Test.YtmglobbidgoebaaFrame
import Derived.ShutString
import Derived.ChangeOld
namespace Go.Proofs.Ytmglobbidgoebaa.lawIsInBox
open Go.ChangeShapes Go.WideShapes Go.ChangeAt Go.RowKit
open Go.ChangeMaps (open_string shut_string)


theorem walk {A0 : Option Addr} {n0 : Nat} (c0 : Nat) {l0 : List Int} (a1 : Int) (a2 : Int) {w : World} (hx0 : RI w A0 n0 l0) (hn0 : n0 ≤ 9223372036854775807) (ha1 : -9223372036854775808 ≤ a1 ∧ a1 ≤ 9223372036854775807) (ha2 : -9223372036854775808 ≤ a2 ∧ a2 ≤ 9223372036854775807) :
    Calls Try.prog 4 #[.slice A0 n0 c0, .int .i64 a1, .int .i64 a2] w (Law w) := by
  obtain ⟨hl1, hh1⟩ := ha1
  obtain ⟨hl2, hh2⟩ := ha2
  by_cases hbig0 : 1048576 < n0
  · go_enter Try.func4, Try.ntmps4
    go_wp2
    go_ret
    exact ⟨rfl, Below.refl _ _⟩
  go_enter Try.func4, Try.ntmps4
  go_wp2_with fail
  refine (toI_any _ hx0 (by omega)).mono ?_
  rintro e w1 ⟨A1s, m1, c1s, rfl, o1, r1, le1, b1⟩
  obtain rfl : n0 = m1 := hx0.1.symm.trans r1.1
  have g1 : Below w.heap.size w w1 := b1
  go_wp2_with fail
  refine (sIsInBox_any _ _ _ r1 (by omega)).mono ?_
  rintro e w2 ⟨rfl, b2⟩
  have b2 := b2.below (B := w1.heap.size)
  have g2 := bnext g1 b2 g1.size
  go_wp2_with fail
  refine (toI_any _ (hx0.below g2) (by omega)).mono ?_
  rintro e w3 ⟨A3s, m3, c3s, rfl, o3, r3, le3, b3⟩
  obtain rfl : n0 = m3 := hx0.1.symm.trans r3.1
  have g3 := bnext g2 b3 g2.size
  go_wp2_with fail
  refine (iIsInBox_any _ _ _ r3 (by omega)).mono ?_
  rintro e w4 ⟨rfl, b4⟩
  have b4 := b4.below (B := w3.heap.size)
  have g4 := bnext g3 b4 g3.size
  go_wp2_with fail
  refine (toI_any _ (hx0.below g4) (by omega)).mono ?_
  rintro e w5 ⟨A5s, m5, c5s, rfl, o5, r5, le5, b5⟩
  obtain rfl : n0 = m5 := hx0.1.symm.trans r5.1
  have g5 := bnext g4 b5 g4.size
  go_wp2_with fail
  refine (eqI_any true _ _ ((r3.below b4).below b5) r5 (by simp) (by omega) (by omega)).mono ?_
  rintro e w6 ⟨rfl, q6⟩
  have b6 := q6.below (B := w5.heap.size)
  have g6 := bnext g5 b6 g5.size
  go_wp2
  go_ret
  exact ⟨rfl, g6⟩

set_option maxRecDepth 100000 in
theorem lifted (os : Os) (started : os.Started) (H : Type) (enc : TypeId × Value → H) :
    ReturnsInHanded {} Try.checked os 4 .any (Rows.fnExactIsInBoxSpec.pre6 enc Try.prog Try.f4 Rows.fnExactIsInBoxRow.domain false) (Rows.fnExactIsInBoxSpec.post enc Try.prog Try.f4 false true false false) := by
  refine returnsInHanded_of_change (C := Try.checked) own started (by kernel_rfl) Try.func4
    (ChangeSpec.witness6 (enc := enc) (C := Try.checked) false ⟨#[], #[.slice none 0 0, .int .i64 0, .int .i64 0], []⟩ 8 (by kernel_rfl) (by kernel_rfl) (by kernel_rfl) (by kernel_rfl)) ?_
  intro W base args ds gs before hval0 hW hcnd _
  have hval : ∀ (j : Nat) t v, Try.f4.params[j]? = some t → args[j]? = some v → Value.okWide Try.prog W .any base t v := hval0
  have hW' := hW
  obtain ⟨p, q, hA0, hV, rfl, hfz, hnd⟩ := hW
  have hA : DataW.TrodAll enc Try.prog W 0 (fun _ => true) true Try.f4.params.toList args.toList ds p := hA0
  rw [Try.params4] at hA hval
  obtain ⟨v0, vs0, d0, ds0, p0, q0, hargs, rfl, rfl, h0, r0⟩ := trodAll_cons hA
  obtain ⟨v1, vs1, d1, ds1, p1, q1, rfl, rfl, rfl, h1, r1⟩ := trodAll_cons r0
  obtain ⟨v2, vs2, d2, ds2, p2, q2, rfl, rfl, rfl, h2, r2⟩ := trodAll_cons r1
  obtain ⟨rfl, rfl, rfl⟩ := trodAll_nil r2
  obtain rfl : args = #[v0, v1, v2] := by cases args; simp_all
  obtain ⟨rfl, rfl⟩ := trodVars_none hV
  obtain ⟨a0, len0, cap0, rfl⟩ := okWide_slice Try.underlying22 (hval 0 22 v0 rfl rfl)
  have k0 := h0
  have lt0 : ∀ x ∈ p0, x.block < W.heap.size := by obtain ⟨m, hm⟩ := k0; exact DataW.trod_lt m _ _ _ hm
  obtain ⟨l0, x0, y0⟩ := open_RI h0
  obtain ⟨a1, rfl, rfl, rfl, w1⟩ := open_int Try.underlying3 (hval 1 3 v1 rfl rfl) h1
  obtain ⟨a2, rfl, rfl, rfl, w2⟩ := open_int Try.underlying3 (hval 2 3 v2 rfl rfl) h2
  clear hA0 hval0
  refine (walk cap0 a1 a2 x0 y0 (wfI w1) (wfI w2)).mono fun e W' ⟨he, bel⟩ => ?_
  subst he
  exact ⟨_, rfl, _, _, _, [], _, [], hW', trodAll_mk1 (shut_bool Try.underlying4 _), (trodAll_cons_mk (Below.trod laidOut (by kernel_rfl) (of_decide_eq_true (by kernel_rfl)) k0 bel lt0) (trodAll_cons_mk (shut_int Try.underlying3 w1) (trodAll_cons_mk (shut_int Try.underlying3 w2) trodAll_mk0))), rfl, bel.frame _, fun h => by cases h⟩

theorem over : Rows.fnExactIsInBoxRow.holds Try.pinned (OpenSpec.ofChange Rows.fnExactIsInBoxSpec) :=
  OpenClaim.holds_of_wide 4 Try.f4 rfl rfl rfl rfl rfl rfl rfl ⟨rfl, rfl, rfl, rfl, rfl⟩ rfl rfl rfl rfl rfl (by kernel_rfl) Try.func4 (by kernel_rfl)
    (of_decide_eq_true (by kernel_rfl)) (by unfold Func.isWrapper; first | (rw [if_pos (by decide +kernel)]; kernel_rfl) | (rw [if_neg (by decide +kernel)]; exact ⟨rfl, rfl⟩))
    (fun os started H enc _ => lifted os started H enc)

theorem proved : Rows.FnExactIsInBoxSaid := over
end Go.Proofs.Ytmglobbidgoebaa.lawIsInBox
