/- For every three lists of numbers: the program's CountPuzzles returns what the reference's returns; the arguments read afterwards as they read before. -/
import Derived.Test.YtnljlophgolejaaPuzS
import Derived.Test.YtnljlophgolejaaWords
import Derived.ShutString
import Derived.ChangeOld
namespace Go.Proofs.Ytnljlophgolejaa.lawCountPuzzles
open Go.ChangeShapes Go.WideShapes Go.ChangeAt Go.RowKit
open Go.ChangeMaps (open_string shut_string)


theorem walk {A0 : Option Addr} {n0 : Nat} (c0 : Nat) {l0 : List Int} {A1 : Option Addr} {n1 : Nat} (c1 : Nat) {l1 : List Int} {A2 : Option Addr} {n2 : Nat} (c2 : Nat) {l2 : List Int} {w : World} (hx0 : RI w A0 n0 l0) (hn0 : n0 ≤ 9223372036854775807) (hx1 : RI w A1 n1 l1) (hn1 : n1 ≤ 9223372036854775807) (hx2 : RI w A2 n2 l2) (hn2 : n2 ≤ 9223372036854775807) :
    Calls Try.prog 3 #[.slice A0 n0 c0, .slice A1 n1 c1, .slice A2 n2 c2] w (Law w) := by
  by_cases hbig0 : 1048576 < n0
  · go_enter Try.func3, Try.ntmps3
    go_wp2
    go_ret
    exact ⟨rfl, Below.refl _ _⟩
  by_cases hbig1 : 1048576 < n1
  · go_enter Try.func3, Try.ntmps3
    go_wp2
    go_ret
    exact ⟨rfl, Below.refl _ _⟩
  by_cases hbig2 : 1048576 < n2
  · go_enter Try.func3, Try.ntmps3
    go_wp2
    go_ret
    exact ⟨rfl, Below.refl _ _⟩
  obtain ⟨w0, ew⟩ : ∃ w0 : World, w0 = w := ⟨_, rfl⟩
  subst ew
  go_enter Try.func3, Try.ntmps3
  go_wp2_with fail
  refine (toI_any _ hx0 (by omega)).mono ?_
  rintro e w1 ⟨A1s, m1, c1s, rfl, o1, r1, ⟨cp1, le1⟩, b1⟩
  obtain rfl : n0 = m1 := hx0.1.symm.trans r1.1
  have s1_ := b1.size
  have g1 : Below w0.heap.size w0 w1 := b1
  go_wp2_with fail
  refine (toI_any _ (hx1.below g1) (by omega)).mono ?_
  rintro e w2 ⟨A2s, m2, c2s, rfl, o2, r2, ⟨cp2, le2⟩, b2⟩
  obtain rfl : n1 = m2 := hx1.1.symm.trans r2.1
  have s2_ := b2.size
  have g2 := bnext g1 b2 g1.size
  go_wp2_with fail
  refine (toI_any _ (hx2.below g2) (by omega)).mono ?_
  rintro e w3 ⟨A3s, m3, c3s, rfl, o3, r3, ⟨cp3, le3⟩, b3⟩
  obtain rfl : n2 = m3 := hx2.1.symm.trans r3.1
  have s3_ := b3.size
  have g3 := bnext g2 b3 g2.size
  go_wp2_with fail
  refine (sCount_any _ _ _ ((o1.below b2).below b3).ri (o2.below b3).ri o3.ri (by omega) (by omega) (by omega)).mono ?_
  rintro e w4 ⟨rfl, b4⟩
  have s4_ := b4.size
  have g4 := bnext g3 b4 g3.size
  go_wp2_with fail
  refine (toI_any _ (hx0.below g4) (by omega)).mono ?_
  rintro e w5 ⟨A5s, m5, c5s, rfl, o5, r5, ⟨cp5, le5⟩, b5⟩
  obtain rfl : n0 = m5 := hx0.1.symm.trans r5.1
  have s5_ := b5.size
  have g5 := bnext g4 b5 g4.size
  go_wp2_with fail
  refine (toI_any _ (hx1.below g5) (by omega)).mono ?_
  rintro e w6 ⟨A6s, m6, c6s, rfl, o6, r6, ⟨cp6, le6⟩, b6⟩
  obtain rfl : n1 = m6 := hx1.1.symm.trans r6.1
  have s6_ := b6.size
  have g6 := bnext g5 b6 g5.size
  go_wp2_with fail
  refine (toI_any _ (hx2.below g6) (by omega)).mono ?_
  rintro e w7 ⟨A7s, m7, c7s, rfl, o7, r7, ⟨cp7, le7⟩, b7⟩
  obtain rfl : n2 = m7 := hx2.1.symm.trans r7.1
  have s7_ := b7.size
  have g7 := bnext g6 b7 g6.size
  go_wp2_with fail
  refine (iCount_any _ _ _ ((o5.below b6).below b7).ri (o6.below b7).ri o7.ri (by omega) (by omega) (by omega)).mono ?_
  rintro e w8 ⟨rfl, b8⟩
  have s8_ := b8.size
  have g8 := bnext g7 b8 g7.size
  go_wp2_with fail
  refine (toI_any _ (hx0.below g8) (by omega)).mono ?_
  rintro e w9 ⟨A9s, m9, c9s, rfl, o9, r9, ⟨cp9, le9⟩, b9⟩
  obtain rfl : n0 = m9 := hx0.1.symm.trans r9.1
  have s9_ := b9.size
  have g9 := bnext g8 b9 g8.size
  go_wp2_with fail
  refine (eqI_any true _ _ ((((o5.below b6).below b7).below b8).below b9).ri o9.ri (by simp) (by omega) (by omega)).mono ?_
  rintro e w10 ⟨rfl, q10⟩
  have b10 := q10.below (B := w9.heap.size)
  have s10_ := b10.size
  have g10 := bnext g9 b10 g9.size
  go_wp2_with fail
  refine (toI_any _ (hx1.below g10) (by omega)).mono ?_
  rintro e w11 ⟨A11s, m11, c11s, rfl, o11, r11, ⟨cp11, le11⟩, b11⟩
  obtain rfl : n1 = m11 := hx1.1.symm.trans r11.1
  have s11_ := b11.size
  have g11 := bnext g10 b11 g10.size
  go_wp2_with fail
  refine (eqI_any true _ _ (((((o6.below b7).below b8).below b9).below b10).below b11).ri o11.ri (by simp) (by omega) (by omega)).mono ?_
  rintro e w12 ⟨rfl, q12⟩
  have b12 := q12.below (B := w11.heap.size)
  have s12_ := b12.size
  have g12 := bnext g11 b12 g11.size
  go_wp2_with fail
  refine (toI_any _ (hx2.below g12) (by omega)).mono ?_
  rintro e w13 ⟨A13s, m13, c13s, rfl, o13, r13, ⟨cp13, le13⟩, b13⟩
  obtain rfl : n2 = m13 := hx2.1.symm.trans r13.1
  have s13_ := b13.size
  have g13 := bnext g12 b13 g12.size
  go_wp2_with fail
  refine (eqI_any true _ _ ((((((o7.below b8).below b9).below b10).below b11).below b12).below b13).ri o13.ri (by simp) (by omega) (by omega)).mono ?_
  rintro e w14 ⟨rfl, q14⟩
  have b14 := q14.below (B := w13.heap.size)
  have s14_ := b14.size
  have g14 := bnext g13 b14 g13.size
  go_wp2
  go_ret
  exact ⟨rfl, g14⟩

set_option maxRecDepth 100000 in
theorem lifted (os : Os) (started : os.Started) (H : Type) (enc : TypeId × Value → H) :
    ReturnsInHanded {} Try.checked os 3 .any (Rows.fnExactCountPuzzlesSpec.pre6 enc Try.prog Try.f3 Rows.fnExactCountPuzzlesRow.domain false) (Rows.fnExactCountPuzzlesSpec.post enc Try.prog Try.f3 false true false false) := by
  refine returnsInHanded_of_change (C := Try.checked) own started (by kernel_rfl) Try.func3
    (ChangeSpec.witness6 (enc := enc) (C := Try.checked) false ⟨#[], #[.slice none 0 0, .slice none 0 0, .slice none 0 0], []⟩ 8 (by kernel_rfl) (by kernel_rfl) (by kernel_rfl) (by kernel_rfl)) ?_
  intro W base args ds gs before hval0 hW hcnd _
  have hval : ∀ (j : Nat) t v, Try.f3.params[j]? = some t → args[j]? = some v → Value.okWide Try.prog W .any base t v := hval0
  have hW' := hW
  obtain ⟨p, q, hA0, hV, rfl, hfz, hnd⟩ := hW
  have hA : DataW.TrodAll enc Try.prog W 0 (fun _ => true) true Try.f3.params.toList args.toList ds p := hA0
  rw [Try.params3] at hA hval
  obtain ⟨v0, vs0, d0, ds0, p0, q0, hargs, rfl, rfl, h0, r0⟩ := trodAll_cons hA
  obtain ⟨v1, vs1, d1, ds1, p1, q1, rfl, rfl, rfl, h1, r1⟩ := trodAll_cons r0
  obtain ⟨v2, vs2, d2, ds2, p2, q2, rfl, rfl, rfl, h2, r2⟩ := trodAll_cons r1
  obtain ⟨rfl, rfl, rfl⟩ := trodAll_nil r2
  obtain rfl : args = #[v0, v1, v2] := by cases args; simp_all
  obtain ⟨rfl, rfl⟩ := trodVars_none hV
  obtain ⟨a0, len0, cap0, rfl⟩ := okWide_slice Try.underlying22 (hval 0 22 v0 rfl rfl)
  have k0 := h0
  have lt0 : ∀ x ∈ p0, x.block < W.heap.size := by obtain ⟨m, hm⟩ := k0; exact DataW.trod_lt m _ _ _ hm
  obtain ⟨l0, x0, y0⟩ := open_RI h0
  obtain ⟨a1, len1, cap1, rfl⟩ := okWide_slice Try.underlying22 (hval 1 22 v1 rfl rfl)
  have k1 := h1
  have lt1 : ∀ x ∈ p1, x.block < W.heap.size := by obtain ⟨m, hm⟩ := k1; exact DataW.trod_lt m _ _ _ hm
  obtain ⟨l1, x1, y1⟩ := open_RI h1
  obtain ⟨a2, len2, cap2, rfl⟩ := okWide_slice Try.underlying22 (hval 2 22 v2 rfl rfl)
  have k2 := h2
  have lt2 : ∀ x ∈ p2, x.block < W.heap.size := by obtain ⟨m, hm⟩ := k2; exact DataW.trod_lt m _ _ _ hm
  obtain ⟨l2, x2, y2⟩ := open_RI h2
  clear hA0 hval0
  refine (walk cap0 cap1 cap2 x0 y0 x1 y1 x2 y2).mono fun e W' ⟨he, bel⟩ => ?_
  subst he
  exact ⟨_, rfl, _, _, _, [], _, [], hW', trodAll_mk1 (shut_bool Try.underlying4 _), (trodAll_cons_mk (Below.trod laidOut (by kernel_rfl) (of_decide_eq_true (by kernel_rfl)) k0 bel lt0) (trodAll_cons_mk (Below.trod laidOut (by kernel_rfl) (of_decide_eq_true (by kernel_rfl)) k1 bel lt1) (trodAll_cons_mk (Below.trod laidOut (by kernel_rfl) (of_decide_eq_true (by kernel_rfl)) k2 bel lt2) trodAll_mk0))), rfl, bel.frame _, fun h => by cases h⟩

theorem over : Rows.fnExactCountPuzzlesRow.holds Try.pinned (OpenSpec.ofChange Rows.fnExactCountPuzzlesSpec) :=
  OpenClaim.holds_of_wide 3 Try.f3 rfl rfl rfl rfl rfl rfl rfl ⟨rfl, rfl, rfl, rfl, rfl⟩ rfl rfl rfl rfl rfl (by kernel_rfl) Try.func3 (by kernel_rfl)
    (of_decide_eq_true (by kernel_rfl)) (by unfold Func.isWrapper; first | (rw [if_pos (by decide +kernel)]; kernel_rfl) | (rw [if_neg (by decide +kernel)]; exact ⟨rfl, rfl⟩))
    (fun os started H enc _ => lifted os started H enc)

theorem proved : Rows.FnExactCountPuzzlesSaid := over
end Go.Proofs.Ytnljlophgolejaa.lawCountPuzzles
