/- For all lists of shapes and all numbers k, n: the program's IntersectionNumber returns what the reference's returns, and the lists read afterwards as they read before. -/
import Derived.Test.YtmodpicemlkbjaaSArg
import Derived.Test.YtmodpicemlkbjaaInterT
namespace Go.Proofs.Ytmodpicemlkbjaa.lawIntersectionNumber
open Go.ChangeShapes Go.WideShapes Go.ChangeAt Go.RowKit
open Go.ChangeMaps (open_string shut_string)

set_option maxHeartbeats 2000000 in
theorem walk {A : Option Addr} {n : Nat} {ls : List (List Int)} {w : World} (c : Nat) (k m : Int) (hx : RS w A n ls) (hn : n ≤ 9223372036854775807) (hk : -9223372036854775808 ≤ k ∧ k ≤ 9223372036854775807) (hm : -9223372036854775808 ≤ m ∧ m ≤ 9223372036854775807) :
    Calls Try.prog 3 #[.slice A n c, .int .i64 k, .int .i64 m] w (Law w) := by
  go_enter Try.func3, Try.ntmps3
  go_wp2_with fail
  refine (szS_any _ hx hn).mono ?_
  rintro e w1 ⟨rfl | ⟨x, hx0, rfl, hle, hls⟩, b1⟩
  · go_wp2
    go_ret
    exact ⟨rfl, b1⟩
  have hx0' : ¬ x < 0 := by omega
  have g1 := b1
  have HX := Lib.hid (hx.below g1)
  have HS := Lib.hid hls
  have HLS : Hid (∀ s ∈ ls, s.length ≤ 1000000000) := fun s hs => by
    obtain ⟨i, hi, e⟩ := List.getElem_of_mem hs
    have := hls i (by rw [← hx.1]; exact hi)
    rw [nthL_lt hi, e] at this
    omega
  have HL := Lib.hid hx.1
  clear hls
  go_wp2_with fail
  refine (toS_any _ HX.out hle HS.out).mono ?_
  rintro e w2 ⟨A2, n2, c2, cs2, rfl, o2, l2, ⟨cp2, le2⟩, b2⟩
  have g2 := bnext g1 b2 g1.size
  go_wp2_with fail
  refine (sInter_any k m o2 HLS.out).mono ?_
  rintro e w3 ⟨rfl, b3⟩
  have g3 := bnext g2 b3 g2.size
  clear o2
  obtain ⟨r, hr⟩ : ∃ r, r = interB ls k m := ⟨_, rfl⟩
  have HR := Lib.hid hr
  rw [← hr]
  clear hr
  go_wp2_with fail
  refine (toS_any _ (hx.below g3) hle HS.out).mono ?_
  rintro e w4 ⟨A4, n4, c4, cs4, rfl, o4, l4, ⟨cp4, le4⟩, b4⟩
  have O4 := Lib.hid o4
  have g4 := bnext g3 b4 g3.size
  clear o4
  go_wp2_with fail
  refine (iInter_any k m O4.out HLS.out).mono ?_
  rw [← HR.out]
  rintro e w5 ⟨rfl, b5⟩
  have g5 := bnext g4 b5 g4.size
  have t1 : (r != r) = false := by simp
  go_wp2_with fail
  refine (toS_any _ (hx.below g5) hle HS.out).mono ?_
  rintro e w6 ⟨A6, n6, c6, cs6, rfl, o6, l6, ⟨cp6, le6⟩, b6⟩
  have O6 := Lib.hid o6
  have g6 := bnext g5 b6 g5.size
  clear o6
  go_wp2_with fail
  refine (eqS_any _ _ (OS.rs ((O4.out.below b5).below b6) l4.symm) (OS.rs O6.out l6.symm) (by rw [← l4, HL.out]; omega)).mono ?_
  rintro e w7 ⟨rfl, b7⟩
  have g7 := bnext g6 b7 g6.size
  go_wp2
  go_ret
  exact ⟨rfl, g7⟩

set_option maxRecDepth 100000 in
theorem lifted (os : Os) (started : os.Started) (H : Type) (enc : TypeId × Value → H) :
    ReturnsInHanded {} Try.checked os 3 .any (Rows.fnExactIntersectionNumberSpec.pre6 enc Try.prog Try.f3 Rows.fnExactIntersectionNumberRow.domain false) (Rows.fnExactIntersectionNumberSpec.post enc Try.prog Try.f3 false true false false) := by
  refine returnsInHanded_of_change (C := Try.checked) own started (by kernel_rfl) Try.func3
    (ChangeSpec.witness6 (enc := enc) (C := Try.checked) false ⟨#[], #[.slice none 0 0, .int .i64 0, .int .i64 0], []⟩ 8 (by kernel_rfl) (by kernel_rfl) (by kernel_rfl) (by kernel_rfl)) ?_
  intro W base args ds gs before hval0 hW hcnd _
  have hval : ∀ (j : Nat) t v, Try.f3.params[j]? = some t → args[j]? = some v → Value.okWide Try.prog W .any base t v := hval0
  have hW' := hW
  obtain ⟨p, q, hA0, hV, rfl, hfz, hnd⟩ := hW
  have hA : DataW.TrodAll enc Try.prog W 0 (fun _ => true) true Try.f3.params.toList args.toList ds p := hA0
  rw [Try.params3] at hA hval
  obtain ⟨v0, vs0, d0, ds0, p0, q0, hargs, rfl, rfl, h0, r0⟩ := trodAll_cons hA
  obtain ⟨v1, vs1, d1, ds1, p1, q1, rfl, rfl, rfl, h1, r1⟩ := trodAll_cons r0
  obtain ⟨v2, vs2, d2, ds2, p2, q2, rfl, rfl, rfl, h2, r2⟩ := trodAll_cons r1
  obtain ⟨rfl, rfl, rfl⟩ := trodAll_nil r2
  obtain rfl : args = #[v0, v1, v2] := by cases args; simp_all
  obtain ⟨rfl, rfl⟩ := trodVars_none hV
  obtain ⟨a0, len0, cap0, rfl⟩ := okWide_slice Try.underlying22 (hval 0 22 v0 rfl rfl)
  have k0 := h0
  have lt0 : ∀ x ∈ p0, x.block < W.heap.size := by obtain ⟨m, hm⟩ := k0; exact DataW.trod_lt m _ _ _ hm
  obtain ⟨l0, x0, y0⟩ := open_RS h0
  obtain ⟨a1, rfl, rfl, rfl, w1⟩ := open_int Try.underlying3 (hval 1 3 v1 rfl rfl) h1
  obtain ⟨a2, rfl, rfl, rfl, w2⟩ := open_int Try.underlying3 (hval 2 3 v2 rfl rfl) h2
  clear hA0 hval0
  refine (walk cap0 a1 a2 x0 y0 (wfI w1) (wfI w2)).mono fun e W' ⟨he, bel⟩ => ?_
  subst he
  exact ⟨_, rfl, _, _, _, [], _, [], hW', trodAll_mk1 (shut_bool Try.underlying4 _), (trodAll_cons_mk (Below.trod laidOut (by kernel_rfl) (of_decide_eq_true (by kernel_rfl)) k0 bel lt0) (trodAll_cons_mk (shut_int Try.underlying3 w1) (trodAll_cons_mk (shut_int Try.underlying3 w2) trodAll_mk0))), rfl, bel.frame _, fun h => by cases h⟩

theorem over : Rows.fnExactIntersectionNumberRow.holds Try.pinned (OpenSpec.ofChange Rows.fnExactIntersectionNumberSpec) :=
  OpenClaim.holds_of_wide 3 Try.f3 rfl rfl rfl rfl rfl rfl rfl ⟨rfl, rfl, rfl, rfl, rfl⟩ rfl rfl rfl rfl rfl (by kernel_rfl) Try.func3 (by kernel_rfl)
    (of_decide_eq_true (by kernel_rfl)) (by unfold Func.isWrapper; first | (rw [if_pos (by decide +kernel)]; kernel_rfl) | (rw [if_neg (by decide +kernel)]; exact ⟨rfl, rfl⟩))
    (fun os started H enc _ => lifted os started H enc)

theorem proved : Rows.FnExactIntersectionNumberSaid := over
end Go.Proofs.Ytmodpicemlkbjaa.lawIntersectionNumber
