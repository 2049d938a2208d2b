/- For every slice of shapes with powers: the program's FormatQParts returns what the reference's returns, and the slice reads afterwards as it read before. -/
import Derived.Test.YtemafljipkcgcaaQStr
import Derived.ChangeOld
import Derived.Lib.SmallJoins
namespace Go.Proofs.Ytemafljipkcgcaa.lawFormatQParts
open Go.ChangeShapes Go.WideShapes Go.ChangeAt Go.RowKit

set_option maxHeartbeats 2000000 in
theorem walk {A : Option Addr} {n : Nat} {ps : List QT} {w : World} (c : Nat) (hx : RQ w A n ps) (hn : n ≤ 9223372036854775807) :
    Calls Try.prog 10 #[.slice A n c] w (Law w) := by
  go_enter Try.func10, Try.ntmps10
  go_wp2_with fail
  refine (szQ_any _ hx hn).mono ?_
  rintro e w1 ⟨rfl | ⟨x, hx0, rfl, hle, hls⟩, b1⟩
  · go_wp2
    go_ret
    exact ⟨rfl, b1⟩
  have hx0' : ¬ x < 0 := by omega
  have g1 := b1
  have HX := Lib.hid (hx.below g1)
  have HI : Hid (∀ k, k < ps.length → QIn (nthQ ps k)) := fun k hk => by
    rw [hx.1] at hk
    obtain ⟨ad, -, A', n', c', -, -, -, hr, -, h5, h6, h7⟩ := hx.2 k hk
    exact ⟨h5, h6, fun j hj => h7 j (by rw [← hr.1]; exact hj), hls k hk⟩
  have HS := Lib.hid hls
  have HL := Lib.hid hx.1
  have HL' : Hid (ps.length ≤ 1048576) := by show ps.length ≤ 1048576; rw [hx.1]; exact hle
  clear hls
  go_wp2_with fail
  refine (toQ_any _ HX.out hle HS.out).mono ?_
  rintro e w2 ⟨g, cs, rfl, hg, K2, hcs, hq, b2⟩
  have O2 : Hid (OQ w2 g ps) := ⟨cs, K2, hcs, hq⟩
  clear K2 hcs hq
  have g2 := bnext g1 b2 g1.size
  go_wp2_with fail
  refine (sFmtQ_any O2.out rfl HL'.out HI.out).mono ?_
  rintro e w3 ⟨rfl, b3⟩
  have g3 := bnext g2 b3 g2.size
  go_wp2_with fail
  refine (toQ_any _ (hx.below g3) hle HS.out).mono ?_
  rintro e w4 ⟨h, cs4, rfl, hg4, K4, hcs4, hq4, b4⟩
  have O4 : Hid (OQ w4 h ps) := ⟨cs4, K4, hcs4, hq4⟩
  clear K4 hcs4 hq4
  have g4 := bnext g3 b4 g3.size
  go_wp2_with fail
  refine (iFmtQ_any O4.out rfl HL'.out HI.out).mono ?_
  rintro e w5 ⟨rfl, b5⟩
  have g5 := bnext g4 b5 g4.size
  go_wp2_with fail
  refine (toQ_any _ (hx.below g5) hle HS.out).mono ?_
  rintro e w6 ⟨h6, cs6, rfl, hg6, K6, hcs6, hq6, b6⟩
  have O6 : Hid (OQ w6 h6 ps) := ⟨cs6, K6, hcs6, hq6⟩
  clear K6 hcs6 hq6
  have g6 := bnext g5 b6 g5.size
  go_wp2_with fail
  refine (eqQ_any ((O4.out.below b5).below b6) O6.out rfl (Nat.le_trans HL'.out (by decide)) (fun k hk => HS.out k (by rw [← HL.out]; exact hk))).mono ?_
  rintro e w7 ⟨rfl, b7⟩
  have g7 := bnext g6 b7 g6.size
  go_wp2
  go_ret
  exact ⟨rfl, g7⟩

set_option maxRecDepth 100000 in
theorem lifted (os : Os) (started : os.Started) (H : Type) (enc : TypeId × Value → H) :
    ReturnsInHanded {} Try.checked os 10 .any (Rows.fnExactFormatQPartsSpec.pre6 enc Try.prog Try.f10 Rows.fnExactFormatQPartsRow.domain false) (Rows.fnExactFormatQPartsSpec.post enc Try.prog Try.f10 false true false false) := by
  refine returnsInHanded_of_change (C := Try.checked) own started (by kernel_rfl) Try.func10
    (ChangeSpec.witness6 (enc := enc) (C := Try.checked) false ⟨#[], #[.slice none 0 0], []⟩ 8 (by kernel_rfl) (by kernel_rfl) (by kernel_rfl) (by kernel_rfl)) ?_
  intro W base args ds gs before hval0 hW hcnd _
  have hval : ∀ (j : Nat) t v, Try.f10.params[j]? = some t → args[j]? = some v → Value.okWide Try.prog W .any base t v := hval0
  have hW' := hW
  obtain ⟨p, q, hA0, hV, rfl, hfz, hnd⟩ := hW
  have hA : DataW.TrodAll enc Try.prog W 0 (fun _ => true) true Try.f10.params.toList args.toList ds p := hA0
  rw [Try.params10] at hA hval
  obtain ⟨v0, vs0, d0, ds0, p0, q0, hargs, rfl, rfl, h0, r0⟩ := trodAll_cons hA
  obtain ⟨rfl, rfl, rfl⟩ := trodAll_nil r0
  obtain rfl : args = #[v0] := by cases args; simp_all
  obtain ⟨rfl, rfl⟩ := trodVars_none hV
  obtain ⟨a0, len0, cap0, rfl⟩ := okWide_slice Try.underlying43 (hval 0 43 v0 rfl rfl)
  have k0 := h0
  have lt0 : ∀ x ∈ p0, x.block < W.heap.size := by obtain ⟨m, hm⟩ := k0; exact DataW.trod_lt m _ _ _ hm
  obtain ⟨l0, x0, y0⟩ := open_RQ h0
  clear hA0 hval0
  refine (walk cap0 x0 y0).mono fun e W' ⟨he, bel⟩ => ?_
  subst he
  exact ⟨_, rfl, _, _, _, [], _, [], hW', trodAll_mk1 (shut_bool Try.underlying4 _), (trodAll_cons_mk (Below.trod laidOut (by kernel_rfl) (of_decide_eq_true (by kernel_rfl)) k0 bel lt0) trodAll_mk0), rfl, bel.frame _, fun h => by cases h⟩

theorem over : Rows.fnExactFormatQPartsRow.holds Try.pinned (OpenSpec.ofChange Rows.fnExactFormatQPartsSpec) :=
  OpenClaim.holds_of_wide 10 Try.f10 rfl rfl rfl rfl rfl rfl rfl ⟨rfl, rfl, rfl, rfl, rfl⟩ rfl rfl rfl rfl rfl (by kernel_rfl) Try.func10 (by kernel_rfl)
    (of_decide_eq_true (by kernel_rfl)) (by unfold Func.isWrapper; first | (rw [if_pos (by decide +kernel)]; kernel_rfl) | (rw [if_neg (by decide +kernel)]; exact ⟨rfl, rfl⟩))
    (fun os started H enc _ => lifted os started H enc)

theorem proved : Rows.FnExactFormatQPartsSaid := over
end Go.Proofs.Ytemafljipkcgcaa.lawFormatQParts
