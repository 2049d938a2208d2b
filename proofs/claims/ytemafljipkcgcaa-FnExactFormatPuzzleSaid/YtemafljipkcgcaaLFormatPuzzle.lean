/- For every puzzle: the program's FormatPuzzle returns what the reference's returns, and the puzzle reads afterwards as it read before. -/
import Derived.Test.YtemafljipkcgcaaFmtP
import Derived.Test.YtemafljipkcgcaaPuzF
import Derived.ShutString
import Derived.ChangeOld
import Derived.Lib.SmallJoins
import Derived.Deep.RegionHeld3
namespace Go.Proofs.Ytemafljipkcgcaa.lawFormatPuzzle
open Go.ChangeShapes Go.WideShapes Go.ChangeAt Go.RowKit
open Go.ChangeMaps (open_string shut_string)

set_option maxHeartbeats 2000000 in
theorem walk {A1 A2 A3 : Option Addr} {n1 n2 n3 : Nat} (c1 c2 c3 : Nat) (S : Int) {L R B : List Int} {w : World} (h1 : RI w A1 n1 L) (h2 : RI w A2 n2 R) (h3 : RI w A3 n3 B) (m1 : n1 ≤ 9223372036854775807) (m2 : n2 ≤ 9223372036854775807) (m3 : n3 ≤ 9223372036854775807) :
    Calls Try.prog 9 #[.agg #[.int .i64 S, .slice A1 n1 c1, .slice A2 n2 c2, .slice A3 n3 c3]] w (Law w) := by
  go_enter Try.func9, Try.ntmps9
  go_wp2_with fail
  obtain ⟨w0, e0⟩ : ∃ w0 : World, w0 = w.alloc (Obj.cells #[Value.int IntKind.i64 S, Value.slice A1 n1 c1, Value.slice A2 n2 c2, Value.slice A3 n3 c3] 24) := ⟨_, rfl⟩
  have g0 : Below w.heap.size w w0 := by rw [e0]; exact (Below.refl _ _).alloc (Nat.le_refl _) _
  obtain ⟨bx, hbx⟩ : ∃ g, g = w.heap.size := ⟨_, rfl⟩
  have K0 : Hid (BK w0 bx 24 [Value.int IntKind.i64 S, Value.slice A1 n1 c1, Value.slice A2 n2 c2, Value.slice A3 n3 c3]) := by
    rw [e0, hbx]; exact BK.new w _ _
  rw [← e0, ← hbx]
  clear e0 hbx
  refine (szPz_any _ _ _ S m1 m2 m3).mono ?_
  rintro e w1 ⟨rfl | ⟨rfl, hle⟩, b1⟩
  · have g1 := bnext g0 b1 g0.size
    go_wp2
    go_ret
    exact ⟨rfl, g1⟩
  have g1 := bnext g0 b1 g0.size
  have K1 : Hid (BK w1 bx _ _) := K0.out.below b1 K0.out.lt
  have q0 := K1.out.cell (j := 0) rfl
  have q1 := K1.out.cell (j := 1) rfl
  have q2 := K1.out.cell (j := 2) rfl
  have q3 := K1.out.cell (j := 3) rfl
  go_wp2_with fail
  clear q0 q1 q2 q3
  refine (toPz_any _ _ _ S (h1.below g1) (h2.below g1) (h3.below g1) (by omega) (by omega) (by omega)).mono ?_
  rintro e w2 ⟨B1, p1, d1, B2, p2, d2, B3, p3, d3, rfl, o2, r1, r2, r3, -, -, -, b2⟩
  obtain rfl : n1 = p1 := h1.1.symm.trans r1.1
  obtain rfl : n2 = p2 := h2.1.symm.trans r2.1
  obtain rfl : n3 = p3 := h3.1.symm.trans r3.1
  have g2 := bnext g1 b2 g1.size
  have K2 : Hid (BK w2 bx _ _) := K1.out.below b2 K1.out.lt
  go_wp2_with fail
  refine (sFmtP_any _ _ _ S r1 r2 r3 (by omega) (by omega) (by omega)).mono ?_
  rintro e w3 ⟨rfl, b3⟩
  have g3 := bnext g2 b3 g2.size
  have K3 : Hid (BK w3 bx _ _) := K2.out.below b3 K2.out.lt
  have q0 := K3.out.cell (j := 0) rfl
  have q1 := K3.out.cell (j := 1) rfl
  have q2 := K3.out.cell (j := 2) rfl
  have q3 := K3.out.cell (j := 3) rfl
  go_wp2_with fail
  clear q0 q1 q2 q3
  refine (toPz_any _ _ _ S (h1.below g3) (h2.below g3) (h3.below g3) (by omega) (by omega) (by omega)).mono ?_
  rintro e w4 ⟨C1, p1, e1, C2, p2, e2, C3, p3, e3, rfl, o4, r1, r2, r3, -, -, -, b4⟩
  obtain rfl : n1 = p1 := h1.1.symm.trans r1.1
  obtain rfl : n2 = p2 := h2.1.symm.trans r2.1
  obtain rfl : n3 = p3 := h3.1.symm.trans r3.1
  have g4 := bnext g3 b4 g3.size
  have K4 : Hid (BK w4 bx _ _) := K3.out.below b4 K3.out.lt
  go_wp2_with fail
  obtain ⟨w5, e5⟩ : ∃ w5 : World, w5 = w4.alloc (Obj.cells #[Value.int IntKind.i64 S, Value.slice C1 n1 e1, Value.slice C2 n2 e2, Value.slice C3 n3 e3] 27) := ⟨_, rfl⟩
  have b5 : Below w4.heap.size w4 w5 := by rw [e5]; exact (Below.refl _ _).alloc (Nat.le_refl _) _
  obtain ⟨by_, hby⟩ : ∃ g, g = w4.heap.size := ⟨_, rfl⟩
  have J5 : Hid (BK w5 by_ 27 [Value.int IntKind.i64 S, Value.slice C1 n1 e1, Value.slice C2 n2 e2, Value.slice C3 n3 e3]) := by
    rw [e5, hby]; exact BK.new w4 _ _
  rw [← e5, ← hby]
  clear e5 hby
  have g5 := bnext g4 b5 g4.size
  have K5 : Hid (BK w5 bx _ _) := K4.out.below b5 K4.out.lt
  refine (iFmtP_any _ _ _ S (r1.below b5) (r2.below b5) (r3.below b5) (by omega) (by omega) (by omega)).mono ?_
  rintro e w6 ⟨rfl, b6⟩
  have g6 := bnext g5 b6 g5.size
  have K6 : Hid (BK w6 bx _ _) := K5.out.below b6 K5.out.lt
  have J6 : Hid (BK w6 by_ _ _) := J5.out.below b6 J5.out.lt
  have q0 := K6.out.cell (j := 0) rfl
  have q1 := K6.out.cell (j := 1) rfl
  have q2 := K6.out.cell (j := 2) rfl
  have q3 := K6.out.cell (j := 3) rfl
  have t0 := J6.out.cell (j := 0) rfl
  have t1 := J6.out.cell (j := 1) rfl
  have t2 := J6.out.cell (j := 2) rfl
  have t3 := J6.out.cell (j := 3) rfl
  go_wp2_with fail
  have i1 : RI w6 A1 n1 L := h1.below g6
  have i2 : RI w6 A2 n2 R := h2.below g6
  have i3 : RI w6 A3 n3 B := h3.below g6
  go_region_held3 (fun w' => (w'.cell? ⟨bx, 0, none⟩ = some (Value.int IntKind.i64 S) ∧ w'.cell? ⟨bx, 1, none⟩ = some (Value.slice A1 n1 c1) ∧ w'.cell? ⟨bx, 2, none⟩ = some (Value.slice A2 n2 c2) ∧ w'.cell? ⟨bx, 3, none⟩ = some (Value.slice A3 n3 c3)) ∧ w'.cell? ⟨by_, 0, none⟩ = some (Value.int IntKind.i64 S) ∧ w'.cell? ⟨by_, 1, none⟩ = some (Value.slice C1 n1 e1) ∧ w'.cell? ⟨by_, 2, none⟩ = some (Value.slice C2 n2 e2) ∧ w'.cell? ⟨by_, 3, none⟩ = some (Value.slice C3 n3 e3)) (first | exact ⟨⟨q0, q1, q2, q3⟩, t0, t1, t2, t3⟩ | exact ⟨K7.out.four, J7.out.four⟩ | exact ⟨K8.out.four, J8.out.four⟩) (first
    | (go_at_call 17; refine (toPz_any _ _ _ S (by exact i1) (by exact i2) (by exact i3) (by omega) (by omega) (by omega)).mono ?_; rintro e w7 ⟨D1, p1, f1, D2, p2, f2, D3, p3, f3, rfl, o7, y1, y2, y3, -, -, -, b7⟩; obtain rfl : n1 = p1 := h1.1.symm.trans y1.1; obtain rfl : n2 = p2 := h2.1.symm.trans y2.1; obtain rfl : n3 = p3 := h3.1.symm.trans y3.1; have b7 : Below w6.heap.size w6 w7 := ⟨b7.os, b7.tape, b7.output, b7.size, b7.block⟩; have g7 := bnext g6 b7 g6.size; have K7 : Hid (BK w7 bx _ _) := K6.out.below b7 K6.out.lt; have J7 : Hid (BK w7 by_ _ _) := J6.out.below b7 J6.out.lt; have i4 : RI w7 C1 n1 L := ((r1.below b5).below b6).below b7; have i5 : RI w7 C2 n2 R := ((r2.below b5).below b6).below b7; have i6 : RI w7 C3 n3 B := ((r3.below b5).below b6).below b7)
    | (go_at_call 19; refine (eqPz_any _ _ _ _ _ _ S (by exact i4) (by exact i5) (by exact i6) (by exact y1) (by exact y2) (by exact y3) (by omega) (by omega) (by omega)).mono ?_; rintro e w8 ⟨rfl, b8⟩; have b8 : Below w7.heap.size w7 w8 := ⟨b8.os, b8.tape, b8.output, b8.size, b8.block⟩; have g8 := bnext g7 b8 g7.size; have K8 : Hid (BK w8 bx _ _) := K7.out.below b8 K7.out.lt; have J8 : Hid (BK w8 by_ _ _) := J7.out.below b8 J7.out.lt))
  go_wp2
  go_ret
  exact ⟨rfl, g8⟩

set_option maxRecDepth 100000 in
theorem lifted (os : Os) (started : os.Started) (H : Type) (enc : TypeId × Value → H) :
    ReturnsInHanded {} Try.checked os 9 .any (Rows.fnExactFormatPuzzleSpec.pre6 enc Try.prog Try.f9 Rows.fnExactFormatPuzzleRow.domain false) (Rows.fnExactFormatPuzzleSpec.post enc Try.prog Try.f9 false true false false) := by
  refine returnsInHanded_of_change (C := Try.checked) own started (by kernel_rfl) Try.func9
    (ChangeSpec.witness6 (enc := enc) (C := Try.checked) false ⟨#[], #[.agg #[.int .i64 0, .slice none 0 0, .slice none 0 0, .slice none 0 0]], []⟩ 8 (by kernel_rfl) (by kernel_rfl) (by kernel_rfl) (by kernel_rfl)) ?_
  intro W base args ds gs before hval0 hW hcnd _
  have hval : ∀ (j : Nat) t v, Try.f9.params[j]? = some t → args[j]? = some v → Value.okWide Try.prog W .any base t v := hval0
  have hW' := hW
  obtain ⟨p, q, hA0, hV, rfl, hfz, hnd⟩ := hW'
  have hA : DataW.TrodAll enc Try.prog W 0 (fun _ => true) true Try.f9.params.toList args.toList ds p := hA0
  rw [Try.params9] at hA hval
  obtain ⟨v0, vs0, d0, ds0, p0, q0, hargs, rfl, rfl, h0, r0⟩ := trodAll_cons hA
  obtain ⟨rfl, rfl, rfl⟩ := trodAll_nil r0
  obtain rfl : args = #[v0] := by cases args; simp_all
  obtain ⟨rfl, rfl⟩ := trodVars_none hV
  have k0 := h0
  have lt0 : ∀ x ∈ p0, x.block < W.heap.size := by obtain ⟨m, hm⟩ := k0; exact DataW.trod_lt m _ _ _ hm
  obtain ⟨S0, a1, n1, c1, a2, n2, c2, a3, n3, c3, L, R, B, rfl, x1, x2, x3, z1, z2, z3⟩ := open_Pz (hval 0 24 v0 rfl rfl) h0
  clear hA0 hval0
  refine (walk c1 c2 c3 S0 x1 x2 x3 z1 z2 z3).mono fun e W' ⟨he, bel⟩ => ?_
  subst he
  exact ⟨_, rfl, _, _, _, [], _, [], hW, trodAll_mk1 (shut_bool Try.underlying4 _), (trodAll_cons_mk (Below.trod laidOut (by kernel_rfl) (of_decide_eq_true (by kernel_rfl)) k0 bel lt0) trodAll_mk0), rfl, bel.frame _, fun h => by cases h⟩

theorem over : Rows.fnExactFormatPuzzleRow.holds Try.pinned (OpenSpec.ofChange Rows.fnExactFormatPuzzleSpec) :=
  OpenClaim.holds_of_wide 9 Try.f9 rfl rfl rfl rfl rfl rfl rfl ⟨rfl, rfl, rfl, rfl, rfl⟩ rfl rfl rfl rfl rfl (by kernel_rfl) Try.func9 (by kernel_rfl)
    (of_decide_eq_true (by kernel_rfl)) (by unfold Func.isWrapper; first | (rw [if_pos (by decide +kernel)]; kernel_rfl) | (rw [if_neg (by decide +kernel)]; exact ⟨rfl, rfl⟩))
    (fun os started H enc _ => lifted os started H enc)

theorem proved : Rows.FnExactFormatPuzzleSaid := over
end Go.Proofs.Ytemafljipkcgcaa.lawFormatPuzzle
