/- For every puzzle: the program's MirrorPuzzle returns what the reference's returns, in new memory, and again so at a second call; the puzzle reads afterwards as it read before. -/
import Derived.Test.YtemafljipkcgcaaTurnC
import Derived.Test.YtemafljipkcgcaaPuzN
import Derived.ShutString
import Derived.ChangeOld
import Derived.Lib.SmallJoins
import Derived.Deep.RegionHeld3
namespace Go.Proofs.Ytemafljipkcgcaa.lawMirrorPuzzle
open Go.ChangeShapes Go.WideShapes Go.ChangeAt Go.RowKit
open Go.ChangeMaps (open_string shut_string)

def Ap9 (v1 v2 v3 u1 u2 u3 : Value) : Prop := (Ap v1 u1 ∧ Ap v1 u2 ∧ Ap v1 u3) ∧ (Ap v2 u1 ∧ Ap v2 u2 ∧ Ap v2 u3) ∧ (Ap v3 u1 ∧ Ap v3 u2 ∧ Ap v3 u3)
theorem Ap9.flip {v1 v2 v3 u1 u2 u3 : Value} (h : Ap9 v1 v2 v3 u1 u2 u3) : Ap9 u1 u2 u3 v1 v2 v3 :=
  ⟨⟨h.1.1.flip, h.2.1.1.flip, h.2.2.1.flip⟩, ⟨h.1.2.1.flip, h.2.1.2.1.flip, h.2.2.2.1.flip⟩, ⟨h.1.2.2.flip, h.2.1.2.2.flip, h.2.2.2.2.flip⟩⟩
theorem apart9 {wa wb : World} {b1 b2 : Nat} {v1 v2 v3 u1 u2 u3 : Value} {a b c d e f : List Int} (T : Three wa b1 v1 v2 v3 a b c) (U : Three wb b2 u1 u2 u3 d e f) (h : wa.heap.size ≤ b2) : Ap9 v1 v2 v3 u1 u2 u3 :=
  ⟨⟨apart T.1 U.1 h, apart T.1 U.2.1 h, apart T.1 U.2.2.1 h⟩, ⟨apart T.2.1 U.1 h, apart T.2.1 U.2.1 h, apart T.2.1 U.2.2.1 h⟩, ⟨apart T.2.2.1 U.1 h, apart T.2.2.1 U.2.1 h, apart T.2.2.1 U.2.2.1 h⟩⟩
theorem keep9 {w w' : World} {b1 : Nat} {v1 v2 v3 u1 u2 u3 : Value} {a b c : List Int} (T : Three w b1 v1 v2 v3 a b c) (A : Ap9 v1 v2 v3 u1 u2 u3) (HK : ∀ b v l, OI w b v l → Ap v u1 → Ap v u2 → Ap v u3 → OI w' b v l) : Three w' b1 v1 v2 v3 a b c :=
  ⟨HK _ _ _ T.1 A.1.1 A.1.2.1 A.1.2.2, HK _ _ _ T.2.1 A.2.1.1 A.2.1.2.1 A.2.1.2.2, HK _ _ _ T.2.2.1 A.2.2.1 A.2.2.2.1 A.2.2.2.2, T.2.2.2⟩

set_option maxRecDepth 4000 in
set_option maxHeartbeats 4000000 in
theorem walk {A1 A2 A3 : Option Addr} {n1 n2 n3 : Nat} (c1 c2 c3 : Nat) (S : Int) {L R B : List Int} {w : World} (h1 : RI w A1 n1 L) (h2 : RI w A2 n2 R) (h3 : RI w A3 n3 B) (m1 : n1 ≤ 9223372036854775807) (m2 : n2 ≤ 9223372036854775807) (m3 : n3 ≤ 9223372036854775807) :
    Calls Try.prog 8 #[.agg #[.int .i64 S, .slice A1 n1 c1, .slice A2 n2 c2, .slice A3 n3 c3]] w (Law w) := by
  have hsb : -9223372036854775808 ≤ S → True := fun _ => trivial
  go_enter Try.func8, Try.ntmps8
  go_wp2_with fail
  obtain ⟨w0, e0⟩ : ∃ w0 : World, w0 = w.alloc (Obj.cells #[Value.int IntKind.i64 S, Value.slice A1 n1 c1, Value.slice A2 n2 c2, Value.slice A3 n3 c3] 24) := ⟨_, rfl⟩
  have g0 : Below w.heap.size w w0 := by rw [e0]; exact (Below.refl _ _).alloc (Nat.le_refl _) _
  obtain ⟨bx, hbx⟩ : ∃ g, g = w.heap.size := ⟨_, rfl⟩
  have K0 : Hid (BK w0 bx 24 [Value.int IntKind.i64 S, Value.slice A1 n1 c1, Value.slice A2 n2 c2, Value.slice A3 n3 c3]) := by
    rw [e0, hbx]; exact BK.new w _ _
  rw [← e0, ← hbx]
  clear e0 hbx
  refine (szPz_any _ _ _ S m1 m2 m3).mono ?_
  rintro e w1 ⟨rfl | ⟨rfl, hle⟩, b1⟩
  · have g1 := bnext g0 b1 g0.size
    go_wp2
    go_ret
    exact ⟨rfl, g1⟩
  have g1 := bnext g0 b1 g0.size
  have K1 : Hid (BK w1 bx _ _) := K0.out.below b1 K0.out.lt
  obtain ⟨q0, q1, q2, q3⟩ := K1.out.four
  go_wp2_with fail
  clear q0 q1 q2 q3
  refine (toPz_any _ _ _ S (h1.below g1) (h2.below g1) (h3.below g1) (by omega) (by omega) (by omega)).mono ?_
  rintro e w2 ⟨X1, p1, d1, X2, p2, d2, X3, p3, d3, rfl, TT, r1, r2, r3, -, -, -, b2⟩
  obtain rfl : n1 = p1 := h1.1.symm.trans r1.1
  obtain rfl : n2 = p2 := h2.1.symm.trans r2.1
  obtain rfl : n3 = p3 := h3.1.symm.trans r3.1
  have TX2 := Lib.hid TT
  clear TT
  have g2 := bnext g1 b2 g1.size
  have K2 := Lib.hid (K1.out.below b2 K1.out.lt)
  go_wp2_with fail
  refine (sMir_any _ _ _ S r1 r2 r3 (by omega) (by omega) (by omega)).mono ?_
  rintro e w3 ⟨P1, x1, y1, P2, x2, y2, P3, x3, y3, rfl, TT, b3⟩
  have leP1 : x1 ≤ 28 := by have := TT.1.ri.1; have := mirL_len S L R B; omega
  have leP2 : x2 ≤ 28 := by have := TT.2.1.ri.1; have := mirR_len S L R B; omega
  have leP3 : x3 ≤ 28 := by have := TT.2.2.1.ri.1; have := mirB_len S L R B; omega
  have TP3 := Lib.hid TT
  clear TT
  have g3 := bnext g2 b3 g2.size
  have K3 := Lib.hid (K2.out.below b3 K2.out.lt)
  clear r1 r2 r3
  obtain ⟨q0, q1, q2, q3⟩ := (K3.out.alloc (Obj.cells #[Value.int IntKind.i64 (tuS (puzB S L R B true) S), Value.slice P1 x1 y1, Value.slice P2 x2 y2, Value.slice P3 x3 y3] 27)).four
  go_wp2_with fail
  clear q0 q1 q2 q3
  obtain ⟨w4, e4⟩ : ∃ W : World, W = w3.alloc (Obj.cells #[Value.int IntKind.i64 (tuS (puzB S L R B true) S), Value.slice P1 x1 y1, Value.slice P2 x2 y2, Value.slice P3 x3 y3] 27) := ⟨_, rfl⟩
  have b4 : Below w3.heap.size w3 w4 := by rw [e4]; exact (Below.refl _ _).alloc (Nat.le_refl _) _
  obtain ⟨bW_, hbW⟩ : ∃ g, g = w3.heap.size := ⟨_, rfl⟩
  have W4 : Hid (BK w4 bW_ 27 [Value.int IntKind.i64 (tuS (puzB S L R B true) S), Value.slice P1 x1 y1, Value.slice P2 x2 y2, Value.slice P3 x3 y3]) := by show BK w4 bW_ _ _; rw [e4, hbW]; exact BK.new w3 _ _
  have HBW : Hid (bW_ = w3.heap.size) := hbW
  rw [← e4, ← hbW]
  clear e4 hbW
  have g4 := bnext g3 b4 g3.size
  have K4 := Lib.hid (K3.out.below b4 K3.out.lt)
  have TP4 := Lib.hid (TP3.out.below b4)
  refine (toPz_any _ _ _ S (h1.below g4) (h2.below g4) (h3.below g4) (by omega) (by omega) (by omega)).mono ?_
  rintro e w5 ⟨C1, p1, e1, C2, p2, e2, C3, p3, e3, rfl, TT, r1, r2, r3, -, -, -, b5⟩
  obtain rfl : n1 = p1 := h1.1.symm.trans r1.1
  obtain rfl : n2 = p2 := h2.1.symm.trans r2.1
  obtain rfl : n3 = p3 := h3.1.symm.trans r3.1
  have TC5 := Lib.hid TT
  clear TT
  have g5 := bnext g4 b5 g4.size
  have K5 := Lib.hid (K4.out.below b5 K4.out.lt)
  have W5 := Lib.hid (W4.out.below b5 W4.out.lt)
  have TP5 := Lib.hid (TP4.out.below b5)
  go_wp2_with fail
  obtain ⟨w6, e6⟩ : ∃ W : World, W = w5.alloc (Obj.cells #[Value.int IntKind.i64 S, Value.slice C1 n1 e1, Value.slice C2 n2 e2, Value.slice C3 n3 e3] 27) := ⟨_, rfl⟩
  have b6 : Below w5.heap.size w5 w6 := by rw [e6]; exact (Below.refl _ _).alloc (Nat.le_refl _) _
  obtain ⟨bJ_, hbJ⟩ : ∃ g, g = w5.heap.size := ⟨_, rfl⟩
  have J6 : Hid (BK w6 bJ_ 27 [Value.int IntKind.i64 S, Value.slice C1 n1 e1, Value.slice C2 n2 e2, Value.slice C3 n3 e3]) := by show BK w6 bJ_ _ _; rw [e6, hbJ]; exact BK.new w5 _ _
  have HBJ : Hid (bJ_ = w5.heap.size) := hbJ
  rw [← e6, ← hbJ]
  clear e6 hbJ
  have g6 := bnext g5 b6 g5.size
  have K6 := Lib.hid (K5.out.below b6 K5.out.lt)
  have W6 := Lib.hid (W5.out.below b6 W5.out.lt)
  have TP6 := Lib.hid (TP5.out.below b6)
  have TC6 := Lib.hid (TC5.out.below b6)
  clear r1 r2 r3
  refine (iMir_any _ _ _ S TC6.out.1.ri TC6.out.2.1.ri TC6.out.2.2.1.ri (by omega) (by omega) (by omega)).mono ?_
  rintro e w7 ⟨G1, u1, z1, G2, u2, z2, G3, u3, z3, rfl, TT, b7⟩
  have leG1 : u1 ≤ 28 := by have := TT.1.ri.1; have := mirL_len S L R B; omega
  have leG2 : u2 ≤ 28 := by have := TT.2.1.ri.1; have := mirR_len S L R B; omega
  have leG3 : u3 ≤ 28 := by have := TT.2.2.1.ri.1; have := mirB_len S L R B; omega
  have TG7 := Lib.hid TT
  clear TT
  have g7 := bnext g6 b7 g6.size
  have K7 := Lib.hid (K6.out.below b7 K6.out.lt)
  have W7 := Lib.hid (W6.out.below b7 W6.out.lt)
  have J7 := Lib.hid (J6.out.below b7 J6.out.lt)
  have TP7 := Lib.hid (TP6.out.below b7)
  have TC7 := Lib.hid (TC6.out.below b7)
  obtain ⟨q0, q1, q2, q3⟩ := (W7.out.alloc (Obj.cells #[Value.int IntKind.i64 (tuS (puzB S L R B true) S), Value.slice G1 u1 z1, Value.slice G2 u2 z2, Value.slice G3 u3 z3] 27)).four
  go_wp2_with fail
  clear q0 q1 q2 q3
  obtain ⟨w8, e8⟩ : ∃ W : World, W = w7.alloc (Obj.cells #[Value.int IntKind.i64 (tuS (puzB S L R B true) S), Value.slice G1 u1 z1, Value.slice G2 u2 z2, Value.slice G3 u3 z3] 27) := ⟨_, rfl⟩
  have b8 : Below w7.heap.size w7 w8 := by rw [e8]; exact (Below.refl _ _).alloc (Nat.le_refl _) _
  obtain ⟨bV_, hbV⟩ : ∃ g, g = w7.heap.size := ⟨_, rfl⟩
  have V8 : Hid (BK w8 bV_ 27 [Value.int IntKind.i64 (tuS (puzB S L R B true) S), Value.slice G1 u1 z1, Value.slice G2 u2 z2, Value.slice G3 u3 z3]) := by show BK w8 bV_ _ _; rw [e8, hbV]; exact BK.new w7 _ _
  have HBV : Hid (bV_ = w7.heap.size) := hbV
  rw [← e8, ← hbV]
  clear e8 hbV
  have g8 := bnext g7 b8 g7.size
  have K8 := Lib.hid (K7.out.below b8 K7.out.lt)
  have W8 := Lib.hid (W7.out.below b8 W7.out.lt)
  have J8 := Lib.hid (J7.out.below b8 J7.out.lt)
  have TP8 := Lib.hid (TP7.out.below b8)
  have TC8 := Lib.hid (TC7.out.below b8)
  have TG8 := Lib.hid (TG7.out.below b8)
  refine (eqPz_any _ _ _ _ _ _ (tuS (puzB S L R B true) S) TG8.out.1.ri TG8.out.2.1.ri TG8.out.2.2.1.ri TP8.out.1.ri TP8.out.2.1.ri TP8.out.2.2.1.ri (by omega) (by omega) (by omega)).mono ?_
  rintro e w9 ⟨rfl, b9⟩
  have g9 := bnext g8 b9 g8.size
  have K9 := Lib.hid (K8.out.below b9 K8.out.lt)
  have W9 := Lib.hid (W8.out.below b9 W8.out.lt)
  have J9 := Lib.hid (J8.out.below b9 J8.out.lt)
  have V9 := Lib.hid (V8.out.below b9 V8.out.lt)
  have TP9 := Lib.hid (TP8.out.below b9)
  have TC9 := Lib.hid (TC8.out.below b9)
  have TG9 := Lib.hid (TG8.out.below b9)
  obtain ⟨q0, q1, q2, q3⟩ := K9.out.four
  obtain ⟨t0, t1, t2, t3⟩ := J9.out.four
  go_wp2_with fail
  have i1 : RI w9 A1 n1 L := h1.below g9
  have i2 : RI w9 A2 n2 R := h2.below g9
  have i3 : RI w9 A3 n3 B := h3.below g9
  go_region_held3 (fun w' => (w'.cell? ⟨bx, 0, none⟩ = some (Value.int IntKind.i64 S) ∧ w'.cell? ⟨bx, 1, none⟩ = some (Value.slice A1 n1 c1) ∧ w'.cell? ⟨bx, 2, none⟩ = some (Value.slice A2 n2 c2) ∧ w'.cell? ⟨bx, 3, none⟩ = some (Value.slice A3 n3 c3)) ∧ w'.cell? ⟨bJ_, 0, none⟩ = some (Value.int IntKind.i64 S) ∧ w'.cell? ⟨bJ_, 1, none⟩ = some (Value.slice C1 n1 e1) ∧ w'.cell? ⟨bJ_, 2, none⟩ = some (Value.slice C2 n2 e2) ∧ w'.cell? ⟨bJ_, 3, none⟩ = some (Value.slice C3 n3 e3)) (first | exact ⟨⟨q0, q1, q2, q3⟩, t0, t1, t2, t3⟩ | exact ⟨K10.out.four, J10.out.four⟩ | exact ⟨K11.out.four, J11.out.four⟩) (first
    | (go_at_call 17; refine (toPz_any _ _ _ S (by exact i1) (by exact i2) (by exact i3) (by omega) (by omega) (by omega)).mono ?_; rintro e w10 ⟨D1, p1, f1, D2, p2, f2, D3, p3, f3, rfl, -, y1, y2, y3, -, -, -, b10⟩; obtain rfl : n1 = p1 := h1.1.symm.trans y1.1; obtain rfl : n2 = p2 := h2.1.symm.trans y2.1; obtain rfl : n3 = p3 := h3.1.symm.trans y3.1; have b10 : Below w9.heap.size w9 w10 := ⟨b10.os, b10.tape, b10.output, b10.size, b10.block⟩; have g10 := bnext g9 b10 g9.size; have K10 : Hid (BK w10 bx _ _) := K9.out.below b10 K9.out.lt; have J10 : Hid (BK w10 bJ_ _ _) := J9.out.below b10 J9.out.lt; have i4 : RI w10 C1 n1 L := TC9.out.1.ri.below b10; have i5 : RI w10 C2 n2 R := TC9.out.2.1.ri.below b10; have i6 : RI w10 C3 n3 B := TC9.out.2.2.1.ri.below b10)
    | (go_at_call 19; refine (eqPz_any _ _ _ _ _ _ S (by exact i4) (by exact i5) (by exact i6) (by exact y1) (by exact y2) (by exact y3) (by omega) (by omega) (by omega)).mono ?_; rintro e w11 ⟨rfl, b11⟩; have b11 : Below w10.heap.size w10 w11 := ⟨b11.os, b11.tape, b11.output, b11.size, b11.block⟩; have g11 := bnext g10 b11 g10.size; have K11 : Hid (BK w11 bx _ _) := K10.out.below b11 K10.out.lt; have J11 : Hid (BK w11 bJ_ _ _) := J10.out.below b11 J10.out.lt))
  have TP11 := Lib.hid ((TP9.out.below b10).below b11)
  have TC11 := Lib.hid ((TC9.out.below b10).below b11)
  have TG11 := Lib.hid ((TG9.out.below b10).below b11)
  have W11 := Lib.hid ((W9.out.below b10 W9.out.lt).below b11 (W9.out.below b10 W9.out.lt).lt)
  have V11 := Lib.hid ((V9.out.below b10 V9.out.lt).below b11 (V9.out.below b10 V9.out.lt).lt)
  clear i1 i2 i3 i4 i5 i6 q0 q1 q2 q3 t0 t1 t2 t3
  have APC := Lib.hid (apart9 TP4.out TC5.out (Nat.le_refl _))
  have ACG := Lib.hid (apart9 TC6.out TG7.out (Nat.le_refl _))
  have APG := Lib.hid (apart9 TP6.out TG7.out (Nat.le_refl _))
  have VC := Lib.hid (show w6.heap.size ≤ bV_ by rw [HBV.out]; exact b7.size)
  have VG := Lib.hid (show w7.heap.size ≤ bV_ by rw [HBV.out]; exact Nat.le_refl _)
  obtain ⟨t0, t1, t2, t3⟩ := J11.out.four
  go_wp2_with fail
  clear t0 t1 t2 t3
  refine (markPz2_any _ _ _ S 1 TC11.out (by omega) (by omega) (by omega) (by omega) (by omega) (Nat.le_trans (Nat.le_trans (Nat.le_trans (Nat.le_trans (Nat.le_trans (Nat.le_trans b5.size b6.size) b7.size) b8.size) b9.size) b10.size) b11.size)).mono ?_
  rintro e w12 ⟨rfl, b12, -, HK, HL⟩
  have g12 := g11.trans (b12.mono g4.size)
  have K12 := Lib.hid (K11.out.below b12 K4.out.lt)
  have W12 := Lib.hid (W11.out.below b12 W4.out.lt)
  have V12 := Lib.hid (HL _ _ _ V11.out (TC6.out.1.offLt VC.out) (TC6.out.2.1.offLt VC.out) (TC6.out.2.2.1.offLt VC.out))
  have TP12 := Lib.hid (keep9 TP11.out APC.out HK)
  have TG12 := Lib.hid (keep9 TG11.out ACG.out.flip HK)
  clear HK HL
  obtain ⟨t0, t1, t2, t3⟩ := V12.out.four
  obtain ⟨q0, q1, q2, q3⟩ := W12.out.four
  go_wp2_with fail
  clear q0 q1 q2 q3 t0 t1 t2 t3
  refine (eqPz_any _ _ _ _ _ _ (tuS (puzB S L R B true) S) TG12.out.1.ri TG12.out.2.1.ri TG12.out.2.2.1.ri TP12.out.1.ri TP12.out.2.1.ri TP12.out.2.2.1.ri (by omega) (by omega) (by omega)).mono ?_
  rintro e w13 ⟨rfl, b13⟩
  have g13 := bnext g12 b13 g12.size
  have K13 := Lib.hid (K12.out.below b13 K12.out.lt)
  have W13 := Lib.hid (W12.out.below b13 W12.out.lt)
  have V13 := Lib.hid (V12.out.below b13 V12.out.lt)
  have TP13 := Lib.hid (TP12.out.below b13)
  have TG13 := Lib.hid (TG12.out.below b13)
  obtain ⟨t0, t1, t2, t3⟩ := V13.out.four
  go_wp2_with fail
  clear t0 t1 t2 t3
  have sz := (Nat.le_trans (Nat.le_trans (Nat.le_trans (Nat.le_trans b7.size b8.size) b9.size) b10.size) b11.size)
  have sz12 := b12.size
  have sz13 := b13.size
  have HSZ : Hid (w6.heap.size ≤ w13.heap.size) := Nat.le_trans sz (Nat.le_trans sz12 sz13)
  clear sz sz12 sz13
  refine (markPz2_any _ _ _ (tuS (puzB S L R B true) S) 1 TG13.out (by omega) (by omega) (by omega) (by omega) (by omega) HSZ.out).mono ?_
  rintro e w14 ⟨rfl, b14, TT, HK, HL⟩
  have g14 := g13.trans (b14.mono g6.size)
  have K14 := Lib.hid (K13.out.below b14 K6.out.lt)
  have W14 := Lib.hid (W13.out.below b14 W6.out.lt)
  have V14 := Lib.hid (HL _ _ _ V13.out (TG7.out.1.offLt VG.out) (TG7.out.2.1.offLt VG.out) (TG7.out.2.2.1.offLt VG.out))
  have TP14 := Lib.hid (keep9 TP13.out APG.out HK)
  have TG14 := Lib.hid TT
  clear HK HL TT
  obtain ⟨t0, t1, t2, t3⟩ := V14.out.four
  go_wp2_with fail
  clear t0 t1 t2 t3
  refine (heldPz_any _ _ _ (tuS (puzB S L R B true) S) 1 TG14.out.1.ri TG14.out.2.1.ri TG14.out.2.2.1.ri (by omega) (by omega) (by omega) (by omega) (by omega)).mono ?_
  rintro e w15 ⟨rfl, b15⟩
  have g15 := bnext g14 b15 g14.size
  have K15 := Lib.hid (K14.out.below b15 K14.out.lt)
  have W15 := Lib.hid (W14.out.below b15 W14.out.lt)
  have V15 := Lib.hid (V14.out.below b15 V14.out.lt)
  have TP15 := Lib.hid (TP14.out.below b15)
  have TG15 := Lib.hid (TG14.out.below b15)
  obtain ⟨q0, q1, q2, q3⟩ := K15.out.four
  go_wp2_with fail
  clear q0 q1 q2 q3
  refine (toPz_any _ _ _ S (h1.below g15) (h2.below g15) (h3.below g15) (by omega) (by omega) (by omega)).mono ?_
  rintro e w16 ⟨Y1, p1, f1, Y2, p2, f2, Y3, p3, f3, rfl, TT, r1, r2, r3, -, -, -, b16⟩
  obtain rfl : n1 = p1 := h1.1.symm.trans r1.1
  obtain rfl : n2 = p2 := h2.1.symm.trans r2.1
  obtain rfl : n3 = p3 := h3.1.symm.trans r3.1
  have TY16 := Lib.hid TT
  clear TT
  have g16 := bnext g15 b16 g15.size
  have K16 := Lib.hid (K15.out.below b16 K15.out.lt)
  have W16 := Lib.hid (W15.out.below b16 W15.out.lt)
  have V16 := Lib.hid (V15.out.below b16 V15.out.lt)
  have TP16 := Lib.hid (TP15.out.below b16)
  have TG16 := Lib.hid (TG15.out.below b16)
  go_wp2_with fail
  refine (iMir_any _ _ _ S r1 r2 r3 (by omega) (by omega) (by omega)).mono ?_
  rintro e w17 ⟨H1, v1, s1, H2, v2, s2, H3, v3, s3, rfl, TT, b17⟩
  have leH1 : v1 ≤ 28 := by have := TT.1.ri.1; have := mirL_len S L R B; omega
  have leH2 : v2 ≤ 28 := by have := TT.2.1.ri.1; have := mirR_len S L R B; omega
  have leH3 : v3 ≤ 28 := by have := TT.2.2.1.ri.1; have := mirB_len S L R B; omega
  have TH17 := Lib.hid TT
  clear TT
  have g17 := bnext g16 b17 g16.size
  have K17 := Lib.hid (K16.out.below b17 K16.out.lt)
  have W17 := Lib.hid (W16.out.below b17 W16.out.lt)
  have V17 := Lib.hid (V16.out.below b17 V16.out.lt)
  have TP17 := Lib.hid (TP16.out.below b17)
  have TG17 := Lib.hid (TG16.out.below b17)
  clear r1 r2 r3
  obtain ⟨q0, q1, q2, q3⟩ := (W17.out.alloc (Obj.cells #[Value.int IntKind.i64 (tuS (puzB S L R B true) S), Value.slice H1 v1 s1, Value.slice H2 v2 s2, Value.slice H3 v3 s3] 27)).four
  go_wp2_with fail
  clear q0 q1 q2 q3
  obtain ⟨w18, e18⟩ : ∃ W : World, W = w17.alloc (Obj.cells #[Value.int IntKind.i64 (tuS (puzB S L R B true) S), Value.slice H1 v1 s1, Value.slice H2 v2 s2, Value.slice H3 v3 s3] 27) := ⟨_, rfl⟩
  have b18 : Below w17.heap.size w17 w18 := by rw [e18]; exact (Below.refl _ _).alloc (Nat.le_refl _) _
  obtain ⟨bU_, hbU⟩ : ∃ g, g = w17.heap.size := ⟨_, rfl⟩
  have U18 : Hid (BK w18 bU_ 27 [Value.int IntKind.i64 (tuS (puzB S L R B true) S), Value.slice H1 v1 s1, Value.slice H2 v2 s2, Value.slice H3 v3 s3]) := by show BK w18 bU_ _ _; rw [e18, hbU]; exact BK.new w17 _ _
  have HBU : Hid (bU_ = w17.heap.size) := hbU
  rw [← e18, ← hbU]
  clear e18 hbU
  have g18 := bnext g17 b18 g17.size
  have K18 := Lib.hid (K17.out.below b18 K17.out.lt)
  have W18 := Lib.hid (W17.out.below b18 W17.out.lt)
  have V18 := Lib.hid (V17.out.below b18 V17.out.lt)
  have TP18 := Lib.hid (TP17.out.below b18)
  have TG18 := Lib.hid (TG17.out.below b18)
  have TH18 := Lib.hid (TH17.out.below b18)
  refine (eqPz_any _ _ _ _ _ _ (tuS (puzB S L R B true) S) TH18.out.1.ri TH18.out.2.1.ri TH18.out.2.2.1.ri TP18.out.1.ri TP18.out.2.1.ri TP18.out.2.2.1.ri (by omega) (by omega) (by omega)).mono ?_
  rintro e w19 ⟨rfl, b19⟩
  have g19 := bnext g18 b19 g18.size
  have K19 := Lib.hid (K18.out.below b19 K18.out.lt)
  have W19 := Lib.hid (W18.out.below b19 W18.out.lt)
  have V19 := Lib.hid (V18.out.below b19 V18.out.lt)
  have U19 := Lib.hid (U18.out.below b19 U18.out.lt)
  have TP19 := Lib.hid (TP18.out.below b19)
  have TG19 := Lib.hid (TG18.out.below b19)
  have TH19 := Lib.hid (TH18.out.below b19)
  obtain ⟨t0, t1, t2, t3⟩ := V19.out.four
  go_wp2_with fail
  clear t0 t1 t2 t3
  refine (heldPz_any _ _ _ (tuS (puzB S L R B true) S) 1 TG19.out.1.ri TG19.out.2.1.ri TG19.out.2.2.1.ri (by omega) (by omega) (by omega) (by omega) (by omega)).mono ?_
  rintro e w20 ⟨rfl, b20⟩
  have g20 := bnext g19 b20 g19.size
  have K20 := Lib.hid (K19.out.below b20 K19.out.lt)
  have W20 := Lib.hid (W19.out.below b20 W19.out.lt)
  have V20 := Lib.hid (V19.out.below b20 V19.out.lt)
  have U20 := Lib.hid (U19.out.below b20 U19.out.lt)
  have TP20 := Lib.hid (TP19.out.below b20)
  have TG20 := Lib.hid (TG19.out.below b20)
  have TH20 := Lib.hid (TH19.out.below b20)
  go_wp2
  go_ret
  exact ⟨rfl, g20⟩

set_option maxRecDepth 100000 in
theorem lifted (os : Os) (started : os.Started) (H : Type) (enc : TypeId × Value → H) :
    ReturnsInHanded {} Try.checked os 8 .any (Rows.fnExactMirrorPuzzleSpec.pre6 enc Try.prog Try.f8 Rows.fnExactMirrorPuzzleRow.domain false) (Rows.fnExactMirrorPuzzleSpec.post enc Try.prog Try.f8 false true false false) := by
  refine returnsInHanded_of_change (C := Try.checked) own started (by kernel_rfl) Try.func8
    (ChangeSpec.witness6 (enc := enc) (C := Try.checked) false ⟨#[], #[.agg #[.int .i64 0, .slice none 0 0, .slice none 0 0, .slice none 0 0]], []⟩ 8 (by kernel_rfl) (by kernel_rfl) (by kernel_rfl) (by kernel_rfl)) ?_
  intro W base args ds gs before hval0 hW hcnd _
  have hval : ∀ (j : Nat) t v, Try.f8.params[j]? = some t → args[j]? = some v → Value.okWide Try.prog W .any base t v := hval0
  have hW' := hW
  obtain ⟨p, q, hA0, hV, rfl, hfz, hnd⟩ := hW'
  have hA : DataW.TrodAll enc Try.prog W 0 (fun _ => true) true Try.f8.params.toList args.toList ds p := hA0
  rw [Try.params8] at hA hval
  obtain ⟨v0, vs0, d0, ds0, p0, q0, hargs, rfl, rfl, h0, r0⟩ := trodAll_cons hA
  obtain ⟨rfl, rfl, rfl⟩ := trodAll_nil r0
  obtain rfl : args = #[v0] := by cases args; simp_all
  obtain ⟨rfl, rfl⟩ := trodVars_none hV
  have k0 := h0
  have lt0 : ∀ x ∈ p0, x.block < W.heap.size := by obtain ⟨m, hm⟩ := k0; exact DataW.trod_lt m _ _ _ hm
  obtain ⟨S0, a1, n1, c1, a2, n2, c2, a3, n3, c3, L, R, B, rfl, x1, x2, x3, z1, z2, z3⟩ := open_Pz (hval 0 24 v0 rfl rfl) h0
  clear hA0 hval0
  refine (walk c1 c2 c3 S0 x1 x2 x3 z1 z2 z3).mono fun e W' ⟨he, bel⟩ => ?_
  subst he
  exact ⟨_, rfl, _, _, _, [], _, [], hW, trodAll_mk1 (shut_bool Try.underlying4 _), (trodAll_cons_mk (Below.trod laidOut (by kernel_rfl) (of_decide_eq_true (by kernel_rfl)) k0 bel lt0) trodAll_mk0), rfl, bel.frame _, fun h => by cases h⟩

theorem over : Rows.fnExactMirrorPuzzleRow.holds Try.pinned (OpenSpec.ofChange Rows.fnExactMirrorPuzzleSpec) :=
  OpenClaim.holds_of_wide 8 Try.f8 rfl rfl rfl rfl rfl rfl rfl ⟨rfl, rfl, rfl, rfl, rfl⟩ rfl rfl rfl rfl rfl (by kernel_rfl) Try.func8 (by kernel_rfl)
    (of_decide_eq_true (by kernel_rfl)) (by unfold Func.isWrapper; first | (rw [if_pos (by decide +kernel)]; kernel_rfl) | (rw [if_neg (by decide +kernel)]; exact ⟨rfl, rfl⟩))
    (fun os started H enc _ => lifted os started H enc)

theorem proved : Rows.FnExactMirrorPuzzleSaid := over
end Go.Proofs.Ytemafljipkcgcaa.lawMirrorPuzzle
