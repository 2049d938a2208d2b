/- For every puzzle: the program's SidesOf returns what the reference's returns, in new memory, and again so at a second call; the puzzle reads afterwards as it read before. -/
import Derived.Test.YtemafljipkcgcaaPuzM
import Derived.ShutString
import Derived.ChangeOld
import Derived.Lib.SmallJoins
import Derived.Deep.RegionHeld3
namespace Go.Proofs.Ytemafljipkcgcaa.lawSidesOf
open Go.ChangeShapes Go.WideShapes Go.ChangeAt Go.RowKit
open Go.ChangeMaps (open_string shut_string)

theorem OI.off {w : World} {base g : Nat} {v : Value} {l : List Int} (h : OI w base v l) (hg : g < base) : v.ownBlock = none ∨ v.ownBlock ≠ some g := by
  rcases hv : v.ownBlock with _ | k
  · exact .inl rfl
  · exact .inr fun e => by have := (h.lt k hv).1; obtain rfl := Option.some.inj e; omega
def Ap9 (v1 v2 v3 u1 u2 u3 : Value) : Prop := (Ap v1 u1 ∧ Ap v1 u2 ∧ Ap v1 u3) ∧ (Ap v2 u1 ∧ Ap v2 u2 ∧ Ap v2 u3) ∧ (Ap v3 u1 ∧ Ap v3 u2 ∧ Ap v3 u3)
theorem Ap9.flip {v1 v2 v3 u1 u2 u3 : Value} (h : Ap9 v1 v2 v3 u1 u2 u3) : Ap9 u1 u2 u3 v1 v2 v3 :=
  ⟨⟨h.1.1.flip, h.2.1.1.flip, h.2.2.1.flip⟩, ⟨h.1.2.1.flip, h.2.1.2.1.flip, h.2.2.2.1.flip⟩, ⟨h.1.2.2.flip, h.2.1.2.2.flip, h.2.2.2.2.flip⟩⟩
theorem apart9 {wa wb : World} {b1 b2 : Nat} {v1 v2 v3 u1 u2 u3 : Value} {a b c d e f : List Int} (T : Three wa b1 v1 v2 v3 a b c) (U : Three wb b2 u1 u2 u3 d e f) (h : wa.heap.size ≤ b2) : Ap9 v1 v2 v3 u1 u2 u3 :=
  ⟨⟨apart T.1 U.1 h, apart T.1 U.2.1 h, apart T.1 U.2.2.1 h⟩, ⟨apart T.2.1 U.1 h, apart T.2.1 U.2.1 h, apart T.2.1 U.2.2.1 h⟩, ⟨apart T.2.2.1 U.1 h, apart T.2.2.1 U.2.1 h, apart T.2.2.1 U.2.2.1 h⟩⟩
theorem keep9 {w w' : World} {b1 : Nat} {v1 v2 v3 u1 u2 u3 : Value} {a b c : List Int} (T : Three w b1 v1 v2 v3 a b c) (A : Ap9 v1 v2 v3 u1 u2 u3) (HK : ∀ b v l, OI w b v l → Ap v u1 → Ap v u2 → Ap v u3 → OI w' b v l) : Three w' b1 v1 v2 v3 a b c :=
  ⟨HK _ _ _ T.1 A.1.1 A.1.2.1 A.1.2.2, HK _ _ _ T.2.1 A.2.1.1 A.2.1.2.1 A.2.1.2.2, HK _ _ _ T.2.2.1 A.2.2.1 A.2.2.2.1 A.2.2.2.2, T.2.2.2⟩

set_option maxRecDepth 4000 in
set_option maxHeartbeats 4000000 in
theorem walk {A1 A2 A3 : Option Addr} {n1 n2 n3 : Nat} (c1 c2 c3 : Nat) (S : Int) {L R B : List Int} {w : World} (h1 : RI w A1 n1 L) (h2 : RI w A2 n2 R) (h3 : RI w A3 n3 B) (m1 : n1 ≤ 9223372036854775807) (m2 : n2 ≤ 9223372036854775807) (m3 : n3 ≤ 9223372036854775807) :
    Calls Try.prog 6 #[.agg #[.int .i64 S, .slice A1 n1 c1, .slice A2 n2 c2, .slice A3 n3 c3]] w (Law w) := by
  go_enter Try.func6, Try.ntmps6
  go_wp2_with fail
  obtain ⟨w0, e0⟩ : ∃ w0 : World, w0 = w.alloc (Obj.cells #[Value.int IntKind.i64 S, Value.slice A1 n1 c1, Value.slice A2 n2 c2, Value.slice A3 n3 c3] 24) := ⟨_, rfl⟩
  have g0 : Below w.heap.size w w0 := by rw [e0]; exact (Below.refl _ _).alloc (Nat.le_refl _) _
  obtain ⟨bx, hbx⟩ : ∃ g, g = w.heap.size := ⟨_, rfl⟩
  have K0 : Hid (BK w0 bx 24 [Value.int IntKind.i64 S, Value.slice A1 n1 c1, Value.slice A2 n2 c2, Value.slice A3 n3 c3]) := by
    rw [e0, hbx]; exact BK.new w _ _
  rw [← e0, ← hbx]
  clear e0 hbx
  refine (szPz_any _ _ _ S m1 m2 m3).mono ?_
  rintro e w1 ⟨rfl | ⟨rfl, hle⟩, b1⟩
  · have g1 := bnext g0 b1 g0.size
    go_wp2
    go_ret
    exact ⟨rfl, g1⟩
  have g1 := bnext g0 b1 g0.size
  have K1 : Hid (BK w1 bx _ _) := K0.out.below b1 K0.out.lt
  obtain ⟨q0, q1, q2, q3⟩ := K1.out.four
  go_wp2_with fail
  clear q0 q1 q2 q3
  refine (toPz_any _ _ _ S (h1.below g1) (h2.below g1) (h3.below g1) (by omega) (by omega) (by omega)).mono ?_
  rintro e w2 ⟨X1, p1, d1, X2, p2, d2, X3, p3, d3, rfl, TT, r1, r2, r3, -, -, -, b2⟩
  obtain rfl : n1 = p1 := h1.1.symm.trans r1.1
  obtain rfl : n2 = p2 := h2.1.symm.trans r2.1
  obtain rfl : n3 = p3 := h3.1.symm.trans r3.1
  have TX2 := Lib.hid TT
  clear TT
  have g2 := bnext g1 b2 g1.size
  have K2 : Hid (BK w2 bx _ _) := K1.out.below b2 K1.out.lt
  go_wp2_with fail
  refine (sSides_any _ _ _ S r1 r2 r3 (by omega) (by omega) (by omega)).mono ?_
  rintro e w3 ⟨P1, x1, y1, P2, x2, y2, P3, x3, y3, rfl, TT, b3⟩
  have leP1 : x1 ≤ 7 := by have := TT.1.ri.1; have := sdL_len S L R B; omega
  have leP2 : x2 ≤ 7 := by have := TT.2.1.ri.1; have := sdR_len S L R B; omega
  have leP3 : x3 ≤ 7 := by have := TT.2.2.1.ri.1; have := sdB_len S L R B; omega
  have TP3 := Lib.hid TT
  clear TT
  have g3 := bnext g2 b3 g2.size
  have K3 : Hid (BK w3 bx _ _) := K2.out.below b3 K2.out.lt
  clear r1 r2 r3
  obtain ⟨q0, q1, q2, q3⟩ := K3.out.four
  go_wp2_with fail
  clear q0 q1 q2 q3
  refine (toPz_any _ _ _ S (h1.below g3) (h2.below g3) (h3.below g3) (by omega) (by omega) (by omega)).mono ?_
  rintro e w4 ⟨C1, p1, e1, C2, p2, e2, C3, p3, e3, rfl, TT, r1, r2, r3, -, -, -, b4⟩
  obtain rfl : n1 = p1 := h1.1.symm.trans r1.1
  obtain rfl : n2 = p2 := h2.1.symm.trans r2.1
  obtain rfl : n3 = p3 := h3.1.symm.trans r3.1
  have TC4 := Lib.hid TT
  clear TT
  have g4 := bnext g3 b4 g3.size
  have K4 : Hid (BK w4 bx _ _) := K3.out.below b4 K3.out.lt
  have TP4 := Lib.hid (TP3.out.below b4)
  go_wp2_with fail
  obtain ⟨w5, e5⟩ : ∃ w5 : World, w5 = w4.alloc (Obj.cells #[Value.int IntKind.i64 S, Value.slice C1 n1 e1, Value.slice C2 n2 e2, Value.slice C3 n3 e3] 27) := ⟨_, rfl⟩
  have b5 : Below w4.heap.size w4 w5 := by rw [e5]; exact (Below.refl _ _).alloc (Nat.le_refl _) _
  obtain ⟨by_, hby⟩ : ∃ g, g = w4.heap.size := ⟨_, rfl⟩
  have J5 : Hid (BK w5 by_ 27 [Value.int IntKind.i64 S, Value.slice C1 n1 e1, Value.slice C2 n2 e2, Value.slice C3 n3 e3]) := by
    rw [e5, hby]; exact BK.new w4 _ _
  rw [← e5, ← hby]
  clear e5 hby
  have g5 := bnext g4 b5 g4.size
  have K5 : Hid (BK w5 bx _ _) := K4.out.below b5 K4.out.lt
  have TP5 := Lib.hid (TP4.out.below b5)
  have TC5 := Lib.hid (TC4.out.below b5)
  clear r1 r2 r3
  refine (iSides_any _ _ _ S TC5.out.1.ri TC5.out.2.1.ri TC5.out.2.2.1.ri (by omega) (by omega) (by omega)).mono ?_
  rintro e w6 ⟨G1, u1, z1, G2, u2, z2, G3, u3, z3, rfl, TT, b6⟩
  have leG1 : u1 ≤ 7 := by have := TT.1.ri.1; have := sdL_len S L R B; omega
  have leG2 : u2 ≤ 7 := by have := TT.2.1.ri.1; have := sdR_len S L R B; omega
  have leG3 : u3 ≤ 7 := by have := TT.2.2.1.ri.1; have := sdB_len S L R B; omega
  have TG6 := Lib.hid TT
  clear TT
  have g6 := bnext g5 b6 g5.size
  have K6 : Hid (BK w6 bx _ _) := K5.out.below b6 K5.out.lt
  have J6 : Hid (BK w6 by_ _ _) := J5.out.below b6 J5.out.lt
  have TP6 := Lib.hid (TP5.out.below b6)
  have TC6 := Lib.hid (TC5.out.below b6)
  go_wp2_with fail
  refine (eqI_any true _ _ TG6.out.1.ri TP6.out.1.ri (by simp) (by omega) (by omega)).mono ?_
  rintro e w7 ⟨rfl, q7⟩
  have b7 := q7.below (B := w6.heap.size)
  clear q7
  have g7 := bnext g6 b7 g6.size
  have K7 : Hid (BK w7 bx _ _) := K6.out.below b7 K6.out.lt
  have J7 : Hid (BK w7 by_ _ _) := J6.out.below b7 J6.out.lt
  have TP7 := Lib.hid (TP6.out.below b7)
  have TC7 := Lib.hid (TC6.out.below b7)
  have TG7 := Lib.hid (TG6.out.below b7)
  go_wp2_with fail
  refine (eqI_any true _ _ TG7.out.2.1.ri TP7.out.2.1.ri (by simp) (by omega) (by omega)).mono ?_
  rintro e w8 ⟨rfl, q8⟩
  have b8 := q8.below (B := w7.heap.size)
  clear q8
  have g8 := bnext g7 b8 g7.size
  have K8 : Hid (BK w8 bx _ _) := K7.out.below b8 K7.out.lt
  have J8 : Hid (BK w8 by_ _ _) := J7.out.below b8 J7.out.lt
  have TP8 := Lib.hid (TP7.out.below b8)
  have TC8 := Lib.hid (TC7.out.below b8)
  have TG8 := Lib.hid (TG7.out.below b8)
  go_wp2_with fail
  refine (eqI_any true _ _ TG8.out.2.2.1.ri TP8.out.2.2.1.ri (by simp) (by omega) (by omega)).mono ?_
  rintro e w9 ⟨rfl, q9⟩
  have b9 := q9.below (B := w8.heap.size)
  clear q9
  have g9 := bnext g8 b9 g8.size
  have K9 : Hid (BK w9 bx _ _) := K8.out.below b9 K8.out.lt
  have J9 : Hid (BK w9 by_ _ _) := J8.out.below b9 J8.out.lt
  have TP9 := Lib.hid (TP8.out.below b9)
  have TC9 := Lib.hid (TC8.out.below b9)
  have TG9 := Lib.hid (TG8.out.below b9)
  obtain ⟨q0, q1, q2, q3⟩ := K9.out.four
  obtain ⟨t0, t1, t2, t3⟩ := J9.out.four
  go_wp2_with fail
  have i1 : RI w9 A1 n1 L := h1.below g9
  have i2 : RI w9 A2 n2 R := h2.below g9
  have i3 : RI w9 A3 n3 B := h3.below g9
  go_region_held3 (fun w' => (w'.cell? ⟨bx, 0, none⟩ = some (Value.int IntKind.i64 S) ∧ w'.cell? ⟨bx, 1, none⟩ = some (Value.slice A1 n1 c1) ∧ w'.cell? ⟨bx, 2, none⟩ = some (Value.slice A2 n2 c2) ∧ w'.cell? ⟨bx, 3, none⟩ = some (Value.slice A3 n3 c3)) ∧ w'.cell? ⟨by_, 0, none⟩ = some (Value.int IntKind.i64 S) ∧ w'.cell? ⟨by_, 1, none⟩ = some (Value.slice C1 n1 e1) ∧ w'.cell? ⟨by_, 2, none⟩ = some (Value.slice C2 n2 e2) ∧ w'.cell? ⟨by_, 3, none⟩ = some (Value.slice C3 n3 e3)) (first | exact ⟨⟨q0, q1, q2, q3⟩, t0, t1, t2, t3⟩ | exact ⟨K10.out.four, J10.out.four⟩ | exact ⟨K11.out.four, J11.out.four⟩) (first
    | (go_at_call 17; refine (toPz_any _ _ _ S (by exact i1) (by exact i2) (by exact i3) (by omega) (by omega) (by omega)).mono ?_; rintro e w10 ⟨D1, p1, f1, D2, p2, f2, D3, p3, f3, rfl, -, y1, y2, y3, -, -, -, b10⟩; obtain rfl : n1 = p1 := h1.1.symm.trans y1.1; obtain rfl : n2 = p2 := h2.1.symm.trans y2.1; obtain rfl : n3 = p3 := h3.1.symm.trans y3.1; have b10 : Below w9.heap.size w9 w10 := ⟨b10.os, b10.tape, b10.output, b10.size, b10.block⟩; have g10 := bnext g9 b10 g9.size; have K10 : Hid (BK w10 bx _ _) := K9.out.below b10 K9.out.lt; have J10 : Hid (BK w10 by_ _ _) := J9.out.below b10 J9.out.lt; have i4 : RI w10 C1 n1 L := TC9.out.1.ri.below b10; have i5 : RI w10 C2 n2 R := TC9.out.2.1.ri.below b10; have i6 : RI w10 C3 n3 B := TC9.out.2.2.1.ri.below b10)
    | (go_at_call 19; refine (eqPz_any _ _ _ _ _ _ S (by exact i4) (by exact i5) (by exact i6) (by exact y1) (by exact y2) (by exact y3) (by omega) (by omega) (by omega)).mono ?_; rintro e w11 ⟨rfl, b11⟩; have b11 : Below w10.heap.size w10 w11 := ⟨b11.os, b11.tape, b11.output, b11.size, b11.block⟩; have g11 := bnext g10 b11 g10.size; have K11 : Hid (BK w11 bx _ _) := K10.out.below b11 K10.out.lt; have J11 : Hid (BK w11 by_ _ _) := J10.out.below b11 J10.out.lt))
  have TP11 := Lib.hid ((TP9.out.below b10).below b11)
  have TC11 := Lib.hid ((TC9.out.below b10).below b11)
  have TG11 := Lib.hid ((TG9.out.below b10).below b11)
  clear i1 i2 i3 i4 i5 i6 q0 q1 q2 q3 t0 t1 t2 t3
  have APC := Lib.hid (apart9 TP3.out TC4.out (Nat.le_refl _))
  have ACG := Lib.hid (apart9 TC5.out TG6.out (Nat.le_refl _))
  have APG := Lib.hid (apart9 TP5.out TG6.out (Nat.le_refl _))
  obtain ⟨t0, t1, t2, t3⟩ := J11.out.four
  go_wp2_with fail
  clear t0 t1 t2 t3
  refine (markPz_any _ _ _ S 1 TC11.out (by omega) (by omega) (by omega) (by omega) (by omega) (Nat.le_trans b4.size (Nat.le_trans b5.size (Nat.le_trans b6.size (Nat.le_trans b7.size (Nat.le_trans b8.size (Nat.le_trans b9.size (Nat.le_trans b10.size b11.size)))))))).mono ?_
  rintro e w12 ⟨rfl, b12, -, HK⟩
  have g12 := g11.trans (b12.mono g3.size)
  have K12 : Hid (BK w12 bx _ _) := K11.out.below b12 K3.out.lt
  have TP12 := Lib.hid (keep9 TP11.out APC.out HK)
  have TG12 := Lib.hid (keep9 TG11.out ACG.out.flip HK)
  clear HK
  go_wp2_with fail
  refine (eqI_any true _ _ TG12.out.1.ri TP12.out.1.ri (by simp) (by omega) (by omega)).mono ?_
  rintro e w13 ⟨rfl, q13⟩
  have b13 := q13.below (B := w12.heap.size)
  clear q13
  have g13 := bnext g12 b13 g12.size
  have K13 : Hid (BK w13 bx _ _) := K12.out.below b13 K12.out.lt
  have TP13 := Lib.hid (TP12.out.below b13)
  have TG13 := Lib.hid (TG12.out.below b13)
  go_wp2_with fail
  refine (eqI_any true _ _ TG13.out.2.1.ri TP13.out.2.1.ri (by simp) (by omega) (by omega)).mono ?_
  rintro e w14 ⟨rfl, q14⟩
  have b14 := q14.below (B := w13.heap.size)
  clear q14
  have g14 := bnext g13 b14 g13.size
  have K14 : Hid (BK w14 bx _ _) := K13.out.below b14 K13.out.lt
  have TP14 := Lib.hid (TP13.out.below b14)
  have TG14 := Lib.hid (TG13.out.below b14)
  go_wp2_with fail
  refine (eqI_any true _ _ TG14.out.2.2.1.ri TP14.out.2.2.1.ri (by simp) (by omega) (by omega)).mono ?_
  rintro e w15 ⟨rfl, q15⟩
  have b15 := q15.below (B := w14.heap.size)
  clear q15
  have g15 := bnext g14 b15 g14.size
  have K15 : Hid (BK w15 bx _ _) := K14.out.below b15 K14.out.lt
  have TP15 := Lib.hid (TP14.out.below b15)
  have TG15 := Lib.hid (TG14.out.below b15)
  have sz6 : w5.heap.size ≤ w15.heap.size := Nat.le_trans b6.size (Nat.le_trans b7.size (Nat.le_trans b8.size (Nat.le_trans b9.size (Nat.le_trans b10.size (Nat.le_trans b11.size (Nat.le_trans b12.size (Nat.le_trans b13.size (Nat.le_trans b14.size b15.size))))))))
  have HSZ := Lib.hid sz6
  clear sz6
  go_wp2_with fail
  refine (markI_any (1) TG15.out.1 (by omega) (by omega) (by omega)).mono ?_
  rintro e w16 ⟨rfl, pp16, s16⟩
  have g16 := bmark g15 s16 TG15.out.1 g5.size g15.size
  have TG16 := Lib.hid (TG15.out.mark1 s16 pp16)
  have TP16 := Lib.hid (TP15.out.kept s16 ⟨APG.out.1.1, APG.out.2.1.1, APG.out.2.2.1⟩)
  have K16 : Hid (BK w16 bx _ _) := K15.out.grown s16 (OI.off TG15.out.1 K5.out.lt)
  clear pp16 s16
  go_wp2_with fail
  refine (markI_any (1 + u1) TG16.out.2.1 (by omega) (by omega) (by omega)).mono ?_
  rintro e w17 ⟨rfl, pp17, s17⟩
  have g17 := bmark g16 s17 TG16.out.2.1 g5.size g16.size
  have TG17 := Lib.hid (TG16.out.mark2 s17 pp17)
  have TP17 := Lib.hid (TP16.out.kept s17 ⟨APG.out.1.2.1, APG.out.2.1.2.1, APG.out.2.2.2.1⟩)
  have K17 : Hid (BK w17 bx _ _) := K16.out.grown s17 (OI.off TG16.out.2.1 K5.out.lt)
  clear pp17 s17
  go_wp2_with fail
  refine (markI_any (1 + u1 + u2) TG17.out.2.2.1 (by omega) (by omega) (by omega)).mono ?_
  rintro e w18 ⟨rfl, pp18, s18⟩
  have g18 := bmark g17 s18 TG17.out.2.2.1 g5.size g17.size
  have TG18 := Lib.hid (TG17.out.mark3 s18 pp18)
  have TP18 := Lib.hid (TP17.out.kept s18 ⟨APG.out.1.2.2, APG.out.2.1.2.2, APG.out.2.2.2.2⟩)
  have K18 : Hid (BK w18 bx _ _) := K17.out.grown s18 (OI.off TG17.out.2.2.1 K5.out.lt)
  clear pp18 s18
  go_wp2_with fail
  refine (heldI_any _ (1) TG18.out.1.ri (by omega) (by omega) (by omega)).mono ?_
  rintro e w19 ⟨rfl, q19⟩
  have b19 := q19.below (B := w18.heap.size)
  clear q19
  have g19 := bnext g18 b19 g18.size
  have K19 : Hid (BK w19 bx _ _) := K18.out.below b19 K18.out.lt
  have TP19 := Lib.hid (TP18.out.below b19)
  have TG19 := Lib.hid (TG18.out.below b19)
  go_wp2_with fail
  refine (heldI_any _ (1 + u1) TG19.out.2.1.ri (by omega) (by omega) (by omega)).mono ?_
  rintro e w20 ⟨rfl, q20⟩
  have b20 := q20.below (B := w19.heap.size)
  clear q20
  have g20 := bnext g19 b20 g19.size
  have K20 : Hid (BK w20 bx _ _) := K19.out.below b20 K19.out.lt
  have TP20 := Lib.hid (TP19.out.below b20)
  have TG20 := Lib.hid (TG19.out.below b20)
  go_wp2_with fail
  refine (heldI_any _ (1 + u1 + u2) TG20.out.2.2.1.ri (by omega) (by omega) (by omega)).mono ?_
  rintro e w21 ⟨rfl, q21⟩
  have b21 := q21.below (B := w20.heap.size)
  clear q21
  have g21 := bnext g20 b21 g20.size
  have K21 : Hid (BK w21 bx _ _) := K20.out.below b21 K20.out.lt
  have TP21 := Lib.hid (TP20.out.below b21)
  have TG21 := Lib.hid (TG20.out.below b21)
  obtain ⟨q0, q1, q2, q3⟩ := K21.out.four
  go_wp2_with fail
  clear q0 q1 q2 q3
  refine (toPz_any _ _ _ S (h1.below g21) (h2.below g21) (h3.below g21) (by omega) (by omega) (by omega)).mono ?_
  rintro e w22 ⟨Y1, p1, f1, Y2, p2, f2, Y3, p3, f3, rfl, TT, r1, r2, r3, -, -, -, b22⟩
  obtain rfl : n1 = p1 := h1.1.symm.trans r1.1
  obtain rfl : n2 = p2 := h2.1.symm.trans r2.1
  obtain rfl : n3 = p3 := h3.1.symm.trans r3.1
  have TY22 := Lib.hid TT
  clear TT
  have g22 := bnext g21 b22 g21.size
  have K22 : Hid (BK w22 bx _ _) := K21.out.below b22 K21.out.lt
  have TP22 := Lib.hid (TP21.out.below b22)
  have TG22 := Lib.hid (TG21.out.below b22)
  go_wp2_with fail
  refine (iSides_any _ _ _ S r1 r2 r3 (by omega) (by omega) (by omega)).mono ?_
  rintro e w23 ⟨H1, v1, s1, H2, v2, s2, H3, v3, s3, rfl, TT, b23⟩
  have leH1 : v1 ≤ 7 := by have := TT.1.ri.1; have := sdL_len S L R B; omega
  have leH2 : v2 ≤ 7 := by have := TT.2.1.ri.1; have := sdR_len S L R B; omega
  have leH3 : v3 ≤ 7 := by have := TT.2.2.1.ri.1; have := sdB_len S L R B; omega
  have TH23 := Lib.hid TT
  clear TT
  have g23 := bnext g22 b23 g22.size
  have K23 : Hid (BK w23 bx _ _) := K22.out.below b23 K22.out.lt
  have TP23 := Lib.hid (TP22.out.below b23)
  have TG23 := Lib.hid (TG22.out.below b23)
  clear r1 r2 r3
  go_wp2_with fail
  refine (eqI_any true _ _ TH23.out.1.ri TP23.out.1.ri (by simp) (by omega) (by omega)).mono ?_
  rintro e w24 ⟨rfl, q24⟩
  have b24 := q24.below (B := w23.heap.size)
  clear q24
  have g24 := bnext g23 b24 g23.size
  have K24 : Hid (BK w24 bx _ _) := K23.out.below b24 K23.out.lt
  have TP24 := Lib.hid (TP23.out.below b24)
  have TG24 := Lib.hid (TG23.out.below b24)
  have TH24 := Lib.hid (TH23.out.below b24)
  go_wp2_with fail
  refine (eqI_any true _ _ TH24.out.2.1.ri TP24.out.2.1.ri (by simp) (by omega) (by omega)).mono ?_
  rintro e w25 ⟨rfl, q25⟩
  have b25 := q25.below (B := w24.heap.size)
  clear q25
  have g25 := bnext g24 b25 g24.size
  have K25 : Hid (BK w25 bx _ _) := K24.out.below b25 K24.out.lt
  have TP25 := Lib.hid (TP24.out.below b25)
  have TG25 := Lib.hid (TG24.out.below b25)
  have TH25 := Lib.hid (TH24.out.below b25)
  go_wp2_with fail
  refine (eqI_any true _ _ TH25.out.2.2.1.ri TP25.out.2.2.1.ri (by simp) (by omega) (by omega)).mono ?_
  rintro e w26 ⟨rfl, q26⟩
  have b26 := q26.below (B := w25.heap.size)
  clear q26
  have g26 := bnext g25 b26 g25.size
  have K26 : Hid (BK w26 bx _ _) := K25.out.below b26 K25.out.lt
  have TP26 := Lib.hid (TP25.out.below b26)
  have TG26 := Lib.hid (TG25.out.below b26)
  have TH26 := Lib.hid (TH25.out.below b26)
  go_wp2_with fail
  refine (heldI_any _ (1) TG26.out.1.ri (by omega) (by omega) (by omega)).mono ?_
  rintro e w27 ⟨rfl, q27⟩
  have b27 := q27.below (B := w26.heap.size)
  clear q27
  have g27 := bnext g26 b27 g26.size
  have K27 : Hid (BK w27 bx _ _) := K26.out.below b27 K26.out.lt
  have TP27 := Lib.hid (TP26.out.below b27)
  have TG27 := Lib.hid (TG26.out.below b27)
  have TH27 := Lib.hid (TH26.out.below b27)
  go_wp2_with fail
  refine (heldI_any _ (1 + u1) TG27.out.2.1.ri (by omega) (by omega) (by omega)).mono ?_
  rintro e w28 ⟨rfl, q28⟩
  have b28 := q28.below (B := w27.heap.size)
  clear q28
  have g28 := bnext g27 b28 g27.size
  have K28 : Hid (BK w28 bx _ _) := K27.out.below b28 K27.out.lt
  have TP28 := Lib.hid (TP27.out.below b28)
  have TG28 := Lib.hid (TG27.out.below b28)
  have TH28 := Lib.hid (TH27.out.below b28)
  go_wp2_with fail
  refine (heldI_any _ (1 + u1 + u2) TG28.out.2.2.1.ri (by omega) (by omega) (by omega)).mono ?_
  rintro e w29 ⟨rfl, q29⟩
  have b29 := q29.below (B := w28.heap.size)
  clear q29
  have g29 := bnext g28 b29 g28.size
  have K29 : Hid (BK w29 bx _ _) := K28.out.below b29 K28.out.lt
  have TP29 := Lib.hid (TP28.out.below b29)
  have TG29 := Lib.hid (TG28.out.below b29)
  have TH29 := Lib.hid (TH28.out.below b29)
  go_wp2
  go_ret
  exact ⟨rfl, g29⟩

set_option maxRecDepth 100000 in
theorem lifted (os : Os) (started : os.Started) (H : Type) (enc : TypeId × Value → H) :
    ReturnsInHanded {} Try.checked os 6 .any (Rows.fnExactSidesOfSpec.pre6 enc Try.prog Try.f6 Rows.fnExactSidesOfRow.domain false) (Rows.fnExactSidesOfSpec.post enc Try.prog Try.f6 false true false false) := by
  refine returnsInHanded_of_change (C := Try.checked) own started (by kernel_rfl) Try.func6
    (ChangeSpec.witness6 (enc := enc) (C := Try.checked) false ⟨#[], #[.agg #[.int .i64 0, .slice none 0 0, .slice none 0 0, .slice none 0 0]], []⟩ 8 (by kernel_rfl) (by kernel_rfl) (by kernel_rfl) (by kernel_rfl)) ?_
  intro W base args ds gs before hval0 hW hcnd _
  have hval : ∀ (j : Nat) t v, Try.f6.params[j]? = some t → args[j]? = some v → Value.okWide Try.prog W .any base t v := hval0
  have hW' := hW
  obtain ⟨p, q, hA0, hV, rfl, hfz, hnd⟩ := hW'
  have hA : DataW.TrodAll enc Try.prog W 0 (fun _ => true) true Try.f6.params.toList args.toList ds p := hA0
  rw [Try.params6] at hA hval
  obtain ⟨v0, vs0, d0, ds0, p0, q0, hargs, rfl, rfl, h0, r0⟩ := trodAll_cons hA
  obtain ⟨rfl, rfl, rfl⟩ := trodAll_nil r0
  obtain rfl : args = #[v0] := by cases args; simp_all
  obtain ⟨rfl, rfl⟩ := trodVars_none hV
  have k0 := h0
  have lt0 : ∀ x ∈ p0, x.block < W.heap.size := by obtain ⟨m, hm⟩ := k0; exact DataW.trod_lt m _ _ _ hm
  obtain ⟨S0, a1, n1, c1, a2, n2, c2, a3, n3, c3, L, R, B, rfl, x1, x2, x3, z1, z2, z3⟩ := open_Pz (hval 0 24 v0 rfl rfl) h0
  clear hA0 hval0
  refine (walk c1 c2 c3 S0 x1 x2 x3 z1 z2 z3).mono fun e W' ⟨he, bel⟩ => ?_
  subst he
  exact ⟨_, rfl, _, _, _, [], _, [], hW, trodAll_mk1 (shut_bool Try.underlying4 _), (trodAll_cons_mk (Below.trod laidOut (by kernel_rfl) (of_decide_eq_true (by kernel_rfl)) k0 bel lt0) trodAll_mk0), rfl, bel.frame _, fun h => by cases h⟩

theorem over : Rows.fnExactSidesOfRow.holds Try.pinned (OpenSpec.ofChange Rows.fnExactSidesOfSpec) :=
  OpenClaim.holds_of_wide 6 Try.f6 rfl rfl rfl rfl rfl rfl rfl ⟨rfl, rfl, rfl, rfl, rfl⟩ rfl rfl rfl rfl rfl (by kernel_rfl) Try.func6 (by kernel_rfl)
    (of_decide_eq_true (by kernel_rfl)) (by unfold Func.isWrapper; first | (rw [if_pos (by decide +kernel)]; kernel_rfl) | (rw [if_neg (by decide +kernel)]; exact ⟨rfl, rfl⟩))
    (fun os started H enc _ => lifted os started H enc)

theorem proved : Rows.FnExactSidesOfSaid := over
end Go.Proofs.Ytemafljipkcgcaa.lawSidesOf
