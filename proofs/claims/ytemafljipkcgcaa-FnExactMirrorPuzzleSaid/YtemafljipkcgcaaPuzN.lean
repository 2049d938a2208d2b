/- Marks of puzzles that keep other blocks; held puzzles. -/
import Derived.Test.YtemafljipkcgcaaPuzM
namespace Go.Proofs.Ytemafljipkcgcaa
open Go.RowKit

/-- The value's block is another one. -/
def Off (v : Value) (g : Nat) : Prop := v.ownBlock = none ∨ v.ownBlock ≠ some g
theorem OI.offLt {w : World} {base g : Nat} {v : Value} {l : List Int} (h : OI w base v l) (hg : w.heap.size ≤ g) : Off v g := by
  unfold Off
  rcases hv : v.ownBlock with _ | k
  · exact .inl rfl
  · exact .inr fun e => by have := (h.lt k hv).2; obtain rfl := Option.some.inj e; omega

set_option maxHeartbeats 1000000 in
theorem markPz2_any {A1 A2 A3 : Option Addr} {n1 n2 n3 : Nat} {L R B : List Int} {w : World} {base : Nat} (c1 c2 c3 : Nat) (S k0 : Int) (T : Three w base (.slice A1 n1 c1) (.slice A2 n2 c2) (.slice A3 n3 c3) L R B)
    (h0 : 0 ≤ k0) (hk : k0 ≤ 1000) (m1 : n1 ≤ 1000000000) (m2 : n2 ≤ 1000000000) (m3 : n3 ≤ 1000000000) (hbs : base ≤ w.heap.size) :
    Calls Try.prog 28 #[.agg #[.int .i64 S, .slice A1 n1 c1, .slice A2 n2 c2, .slice A3 n3 c3], .int .i64 k0] w (fun e w' => e = .returned (.int .i64 (k0 + n1 + n2 + n3)) ∧ Below base w w' ∧
      Three w' base (.slice A1 n1 c1) (.slice A2 n2 c2) (.slice A3 n3 c3) (upFrom k0 n1) (upFrom (k0 + n1) n2) (upFrom (k0 + n1 + n2) n3) ∧
      (∀ b v l, OI w b v l → Ap v (.slice A1 n1 c1) → Ap v (.slice A2 n2 c2) → Ap v (.slice A3 n3 c3) → OI w' b v l) ∧
      ∀ g t cs, BK w g t cs → Off (.slice A1 n1 c1) g → Off (.slice A2 n2 c2) g → Off (.slice A3 n3 c3) g → BK w' g t cs) := by
  go_enter Try.func28, Try.ntmps28
  go_wp2_with fail
  obtain ⟨w0, e0⟩ : ∃ w0 : World, w0 = w.alloc (Obj.cells #[Value.int IntKind.i64 S, Value.slice A1 n1 c1, Value.slice A2 n2 c2, Value.slice A3 n3 c3] 27) := ⟨_, rfl⟩
  have b0 : Below w.heap.size w w0 := by rw [e0]; exact (Below.refl _ _).alloc (Nat.le_refl _) _
  obtain ⟨bx, hbx⟩ : ∃ g, g = w.heap.size := ⟨_, rfl⟩
  have K0 : Hid (BK w0 bx 27 [Value.int IntKind.i64 S, Value.slice A1 n1 c1, Value.slice A2 n2 c2, Value.slice A3 n3 c3]) := by
    rw [e0, hbx]; exact BK.new w _ _
  rw [← e0, ← hbx]
  have HB : Hid (bx = w.heap.size) := hbx
  clear e0 hbx
  have T0 := T.below b0
  have N1 : Hid (Value.ownBlock (.slice A1 n1 c1) = none ∨ Value.ownBlock (.slice A1 n1 c1) ≠ some bx) := by
    rcases hv : Value.ownBlock (.slice A1 n1 c1) with _ | k
    · exact .inl rfl
    · exact .inr fun e => by have := (T.1.lt k hv).2; have := HB.out; obtain rfl := Option.some.inj e; omega
  have N2 : Hid (Value.ownBlock (.slice A2 n2 c2) = none ∨ Value.ownBlock (.slice A2 n2 c2) ≠ some bx) := by
    rcases hv : Value.ownBlock (.slice A2 n2 c2) with _ | k
    · exact .inl rfl
    · exact .inr fun e => by have := (T.2.1.lt k hv).2; have := HB.out; obtain rfl := Option.some.inj e; omega
  have g0 : Below base w w0 := b0.mono hbs
  refine (markI_any k0 T0.1 h0 (by omega) (by omega)).mono ?_
  rintro e w1 ⟨rfl, p1, s1⟩
  have T1 := T0.mark1 s1 p1
  have K1 := Lib.hid (K0.out.grown s1 N1.out)
  have z1 := s1.size
  have g1 := bmark g0 s1 T0.1 (Nat.le_refl _) (Nat.le_trans hbs b0.size)
  obtain ⟨-, -, q2, -⟩ := K1.out.four
  go_wp2_with fail
  clear q2
  refine (markI_any (k0 + n1) T1.2.1 (by omega) (by omega) (by omega)).mono ?_
  rintro e w2 ⟨rfl, p2, s2⟩
  have T2 := T1.mark2 s2 p2
  have K2 := Lib.hid (K1.out.grown s2 N2.out)
  have z2 := s2.size
  have g2 := bmark g1 s2 T1.2.1 (Nat.le_refl _) (Nat.le_trans hbs (Nat.le_trans b0.size z1))
  obtain ⟨-, -, -, q3⟩ := K2.out.four
  go_wp2_with fail
  clear q3
  refine (markI_any (k0 + n1 + n2) T2.2.2.1 (by omega) (by omega) (by omega)).mono ?_
  rintro e w3 ⟨rfl, p3, s3⟩
  have T3 := T2.mark3 s3 p3
  have g3 := bmark g2 s3 T2.2.2.1 (Nat.le_refl _) (Nat.le_trans hbs (Nat.le_trans b0.size (Nat.le_trans z1 z2)))
  have HK : Hid (∀ b v l, OI w b v l → Ap v (.slice A1 n1 c1) → Ap v (.slice A2 n2 c2) → Ap v (.slice A3 n3 c3) → OI w3 b v l) := fun b v l o a1 a2 a3 => (((o.below b0).kept s1 a1).kept s2 a2).kept s3 a3
  have HL : Hid (∀ g t cs, BK w g t cs → Off (.slice A1 n1 c1) g → Off (.slice A2 n2 c2) g → Off (.slice A3 n3 c3) g → BK w3 g t cs) := fun g t cs k a1 a2 a3 => (((k.below b0 k.lt).grown s1 a1).grown s2 a2).grown s3 a3
  go_wp2
  go_ret
  exact ⟨rfl, g3, T3, HK.out, HL.out⟩


set_option maxHeartbeats 1000000 in
theorem heldPz_any {A1 A2 A3 : Option Addr} {n1 n2 n3 : Nat} {w : World} (c1 c2 c3 : Nat) (S k0 : Int) (h1 : RI w A1 n1 (upFrom k0 n1)) (h2 : RI w A2 n2 (upFrom (k0 + n1) n2)) (h3 : RI w A3 n3 (upFrom (k0 + n1 + n2) n3))
    (h0 : 0 ≤ k0) (hk : k0 ≤ 1000) (m1 : n1 ≤ 1000000000) (m2 : n2 ≤ 1000000000) (m3 : n3 ≤ 1000000000) :
    Calls Try.prog 33 #[.agg #[.int .i64 S, .slice A1 n1 c1, .slice A2 n2 c2, .slice A3 n3 c3], .int .i64 k0] w (GivesB w (.int .i64 (k0 + n1 + n2 + n3))) := by
  go_enter Try.func33, Try.ntmps33
  go_wp2_with fail
  refine (heldI_any _ k0 (h1.alloc _) h0 (by omega) (by omega)).mono ?_
  rintro e w1 ⟨rfl, q, rfl⟩
  go_wp2_with fail
  refine (heldI_any _ (k0 + n1) ((h2.alloc _).drewN _) (by omega) (by omega) (by omega)).mono ?_
  rintro e w1 ⟨rfl, q, rfl⟩
  go_wp2_with fail
  refine (heldI_any _ (k0 + n1 + n2) ((h3.alloc _).drewN _) (by omega) (by omega) (by omega)).mono ?_
  rintro e w1 ⟨rfl, q, rfl⟩
  go_wp2
  go_ret
  exact ⟨rfl, by first | exact below_drewN ((Below.refl _ _).alloc (Nat.le_refl _) _) _ | (simp only [World.drewN_drewN]; exact below_drewN ((Below.refl _ _).alloc (Nat.le_refl _) _) _)⟩
end Go.Proofs.Ytemafljipkcgcaa
