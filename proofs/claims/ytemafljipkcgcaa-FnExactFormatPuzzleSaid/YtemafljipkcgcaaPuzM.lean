/- Marks of puzzles; SidesOf of both sides. -/
import Derived.Test.YtemafljipkcgcaaSidesS
namespace Go.Proofs.Ytemafljipkcgcaa
open Go.RowKit

theorem BK.grown {w w' : World} {g : Nat} {T : TypeId} {cs : List Value} {row : Option Nat} (hb : BK w g T cs) (hg : w.grownBy w' row) (hne : row = none ∨ row ≠ some g) : BK w' g T cs :=
  (hg.block g hb.lt (by rcases hne with e | e <;> first | (rw [e]; simp) | exact Ne.symm e)).trans hb
section
variable {w w' : World} {base : Nat} {v1 v2 v3 : Value} {a b c a' : List Int} {row : Option Nat}
theorem Three.below (h : Three w base v1 v2 v3 a b c) (hb : Below w.heap.size w w') : Three w' base v1 v2 v3 a b c := ⟨h.1.below hb, h.2.1.below hb, h.2.2.1.below hb, h.2.2.2⟩
theorem Three.kept (h : Three w base v1 v2 v3 a b c) (hg : w.grownBy w' row) (k : (v1.ownBlock = none ∨ v1.ownBlock ≠ row) ∧ (v2.ownBlock = none ∨ v2.ownBlock ≠ row) ∧ (v3.ownBlock = none ∨ v3.ownBlock ≠ row)) : Three w' base v1 v2 v3 a b c :=
  ⟨h.1.kept hg k.1, h.2.1.kept hg k.2.1, h.2.2.1.kept hg k.2.2, h.2.2.2⟩
theorem Three.mark1 (h : Three w base v1 v2 v3 a b c) (hg : w.grownBy w' v1.ownBlock) (ho : OI w' base v1 a') : Three w' base v1 v2 v3 a' b c :=
  ⟨ho, h.2.1.kept hg (flip_apart h.2.2.2.1), h.2.2.1.kept hg (flip_apart h.2.2.2.2.1), h.2.2.2⟩
theorem Three.mark2 (h : Three w base v1 v2 v3 a b c) (hg : w.grownBy w' v2.ownBlock) (ho : OI w' base v2 a') : Three w' base v1 v2 v3 a a' c :=
  ⟨h.1.kept hg h.2.2.2.1, ho, h.2.2.1.kept hg (flip_apart h.2.2.2.2.2), h.2.2.2⟩
theorem Three.mark3 (h : Three w base v1 v2 v3 a b c) (hg : w.grownBy w' v3.ownBlock) (ho : OI w' base v3 a') : Three w' base v1 v2 v3 a b a' :=
  ⟨h.1.kept hg h.2.2.2.2.1, h.2.1.kept hg h.2.2.2.2.2, ho, h.2.2.2⟩
end

set_option maxHeartbeats 1000000 in
theorem markPz_any {A1 A2 A3 : Option Addr} {n1 n2 n3 : Nat} {L R B : List Int} {w : World} {base : Nat} (c1 c2 c3 : Nat) (S k0 : Int) (T : Three w base (.slice A1 n1 c1) (.slice A2 n2 c2) (.slice A3 n3 c3) L R B)
    (h0 : 0 ≤ k0) (hk : k0 ≤ 1000) (m1 : n1 ≤ 1000000000) (m2 : n2 ≤ 1000000000) (m3 : n3 ≤ 1000000000) (hbs : base ≤ w.heap.size) :
    Calls Try.prog 28 #[.agg #[.int .i64 S, .slice A1 n1 c1, .slice A2 n2 c2, .slice A3 n3 c3], .int .i64 k0] w (fun e w' => e = .returned (.int .i64 (k0 + n1 + n2 + n3)) ∧ Below base w w' ∧
      Three w' base (.slice A1 n1 c1) (.slice A2 n2 c2) (.slice A3 n3 c3) (upFrom k0 n1) (upFrom (k0 + n1) n2) (upFrom (k0 + n1 + n2) n3) ∧
      ∀ b v l, OI w b v l → Ap v (.slice A1 n1 c1) → Ap v (.slice A2 n2 c2) → Ap v (.slice A3 n3 c3) → OI w' b v l) := by
  go_enter Try.func28, Try.ntmps28
  go_wp2_with fail
  obtain ⟨w0, e0⟩ : ∃ w0 : World, w0 = w.alloc (Obj.cells #[Value.int IntKind.i64 S, Value.slice A1 n1 c1, Value.slice A2 n2 c2, Value.slice A3 n3 c3] 27) := ⟨_, rfl⟩
  have b0 : Below w.heap.size w w0 := by rw [e0]; exact (Below.refl _ _).alloc (Nat.le_refl _) _
  obtain ⟨bx, hbx⟩ : ∃ g, g = w.heap.size := ⟨_, rfl⟩
  have K0 : Hid (BK w0 bx 27 [Value.int IntKind.i64 S, Value.slice A1 n1 c1, Value.slice A2 n2 c2, Value.slice A3 n3 c3]) := by
    rw [e0, hbx]; exact BK.new w _ _
  rw [← e0, ← hbx]
  have HB : Hid (bx = w.heap.size) := hbx
  clear e0 hbx
  have T0 := T.below b0
  have N1 : Hid (Value.ownBlock (.slice A1 n1 c1) = none ∨ Value.ownBlock (.slice A1 n1 c1) ≠ some bx) := by
    rcases hv : Value.ownBlock (.slice A1 n1 c1) with _ | k
    · exact .inl rfl
    · exact .inr fun e => by have := (T.1.lt k hv).2; have := HB.out; obtain rfl := Option.some.inj e; omega
  have N2 : Hid (Value.ownBlock (.slice A2 n2 c2) = none ∨ Value.ownBlock (.slice A2 n2 c2) ≠ some bx) := by
    rcases hv : Value.ownBlock (.slice A2 n2 c2) with _ | k
    · exact .inl rfl
    · exact .inr fun e => by have := (T.2.1.lt k hv).2; have := HB.out; obtain rfl := Option.some.inj e; omega
  have g0 : Below base w w0 := b0.mono hbs
  refine (markI_any k0 T0.1 h0 (by omega) (by omega)).mono ?_
  rintro e w1 ⟨rfl, p1, s1⟩
  have T1 := T0.mark1 s1 p1
  have K1 := Lib.hid (K0.out.grown s1 N1.out)
  have z1 := s1.size
  have g1 := bmark g0 s1 T0.1 (Nat.le_refl _) (Nat.le_trans hbs b0.size)
  obtain ⟨-, -, q2, -⟩ := K1.out.four
  go_wp2_with fail
  clear q2
  refine (markI_any (k0 + n1) T1.2.1 (by omega) (by omega) (by omega)).mono ?_
  rintro e w2 ⟨rfl, p2, s2⟩
  have T2 := T1.mark2 s2 p2
  have K2 := Lib.hid (K1.out.grown s2 N2.out)
  have z2 := s2.size
  have g2 := bmark g1 s2 T1.2.1 (Nat.le_refl _) (Nat.le_trans hbs (Nat.le_trans b0.size z1))
  obtain ⟨-, -, -, q3⟩ := K2.out.four
  go_wp2_with fail
  clear q3
  refine (markI_any (k0 + n1 + n2) T2.2.2.1 (by omega) (by omega) (by omega)).mono ?_
  rintro e w3 ⟨rfl, p3, s3⟩
  have T3 := T2.mark3 s3 p3
  have g3 := bmark g2 s3 T2.2.2.1 (Nat.le_refl _) (Nat.le_trans hbs (Nat.le_trans b0.size (Nat.le_trans z1 z2)))
  have HK : Hid (∀ b v l, OI w b v l → Ap v (.slice A1 n1 c1) → Ap v (.slice A2 n2 c2) → Ap v (.slice A3 n3 c3) → OI w3 b v l) := fun b v l o a1 a2 a3 => (((o.below b0).kept s1 a1).kept s2 a2).kept s3 a3
  go_wp2
  go_ret
  exact ⟨rfl, g3, T3, HK.out⟩

/-- The sides that SidesOf returns. -/
def sdL (S : Int) (L R B : List Int) : List Int := if puzB S L R B true = true then sideL S.toNat L S.toNat else []
def sdR (S : Int) (L R B : List Int) : List Int := if puzB S L R B true = true then sideR R S.toNat else []
def sdB (S : Int) (L R B : List Int) : List Int := if puzB S L R B true = true then sideB S.toNat B S.toNat else []
theorem puzB_size {S : Int} {L R B : List Int} {wt : Bool} (h : puzB S L R B wt = true) : 1 ≤ S ∧ S ≤ 7 := by
  unfold puzB at h
  rw [Bool.and_eq_true] at h
  exact inB_iff.1 (sizesB_iff.1 h.1).1
theorem sdL_len (S : Int) (L R B : List Int) : (sdL S L R B).length ≤ 7 := by
  unfold sdL
  split
  · next h => have := puzB_size h; rw [sideL, gen_len]; omega
  · simp
theorem sdR_len (S : Int) (L R B : List Int) : (sdR S L R B).length ≤ 7 := by
  unfold sdR
  split
  · next h => have := puzB_size h; rw [sideR, gen_len]; omega
  · simp
theorem sdB_len (S : Int) (L R B : List Int) : (sdB S L R B).length ≤ 7 := by
  unfold sdB
  split
  · next h => have := puzB_size h; rw [sideB, gen_len]; omega
  · simp
theorem Three.nils (w : World) (base : Nat) : Three w base (.slice none 0 0) (.slice none 0 0) (.slice none 0 0) [] [] [] :=
  ⟨OI.nil_ _ _, OI.nil_ _ _, OI.nil_ _ _, .inl rfl, .inl rfl, .inl rfl⟩
section
variable {A1 A2 A3 : Option Addr} {n1 n2 n3 : Nat} {L R B : List Int} {w : World} (c1 c2 c3 : Nat) (S : Int) (h1 : RI w A1 n1 L) (h2 : RI w A2 n2 R) (h3 : RI w A3 n3 B)
    (m1 : n1 ≤ 1000000000) (m2 : n2 ≤ 1000000000) (m3 : n3 ≤ 1000000000)
include h1 h2 h3 m1 m2 m3
theorem iSides_any : Calls Try.prog 27 #[.agg #[.int .i64 S, .slice A1 n1 c1, .slice A2 n2 c2, .slice A3 n3 c3]] w (MakesT w (sdL S L R B) (sdR S L R B) (sdB S L R B) (puzB S L R B true)) := by
  rcases hp : puzB S L R B true with _ | _
  · have HF : Hid (sdL S L R B = [] ∧ sdR S L R B = [] ∧ sdB S L R B = []) := by
      show _ ∧ _ ∧ _
      simp [sdL, sdR, sdB, hp]
    go_enter Try.func27, Try.ntmps27
    go_wp2_with fail
    refine (iWeightedOk_any _ _ _ S (h1.alloc _) (h2.alloc _) (h3.alloc _) m1 m2 m3).mono ?_
    rintro e w1 ⟨rfl, b1⟩
    rw [hp]
    have g1 := bnext ((Below.refl w.heap.size w).alloc (Nat.le_refl _) _) b1 (by simp)
    go_wp2
    refine bodyPost_ret (v := .tuple #[.slice none 0 0, .slice none 0 0, .slice none 0 0, .bool false]) (by simp [results, Try.results27, go_sem]; try rfl) rfl ?_
    rw [HF.out.1, HF.out.2.1, HF.out.2.2]
    exact ⟨none, 0, 0, none, 0, 0, none, 0, 0, rfl, Three.nils _ _, g1⟩
  · obtain ⟨s1, s2⟩ := puzB_size hp
    obtain ⟨n, rfl⟩ := Int.eq_ofNat_of_zero_le (a := S) (by omega)
    rw [sdL, sdR, sdB, if_pos hp, if_pos hp, if_pos hp, Int.toNat_natCast]
    exact iSides_yes c1 c2 c3 n h1 h2 h3 m1 m2 m3 hp
theorem sSides_any : Calls Try.prog 26 #[.agg #[.int .i64 S, .slice A1 n1 c1, .slice A2 n2 c2, .slice A3 n3 c3]] w (MakesT w (sdL S L R B) (sdR S L R B) (sdB S L R B) (puzB S L R B true)) := by
  have HS := Lib.hid (fun h : puzB S L R B true = true => puzB_size h)
  have HF : Hid (puzB S L R B true = false → sdL S L R B = [] ∧ sdR S L R B = [] ∧ sdB S L R B = []) := fun hp => by
      simp [sdL, sdR, sdB, hp]
  go_enter Try.func26, Try.ntmps26
  go_wp2_with fail
  obtain ⟨w0, e0⟩ : ∃ w0 : World, w0 = w.alloc (Obj.cells #[Value.int IntKind.i64 S, Value.slice A1 n1 c1, Value.slice A2 n2 c2, Value.slice A3 n3 c3] 27) := ⟨_, rfl⟩
  have g0 : Below w.heap.size w w0 := by rw [e0]; exact (Below.refl _ _).alloc (Nat.le_refl _) _
  obtain ⟨bx, hbx⟩ : ∃ g, g = w.heap.size := ⟨_, rfl⟩
  have K0 : Hid (BK w0 bx 27 [Value.int IntKind.i64 S, Value.slice A1 n1 c1, Value.slice A2 n2 c2, Value.slice A3 n3 c3]) := by
    rw [e0, hbx]; exact BK.new w _ _
  rw [← e0, ← hbx]
  clear e0 hbx
  refine (sWeightedOk_any _ _ _ S (h1.below g0) (h2.below g0) (h3.below g0) m1 m2 m3).mono ?_
  rintro e w1 ⟨rfl, b1⟩
  have g1 := bnext g0 b1 g0.size
  have K1 : Hid (BK w1 bx _ _) := K0.out.below b1 K0.out.lt
  rcases hp : puzB S L R B true with _ | _
  · obtain ⟨f1, f2, f3⟩ := HF.out hp
    go_wp2
    refine bodyPost_ret (v := .tuple #[.slice none 0 0, .slice none 0 0, .slice none 0 0, .bool false]) (by simp [results, Try.results26, go_sem]; try rfl) rfl ?_
    rw [f1, f2, f3, hp]
    exact ⟨none, 0, 0, none, 0, 0, none, 0, 0, rfl, Three.nils _ _, g1⟩
  · obtain ⟨s1, s2⟩ := HS.out hp
    obtain ⟨n, rfl⟩ := Int.eq_ofNat_of_zero_le (a := S) (by omega)
    have HP := Lib.hid hp
    obtain ⟨q0, q1, q2, q3⟩ := K1.out.four
    clear hp
    go_wp2_with fail
    clear q0 q1 q2 q3
    refine (l5Sides_any _ _ _ n (h1.below g1) (h2.below g1) (h3.below g1) m1 m2 m3 HP.out).mono ?_
    rintro e w2 ⟨P1, p1, d1, P2, p2, d2, P3, p3, d3, rfl, T, b2⟩
    have g2 := bnext g1 b2 g1.size
    go_wp2
    refine bodyPost_ret (v := .tuple #[.slice P1 p1 d1, .slice P2 p2 d2, .slice P3 p3 d3, .bool true]) (by simp [results, Try.results26, go_sem]; try rfl) rfl ?_
    rw [sdL, sdR, sdB, if_pos HP.out, if_pos HP.out, if_pos HP.out, Int.toNat_natCast, HP.out]
    exact ⟨P1, p1, d1, P2, p2, d2, P3, p3, d3, rfl, ⟨T.1.mono g1.size, T.2.1.mono g1.size, T.2.2.1.mono g1.size, T.2.2.2⟩, g2⟩
end
end Go.Proofs.Ytemafljipkcgcaa
