/- What is known of the puzzles with two sides; two words of the laws. -/
import Derived.Test.YtnljlophgolejaaPzFinS1
import Derived.Test.YtnljlophgolejaaPzFinS2
import Derived.Test.YtnljlophgolejaaPzFinS3
import Derived.Test.YtnljlophgolejaaPzFinS4
import Derived.Test.YtnljlophgolejaaPuzO
import Derived.Test.YtnljlophgolejaaShapes
import Derived.Test.YtnljlophgolejaaWords
namespace Go.Proofs.Ytnljlophgolejaa
open Go.RowKit

theorem chkS_n {n : Nat} (h : n ≤ 6) {a b : List Int} (ha : a ∈ strs n) (hb : b ∈ strs n) (hab : alikeB a b = true) {p : PZ} (hp : p ∈ spAll false a b) : chkS1 n a b p = true := by
  have fin : ∀ xs, chkSA n xs = true → a ∈ xs → chkS1 n a b p = true := fun xs h1 hx => by
    unfold chkSA at h1
    rw [List.all_eq_true] at h1
    have h2 := h1 a hx
    rw [List.all_eq_true] at h2
    have h3 := h2 b hb
    rw [if_pos hab, List.all_eq_true] at h3
    exact h3 p hp
  by_cases h5 : n ≤ 5
  · have h1 := chkS_small
    rw [List.all_eq_true] at h1
    exact fin _ (h1 n (by rw [List.mem_range]; omega)) ha
  · obtain rfl : n = 6 := by omega
    have e : strs 6 = ((strs 6).drop 0).take 4 ++ (((strs 6).drop 4).take 4 ++ (((strs 6).drop 8).take 4 ++ (((strs 6).drop 12).take 4 ++ (((strs 6).drop 16).take 4 ++ (((strs 6).drop 20).take 4 ++ (((strs 6).drop 24).take 4 ++ (((strs 6).drop 28).take 4 ++ (((strs 6).drop 32).take 4 ++ (((strs 6).drop 36).take 4 ++ (((strs 6).drop 40).take 4 ++ (((strs 6).drop 44).take 4 ++ (((strs 6).drop 48).take 4 ++ (((strs 6).drop 52).take 4 ++ (((strs 6).drop 56).take 4 ++ ((strs 6).drop 60).take 4)))))))))))))) := by decide +kernel
    rw [e] at ha
    rcases List.mem_append.1 ha with ha | ha
    · exact fin _ chkS6_0 ha
    rcases List.mem_append.1 ha with ha | ha
    · exact fin _ chkS6_4 ha
    rcases List.mem_append.1 ha with ha | ha
    · exact fin _ chkS6_8 ha
    rcases List.mem_append.1 ha with ha | ha
    · exact fin _ chkS6_12 ha
    rcases List.mem_append.1 ha with ha | ha
    · exact fin _ chkS6_16 ha
    rcases List.mem_append.1 ha with ha | ha
    · exact fin _ chkS6_20 ha
    rcases List.mem_append.1 ha with ha | ha
    · exact fin _ chkS6_24 ha
    rcases List.mem_append.1 ha with ha | ha
    · exact fin _ chkS6_28 ha
    rcases List.mem_append.1 ha with ha | ha
    · exact fin _ chkS6_32 ha
    rcases List.mem_append.1 ha with ha | ha
    · exact fin _ chkS6_36 ha
    rcases List.mem_append.1 ha with ha | ha
    · exact fin _ chkS6_40 ha
    rcases List.mem_append.1 ha with ha | ha
    · exact fin _ chkS6_44 ha
    rcases List.mem_append.1 ha with ha | ha
    · exact fin _ chkS6_48 ha
    rcases List.mem_append.1 ha with ha | ha
    · exact fin _ chkS6_52 ha
    rcases List.mem_append.1 ha with ha | ha
    · exact fin _ chkS6_56 ha
    · exact fin _ chkS6_60 ha
/-- A puzzle, turned three times, reflected twice. -/
structure TurnsZ (n : Nat) (a b L R B L1 R1 B1 L2 R2 B2 M1 M2 M3 : List Int) : Prop where
  p0 : puzB n L R B false = true
  sl : sideL n L n = a
  sr : sideR R n = b
  t1 : rpzL n L R B = L1 ∧ rpzR n L R B = R1 ∧ rpzB n L R B = B1
  t2 : rpzL n L1 R1 B1 = L2 ∧ rpzR n L1 R1 B1 = R2 ∧ rpzB n L1 R1 B1 = B2
  t3 : rpzL n L2 R2 B2 = L ∧ rpzR n L2 R2 B2 = R ∧ rpzB n L2 R2 B2 = B
  m1 : mirL n L R B = M1 ∧ mirR n L R B = M2 ∧ mirB n L R B = M3
  m2 : mirL n M1 M2 M3 = L ∧ mirR n M1 M2 M3 = R ∧ mirB n M1 M2 M3 = B
  p1 : puzB n L1 R1 B1 false = true
  p2 : puzB n L2 R2 B2 false = true
  p3 : puzB n M1 M2 M3 false = true
  s1 : sideR R1 n = a ∧ sideL n L1 n = (sideB n B n).reverse ∧ sideB n B1 n = b.reverse
theorem sides_at {a b : List Int} (h : alikeB a b = true) (h6 : a.length ≤ 6) {p : PZ} (hp : p ∈ spAll false a b) :
    ∃ L1 R1 B1 L2 R2 B2 M1 M2 M3, TurnsZ a.length a b p.1 p.2.1 p.2.2 L1 R1 B1 L2 R2 B2 M1 M2 M3 := by
  obtain ⟨s1, s2, s3, -⟩ := alike_str h
  have h1 := chkS_n h6 (str_strs s1) (by rw [s3]; exact str_strs s2) h hp
  unfold chkS1 at h1
  rw [fz_eq, fz_eq, fz_eq] at h1
  unfold chkS2 at h1
  simp only [fz_eq] at h1
  unfold chkS3 at h1
  simp only [Bool.and_eq_true, decide_eq_true_eq] at h1
  obtain ⟨q1, q2, q3, q4, q5, q6, q7, q8, q9, q10, q11, q12, q13, q14, q15⟩ := h1
  exact ⟨_, _, _, _, _, _, _, _, _, q1, q2, q3, ⟨rfl, rfl, rfl⟩, ⟨rfl, rfl, rfl⟩, ⟨q9, q10, q11⟩, ⟨rfl, rfl, rfl⟩, ⟨q13, q14, q15⟩, q4, q8, q12, q5, q6, q7⟩

theorem lless_any {A C : Option Addr} {n m : Nat} {xs ys : List Int} {w : World} (c d : Nat) (hx : RI w A n xs) (hy : RI w C m ys) (hn : n ≤ 9223372036854775807) (hm : m ≤ 9223372036854775807) :
    Calls Try.prog 43 #[.slice A n c, .slice C m d] w (Gives w (.bool (lexLt xs ys))) := by
  have HL1 := Lib.hid hx.1
  have HL2 := Lib.hid hy.1
  go_enter Try.func43, Try.ntmps43
  go_wp2
  go_loopw [5] (fun i wr => ∃ k : Nat, k ≤ n ∧ k ≤ m ∧ i = .int .i64 k ∧ Quiet w wr ∧ Hid (lexLt (xs.drop k) (ys.drop k) = lexLt xs ys)) (fun i _ => n - (intOf i).toNat)
  case atStart => exact ⟨0, Nat.zero_le _, Nat.zero_le _, rfl, (by first | exact ⟨_, rfl⟩ | exact ⟨_, (World.drewN_drewN _ _ _).symm⟩ | exact Quiet.refl _ | (simp only [World.drewN_drewN]; exact ⟨_, rfl⟩)), rfl⟩
  case round =>
    obtain ⟨k, hk, hk2, rfl, ⟨q, rfl⟩, HT⟩ := hrel
    by_cases hlt : k < n
    · by_cases hlt2 : k < m
      · obtain ⟨ad, hA, hc⟩ := hx.cell hlt
        obtain ⟨ad', hA', hc'⟩ := hy.cell hlt2
        subst hA hA'
        by_cases he : nth xs k = nth ys k
        · have HE := Lib.hid he
          have he' : (nth xs k != nth ys k) = false := by simpa using he
          clear he
          go_wp2
          go_quiet (fail)
          go_wp2
          go_roundw
          case rel => exact ⟨k + 1, by omega, by omega, by go_num, (by first | exact ⟨_, rfl⟩ | exact ⟨_, (World.drewN_drewN _ _ _).symm⟩ | exact Quiet.refl _ | (simp only [World.drewN_drewN]; exact ⟨_, rfl⟩)), (lexLt_same (by rw [HL1.out]; exact hlt) (by rw [HL2.out]; exact hlt2) HE.out).symm.trans HT.out⟩
          case measure => simp [intOf]; omega
        · have HE := Lib.hid he
          have he' : (nth xs k != nth ys k) = true := by simpa using he
          clear he
          go_wp2
          go_quiet (fail)
          go_wp2
          go_quiet (fail)
          go_wp2
          go_ret
          refine ⟨ret_bool ?_, (by first | exact ⟨_, rfl⟩ | exact ⟨_, (World.drewN_drewN _ _ _).symm⟩ | exact Quiet.refl _ | (simp only [World.drewN_drewN]; exact ⟨_, rfl⟩))⟩
          rw [← HT.out, lexLt_diff (by rw [HL1.out]; exact hlt) (by rw [HL2.out]; exact hlt2) HE.out]
      · obtain rfl : k = m := by omega
        go_wp2
        go_ret
        refine ⟨ret_bool ?_, (by first | exact ⟨_, rfl⟩ | exact ⟨_, (World.drewN_drewN _ _ _).symm⟩ | exact Quiet.refl _ | (simp only [World.drewN_drewN]; exact ⟨_, rfl⟩))⟩
        rw [← HT.out, lexLt_end (.inr HL2.out.symm) (by rw [HL1.out]; omega) (by rw [HL2.out]; omega), HL1.out, HL2.out]
    · obtain rfl : k = n := by omega
      go_wp2
      go_ret
      refine ⟨ret_bool ?_, (by first | exact ⟨_, rfl⟩ | exact ⟨_, (World.drewN_drewN _ _ _).symm⟩ | exact Quiet.refl _ | (simp only [World.drewN_drewN]; exact ⟨_, rfl⟩))⟩
      rw [← HT.out, lexLt_end (.inl HL1.out.symm) (by rw [HL1.out]; omega) (by rw [HL2.out]; omega), HL1.out, HL2.out]

set_option maxHeartbeats 1000000 in
theorem lpuzzles_any {A1 A2 A3 C1 C2 C3 : Option Addr} {n1 n2 n3 m1 m2 m3 : Nat} {L R B : List Int} {w : World} (c1 c2 c3 d1 d2 d3 : Nat) (S : Int) (h1 : RI w A1 n1 L) (h2 : RI w A2 n2 R) (h3 : RI w A3 n3 B)
    (k1 : RI w C1 m1 L) (k2 : RI w C2 m2 R) (k3 : RI w C3 m3 B) (b1 : n1 ≤ 9223372036854775807) (b2 : n2 ≤ 9223372036854775807) (b3 : n3 ≤ 9223372036854775807) :
    Calls Try.prog 46 #[.agg #[.int .i64 S, .slice A1 n1 c1, .slice A2 n2 c2, .slice A3 n3 c3], .agg #[.int .i64 S, .slice C1 m1 d1, .slice C2 m2 d2, .slice C3 m3 d3]] w (GivesB w (.bool true)) := by
  obtain rfl : n1 = m1 := h1.1.symm.trans k1.1
  obtain rfl : n2 = m2 := h2.1.symm.trans k2.1
  obtain rfl : n3 = m3 := h3.1.symm.trans k3.1
  have hss : (S == S) = true := by simp
  go_enter Try.func46, Try.ntmps46
  go_wp2_with fail
  refine (ints_any true _ _ ((h1.alloc _).alloc _) ((k1.alloc _).alloc _) (by simp) b1 b1).mono ?_
  rintro e w1 ⟨rfl, q, rfl⟩
  go_wp2_with fail
  refine (ints_any true _ _ (((h2.alloc _).alloc _).drewN _) (((k2.alloc _).alloc _).drewN _) (by simp) b2 b2).mono ?_
  rintro e w1 ⟨rfl, q, rfl⟩
  go_wp2_with fail
  refine (ints_any true _ _ (((h3.alloc _).alloc _).drewN _) (((k3.alloc _).alloc _).drewN _) (by simp) b3 b3).mono ?_
  rintro e w1 ⟨rfl, q, rfl⟩
  go_wp2
  go_ret
  exact ⟨rfl, by first | exact below_drewN (((Below.refl _ _).alloc (Nat.le_refl _) _).alloc (by simp) _) _ | (simp only [World.drewN_drewN]; exact below_drewN (((Below.refl _ _).alloc (Nat.le_refl _) _).alloc (by simp) _) _)⟩
section
variable {n : Nat} {a b L R B L1 R1 B1 L2 R2 B2 M1 M2 M3 : List Int} (T : TurnsZ n a b L R B L1 R1 B1 L2 R2 B2 M1 M2 M3)
include T
theorem TurnsZ.len0 : L.length ≤ 28 ∧ R.length ≤ 28 ∧ B.length ≤ 28 := by
  refine ⟨?_, ?_, ?_⟩
  · rw [← T.t3.1]; exact rpzL_len _ _ _ _
  · rw [← T.t3.2.1]; exact rpzR_len _ _ _ _
  · rw [← T.t3.2.2]; exact rpzB_len _ _ _ _
theorem TurnsZ.len1 : L1.length ≤ 28 ∧ R1.length ≤ 28 ∧ B1.length ≤ 28 := by
  refine ⟨?_, ?_, ?_⟩
  · rw [← T.t1.1]; exact rpzL_len _ _ _ _
  · rw [← T.t1.2.1]; exact rpzR_len _ _ _ _
  · rw [← T.t1.2.2]; exact rpzB_len _ _ _ _
theorem TurnsZ.len2 : L2.length ≤ 28 ∧ R2.length ≤ 28 ∧ B2.length ≤ 28 := by
  refine ⟨?_, ?_, ?_⟩
  · rw [← T.t2.1]; exact rpzL_len _ _ _ _
  · rw [← T.t2.2.1]; exact rpzR_len _ _ _ _
  · rw [← T.t2.2.2]; exact rpzB_len _ _ _ _
theorem TurnsZ.len3 : M1.length ≤ 28 ∧ M2.length ≤ 28 ∧ M3.length ≤ 28 := by
  refine ⟨?_, ?_, ?_⟩
  · rw [← T.m1.1]; exact mirL_len _ _ _ _
  · rw [← T.m1.2.1]; exact mirR_len _ _ _ _
  · rw [← T.m1.2.2]; exact mirB_len _ _ _ _
end
section
variable {A1 A2 A3 : Option Addr} {n1 n2 n3 : Nat} {L R B L1 R1 B1 : List Int} {w : World} (c1 c2 c3 : Nat) (n : Nat) (h1 : RI w A1 n1 L) (h2 : RI w A2 n2 R) (h3 : RI w A3 n3 B)
    (m1 : L.length ≤ 28 ∧ R.length ≤ 28 ∧ B.length ≤ 28)
include h1 h2 h3 m1
theorem rot_of (hp : puzB n L R B false = true) (hr : rpzL n L R B = L1 ∧ rpzR n L R B = R1 ∧ rpzB n L R B = B1) :
    Calls Try.prog 44 #[.agg #[.int .i64 (n : Int), .slice A1 n1 c1, .slice A2 n2 c2, .slice A3 n3 c3]] w (MakesPb w n L1 R1 B1 true) := by
  have h := iRot_any c1 c2 c3 (n : Int) h1 h2 h3 (by have := h1.1; omega) (by have := h2.1; omega) (by have := h3.1; omega)
  rw [hp, hr.1, hr.2.1, hr.2.2] at h
  exact h
theorem mir_of (hp : puzB n L R B false = true) (hr : mirL n L R B = L1 ∧ mirR n L R B = R1 ∧ mirB n L R B = B1) :
    Calls Try.prog 45 #[.agg #[.int .i64 (n : Int), .slice A1 n1 c1, .slice A2 n2 c2, .slice A3 n3 c3]] w (MakesPb w n L1 R1 B1 true) := by
  have h := iMir_any c1 c2 c3 (n : Int) h1 h2 h3 (by have := h1.1; omega) (by have := h2.1; omega) (by have := h3.1; omega)
  rw [puz_wt hp, hr.1, hr.2.1, hr.2.2] at h
  exact h
theorem sid_of (hp : puzB n L R B false = true) :
    Calls Try.prog 40 #[.agg #[.int .i64 (n : Int), .slice A1 n1 c1, .slice A2 n2 c2, .slice A3 n3 c3]] w (MakesT w (sideL n L n) (sideR R n) (sideB n B n) true) :=
  iSides_yes c1 c2 c3 n h1 h2 h3 (by have := h1.1; omega) (by have := h2.1; omega) (by have := h3.1; omega) (puz_wt hp)
theorem pok_of (hp : puzB n L R B false = true) :
    Calls Try.prog 41 #[.agg #[.int .i64 (n : Int), .slice A1 n1 c1, .slice A2 n2 c2, .slice A3 n3 c3]] w (GivesB w (.bool true)) := by
  have h := iPuzzleOk_any c1 c2 c3 (n : Int) h1 h2 h3 (by have := h1.1; omega) (by have := h2.1; omega) (by have := h3.1; omega)
  rwa [hp] at h
end
/-- A puzzle in a block, to be read so long as nothing below is written. -/
def Boxed (w : World) (g : Nat) (S : Int) (C1 : Option Addr) (p1 q1 : Nat) (C2 : Option Addr) (p2 q2 : Nat) (C3 : Option Addr) (p3 q3 : Nat) (L R B : List Int) : Prop :=
  (w.cell? ⟨g, 0, none⟩ = some (.int .i64 S) ∧ w.cell? ⟨g, 1, none⟩ = some (.slice C1 p1 q1) ∧ w.cell? ⟨g, 2, none⟩ = some (.slice C2 p2 q2) ∧ w.cell? ⟨g, 3, none⟩ = some (.slice C3 p3 q3)) ∧ RI w C1 p1 L ∧ RI w C2 p2 R ∧ RI w C3 p3 B
theorem Boxed.below {w w' : World} {g : Nat} {S : Int} {C1 : Option Addr} {p1 q1 : Nat} {C2 : Option Addr} {p2 q2 : Nat} {C3 : Option Addr} {p3 q3 : Nat} {L R B : List Int} (h : Boxed w g S C1 p1 q1 C2 p2 q2 C3 p3 q3 L R B) (b : Below w.heap.size w w') :
    Boxed w' g S C1 p1 q1 C2 p2 q2 C3 p3 q3 L R B :=
  ⟨⟨one_cell b h.1.1, one_cell b h.1.2.1, one_cell b h.1.2.2.1, one_cell b h.1.2.2.2⟩, h.2.1.below b, h.2.2.1.below b, h.2.2.2.below b⟩
theorem Boxed.new {w : World} {S : Int} {C1 : Option Addr} {p1 q1 : Nat} {C2 : Option Addr} {p2 q2 : Nat} {C3 : Option Addr} {p3 q3 : Nat} {L R B : List Int} (h1 : RI w C1 p1 L) (h2 : RI w C2 p2 R) (h3 : RI w C3 p3 B) :
    Boxed (w.alloc (.cells #[.int .i64 S, .slice C1 p1 q1, .slice C2 p2 q2, .slice C3 p3 q3] 53)) w.heap.size S C1 p1 q1 C2 p2 q2 C3 p3 q3 L R B := by
  have k := (BK.new w 53 [.int .i64 S, .slice C1 p1 q1, .slice C2 p2 q2, .slice C3 p3 q3]).four
  exact ⟨k, h1.alloc _, h2.alloc _, h3.alloc _⟩
end Go.Proofs.Ytnljlophgolejaa
