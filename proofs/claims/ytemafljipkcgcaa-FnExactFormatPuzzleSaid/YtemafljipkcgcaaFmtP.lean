/- FormatPuzzle of both sides. -/
import Derived.Test.YtemafljipkcgcaaFmts
import Derived.Test.YtemafljipkcgcaaFlip
import Derived.Deep.RegionHeld3
namespace Go.Proofs.Ytemafljipkcgcaa
open Go.RowKit

theorem place_all : ∀ n, n < 8 → ∀ j, j < tri n → ∃ r, r < n ∧ ∃ i, i < r + 1 ∧ tri r + i = j := by decide +kernel
theorem labels {n : Nat} {L R B : List Int} {wt : Bool} (hp : puzB n L R B wt = true) {j : Nat} (hj : j < tri n) : (0 ≤ nth L j ∧ nth L j ≤ 3) ∧ (0 ≤ nth R j ∧ nth R j ≤ 3) ∧ (0 ≤ nth B j ∧ nth B j ≤ 3) := by
  have hs := puzB_size hp
  obtain ⟨r, hr, i, hi, rfl⟩ := place_all n (by omega) j hj
  obtain ⟨⟨_, _⟩, ⟨_, _⟩, _, _⟩ := puz_range hp hr hi
  omega
/-- What FormatPuzzle gives. -/
def strP (S : Int) (L R B : List Int) : ByteArray := if puzB S L R B true = true then ⟨(fmtL L ++ 47 :: (fmtL R ++ 47 :: fmtL B)).toArray⟩ else ⟨#[]⟩
theorem join3 (a b c : List UInt8) : Lib.join [a, b, c] [47] = a ++ 47 :: (b ++ 47 :: c) := by simp [Lib.join, List.intercalate]

theorem below_past {X w4 w5 : World} {o : Obj} (b : Below (X.alloc o).heap.size (X.alloc o) w5) (e1 : X.os = w4.os) (e2 : X.tape = w4.tape) (e3 : X.output = w4.output) (e4 : X.heap = w4.heap) : Below w4.heap.size w4 w5 :=
  ⟨b.os.trans e1, b.tape.trans e2, b.output.trans e3, by have := b.size; simp at this; rw [← e4]; omega, fun k hk => (b.block k (by rw [← e4] at hk; simp; omega)).trans ((Below.heap_alloc _ _ k (by rw [e4]; exact hk)).trans (by rw [e4]))⟩
theorem join3_any {W : World} {g : Nat} (f1 f2 f3 : ByteArray) (hg : g = W.heap.size) (h : (Lib.join [f1.data.toList, f2.data.toList, f3.data.toList] [47]).length ≤ 140737488355328) :
    Calls Try.prog 83 #[.slice (some ⟨g, 0, none⟩) 3 3, .string ⟨#[47]⟩] (W.alloc (.cells #[.string f1, .string f2, .string f3] 9)) (fun e w' => e = .returned (.string ⟨(Lib.join [f1.data.toList, f2.data.toList, f3.data.toList] [47]).toArray⟩) ∧ Below (W.alloc (.cells #[.string f1, .string f2, .string f3] 9)).heap.size (W.alloc (.cells #[.string f1, .string f2, .string f3] 9)) w') := by
  subst hg
  exact Try.strings_Join W.heap.size 0 3 [f1, f2, f3] ⟨#[47]⟩ _ (fun j x hj => by
    have := new_cells W [.string f1, .string f2, .string f3] 9 j (.string x) (by
      rcases j with _ | _ | _ | j <;> simp at hj ⊢ <;> exact hj)
    have hadd : (⟨W.heap.size, 0, none⟩ : Addr).add j = ⟨W.heap.size, 0 + j, none⟩ := by unfold Addr.add; split <;> simp_all
    rw [hadd] at this
    exact this) (by simp) (by simp) (by simp) h

section
variable {A1 A2 A3 : Option Addr} {n1 n2 n3 : Nat} {L R B : List Int} {w : World} (c1 c2 c3 : Nat) (S : Int) (h1 : RI w A1 n1 L) (h2 : RI w A2 n2 R) (h3 : RI w A3 n3 B)
    (m1 : n1 ≤ 1000000000) (m2 : n2 ≤ 1000000000) (m3 : n3 ≤ 1000000000)
include h1 h2 h3 m1 m2 m3
set_option maxRecDepth 4000
set_option maxHeartbeats 4000000
theorem iFmtP_any : Calls Try.prog 37 #[.agg #[.int .i64 S, .slice A1 n1 c1, .slice A2 n2 c2, .slice A3 n3 c3]] w (GivesB w (.string (strP S L R B))) := by
  go_enter Try.func37, Try.ntmps37
  go_wp2_with fail
  obtain ⟨w0, e0⟩ : ∃ w0 : World, w0 = w.alloc (Obj.cells #[Value.int IntKind.i64 S, Value.slice A1 n1 c1, Value.slice A2 n2 c2, Value.slice A3 n3 c3] 27) := ⟨_, rfl⟩
  have g0 : Below w.heap.size w w0 := by rw [e0]; exact (Below.refl _ _).alloc (Nat.le_refl _) _
  obtain ⟨bx, hbx⟩ : ∃ g, g = w.heap.size := ⟨_, rfl⟩
  have K0 : Hid (BK w0 bx 27 [Value.int IntKind.i64 S, Value.slice A1 n1 c1, Value.slice A2 n2 c2, Value.slice A3 n3 c3]) := by
    rw [e0, hbx]; exact BK.new w _ _
  rw [← e0, ← hbx]
  clear e0 hbx
  refine (iWeightedOk_any _ _ _ S (h1.below g0) (h2.below g0) (h3.below g0) m1 m2 m3).mono ?_
  rintro e w1 ⟨rfl, b1⟩
  have g1 := bnext g0 b1 g0.size
  have K1 : Hid (BK w1 bx _ _) := K0.out.below b1 K0.out.lt
  rcases hp : puzB S L R B true with _ | _
  · have HF : Hid (strP S L R B = ⟨#[]⟩) := by show strP S L R B = _; simp [strP, hp]
    go_wp2
    go_ret
    exact ⟨by rw [HF.out]; rfl, g1⟩
  have HF : Hid (strP S L R B = ⟨(fmtL L ++ 47 :: (fmtL R ++ 47 :: fmtL B)).toArray⟩) := by show strP S L R B = _; simp [strP, hp]
  obtain ⟨s1, s2⟩ := puzB_size hp
  obtain ⟨n, rfl⟩ := Int.eq_ofNat_of_zero_le (a := S) (by omega)
  have HP := Lib.hid hp
  have hp2 : sizesB n L R B = true := by
    have := hp
    unfold puzB at this
    rw [Bool.and_eq_true] at this
    exact this.1
  obtain ⟨-, hL, hR, hB⟩ := sizesB_iff.1 hp2
  rw [h1.1, Int.toNat_natCast] at hL
  rw [h2.1, Int.toNat_natCast] at hR
  rw [h3.1, Int.toNat_natCast] at hB
  have htp : 0 < tri n := by have := tri_lt (r := 0) (k := 0) (n := n) (by omega) (by omega); omega
  have hts := tri_small (n := n) (by omega)
  have HN : Hid (n1 = tri n ∧ n2 = tri n ∧ n3 = tri n ∧ 0 < tri n ∧ tri n ≤ 36) := ⟨hL, hR, hB, htp, hts⟩
  clear hp hp2 hL hR hB htp hts
  obtain ⟨q0, q1, q2, q3⟩ := K1.out.four
  have i1 : RI w1 A1 n1 L := h1.below g1
  have i2 : RI w1 A2 n2 R := h2.below g1
  have i3 : RI w1 A3 n3 B := h3.below g1
  have R1 : Hid (∀ j, j < n1 → 0 ≤ nth L j ∧ nth L j ≤ 3) := fun j hj => (labels HP.out (by rw [← HN.out.1]; exact hj)).1
  have R2 : Hid (∀ j, j < n2 → 0 ≤ nth R j ∧ nth R j ≤ 3) := fun j hj => (labels HP.out (by rw [← HN.out.2.1]; exact hj)).2.1
  have R3 : Hid (∀ j, j < n3 → 0 ≤ nth B j ∧ nth B j ≤ 3) := fun j hj => (labels HP.out (by rw [← HN.out.2.2.1]; exact hj)).2.2
  have P1 : Hid (0 < n1 ∧ n1 ≤ 1000) := by obtain ⟨a, b, c, d, e⟩ := HN.out; show 0 < n1 ∧ n1 ≤ 1000; omega
  have P2 : Hid (0 < n2 ∧ n2 ≤ 1000) := by obtain ⟨a, b, c, d, e⟩ := HN.out; show 0 < n2 ∧ n2 ≤ 1000; omega
  have P3 : Hid (0 < n3 ∧ n3 ≤ 1000) := by obtain ⟨a, b, c, d, e⟩ := HN.out; show 0 < n3 ∧ n3 ≤ 1000; omega
  obtain ⟨f1, hf1⟩ : ∃ f : ByteArray, f = ⟨(fmtL L).toArray⟩ := ⟨_, rfl⟩
  obtain ⟨f2, hf2⟩ : ∃ f : ByteArray, f = ⟨(fmtL R).toArray⟩ := ⟨_, rfl⟩
  obtain ⟨f3, hf3⟩ : ∃ f : ByteArray, f = ⟨(fmtL B).toArray⟩ := ⟨_, rfl⟩
  have l1 := fmtL_len L
  have l2 := fmtL_len R
  have l3 := fmtL_len B
  rw [h1.1] at l1
  rw [h2.1] at l2
  rw [h3.1] at l3
  have F1 : Hid (f1.data.toList = fmtL L ∧ f1.size ≤ 2000) := by subst hf1; exact ⟨rfl, by show (fmtL L).toArray.size ≤ 2000; have := P1.out; simp; omega⟩
  have F2 : Hid (f2.data.toList = fmtL R ∧ f2.size ≤ 2000) := by subst hf2; exact ⟨rfl, by show (fmtL R).toArray.size ≤ 2000; have := P2.out; simp; omega⟩
  have F3 : Hid (f3.data.toList = fmtL B ∧ f3.size ≤ 2000) := by subst hf3; exact ⟨rfl, by show (fmtL B).toArray.size ≤ 2000; have := P3.out; simp; omega⟩
  have HJ : Hid (Lib.join [f1.data.toList, f2.data.toList, f3.data.toList] [47] = fmtL L ++ 47 :: (fmtL R ++ 47 :: fmtL B)) := by
    show Lib.join [f1.data.toList, f2.data.toList, f3.data.toList] [47] = _
    rw [join3, F1.out.1, F2.out.1, F3.out.1]
  have HJL : Hid ((Lib.join [f1.data.toList, f2.data.toList, f3.data.toList] [47]).length ≤ 140737488355328) := by
    show List.length _ ≤ _
    rw [HJ.out]
    have := P1.out; have := P2.out; have := P3.out
    simp
    omega
  have C1 : Hid (∀ W, RI W A1 n1 L → Calls Try.prog 84 #[.slice A1 n1 c1] W (fun e w' => e = .returned (.string f1) ∧ Below W.heap.size W w')) := fun W h => by
    rw [hf1]; exact iFmts_any _ h P1.out.1 P1.out.2 R1.out
  have C2 : Hid (∀ W, RI W A2 n2 R → Calls Try.prog 84 #[.slice A2 n2 c2] W (fun e w' => e = .returned (.string f2) ∧ Below W.heap.size W w')) := fun W h => by
    rw [hf2]; exact iFmts_any _ h P2.out.1 P2.out.2 R2.out
  have C3 : Hid (∀ W, RI W A3 n3 B → Calls Try.prog 84 #[.slice A3 n3 c3] W (fun e w' => e = .returned (.string f3) ∧ Below W.heap.size W w')) := fun W h => by
    rw [hf3]; exact iFmts_any _ h P3.out.1 P3.out.2 R3.out
  clear hf1 hf2 hf3 l1 l2 l3 q0
  go_wp2_with fail
  go_region_held3 (fun w' => w'.cell? ⟨bx, 1, none⟩ = some (Value.slice A1 n1 c1) ∧ w'.cell? ⟨bx, 2, none⟩ = some (Value.slice A2 n2 c2) ∧ w'.cell? ⟨bx, 3, none⟩ = some (Value.slice A3 n3 c3)) (first | exact ⟨q1, q2, q3⟩ | exact K2.out.four.2 | exact K3.out.four.2 | exact K4.out.four.2 | exact (K4.out.alloc _).four.2 | exact K5.out.four.2) (first
    | (go_at_call 84; (with_reducible refine (C1.out _ ?_).mono ?_); exact i1; rintro e w2 ⟨rfl, b2⟩; have b2 : Below w1.heap.size w1 w2 := ⟨b2.os, b2.tape, b2.output, b2.size, b2.block⟩; have K2 := Lib.hid (K1.out.below b2 K1.out.lt); have j2 : RI w2 A2 n2 R := i2.below b2; have j3 : RI w2 A3 n3 B := i3.below b2)
    | (go_at_call 84; (with_reducible refine (C2.out _ ?_).mono ?_); exact j2; rintro e w3 ⟨rfl, b3⟩; have b3 : Below w2.heap.size w2 w3 := ⟨b3.os, b3.tape, b3.output, b3.size, b3.block⟩; have K3 := Lib.hid (K2.out.below b3 K2.out.lt); have k3 : RI w3 A3 n3 B := j3.below b3)
    | (go_at_call 84; (with_reducible refine (C3.out _ ?_).mono ?_); exact k3; rintro e w4 ⟨rfl, b4⟩; have b4 : Below w3.heap.size w3 w4 := ⟨b4.os, b4.tape, b4.output, b4.size, b4.block⟩; have K4 := Lib.hid (K3.out.below b4 K3.out.lt))
    | (go_at_call 83; (with_reducible refine (join3_any f1 f2 f3 ?_ HJL.out).mono ?_); rfl; rintro e w5 ⟨rfl, b5⟩; have gw4 : Below w.heap.size w w4 := bnext (bnext (bnext g1 b2 g1.size) b3 (Nat.le_trans g1.size b2.size)) b4 (Nat.le_trans g1.size (Nat.le_trans b2.size b3.size)); have b5' : Below w4.heap.size w4 w5 := below_past b5 rfl rfl rfl rfl; have gw5 := bnext gw4 b5' gw4.size; have K5 := Lib.hid ((K4.out.alloc _).below b5 (K4.out.alloc _).lt)))
  go_wp2
  go_ret
  exact ⟨by rw [HF.out, ← HJ.out]; rfl, gw5⟩
theorem sFmtP_any : Calls Try.prog 36 #[.agg #[.int .i64 S, .slice A1 n1 c1, .slice A2 n2 c2, .slice A3 n3 c3]] w (GivesB w (.string (strP S L R B))) := by
  go_enter Try.func36, Try.ntmps36
  go_wp2_with fail
  obtain ⟨w0, e0⟩ : ∃ w0 : World, w0 = w.alloc (Obj.cells #[Value.int IntKind.i64 S, Value.slice A1 n1 c1, Value.slice A2 n2 c2, Value.slice A3 n3 c3] 27) := ⟨_, rfl⟩
  have g0 : Below w.heap.size w w0 := by rw [e0]; exact (Below.refl _ _).alloc (Nat.le_refl _) _
  obtain ⟨bx, hbx⟩ : ∃ g, g = w.heap.size := ⟨_, rfl⟩
  have K0 : Hid (BK w0 bx 27 [Value.int IntKind.i64 S, Value.slice A1 n1 c1, Value.slice A2 n2 c2, Value.slice A3 n3 c3]) := by
    rw [e0, hbx]; exact BK.new w _ _
  rw [← e0, ← hbx]
  clear e0 hbx
  refine (sWeightedOk_any _ _ _ S (h1.below g0) (h2.below g0) (h3.below g0) m1 m2 m3).mono ?_
  rintro e w1 ⟨rfl, b1⟩
  have g1 := bnext g0 b1 g0.size
  have K1 : Hid (BK w1 bx _ _) := K0.out.below b1 K0.out.lt
  rcases hp : puzB S L R B true with _ | _
  · have HF : Hid (strP S L R B = ⟨#[]⟩) := by show strP S L R B = _; simp [strP, hp]
    go_wp2
    go_ret
    exact ⟨by rw [HF.out]; rfl, g1⟩
  have HF : Hid (strP S L R B = ⟨(fmtL L ++ 47 :: (fmtL R ++ 47 :: fmtL B)).toArray⟩) := by show strP S L R B = _; simp [strP, hp]
  obtain ⟨s1, s2⟩ := puzB_size hp
  obtain ⟨n, rfl⟩ := Int.eq_ofNat_of_zero_le (a := S) (by omega)
  have HP := Lib.hid hp
  have hp2 : sizesB n L R B = true := by
    have := hp
    unfold puzB at this
    rw [Bool.and_eq_true] at this
    exact this.1
  obtain ⟨-, hL, hR, hB⟩ := sizesB_iff.1 hp2
  rw [h1.1, Int.toNat_natCast] at hL
  rw [h2.1, Int.toNat_natCast] at hR
  rw [h3.1, Int.toNat_natCast] at hB
  have htp : 0 < tri n := by have := tri_lt (r := 0) (k := 0) (n := n) (by omega) (by omega); omega
  have hts := tri_small (n := n) (by omega)
  have HN : Hid (n1 = tri n ∧ n2 = tri n ∧ n3 = tri n ∧ 0 < tri n ∧ tri n ≤ 36) := ⟨hL, hR, hB, htp, hts⟩
  clear hp hp2 hL hR hB htp hts
  obtain ⟨q0, q1, q2, q3⟩ := K1.out.four
  have i1 : RI w1 A1 n1 L := h1.below g1
  have i2 : RI w1 A2 n2 R := h2.below g1
  have i3 : RI w1 A3 n3 B := h3.below g1
  have R1 : Hid (∀ j, j < n1 → 0 ≤ nth L j ∧ nth L j ≤ 3) := fun j hj => (labels HP.out (by rw [← HN.out.1]; exact hj)).1
  have R2 : Hid (∀ j, j < n2 → 0 ≤ nth R j ∧ nth R j ≤ 3) := fun j hj => (labels HP.out (by rw [← HN.out.2.1]; exact hj)).2.1
  have R3 : Hid (∀ j, j < n3 → 0 ≤ nth B j ∧ nth B j ≤ 3) := fun j hj => (labels HP.out (by rw [← HN.out.2.2.1]; exact hj)).2.2
  have P1 : Hid (0 < n1 ∧ n1 ≤ 1000) := by obtain ⟨a, b, c, d, e⟩ := HN.out; show 0 < n1 ∧ n1 ≤ 1000; omega
  have P2 : Hid (0 < n2 ∧ n2 ≤ 1000) := by obtain ⟨a, b, c, d, e⟩ := HN.out; show 0 < n2 ∧ n2 ≤ 1000; omega
  have P3 : Hid (0 < n3 ∧ n3 ≤ 1000) := by obtain ⟨a, b, c, d, e⟩ := HN.out; show 0 < n3 ∧ n3 ≤ 1000; omega
  obtain ⟨f1, hf1⟩ : ∃ f : ByteArray, f = ⟨(fmtL L).toArray⟩ := ⟨_, rfl⟩
  obtain ⟨f2, hf2⟩ : ∃ f : ByteArray, f = ⟨(fmtL R).toArray⟩ := ⟨_, rfl⟩
  obtain ⟨f3, hf3⟩ : ∃ f : ByteArray, f = ⟨(fmtL B).toArray⟩ := ⟨_, rfl⟩
  have l1 := fmtL_len L
  have l2 := fmtL_len R
  have l3 := fmtL_len B
  rw [h1.1] at l1
  rw [h2.1] at l2
  rw [h3.1] at l3
  have F1 : Hid (f1.data.toList = fmtL L ∧ f1.size ≤ 2000) := by subst hf1; exact ⟨rfl, by show (fmtL L).toArray.size ≤ 2000; have := P1.out; simp; omega⟩
  have F2 : Hid (f2.data.toList = fmtL R ∧ f2.size ≤ 2000) := by subst hf2; exact ⟨rfl, by show (fmtL R).toArray.size ≤ 2000; have := P2.out; simp; omega⟩
  have F3 : Hid (f3.data.toList = fmtL B ∧ f3.size ≤ 2000) := by subst hf3; exact ⟨rfl, by show (fmtL B).toArray.size ≤ 2000; have := P3.out; simp; omega⟩
  have HJ : Hid (f1 ++ ⟨#[47]⟩ ++ f2 ++ ⟨#[47]⟩ ++ f3 = ⟨(fmtL L ++ 47 :: (fmtL R ++ 47 :: fmtL B)).toArray⟩) := by
    show f1 ++ ⟨#[47]⟩ ++ f2 ++ ⟨#[47]⟩ ++ f3 = _
    apply ByteArray.ext
    rw [← Array.toList_inj]
    simp only [ByteArray.data_append, Array.toList_append, F1.out.1, F2.out.1, F3.out.1]
    simp
  have sf1 := F1.out.2
  have sf2 := F2.out.2
  have sf3 := F3.out.2
  have z1 : ¬9223372036854775807 < f1.size + 1 := by omega
  have z2 : ¬9223372036854775807 < f1.size + 1 + f2.size := by omega
  have z3 : ¬9223372036854775807 < f1.size + 1 + f2.size + 1 := by omega
  have z4 : ¬9223372036854775807 < f1.size + 1 + f2.size + 1 + f3.size := by omega
  have C1 : Hid (∀ W, RI W A1 n1 L → Calls Try.prog 82 #[.slice A1 n1 c1] W (fun e w' => e = .returned (.string f1) ∧ Below W.heap.size W w')) := fun W h => by
    rw [hf1]; exact sFmts_any _ h P1.out.1 P1.out.2 R1.out
  have C2 : Hid (∀ W, RI W A2 n2 R → Calls Try.prog 82 #[.slice A2 n2 c2] W (fun e w' => e = .returned (.string f2) ∧ Below W.heap.size W w')) := fun W h => by
    rw [hf2]; exact sFmts_any _ h P2.out.1 P2.out.2 R2.out
  have C3 : Hid (∀ W, RI W A3 n3 B → Calls Try.prog 82 #[.slice A3 n3 c3] W (fun e w' => e = .returned (.string f3) ∧ Below W.heap.size W w')) := fun W h => by
    rw [hf3]; exact sFmts_any _ h P3.out.1 P3.out.2 R3.out
  clear hf1 hf2 hf3 l1 l2 l3 q0
  go_wp2_with fail
  go_region_held3 (fun w' => w'.cell? ⟨bx, 1, none⟩ = some (Value.slice A1 n1 c1) ∧ w'.cell? ⟨bx, 2, none⟩ = some (Value.slice A2 n2 c2) ∧ w'.cell? ⟨bx, 3, none⟩ = some (Value.slice A3 n3 c3)) (first | exact ⟨q1, q2, q3⟩ | exact K2.out.four.2 | exact K3.out.four.2 | exact K4.out.four.2) (first
    | (go_at_call 82; (with_reducible refine (C1.out _ ?_).mono ?_); exact i1; rintro e w2 ⟨rfl, b2⟩; have b2 : Below w1.heap.size w1 w2 := ⟨b2.os, b2.tape, b2.output, b2.size, b2.block⟩; have K2 := Lib.hid (K1.out.below b2 K1.out.lt); have j2 : RI w2 A2 n2 R := i2.below b2; have j3 : RI w2 A3 n3 B := i3.below b2)
    | (go_at_call 82; (with_reducible refine (C2.out _ ?_).mono ?_); exact j2; rintro e w3 ⟨rfl, b3⟩; have b3 : Below w2.heap.size w2 w3 := ⟨b3.os, b3.tape, b3.output, b3.size, b3.block⟩; have K3 := Lib.hid (K2.out.below b3 K2.out.lt); have k3 : RI w3 A3 n3 B := j3.below b3)
    | (go_at_call 82; (with_reducible refine (C3.out _ ?_).mono ?_); exact k3; rintro e w4 ⟨rfl, b4⟩; have b4 : Below w3.heap.size w3 w4 := ⟨b4.os, b4.tape, b4.output, b4.size, b4.block⟩; have K4 := Lib.hid (K3.out.below b4 K3.out.lt)))
  go_wp2
  go_ret
  exact ⟨by rw [HF.out, ← HJ.out]; rfl, bnext (bnext (bnext g1 b2 g1.size) b3 (Nat.le_trans g1.size b2.size)) b4 (Nat.le_trans g1.size (Nat.le_trans b2.size b3.size))⟩
end
end Go.Proofs.Ytemafljipkcgcaa
