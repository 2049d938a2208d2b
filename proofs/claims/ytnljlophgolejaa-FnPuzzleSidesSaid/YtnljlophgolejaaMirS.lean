/- MirrorPuzzle of the reference, at a puzzle. -/
import Derived.Test.YtnljlophgolejaaCopy
import Derived.Test.YtnljlophgolejaaRotI
import Derived.Test.YtnljlophgolejaaMirI
namespace Go.Proofs.Ytnljlophgolejaa
open Go.RowKit

end Go.Proofs.Ytnljlophgolejaa

/- RotatePuzzle and MirrorPuzzle of both sides. -/
namespace Go.Proofs.Ytnljlophgolejaa
open Go.RowKit

def tu : Bool → List Int → List Int
  | true, l => l
  | false, _ => []
def tuS : Bool → Int → Int
  | true, s => s
  | false, _ => 0
theorem tu_len (b : Bool) (l : List Int) : (tu b l).length ≤ l.length := by cases b <;> simp [tu]
def rpzL (S : Int) (L R B : List Int) : List Int := tu (puzB S L R B false) (tAll (rotT S.toNat) id B S.toNat (List.replicate (tri S.toNat) 0))
theorem rpzL_len (S : Int) (L R B : List Int) : (rpzL S L R B).length ≤ 28 := by
  unfold rpzL
  rcases hp : puzB S L R B false with _ | _
  · simp [tu]
  · have := puzB_size hp
    rw [tu, tAll_len, List.length_replicate]
    exact tri_mono (show S.toNat ≤ 7 by omega)
def rpzR (S : Int) (L R B : List Int) : List Int := tu (puzB S L R B false) (tAll (rotT S.toNat) id L S.toNat (List.replicate (tri S.toNat) 0))
theorem rpzR_len (S : Int) (L R B : List Int) : (rpzR S L R B).length ≤ 28 := by
  unfold rpzR
  rcases hp : puzB S L R B false with _ | _
  · simp [tu]
  · have := puzB_size hp
    rw [tu, tAll_len, List.length_replicate]
    exact tri_mono (show S.toNat ≤ 7 by omega)
def rpzB (S : Int) (L R B : List Int) : List Int := tu (puzB S L R B false) (tAll (rotT S.toNat) id R S.toNat (List.replicate (tri S.toNat) 0))
theorem rpzB_len (S : Int) (L R B : List Int) : (rpzB S L R B).length ≤ 28 := by
  unfold rpzB
  rcases hp : puzB S L R B false with _ | _
  · simp [tu]
  · have := puzB_size hp
    rw [tu, tAll_len, List.length_replicate]
    exact tri_mono (show S.toNat ≤ 7 by omega)
def mirL (S : Int) (L R B : List Int) : List Int := tu (puzB S L R B true) (tAll mirT flipB R S.toNat (List.replicate (tri S.toNat) 0))
theorem mirL_len (S : Int) (L R B : List Int) : (mirL S L R B).length ≤ 28 := by
  unfold mirL
  rcases hp : puzB S L R B true with _ | _
  · simp [tu]
  · have := puzB_size hp
    rw [tu, tAll_len, List.length_replicate]
    exact tri_mono (show S.toNat ≤ 7 by omega)
def mirR (S : Int) (L R B : List Int) : List Int := tu (puzB S L R B true) (tAll mirT flipB L S.toNat (List.replicate (tri S.toNat) 0))
theorem mirR_len (S : Int) (L R B : List Int) : (mirR S L R B).length ≤ 28 := by
  unfold mirR
  rcases hp : puzB S L R B true with _ | _
  · simp [tu]
  · have := puzB_size hp
    rw [tu, tAll_len, List.length_replicate]
    exact tri_mono (show S.toNat ≤ 7 by omega)
def mirB (S : Int) (L R B : List Int) : List Int := tu (puzB S L R B true) (tAll mirT flipB B S.toNat (List.replicate (tri S.toNat) 0))
theorem mirB_len (S : Int) (L R B : List Int) : (mirB S L R B).length ≤ 28 := by
  unfold mirB
  rcases hp : puzB S L R B true with _ | _
  · simp [tu]
  · have := puzB_size hp
    rw [tu, tAll_len, List.length_replicate]
    exact tri_mono (show S.toNat ≤ 7 by omega)
set_option maxHeartbeats 1000000
section
variable {A1 A2 A3 : Option Addr} {n1 n2 n3 : Nat} {L R B : List Int} {w : World} (c1 c2 c3 : Nat) (S : Int) (h1 : RI w A1 n1 L) (h2 : RI w A2 n2 R) (h3 : RI w A3 n3 B)
    (m1 : n1 ≤ 1000000000) (m2 : n2 ≤ 1000000000) (m3 : n3 ≤ 1000000000)
include h1 h2 h3 m1 m2 m3
theorem iRot_any : Calls Try.prog 44 #[.agg #[.int .i64 S, .slice A1 n1 c1, .slice A2 n2 c2, .slice A3 n3 c3]] w (MakesPb w (tuS (puzB S L R B false) S) (rpzL S L R B) (rpzR S L R B) (rpzB S L R B) (puzB S L R B false)) := by
  unfold rpzL rpzR rpzB
  rcases hp : puzB S L R B false with _ | _
  · rw [tu, tu, tu, tuS]
    go_enter Try.func44, Try.ntmps44
    go_wp2_with fail
    obtain ⟨w0, e0⟩ : ∃ w0 : World, w0 = ((w.alloc (Obj.cells #[Value.int IntKind.i64 S, Value.slice A1 n1 c1, Value.slice A2 n2 c2, Value.slice A3 n3 c3] 53)).alloc (Obj.cells #[Value.int IntKind.i64 0, Value.slice none 0 0, Value.slice none 0 0, Value.slice none 0 0] 53)) := ⟨_, rfl⟩
    have g0 : Below w.heap.size w w0 := by rw [e0]; exact ((Below.refl _ _).alloc (Nat.le_refl _) _).alloc (by simp) _
    obtain ⟨by_, hby⟩ : ∃ g, g = w.heap.size + 1 := ⟨_, rfl⟩
    have Y0 : Hid (BK w0 by_ 53 [Value.int IntKind.i64 0, Value.slice none 0 0, Value.slice none 0 0, Value.slice none 0 0]) := by
      rw [e0, hby]
      have := BK.new (w.alloc (Obj.cells #[Value.int IntKind.i64 S, Value.slice A1 n1 c1, Value.slice A2 n2 c2, Value.slice A3 n3 c3] 53)) 53 [Value.int IntKind.i64 0, Value.slice none 0 0, Value.slice none 0 0, Value.slice none 0 0]
      rw [show (w.alloc (Obj.cells #[Value.int IntKind.i64 S, Value.slice A1 n1 c1, Value.slice A2 n2 c2, Value.slice A3 n3 c3] 53)).heap.size = w.heap.size + 1 by simp] at this
      exact this
    have HY : Hid (w.heap.size ≤ by_) := by show w.heap.size ≤ by_; omega
    rw [← e0, ← hby]
    clear e0 hby
    refine (iPuzzleOk_any _ _ _ S (h1.below g0) (h2.below g0) (h3.below g0) m1 m2 m3).mono ?_
    rintro e w1 ⟨rfl, b1⟩
    rw [hp]
    have g1 := Lib.hid (bnext g0 b1 g0.size)
    have Y1 := Lib.hid (Y0.out.below b1 Y0.out.lt)
    obtain ⟨y0, y1, y2, y3⟩ := Y1.out.four
    have f0 := Y1.out.frozen (j := 0)
    have f1 := Y1.out.frozen (j := 1)
    have f2 := Y1.out.frozen (j := 2)
    have f3 := Y1.out.frozen (j := 3)
    go_wp2
    have bf := (((g1.out.setCell (p := ⟨by_, 0, none⟩) (show _ ≤ by_ from HY.out) (Value.int IntKind.i64 0)).setCell (p := ⟨by_, 1, none⟩) (show _ ≤ by_ from HY.out) (Value.slice none 0 0)).setCell (p := ⟨by_, 2, none⟩) (show _ ≤ by_ from HY.out) (Value.slice none 0 0)).setCell (p := ⟨by_, 3, none⟩) (show _ ≤ by_ from HY.out) (Value.slice none 0 0)
    have kf := (((Y1.out.set 0 (Value.int IntKind.i64 0)).set 1 (Value.slice none 0 0)).set 2 (Value.slice none 0 0)).set 3 (Value.slice none 0 0)
    obtain ⟨wf, ef⟩ : ∃ wf, wf = ((((w1.setCell ⟨by_, 0, none⟩ (Value.int IntKind.i64 0)).setCell ⟨by_, 1, none⟩ (Value.slice none 0 0)).setCell ⟨by_, 2, none⟩ (Value.slice none 0 0)).setCell ⟨by_, 3, none⟩ (Value.slice none 0 0)) := ⟨_, rfl⟩
    rw [← ef] at bf kf ⊢
    obtain ⟨k0, k1, k2, k3⟩ := BK.four kf
    clear y0 y1 y2 y3 f0 f1 f2 f3 ef
    refine bodyPost_ret (v := .tuple #[.agg #[.int .i64 0, .slice none 0 0, .slice none 0 0, .slice none 0 0], .bool false]) (by simp [results, Try.results44, go_sem, k0, k1, k2, k3]) rfl ?_
    exact ⟨none, 0, 0, none, 0, 0, none, 0, 0, rfl, Three.nils _ _, bf⟩
  · obtain ⟨s1, s2⟩ := puzB_size hp
    obtain ⟨n, rfl⟩ := Int.eq_ofNat_of_zero_le (a := S) (by omega)
    rw [tu, tu, tu, tuS, Int.toNat_natCast]
    exact iRot_yes c1 c2 c3 n h1 h2 h3 m1 m2 m3 hp
theorem iMir_any : Calls Try.prog 45 #[.agg #[.int .i64 S, .slice A1 n1 c1, .slice A2 n2 c2, .slice A3 n3 c3]] w (MakesPb w (tuS (puzB S L R B true) S) (mirL S L R B) (mirR S L R B) (mirB S L R B) (puzB S L R B true)) := by
  unfold mirL mirR mirB
  rcases hp : puzB S L R B true with _ | _
  · rw [tu, tu, tu, tuS]
    go_enter Try.func45, Try.ntmps45
    go_wp2_with fail
    obtain ⟨w0, e0⟩ : ∃ w0 : World, w0 = ((w.alloc (Obj.cells #[Value.int IntKind.i64 S, Value.slice A1 n1 c1, Value.slice A2 n2 c2, Value.slice A3 n3 c3] 53)).alloc (Obj.cells #[Value.int IntKind.i64 0, Value.slice none 0 0, Value.slice none 0 0, Value.slice none 0 0] 53)) := ⟨_, rfl⟩
    have g0 : Below w.heap.size w w0 := by rw [e0]; exact ((Below.refl _ _).alloc (Nat.le_refl _) _).alloc (by simp) _
    obtain ⟨by_, hby⟩ : ∃ g, g = w.heap.size + 1 := ⟨_, rfl⟩
    have Y0 : Hid (BK w0 by_ 53 [Value.int IntKind.i64 0, Value.slice none 0 0, Value.slice none 0 0, Value.slice none 0 0]) := by
      rw [e0, hby]
      have := BK.new (w.alloc (Obj.cells #[Value.int IntKind.i64 S, Value.slice A1 n1 c1, Value.slice A2 n2 c2, Value.slice A3 n3 c3] 53)) 53 [Value.int IntKind.i64 0, Value.slice none 0 0, Value.slice none 0 0, Value.slice none 0 0]
      rw [show (w.alloc (Obj.cells #[Value.int IntKind.i64 S, Value.slice A1 n1 c1, Value.slice A2 n2 c2, Value.slice A3 n3 c3] 53)).heap.size = w.heap.size + 1 by simp] at this
      exact this
    have HY : Hid (w.heap.size ≤ by_) := by show w.heap.size ≤ by_; omega
    rw [← e0, ← hby]
    clear e0 hby
    refine (iWeightedOk_any _ _ _ S (h1.below g0) (h2.below g0) (h3.below g0) m1 m2 m3).mono ?_
    rintro e w1 ⟨rfl, b1⟩
    rw [hp]
    have g1 := Lib.hid (bnext g0 b1 g0.size)
    have Y1 := Lib.hid (Y0.out.below b1 Y0.out.lt)
    obtain ⟨y0, y1, y2, y3⟩ := Y1.out.four
    have f0 := Y1.out.frozen (j := 0)
    have f1 := Y1.out.frozen (j := 1)
    have f2 := Y1.out.frozen (j := 2)
    have f3 := Y1.out.frozen (j := 3)
    go_wp2
    have bf := (((g1.out.setCell (p := ⟨by_, 0, none⟩) (show _ ≤ by_ from HY.out) (Value.int IntKind.i64 0)).setCell (p := ⟨by_, 1, none⟩) (show _ ≤ by_ from HY.out) (Value.slice none 0 0)).setCell (p := ⟨by_, 2, none⟩) (show _ ≤ by_ from HY.out) (Value.slice none 0 0)).setCell (p := ⟨by_, 3, none⟩) (show _ ≤ by_ from HY.out) (Value.slice none 0 0)
    have kf := (((Y1.out.set 0 (Value.int IntKind.i64 0)).set 1 (Value.slice none 0 0)).set 2 (Value.slice none 0 0)).set 3 (Value.slice none 0 0)
    obtain ⟨wf, ef⟩ : ∃ wf, wf = ((((w1.setCell ⟨by_, 0, none⟩ (Value.int IntKind.i64 0)).setCell ⟨by_, 1, none⟩ (Value.slice none 0 0)).setCell ⟨by_, 2, none⟩ (Value.slice none 0 0)).setCell ⟨by_, 3, none⟩ (Value.slice none 0 0)) := ⟨_, rfl⟩
    rw [← ef] at bf kf ⊢
    obtain ⟨k0, k1, k2, k3⟩ := BK.four kf
    clear y0 y1 y2 y3 f0 f1 f2 f3 ef
    refine bodyPost_ret (v := .tuple #[.agg #[.int .i64 0, .slice none 0 0, .slice none 0 0, .slice none 0 0], .bool false]) (by simp [results, Try.results45, go_sem, k0, k1, k2, k3]) rfl ?_
    exact ⟨none, 0, 0, none, 0, 0, none, 0, 0, rfl, Three.nils _ _, bf⟩
  · obtain ⟨s1, s2⟩ := puzB_size hp
    obtain ⟨n, rfl⟩ := Int.eq_ofNat_of_zero_le (a := S) (by omega)
    rw [tu, tu, tu, tuS, Int.toNat_natCast]
    exact iMir_yes c1 c2 c3 n h1 h2 h3 m1 m2 m3 hp
end
end Go.Proofs.Ytnljlophgolejaa
