/- Copies of puzzles, by the reference. -/
import Derived.Test.YtnljlophgolejaaRotA
import Derived.Test.YtnljlophgolejaaShapes
namespace Go.Proofs.Ytnljlophgolejaa
open Go.RowKit

theorem OI.isSome {w : World} {base n c : Nat} {A : Option Addr} {l : List Int} (h : OI w base (.slice A n c) l) (hn : 0 < n) : ∃ g, A = some ⟨g, 0, none⟩ := by
  rcases h.2 with ⟨he, hl⟩ | ⟨g, cap, cur, he, _⟩
  · injection he with h1 h2 h3
    omega
  · injection he with h1 h2 h3
    exact ⟨g, h1⟩

set_option maxRecDepth 4000 in
set_option maxHeartbeats 4000000 in
theorem l5Copy_any {A1 A2 A3 : Option Addr} {n1 n2 n3 : Nat} {L R B : List Int} {w : World} (c1 c2 c3 : Nat) (S : Int) (h1 : RI w A1 n1 L) (h2 : RI w A2 n2 R) (h3 : RI w A3 n3 B)
    (m1 : n1 ≤ 1000000000) (m2 : n2 ≤ 1000000000) (m3 : n3 ≤ 1000000000) :
    Calls Try.prog 124 #[.agg #[.int .i64 S, .slice A1 n1 c1, .slice A2 n2 c2, .slice A3 n3 c3]] w (MakesPz w S L R B) := by
  go_enter Try.func124, Try.ntmps124
  go_wp2_with fail
  obtain ⟨w0, e0⟩ : ∃ w0 : World, w0 = ((w.alloc (Obj.cells #[Value.int IntKind.i64 S, Value.slice A1 n1 c1, Value.slice A2 n2 c2, Value.slice A3 n3 c3] 53)).alloc (Obj.cells #[Value.int IntKind.i64 0, Value.slice none 0 0, Value.slice none 0 0, Value.slice none 0 0] 53)) := ⟨_, rfl⟩
  have g0 : Below w.heap.size w w0 := by rw [e0]; exact ((Below.refl _ _).alloc (Nat.le_refl _) _).alloc (by simp) _
  obtain ⟨bx, hbx⟩ : ∃ g, g = w.heap.size := ⟨_, rfl⟩
  obtain ⟨by_, hby⟩ : ∃ g, g = w.heap.size + 1 := ⟨_, rfl⟩
  have K0 : Hid (BK w0 bx 53 [Value.int IntKind.i64 S, Value.slice A1 n1 c1, Value.slice A2 n2 c2, Value.slice A3 n3 c3]) := by
    rw [e0, hbx]; exact (BK.new w _ _).alloc _
  have Y0 : Hid (BK w0 by_ 53 [Value.int IntKind.i64 0, Value.slice none 0 0, Value.slice none 0 0, Value.slice none 0 0]) := by
    rw [e0, hby]
    have := BK.new (w.alloc (Obj.cells #[Value.int IntKind.i64 S, Value.slice A1 n1 c1, Value.slice A2 n2 c2, Value.slice A3 n3 c3] 53)) 53 [Value.int IntKind.i64 0, Value.slice none 0 0, Value.slice none 0 0, Value.slice none 0 0]
    rw [show (w.alloc (Obj.cells #[Value.int IntKind.i64 S, Value.slice A1 n1 c1, Value.slice A2 n2 c2, Value.slice A3 n3 c3] 53)).heap.size = w.heap.size + 1 by simp] at this
    exact this
  have HY : Hid (w.heap.size ≤ by_ ∧ by_ ≠ bx) := by show w.heap.size ≤ by_ ∧ by_ ≠ bx; omega
  rw [← e0, ← hby, ← hbx]
  clear e0 hbx hby
  obtain ⟨q0, q1, q2, q3⟩ := K0.out.four
  have i1 : RI w0 A1 n1 L := h1.below g0
  have i2 : RI w0 A2 n2 R := h2.below g0
  have i3 : RI w0 A3 n3 B := h3.below g0
  have nyx := HY.out.2
  go_region_held3 (fun w' => w'.cell? ⟨bx, 0, none⟩ = some (Value.int IntKind.i64 S) ∧ w'.cell? ⟨bx, 1, none⟩ = some (Value.slice A1 n1 c1) ∧ w'.cell? ⟨bx, 2, none⟩ = some (Value.slice A2 n2 c2) ∧ w'.cell? ⟨bx, 3, none⟩ = some (Value.slice A3 n3 c3)) (first | exact ⟨q0, q1, q2, q3⟩ | exact K1.out.four | exact K2.out.four | exact K3.out.four | (simp [World.cell?_setCell_far, *]; done)) (first
    | (go_at_call 102; refine (l1Ints_any c1 (A := A1) (l := L) (by exact i1) m1).mono ?_; rintro e w1 ⟨B1, p1, d1, rfl, o1, r1, -, b1⟩; have b1 : Below w0.heap.size w0 w1 := ⟨b1.os, b1.tape, b1.output, b1.size, b1.block⟩; have K1 := Lib.hid (K0.out.below b1 K0.out.lt); have j2 : RI w1 A2 n2 R := i2.below b1; have j3 : RI w1 A3 n3 B := i3.below b1)
    | (go_at_call 102; refine (l1Ints_any c2 (A := A2) (l := R) (by exact j2) m2).mono ?_; rintro e w2 ⟨B2, p2, d2, rfl, o2, r2, -, b2⟩; have b2 : Below w1.heap.size w1 w2 := ⟨b2.os, b2.tape, b2.output, b2.size, b2.block⟩; have K2 := Lib.hid (K1.out.below b2 K1.out.lt); have k3 : RI w2 A3 n3 B := j3.below b2)
    | (go_at_call 102; refine (l1Ints_any c3 (A := A3) (l := B) (by exact k3) m3).mono ?_; rintro e w3 ⟨B3, p3, d3, rfl, o3, r3, -, b3⟩; have b3 : Below w2.heap.size w2 w3 := ⟨b3.os, b3.tape, b3.output, b3.size, b3.block⟩; have K3 := Lib.hid (K2.out.below b3 K2.out.lt); have Y3 := Lib.hid (((Y0.out.below b1 Y0.out.lt).below b2 (Y0.out.below b1 Y0.out.lt).lt).below b3 ((Y0.out.below b1 Y0.out.lt).below b2 (Y0.out.below b1 Y0.out.lt).lt).lt); obtain ⟨t0, t1, t2, t3⟩ := Y3.out.four; have f0 := Y3.out.frozen (j := 0); have f1 := Y3.out.frozen (j := 1); have f2 := Y3.out.frozen (j := 2); have f3 := Y3.out.frozen (j := 3)))
  have o1' : OI w1 w0.heap.size (.slice B1 p1 d1) L := o1
  have o2' : OI w2 w1.heap.size (.slice B2 p2 d2) R := o2
  have o3' : OI w3 w2.heap.size (.slice B3 p3 d3) B := o3
  have hy0 := Y0.out.lt
  have z1 := b1.size
  have z2 := b2.size
  have z0 := g0.size
  have far : ∀ {base : Nat} {v : Value} {l : List Int}, w0.heap.size ≤ base → OI w3 base v l → OI ((((w3.setCell ⟨by_, 0, none⟩ (Value.int IntKind.i64 S)).setCell ⟨by_, 1, none⟩ (Value.slice B1 p1 d1)).setCell ⟨by_, 2, none⟩ (Value.slice B2 p2 d2)).setCell ⟨by_, 3, none⟩ (Value.slice B3 p3 d3)) base v l := fun hb o =>
    (((o.far by_ 0 _ (by omega)).far by_ 1 _ (by omega)).far by_ 2 _ (by omega)).far by_ 3 _ (by omega)
  have gz := bnext (bnext (bnext g0 b1 g0.size) b2 (Nat.le_trans g0.size b1.size)) b3 (Nat.le_trans g0.size (Nat.le_trans b1.size b2.size))
  have bf := (((gz.setCell (p := ⟨by_, 0, none⟩) (show _ ≤ by_ from HY.out.1) (Value.int IntKind.i64 S)).setCell (p := ⟨by_, 1, none⟩) (show _ ≤ by_ from HY.out.1) (Value.slice B1 p1 d1)).setCell (p := ⟨by_, 2, none⟩) (show _ ≤ by_ from HY.out.1) (Value.slice B2 p2 d2)).setCell (p := ⟨by_, 3, none⟩) (show _ ≤ by_ from HY.out.1) (Value.slice B3 p3 d3)
  have kf := (((Y3.out.set 0 (Value.int IntKind.i64 S)).set 1 (Value.slice B1 p1 d1)).set 2 (Value.slice B2 p2 d2)).set 3 (Value.slice B3 p3 d3)
  have u1 := far (Nat.le_refl _) ((o1'.below b2).below b3)
  have u2 := far z1 (o2'.below b3)
  have u3 := far (Nat.le_trans z1 z2) o3'
  clear far t0 t1 t2 t3 f0 f1 f2 f3 q0 q1 q2 q3
  obtain ⟨wf, ef⟩ : ∃ wf, wf = ((((w3.setCell ⟨by_, 0, none⟩ (Value.int IntKind.i64 S)).setCell ⟨by_, 1, none⟩ (Value.slice B1 p1 d1)).setCell ⟨by_, 2, none⟩ (Value.slice B2 p2 d2)).setCell ⟨by_, 3, none⟩ (Value.slice B3 p3 d3)) := ⟨_, rfl⟩
  rw [← ef] at u1 u2 u3 bf kf ⊢
  obtain ⟨k0, k1, k2, k3⟩ := BK.four kf
  clear ef
  go_wp2
  refine bodyPost_ret (v := .agg #[.int .i64 S, .slice B1 p1 d1, .slice B2 p2 d2, .slice B3 p3 d3]) (by simp [results, Try.results124, go_sem, k0, k1, k2, k3]) rfl ?_
  have e1 := u1.ri.1
  have e2 := u2.ri.1
  have e3 := u3.ri.1
  have x1 := h1.1
  have x2 := h2.1
  have x3 := h3.1
  exact ⟨B1, p1, d1, B2, p2, d2, B3, p3, d3, rfl, ⟨u1.mono z0, u2.mono (Nat.le_trans z0 z1), u3.mono (Nat.le_trans z0 (Nat.le_trans z1 z2)), apart o1' u2 (Nat.le_refl _), apart (o1'.below b2) u3 (Nat.le_refl _), apart o2' u3 (Nat.le_refl _)⟩, u1.ri, u2.ri, u3.ri, by omega, by omega, by omega, bf⟩
end Go.Proofs.Ytnljlophgolejaa

/- RotatePuzzle of the reference, at a puzzle. -/
namespace Go.Proofs.Ytnljlophgolejaa
open Go.RowKit

end Go.Proofs.Ytnljlophgolejaa
