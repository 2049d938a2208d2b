/- exchanged and MonomialPoly of the program. -/
import Derived.Test.YtgbojgmmingfdaaCmp
namespace Go.Proofs.Ytgbojgmmingfdaa
open Go.RowKit

def swapL (l : List Int) (a b : Nat) : List Int := (l.set a (nth l b)).set b (nth l a)
theorem swapL_len (l : List Int) (a b : Nat) : (swapL l a b).length = l.length := by simp [swapL]
theorem grown_two {w w1 w2 w3 : World} {g : Nat} (b : Below w.heap.size w w1) (h1 : w1.grownBy w2 (some g)) (h2 : w2.grownBy w3 (some g)) (hg : w.heap.size ≤ g) : Below w.heap.size w w3 :=
  (b.grown h1 b.size fun k hk => by injection hk; omega).grown h2 (Nat.le_trans b.size h1.size) fun k hk => by injection hk; omega
set_option maxRecDepth 100000 in
set_option maxHeartbeats 2000000 in
theorem exchanged_any {A : Option Addr} {n : Nat} {l : List Int} {w : World} (c : Nat) (a b : Nat) (hx : RI w A n l) (hn : n ≤ 1000000000) (ha : a < n) (hb : b < n) (hab : a ≠ b) :
    Calls Try.prog 99 #[.slice A n c, .int .i64 (a : Int), .int .i64 (b : Int)] w (Makes w (swapL l a b)) := by
  have HCL : Hid (Calls Try.prog 134 #[.slice A n c] w (Makes w l)) := clone_any c hx hn
  have HLn : Hid (l.length = n) := hx.1
  clear hx
  go_enter Try.func99, Try.ntmps99
  go_wp2_with (go_at_call 134; refine HCL.out.mono ?_; rintro e w1 ⟨A1, n1, c1, rfl, o1, r1, ⟨cp1, le1⟩, b1⟩)
  obtain rfl : n1 = n := r1.1.symm.trans HLn.out
  obtain ⟨g, rfl⟩ : ∃ g, A1 = some ⟨g, 0, none⟩ := by
    rcases o1.2 with ⟨he, hl⟩ | ⟨g, cap, cur, he, _⟩
    · injection he with h1 h2 h3
      omega
    · injection he with h1 h2 h3
      exact ⟨g, h1⟩
  have hg : w.heap.size ≤ g := (o1.lt g rfl).1
  obtain ⟨x, hx⟩ : ∃ x, x = nth l a := ⟨_, rfl⟩
  obtain ⟨y, hy⟩ : ∃ y, y = nth l b := ⟨_, rfl⟩
  have z1 : w1.cell? ⟨g, a, none⟩ = some (.int .i64 x) := by rw [hx]; exact o1.cellAt (by omega)
  have z0 : w1.cell? ⟨g, b, none⟩ = some (.int .i64 y) := by rw [hy]; exact o1.cellAt (by omega)
  have f1 := o1.frozenAt a
  have f0 := o1.frozenAt b
  obtain ⟨r1', r2⟩ := o1.stored a y
  obtain ⟨r3, r4⟩ := r1'.stored b x
  have HF : Hid (OI ((w1.setCell ⟨g, a, none⟩ (.int .i64 y)).setCell ⟨g, b, none⟩ (.int .i64 x)) w.heap.size (.slice (some ⟨g, 0, none⟩) n1 c1) (swapL l a b) ∧ Below w.heap.size w ((w1.setCell ⟨g, a, none⟩ (.int .i64 y)).setCell ⟨g, b, none⟩ (.int .i64 x))) := by
    refine ⟨?_, grown_two b1 r2 r4 hg⟩
    rw [swapL, ← hx, ← hy]
    exact r3
  have han : (a : Int) < (n1 : Int) := by omega
  have hbn : (b : Int) < (n1 : Int) := by omega
  have hne : a ≠ b := hab
  have hne2 : b ≠ a := by omega
  have HL1 : Hid ((swapL l a b).length = n1) := (swapL_len l a b).trans HLn.out
  clear r1 r1' r2 r3 r4 hx hy o1 b1 hg cp1 le1
  go_wp2_with fail
  go_region
  all_goals go_wp2
  go_ret
  have HW : Below w.heap.size w ((w1.setCell ⟨g, a, none⟩ (.int .i64 y)).setCell ⟨g, b, none⟩ (.int .i64 x)).drew := HF.out.2.drew
  exact Makes.of (HF.out.1.below ((Below.refl _ _).drew)) HW (by rw [HL1.out]; omega)
end Go.Proofs.Ytgbojgmmingfdaa
