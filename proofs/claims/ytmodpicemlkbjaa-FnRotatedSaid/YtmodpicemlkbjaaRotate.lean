/- RotateString of the program and of the reference. -/
import Derived.Test.YtmodpicemlkbjaaShapes
namespace Go.Proofs.Ytmodpicemlkbjaa
open Go.RowKit

theorem iRotate_any {A : Option Addr} {n : Nat} {l : List Int} {w : World} (c : Nat) (hx : RI w A n l) (hn : n ≤ 1000000000) (hc : n ≤ c) :
    Calls Try.prog 54 #[.slice A n c] w (Makes w (rotB l)) := by
  have HL := Lib.hid hx.1
  rcases Bool.eq_false_or_eq_true (isStrB l) with hs | hs
  · have hpos : 0 < n := by have := (isStrB_iff.1 hs).1.1; rw [hx.1] at this; omega
    have HR := Lib.hid (rotB_yes hs hx.1)
    obtain ⟨ad, hA, hcl⟩ := hx.cell (k := n - 1) (by omega)
    subst hA
    go_enter Try.func54, Try.ntmps54
    go_wp2_with (go_at_call 102; refine (iIsString_any _ hx hn).mono ?_; rintro e w' ⟨rfl, q0, rfl⟩)
    have hk1 : (1 : Int) ≤ (n : Int) := by omega
    have hk2 : (n : Int) - 1 < (n : Int) := by omega
    have hk3 : n - 1 ≤ c := by omega
    have hk4 : (n : Int) - 1 ≤ (c : Int) := by omega
    go_region_law (refine stepAppI rfl _ _ rfl w.heap.size (.slice (some ⟨w.heap.size, 0, none⟩) 1 1) [nth l (n - 1)] (l.take (n - 1)) (some ad) (n - 1) c rfl rfl (by exact OI.lit _ _ [nth l (n - 1)] 1 rfl (by simp) (by simp)) (by exact (hx.alloc _).take (by omega)) (by simp; omega) (by simp) ?_; intro v' w' h1 h2 h3)
    go_wp2
    go_ret
    exact Makes.of (by rw [HR.out]; exact h1) ((((Quiet.below ⟨_, rfl⟩).alloc (Nat.le_refl _) _)).grown h2 (by simp) (by simp [Value.ownBlock])) (by rw [HR.out]; simp; omega)
  · have HR := Lib.hid (rotB_no hs)
    go_enter Try.func54, Try.ntmps54
    go_wp2_with (go_at_call 102; refine (iIsString_any _ hx hn).mono ?_; rintro e w' ⟨rfl, q0, rfl⟩)
    go_ret
    rw [HR.out]
    exact Makes.nil (Quiet.below ⟨_, rfl⟩)

end Go.Proofs.Ytmodpicemlkbjaa
