/- Small shapes: of a size of at most 8. -/
import Derived.Test.YtgbojgmmingfdaaShapes
namespace Go.Proofs.Ytgbojgmmingfdaa
open Go.RowKit

def smallB (l : List Int) : Bool := isShapeB l && decide (sumL l ≤ 8)
theorem smallB_shape {l : List Int} (h : smallB l = true) : isShapeB l = true ∧ sumL l ≤ 8 := by simpa [smallB] using h
theorem smallB_no {l : List Int} (h : isShapeB l = false) : smallB l = false := by simp [smallB, h]
theorem smallB_yes {l : List Int} (h : isShapeB l = true) : smallB l = decide (sumL l ≤ 8) := by simp [smallB, h]
set_option maxHeartbeats 1000000 in
theorem l4Small_any {A : Option Addr} {n : Nat} {l : List Int} {w : World} (c : Nat) (hx : RI w A n l) (hn : n ≤ 1000000000) :
    Calls Try.prog 123 #[.slice A n c] w (Gives w (.bool (smallB l))) := by
  have HIS : Hid (∀ W, RI W A n l → Calls Try.prog 57 #[.slice A n c] W (Gives W (.bool (isShapeB l)))) := fun W h => sIsShape_any _ h hn
  rcases hs : isShapeB l with _ | _
  · have HO := Lib.hid (smallB_no hs)
    go_enter Try.func123, Try.ntmps123
    go_wp2_with (go_at_call 57; (with_reducible refine (HIS.out _ ?_).mono ?_); (first | exact hx | exact hx.drewN _); rintro e w' ⟨rfl, q0, rfl⟩)
    go_ret
    rw [HO.out]
    exact ⟨rfl, (by first | exact ⟨_, rfl⟩ | exact ⟨_, (World.drewN_drewN _ _ _).symm⟩ | exact Quiet.refl _ | (simp only [World.drewN_drewN]; exact ⟨_, rfl⟩))⟩
  · have HO := Lib.hid (smallB_yes hs)
    have hlen : n ≤ 16 := by have h2 := hs; simp only [isShapeB, Bool.and_eq_true, decide_eq_true_eq] at h2; rw [← hx.1]; exact h2.1
    have HSS : Hid (∀ W, RI W A n l → Calls Try.prog 58 #[.slice A n c] W (Gives W (.int .i64 (sumL l)))) := fun W h => sSum_any _ h (small_shape hs) (by omega)
    obtain ⟨S, hS⟩ : ∃ S, S = sumL l := ⟨_, rfl⟩
    have HSE := Lib.hid hS
    rw [← hS] at HSS HO
    clear hS
    go_enter Try.func123, Try.ntmps123
    go_wp2_with (first | (go_at_call 57; (with_reducible refine (HIS.out _ ?_).mono ?_); (first | exact hx | exact hx.drewN _); rintro e w' ⟨rfl, q0, rfl⟩) | (go_at_call 58; (with_reducible refine (HSS.out _ ?_).mono ?_); (first | exact hx | exact hx.drewN _); rintro e w' ⟨rfl, q1, rfl⟩))
    go_ret
    rw [HO.out]
    exact ⟨rfl, (by first | exact ⟨_, rfl⟩ | exact ⟨_, (World.drewN_drewN _ _ _).symm⟩ | exact Quiet.refl _ | (simp only [World.drewN_drewN]; exact ⟨_, rfl⟩))⟩
set_option maxHeartbeats 1000000 in
theorem iSmall_any {A : Option Addr} {n : Nat} {l : List Int} {w : World} (c : Nat) (hx : RI w A n l) (hn : n ≤ 1000000000) :
    Calls Try.prog 62 #[.slice A n c] w (Gives w (.bool (smallB l))) := by
  have HIS : Hid (∀ W, RI W A n l → Calls Try.prog 92 #[.slice A n c] W (Gives W (.bool (isShapeB l)))) := fun W h => iIsShape_any _ h hn
  rcases hs : isShapeB l with _ | _
  · have HO := Lib.hid (smallB_no hs)
    go_enter Try.func62, Try.ntmps62
    go_wp2_with (go_at_call 92; (with_reducible refine (HIS.out _ ?_).mono ?_); (first | exact hx | exact hx.drewN _); rintro e w' ⟨rfl, q0, rfl⟩)
    go_ret
    rw [HO.out]
    exact ⟨rfl, (by first | exact ⟨_, rfl⟩ | exact ⟨_, (World.drewN_drewN _ _ _).symm⟩ | exact Quiet.refl _ | (simp only [World.drewN_drewN]; exact ⟨_, rfl⟩))⟩
  · have HO := Lib.hid (smallB_yes hs)
    have hlen : n ≤ 16 := by have h2 := hs; simp only [isShapeB, Bool.and_eq_true, decide_eq_true_eq] at h2; rw [← hx.1]; exact h2.1
    have HSS : Hid (∀ W, RI W A n l → Calls Try.prog 93 #[.slice A n c] W (Gives W (.int .i64 (sumL l)))) := fun W h => iSum_any _ h (small_shape hs) (by omega)
    obtain ⟨S, hS⟩ : ∃ S, S = sumL l := ⟨_, rfl⟩
    have HSE := Lib.hid hS
    rw [← hS] at HSS HO
    clear hS
    go_enter Try.func62, Try.ntmps62
    go_wp2_with (first | (go_at_call 92; (with_reducible refine (HIS.out _ ?_).mono ?_); (first | exact hx | exact hx.drewN _); rintro e w' ⟨rfl, q0, rfl⟩) | (go_at_call 93; (with_reducible refine (HSS.out _ ?_).mono ?_); (first | exact hx | exact hx.drewN _); rintro e w' ⟨rfl, q1, rfl⟩))
    go_ret
    rw [HO.out]
    exact ⟨rfl, (by first | exact ⟨_, rfl⟩ | exact ⟨_, (World.drewN_drewN _ _ _).symm⟩ | exact Quiet.refl _ | (simp only [World.drewN_drewN]; exact ⟨_, rfl⟩))⟩
end Go.Proofs.Ytgbojgmmingfdaa
