/- l2Key: seven exponents as one number. -/
import Derived.Test.YtgbojgmmingfdaaShapes
namespace Go.Proofs.Ytgbojgmmingfdaa
open Go.RowKit

/-- The number after j exponents, the last one ahead. -/
def keyUp (e : List Int) : Nat → Int
  | 0 => 0
  | j + 1 => keyUp e j * 128 + nth e (6 - j)
def keyL (e : List Int) : Int := keyUp e 7
theorem keyUp_in {e : List Int} (h : ∀ j, j < 7 → 0 ≤ nth e j ∧ nth e j ≤ 127) : ∀ j, j ≤ 7 → 0 ≤ keyUp e j ∧ keyUp e j < 128 ^ j
  | 0, _ => by simp [keyUp]
  | j + 1, hj => by
    have ih := keyUp_in h j (by omega)
    have := h (6 - j) (by omega)
    rw [keyUp, Int.pow_succ]
    omega
set_option maxHeartbeats 1000000 in
theorem l2Key_any {A : Option Addr} {e : List Int} {w : World} (c : Nat) (hx : RI w A 7 e) (hb : ∀ j, j < 7 → 0 ≤ nth e j ∧ nth e j ≤ 127) :
    Calls Try.prog 119 #[.slice A 7 c] w (Gives w (.int .i64 (keyL e))) := by
  have HB := Lib.hid hb
  have HU : Hid (∀ j, j ≤ 7 → 0 ≤ keyUp e j ∧ keyUp e j < 562949953421312) := fun j hj => by
    have h1 := keyUp_in hb j hj
    have h2 : (128 : Int) ^ j ≤ 128 ^ 7 := by
      have : j = 0 ∨ j = 1 ∨ j = 2 ∨ j = 3 ∨ j = 4 ∨ j = 5 ∨ j = 6 ∨ j = 7 := by omega
      rcases this with rfl | rfl | rfl | rfl | rfl | rfl | rfl | rfl <;> decide
    have h3 : (128 : Int) ^ 7 = 562949953421312 := by decide
    omega
  clear hb
  go_enter Try.func119, Try.ntmps119
  go_wp2
  go_loopw [3, 4] (fun u i wr => ∃ (k : Nat) (z v : Int), k ≤ 7 ∧ z = k - 1 ∧ v = keyUp e (7 - k) ∧ u = .int .i64 v ∧ i = .int .i64 z ∧ Quiet w wr) (fun _ i _ => (intOf i + 1).toNat)
  case atStart => exact ⟨7, 6, 0, by omega, by omega, rfl, rfl, rfl, (by first | exact ⟨_, rfl⟩ | exact ⟨_, (World.drewN_drewN _ _ _).symm⟩ | exact Quiet.refl _ | (simp only [World.drewN_drewN]; exact ⟨_, rfl⟩))⟩
  case round =>
    obtain ⟨k, z, v, hk, hz, hv, rfl, rfl, ⟨q, rfl⟩⟩ := hrel
    cases k with
    | zero =>
      obtain rfl : z = -1 := by omega
      have HV : Hid (v = keyL e) := hv
      clear hz hv
      go_wp2
      go_ret
      exact ⟨by rw [HV.out]; rfl, (by first | exact ⟨_, rfl⟩ | exact ⟨_, (World.drewN_drewN _ _ _).symm⟩ | exact Quiet.refl _ | (simp only [World.drewN_drewN]; exact ⟨_, rfl⟩))⟩
    | succ k =>
      obtain rfl : z = (k : Int) := by omega
      have hk7 : k < 7 := by omega
      obtain ⟨ad, hA, hc⟩ := hx.cell hk7
      subst hA
      have hs : keyUp e (7 - k) = v * 128 + nth e k := by
        rw [show 7 - k = (7 - (k + 1)) + 1 by omega, keyUp, ← hv, show 6 - (7 - (k + 1)) = k by omega]
      have b1 := HU.out (7 - k) (by omega)
      have b0 := HU.out (7 - (k + 1)) (by omega)
      rw [← hv] at b0
      rw [hs] at b1
      obtain ⟨x, hxx⟩ : ∃ x, x = nth e k := ⟨_, rfl⟩
      rw [← hxx] at hc hs b1
      have HS := Lib.hid hs
      have hw1 : IntKind.i64.wrap (v * 128) = v * 128 := IntWalk.i64_in _ (by omega)
      have hw2 : IntKind.i64.wrap (v * 128 + x) = v * 128 + x := IntWalk.i64_in _ (by omega)
      clear hz hv hs b0 b1 hxx
      go_wp2
      go_roundw
      case rel => exact ⟨k, (k : Int) - 1, v * 128 + x, by omega, rfl, HS.out.symm, by first | rfl | go_num, by go_num, (by first | exact ⟨_, rfl⟩ | exact ⟨_, (World.drewN_drewN _ _ _).symm⟩ | exact Quiet.refl _ | (simp only [World.drewN_drewN]; exact ⟨_, rfl⟩))⟩
      case measure => simp [intOf]
end Go.Proofs.Ytgbojgmmingfdaa
