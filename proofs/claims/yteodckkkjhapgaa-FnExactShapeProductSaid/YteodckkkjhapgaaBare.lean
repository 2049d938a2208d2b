/- Lists without the zeros at their end; copies: shortened, shapeOfRows of the program; l1Ints, l4Bare of the reference. -/
import Derived.Test.YteodckkkjhapgaaBox
namespace Go.Proofs.Yteodckkkjhapgaa
open Go.RowKit

theorem l1Ints_any {A : Option Addr} {n : Nat} {l : List Int} {w : World} (c : Nat) (hx : RI w A n l) (hn : n ≤ 1000000000) :
    Calls Try.prog 127 #[.slice A n c] w (Makes w l) := by
  have HL := Lib.hid hx.1
  go_enter Try.func127, Try.ntmps127
  go_wp2_with (at_builtin; refine wpAppI rfl _ _ rfl w.heap.size (.slice (some ⟨w.heap.size, 0, none⟩) 0 0) [] l A n c rfl rfl (by exact OI.lit _ _ [] 0 rfl (Nat.le_refl _) (by simp)) (by exact hx.alloc _) (by simp; omega) (by simp) ?_; intro v' w' h1 h2 h3)
  go_ret
  exact Makes.of (by simpa using h1) (((Below.refl _ _).alloc (Nat.le_refl _) _).grown h2 (by simp) (by simp [Value.ownBlock])) (by rw [HL.out]; omega)

theorem shortened_any {A : Option Addr} {n : Nat} {l : List Int} {w : World} (c : Nat) (hx : RI w A n l) (hn : n ≤ 1000000000) (hc : n ≤ c) :
    Calls Try.prog 124 #[.slice A n c] w (Gives w (.slice A (bareLen l n) c)) := by
  have HL := Lib.hid hx.1
  go_enter Try.func124, Try.ntmps124
  go_wp2
  go_loopw [3] (fun i wr => ∃ k : Nat, k ≤ n ∧ i = .int .i64 k ∧ Quiet w wr ∧ Hid (bareLen l k = bareLen l n)) (fun i _ => (intOf i).toNat)
  case atStart => exact ⟨n, Nat.le_refl _, rfl, (by first | exact ⟨_, rfl⟩ | exact ⟨_, (World.drewN_drewN _ _ _).symm⟩ | exact Quiet.refl _ | (simp only [World.drewN_drewN]; exact ⟨_, rfl⟩)), rfl⟩
  case round =>
    obtain ⟨k, hk, rfl, ⟨q, rfl⟩, HT⟩ := hrel
    by_cases hlt : 0 < k
    · obtain ⟨ad, hA, hc⟩ := hx.cell (k := k - 1) (by omega)
      subst hA
      by_cases h0 : nth l (k - 1) = 0
      · have HZ := Lib.hid h0
        rw [h0] at hc
        clear h0
        go_wp2
        go_roundw
        case rel => exact ⟨k - 1, by omega, by go_num, (by first | exact ⟨_, rfl⟩ | exact ⟨_, (World.drewN_drewN _ _ _).symm⟩ | exact Quiet.refl _ | (simp only [World.drewN_drewN]; exact ⟨_, rfl⟩)), (bareLen_zero hlt HZ.out).trans HT.out⟩
        case measure => simp [intOf]; omega
      · have HZ := Lib.hid h0
        have hz : (nth l (k - 1) == 0) = false := by simpa using h0
        clear h0
        have HK := Lib.hid (bareLen_stop hlt HZ.out)
        go_wp2
        go_ret
        exact ⟨by rw [← HT.out, HK.out]; rfl, (by first | exact ⟨_, rfl⟩ | exact ⟨_, (World.drewN_drewN _ _ _).symm⟩ | exact Quiet.refl _ | (simp only [World.drewN_drewN]; exact ⟨_, rfl⟩))⟩
    · have HK := Lib.hid (show k = 0 by omega)
      go_wp2
      go_ret
      exact ⟨by rw [← HT.out, HK.out]; rfl, (by first | exact ⟨_, rfl⟩ | exact ⟨_, (World.drewN_drewN _ _ _).symm⟩ | exact Quiet.refl _ | (simp only [World.drewN_drewN]; exact ⟨_, rfl⟩))⟩

theorem l4Bare_any {A : Option Addr} {n : Nat} {l : List Int} {w : World} (c : Nat) (hx : RI w A n l) (hn : n ≤ 1000000000) (hc : n ≤ c) :
    Calls Try.prog 118 #[.slice A n c] w (Makes w (bare l)) := by
  have HL := Lib.hid hx.1
  go_enter Try.func118, Try.ntmps118
  go_wp2
  go_loopw [3] (fun i wr => ∃ k : Nat, k ≤ n ∧ i = .int .i64 k ∧ Quiet w wr ∧ Hid (bareLen l k = bareLen l n)) (fun i _ => (intOf i).toNat)
  case atStart => exact ⟨n, Nat.le_refl _, rfl, (by first | exact ⟨_, rfl⟩ | exact ⟨_, (World.drewN_drewN _ _ _).symm⟩ | exact Quiet.refl _ | (simp only [World.drewN_drewN]; exact ⟨_, rfl⟩)), rfl⟩
  case round =>
    obtain ⟨k, hk, rfl, ⟨q, rfl⟩, HT⟩ := hrel
    by_cases hlt : 0 < k
    · obtain ⟨ad, hA, hc⟩ := hx.cell (k := k - 1) (by omega)
      subst hA
      by_cases h0 : nth l (k - 1) = 0
      · have HZ := Lib.hid h0
        rw [h0] at hc
        clear h0
        go_wp2
        go_roundw
        case rel => exact ⟨k - 1, by omega, by go_num, (by first | exact ⟨_, rfl⟩ | exact ⟨_, (World.drewN_drewN _ _ _).symm⟩ | exact Quiet.refl _ | (simp only [World.drewN_drewN]; exact ⟨_, rfl⟩)), (bareLen_zero hlt HZ.out).trans HT.out⟩
        case measure => simp [intOf]; omega
      · have HZ := Lib.hid h0
        have hz : (nth l (k - 1) == 0) = false := by simpa using h0
        clear h0
        have HK := Lib.hid (bareLen_stop hlt HZ.out)
        go_wp2_with fail
        refine (l1Ints_any _ ((hx.drewN _).take hk) (by omega)).mono ?_
        rintro e w1 ⟨A1, n1, c1, rfl, o1, r1, cp1, b1⟩
        go_wp2
        go_ret
        have e1 : l.take k = bare l := by unfold bare; rw [HL.out, ← HT.out, HK.out]
        rw [e1] at o1 r1
        exact ⟨A1, n1, c1, rfl, o1, r1, cp1, bnext (Quiet.below ⟨_, rfl⟩) b1 (Nat.le_refl _)⟩
    · obtain rfl : k = 0 := by omega
      go_wp2_with fail
      refine (l1Ints_any _ ((hx.drewN _).take hk) (by omega)).mono ?_
      rintro e w1 ⟨A1, n1, c1, rfl, o1, r1, cp1, b1⟩
      go_wp2
      go_ret
      have e1 : l.take 0 = bare l := by unfold bare; rw [HL.out, ← HT.out]; rfl
      rw [e1] at o1 r1
      exact ⟨A1, n1, c1, rfl, o1, r1, cp1, bnext (Quiet.below ⟨_, rfl⟩) b1 (Nat.le_refl _)⟩

theorem shapeOfRows_any {A : Option Addr} {n : Nat} {l : List Int} {w : World} (c : Nat) (hx : RI w A n l) (hn : n ≤ 1000000000) (hc : n ≤ c) :
    Calls Try.prog 80 #[.slice A n c] w (Gives w (.slice A (bareLen l n) c)) := by
  go_enter Try.func80, Try.ntmps80
  go_wp2_with (go_at_call 124; refine (shortened_any _ hx hn hc).mono ?_; rintro e w' ⟨rfl, q0, rfl⟩)
  go_ret
  exact ⟨rfl, (by first | exact ⟨_, rfl⟩ | exact ⟨_, (World.drewN_drewN _ _ _).symm⟩ | exact Quiet.refl _ | (simp only [World.drewN_drewN]; exact ⟨_, rfl⟩))⟩
end Go.Proofs.Yteodckkkjhapgaa
