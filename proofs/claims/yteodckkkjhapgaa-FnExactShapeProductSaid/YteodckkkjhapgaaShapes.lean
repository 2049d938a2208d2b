/- The tests: IsString, IsShape, IsInBox and what they call, of the program and of the reference. -/
import Derived.Test.YteodckkkjhapgaaBasic
namespace Go.Proofs.Yteodckkkjhapgaa
open Go.RowKit

theorem l1In_any {w : World} (n lo hi : Int) : Calls Try.prog 85 #[.int .i64 n, .int .i64 lo, .int .i64 hi] w (Gives w (.bool (inB n lo hi))) := by
  go_enter Try.func85, Try.ntmps85
  go_wp2
  all_goals go_ret
  all_goals refine ⟨?_, Quiet.refl _⟩
  all_goals simp [inB]
  all_goals omega

theorem isSize_any {w : World} (n : Int) : Calls Try.prog 94 #[.int .i64 n] w (Gives w (.bool (inB n 1 7))) := by
  go_enter Try.func94, Try.ntmps94
  go_wp2
  all_goals go_ret
  all_goals refine ⟨?_, Quiet.refl _⟩
  all_goals simp [inB]
  all_goals omega

theorem ret_bool {a b : Bool} (h : a = b) : Ending.returned (.bool a) = .returned (.bool b) := by rw [h]

theorem iIsString_any {A : Option Addr} {n : Nat} {l : List Int} {w : World} (c : Nat) (hx : RI w A n l) (hn : n ≤ 1000000000) :
    Calls Try.prog 79 #[.slice A n c] w (Gives w (.bool (isStrB l))) := by
  have HL := Lib.hid hx.1
  go_enter Try.func79, Try.ntmps79
  go_wp2
  go_loopw [4, 7] (fun _ i wr => ∃ k : Nat, k ≤ n ∧ i = .int .i64 k ∧ Quiet w wr ∧ ∀ j, j < k → inB (nth l j) 0 1 = true) (fun _ i _ => n - (intOf i).toNat)
  case atStart => exact ⟨0, Nat.zero_le _, rfl, (by first | exact ⟨_, rfl⟩ | exact ⟨_, (World.drewN_drewN _ _ _).symm⟩ | exact Quiet.refl _ | (simp only [World.drewN_drewN]; exact ⟨_, rfl⟩)), by simp⟩
  case round =>
    obtain ⟨k, hk, rfl, ⟨q, rfl⟩, ht⟩ := hrel
    have HT := Lib.hid ht
    clear ht
    by_cases hlt : k < n
    · obtain ⟨ad, hA, hc⟩ := hx.cell hlt
      subst hA
      rcases Bool.eq_false_or_eq_true (inB (nth l k) 0 1) with hb | hb
      · have hb' : nth l k = 0 ∨ nth l k = 1 := by rw [inB_iff] at hb; omega
        have HB := Lib.hid hb
        clear hb
        rcases hb' with hb' | hb'
        all_goals
          rw [hb'] at hc
          clear hb'
          go_wp2
          go_roundw
          case rel => exact ⟨k + 1, by omega, by go_num, (by first | exact ⟨_, rfl⟩ | exact ⟨_, (World.drewN_drewN _ _ _).symm⟩ | exact Quiet.refl _ | (simp only [World.drewN_drewN]; exact ⟨_, rfl⟩)), upTo HT.out HB.out⟩
          case measure => simp [intOf]; omega
      · have HB := Lib.hid hb
        have e1 : (nth l k != 0) = true := by rw [inB_no] at hb; simp; omega
        have e2 : (nth l k != 1) = true := by rw [inB_no] at hb; simp; omega
        clear hb
        go_wp2
        go_ret
        exact ⟨ret_bool (isStrB_no HL.out hlt HB.out).symm, (by first | exact ⟨_, rfl⟩ | exact ⟨_, (World.drewN_drewN _ _ _).symm⟩ | exact Quiet.refl _ | (simp only [World.drewN_drewN]; exact ⟨_, rfl⟩))⟩
    · go_wp2_with (go_at_call 94; refine (isSize_any _).mono ?_; rintro e w' ⟨rfl, q0, rfl⟩)
      go_ret
      exact ⟨ret_bool (isStrB_all HL.out (fun j hj => HT.out j (by omega))).symm, (by first | exact ⟨_, rfl⟩ | exact ⟨_, (World.drewN_drewN _ _ _).symm⟩ | exact Quiet.refl _ | (simp only [World.drewN_drewN]; exact ⟨_, rfl⟩))⟩
end Go.Proofs.Yteodckkkjhapgaa
