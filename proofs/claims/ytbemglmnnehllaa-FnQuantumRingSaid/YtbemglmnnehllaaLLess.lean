/- The laws' own comparison of lists (as in SidesP; for seats without puzzles). -/
import Derived.Test.YtbemglmnnehllaaShapes
namespace Go.Proofs.Ytbemglmnnehllaa
open Go.RowKit

theorem lless_any {A C : Option Addr} {n m : Nat} {xs ys : List Int} {w : World} (c d : Nat) (hx : RI w A n xs) (hy : RI w C m ys) (hn : n ≤ 9223372036854775807) (hm : m ≤ 9223372036854775807) :
    Calls Try.prog 45 #[.slice A n c, .slice C m d] w (Gives w (.bool (lexLt xs ys))) := by
  have HL1 := Lib.hid hx.1
  have HL2 := Lib.hid hy.1
  go_enter Try.func45, Try.ntmps45
  go_wp2
  go_loopw [5] (fun i wr => ∃ k : Nat, k ≤ n ∧ k ≤ m ∧ i = .int .i64 k ∧ Quiet w wr ∧ Hid (lexLt (xs.drop k) (ys.drop k) = lexLt xs ys)) (fun i _ => n - (intOf i).toNat)
  case atStart => exact ⟨0, Nat.zero_le _, Nat.zero_le _, rfl, (by first | exact ⟨_, rfl⟩ | exact ⟨_, (World.drewN_drewN _ _ _).symm⟩ | exact Quiet.refl _ | (simp only [World.drewN_drewN]; exact ⟨_, rfl⟩)), rfl⟩
  case round =>
    obtain ⟨k, hk, hk2, rfl, ⟨q, rfl⟩, HT⟩ := hrel
    by_cases hlt : k < n
    · by_cases hlt2 : k < m
      · obtain ⟨ad, hA, hc⟩ := hx.cell hlt
        obtain ⟨ad', hA', hc'⟩ := hy.cell hlt2
        subst hA hA'
        by_cases he : nth xs k = nth ys k
        · have HE := Lib.hid he
          have he' : (nth xs k != nth ys k) = false := by simpa using he
          clear he
          go_wp2
          go_quiet (fail)
          go_wp2
          go_roundw
          case rel => exact ⟨k + 1, by omega, by omega, by go_num, (by first | exact ⟨_, rfl⟩ | exact ⟨_, (World.drewN_drewN _ _ _).symm⟩ | exact Quiet.refl _ | (simp only [World.drewN_drewN]; exact ⟨_, rfl⟩)), (lexLt_same (by rw [HL1.out]; exact hlt) (by rw [HL2.out]; exact hlt2) HE.out).symm.trans HT.out⟩
          case measure => simp [intOf]; omega
        · have HE := Lib.hid he
          have he' : (nth xs k != nth ys k) = true := by simpa using he
          clear he
          go_wp2
          go_quiet (fail)
          go_wp2
          go_quiet (fail)
          go_wp2
          go_ret
          refine ⟨ret_bool ?_, (by first | exact ⟨_, rfl⟩ | exact ⟨_, (World.drewN_drewN _ _ _).symm⟩ | exact Quiet.refl _ | (simp only [World.drewN_drewN]; exact ⟨_, rfl⟩))⟩
          rw [← HT.out, lexLt_diff (by rw [HL1.out]; exact hlt) (by rw [HL2.out]; exact hlt2) HE.out]
      · obtain rfl : k = m := by omega
        go_wp2
        go_ret
        refine ⟨ret_bool ?_, (by first | exact ⟨_, rfl⟩ | exact ⟨_, (World.drewN_drewN _ _ _).symm⟩ | exact Quiet.refl _ | (simp only [World.drewN_drewN]; exact ⟨_, rfl⟩))⟩
        rw [← HT.out, lexLt_end (.inr HL2.out.symm) (by rw [HL1.out]; omega) (by rw [HL2.out]; omega), HL1.out, HL2.out]
    · obtain rfl : k = n := by omega
      go_wp2
      go_ret
      refine ⟨ret_bool ?_, (by first | exact ⟨_, rfl⟩ | exact ⟨_, (World.drewN_drewN _ _ _).symm⟩ | exact Quiet.refl _ | (simp only [World.drewN_drewN]; exact ⟨_, rfl⟩))⟩
      rw [← HT.out, lexLt_end (.inl HL1.out.symm) (by rw [HL1.out]; omega) (by rw [HL2.out]; omega), HL1.out, HL2.out]
end Go.Proofs.Ytbemglmnnehllaa
