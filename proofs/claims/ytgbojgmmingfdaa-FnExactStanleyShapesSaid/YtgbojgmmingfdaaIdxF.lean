/- slices.IndexFunc at []int with the closure of 'inserted': where the first number above x stands. -/
import Derived.Test.YtgbojgmmingfdaaRowsW
import Derived.Test.YtgbojgmmingfdaaEgP
namespace Go.Proofs.Ytgbojgmmingfdaa
open Go.RowKit

def idxR (l : List Int) (x : Int) : Int := if gtAt l x < l.length then (gtAt l x : Int) else -1
theorem insClos_any {w : World} {X : Nat} {x : Int} (y : Int) (hX : w.cell? ⟨X, 0, none⟩ = some (.int .i64 x)) :
    Calls Try.prog 190 #[.int .i64 y, .pointer (some ⟨X, 0, none⟩)] w (Gives w (.bool (decide (x < y)))) := by
  go_enter Try.func190, Try.ntmps190
  go_wp2
  go_ret
  exact ⟨rfl, (by first | exact ⟨_, rfl⟩ | exact ⟨_, (World.drewN_drewN _ _ _).symm⟩ | exact Quiet.refl _ | (simp only [World.drewN_drewN]; exact ⟨_, rfl⟩))⟩
set_option maxRecDepth 100000 in
set_option maxHeartbeats 1000000 in
theorem idxF_any {A : Option Addr} {n : Nat} {l : List Int} {w : World} (c X : Nat) (x : Int) (hx : RI w A n l) (hX : w.cell? ⟨X, 0, none⟩ = some (.int .i64 x)) (hn : n ≤ 1000000000) :
    Calls Try.prog 189 #[.slice A n c, .func (.func 190) #[] #[.pointer (some ⟨X, 0, none⟩)]] w (Gives w (.int .i64 (idxR l x))) := by
  have HL : Hid (l.length = n) := hx.1
  have HX := Lib.hid hx
  have HCX := Lib.hid hX
  clear hx hX
  go_enter Try.func189, Try.ntmps189
  go_wp2
  go_loopw [5, 8] (fun _ i wr => ∃ k : Nat, k ≤ n ∧ i = .int .i64 (k : Int) ∧ Quiet w wr ∧ Hid (∀ j, j < k → nth l j ≤ x)) (fun _ i _ => n - (intOf i).toNat)
  case atStart => exact ⟨0, Nat.zero_le _, rfl, (by first | exact ⟨_, rfl⟩ | exact ⟨_, (World.drewN_drewN _ _ _).symm⟩ | exact Quiet.refl _ | (simp only [World.drewN_drewN]; exact ⟨_, rfl⟩)), fun j hj => by omega⟩
  case round =>
    obtain ⟨k, hk, rfl, ⟨q, rfl⟩, HT⟩ := hrel
    by_cases hlt : k < n
    · obtain ⟨ad, rfl, z0⟩ := HX.out.cell hlt
      obtain ⟨y, hy⟩ : ∃ y, y = nth l k := ⟨_, rfl⟩
      rw [← hy] at z0
      have HYY := Lib.hid hy
      have HCL : Hid (∀ W, W.cell? ⟨X, 0, none⟩ = some (.int .i64 x) → Calls Try.prog 190 #[.int .i64 y, .pointer (some ⟨X, 0, none⟩)] W (Gives W (.bool (decide (x < y))))) := fun W h => insClos_any y h
      have HC0 : Hid ((w.drewN q).cell? ⟨X, 0, none⟩ = some (.int .i64 x)) := HCX.out
      clear hy
      rcases hxy : decide (x < y) with _ | _
      · have HNO := Lib.hid (of_decide_eq_false hxy)
        rw [hxy] at HCL
        clear hxy
        go_wp2_with (first | (go_at_call 190; refine (HCL.out _ (by exact HC0.out)).mono ?_; rintro e w2 ⟨rfl, q2, rfl⟩) | fail)
        go_roundw
        case rel => exact ⟨k + 1, by omega, by go_num, (by first | exact ⟨_, rfl⟩ | exact ⟨_, (World.drewN_drewN _ _ _).symm⟩ | exact Quiet.refl _ | (simp only [World.drewN_drewN]; exact ⟨_, rfl⟩)), fun j hj => by
          by_cases h : j = k
          · subst h; rw [← HYY.out]; have := HNO.out; omega
          · exact HT.out j (by omega)⟩
        case measure => simp [intOf]; omega
      · have HYES := Lib.hid (of_decide_eq_true hxy)
        rw [hxy] at HCL
        have HE : Hid (idxR l x = (k : Int)) := by
          have hg : gtAt l x = k := gtAt_is HT.out (by rw [HL.out]; exact hlt) (by rw [← HYY.out]; exact HYES.out)
          show _ = _
          rw [idxR, hg, if_pos (by rw [HL.out]; exact hlt)]
        clear hxy
        go_wp2_with (first | (go_at_call 190; refine (HCL.out _ (by exact HC0.out)).mono ?_; rintro e w2 ⟨rfl, q2, rfl⟩) | fail)
        go_ret
        exact ⟨by rw [HE.out]; rfl, (by first | exact ⟨_, rfl⟩ | exact ⟨_, (World.drewN_drewN _ _ _).symm⟩ | exact Quiet.refl _ | (simp only [World.drewN_drewN]; exact ⟨_, rfl⟩))⟩
    · have HE : Hid (idxR l x = -1) := by
        have hg : gtAt l x = l.length := gtAt_end fun j hj => HT.out j (by rw [HL.out] at hj; omega)
        show _ = _
        rw [idxR, hg, if_neg (by omega)]
      go_wp2
      go_ret
      exact ⟨by rw [HE.out]; rfl, (by first | exact ⟨_, rfl⟩ | exact ⟨_, (World.drewN_drewN _ _ _).symm⟩ | exact Quiet.refl _ | (simp only [World.drewN_drewN]; exact ⟨_, rfl⟩))⟩
end Go.Proofs.Ytgbojgmmingfdaa
