/- l2Unit and l2Exp of the reference. -/
import Derived.Test.YtgbojgmmingfdaaSchurJ
import Derived.Test.YtgbojgmmingfdaaGathW
import Derived.Test.YtgbojgmmingfdaaStripW
import Derived.Test.YtgbojgmmingfdaaPolySp
namespace Go.Proofs.Ytgbojgmmingfdaa
open Go.RowKit

theorem l2Unit_any {w : World} (i : Int) (h : 0 ≤ i ∧ i ≤ 7) : Calls Try.prog 131 #[.int .i64 i] w (Gives w (.int .i64 (128 ^ i.toNat))) := by
  have hi : i = 0 ∨ i = 1 ∨ i = 2 ∨ i = 3 ∨ i = 4 ∨ i = 5 ∨ i = 6 ∨ i = 7 := by omega
  rcases hi with rfl | rfl | rfl | rfl | rfl | rfl | rfl | rfl
  all_goals
    go_enter Try.func131, Try.ntmps131
    go_wp2
    go_ret
    exact ⟨rfl, (by first | exact ⟨_, rfl⟩ | exact ⟨_, (World.drewN_drewN _ _ _).symm⟩ | exact Quiet.refl _ | (simp only [World.drewN_drewN]; exact ⟨_, rfl⟩))⟩
set_option maxHeartbeats 1000000 in
theorem l2Exp_any {w : World} (k : Int) (h : 0 ≤ k ∧ k ≤ 9223372036854775807) : Calls Try.prog 127 #[.int .i64 k] w (Makes w (expL k)) := by
  obtain ⟨w1, e1⟩ : ∃ W, W = w.alloc (.cells #[] 3) := ⟨_, rfl⟩
  have HL : Hid (OI w1 w.heap.size (.slice (some ⟨w.heap.size, 0, none⟩) 0 0) []) := by rw [e1]; exact OI.lit w w.heap.size [] 0 rfl (Nat.le_refl _) (by simp)
  have B1 : Hid (Below w.heap.size w w1) := by rw [e1]; exact (Below.refl _ _).alloc (Nat.le_refl _) _
  have E1 := Lib.hid e1
  clear e1
  go_enter Try.func127, Try.ntmps127
  go_wp2
  have hal : w.alloc (.cells #[] 3) = w1 := E1.out.symm
  rw [hal]
  clear hal
  go_loopw [0, 3, 4] (fun kv ov iv wr => ∃ (z : Int) (i : Nat) (A : Option Addr) (n c : Nat) (l : List Int), kv = .int .i64 z ∧ ov = .slice A n c ∧ iv = .int .i64 (i : Int) ∧ i ≤ 7 ∧ 0 ≤ z ∧ z ≤ 9223372036854775807 ∧ Hid (OI wr w.heap.size (.slice A n c) l ∧ Below w.heap.size w wr ∧ l.length = i ∧ expL k = l ++ expUp (7 - i) z)) (fun _ _ iv _ => 7 - (intOf iv).toNat)
  case atStart => exact ⟨k, 0, _, _, _, [], rfl, rfl, rfl, by omega, h.1, h.2, HL.out, B1.out, rfl, rfl⟩
  case round =>
    obtain ⟨z, i, A, n, c, l, rfl, rfl, rfl, hi, hz1, hz2, HX⟩ := hrel
    by_cases hlt : i < 7
    · obtain ⟨r, hr⟩ : ∃ r, r = z % 128 := ⟨_, rfl⟩
      obtain ⟨q, hq⟩ : ∃ q, q = z / 128 := ⟨_, rfl⟩
      have hr' : Int.tmod z 128 = r := by rw [Int.tmod_eq_emod_of_nonneg hz1, hr]
      have hq' : Int.tdiv z 128 = q := by rw [Int.tdiv_eq_ediv_of_nonneg hz1, hq]
      have hw : IntKind.i64.wrap q = q := IntWalk.i64_in _ (by omega)
      have HR := Lib.hid hr
      have HQ := Lib.hid hq
      have HS : Hid (w.heap.size ≤ wr.heap.size) := HX.out.2.1.size
      have HO := Lib.hid HX.out.1
      have hl7 : Hid (l.length + 1 ≤ 1000000000000) := by have := HX.out.2.2.1; show _ ≤ _; omega
      clear hr hq
      go_wp2_with (at_builtin; refine wpApp1 rfl _ _ rfl w.heap.size (.slice A n c) l r rfl HO.out rfl hl7.out HS.out ?_; intro v' w5 o5 g5 k5)
      obtain ⟨A5, n5, c5, rfl, -⟩ := o5.form
      have HF : Hid (OI w5 w.heap.size (.slice A5 n5 c5) (l ++ [r]) ∧ Below w.heap.size w w5 ∧ (l ++ [r]).length = i + 1 ∧ expL k = (l ++ [r]) ++ expUp (7 - (i + 1)) q) := by
        obtain ⟨a1, a2, a3, a4⟩ := HX.out
        refine ⟨o5, a2.grown g5 a2.size fun k hk => (a1.lt k hk).1, by rw [List.length_append]; simpa using a3, ?_⟩
        rw [a4, show 7 - i = (7 - (i + 1)) + 1 by omega, expUp, ← HR.out, ← HQ.out]; simp
      have hq1 : 0 ≤ q ∧ q ≤ 9223372036854775807 := by have := HQ.out; omega
      clear o5 g5 k5
      go_roundw
      case rel => exact ⟨q, i + 1, A5, n5, c5, _, by first | rfl | exact congrArg (Value.int .i64) hw, rfl, by go_num, by omega, hq1.1, hq1.2, HF.out⟩
      case measure => simp [intOf]; omega
    · have HF : Hid (Makes w (expL k) (.returned (.slice A n c)) wr) := by
        obtain ⟨a1, a2, a3, a4⟩ := HX.out
        rw [show 7 - i = 0 by omega, expUp, List.append_nil] at a4
        rw [a4]
        exact Makes.of a1 a2 (by omega)
      go_wp2
      go_ret
      exact HF.out
end Go.Proofs.Ytgbojgmmingfdaa
