/- DualShape of the program and of the reference. -/
import Derived.Test.YtmodpicemlkbjaaShapes
namespace Go.Proofs.Ytmodpicemlkbjaa
open Go.RowKit

theorem iDual_any {A : Option Addr} {n0 : Nat} {l : List Int} {w : World} (c : Nat) (k n : Int) (hx : RI w A n0 l) (hn : n0 ≤ 1000000000) :
    Calls Try.prog 26 #[.slice A n0 c, .int .i64 k, .int .i64 n] w (Makes w (dualB l k n)) := by
  rcases Bool.eq_false_or_eq_true (inBoxB l k n) with hb | hb
  · obtain ⟨hb1, hb2, hb3, hb4⟩ := inBoxB_iff.1 hb
    obtain ⟨⟨b1, b2⟩, b3, b4⟩ := boxB_iff.1 hb1
    obtain ⟨K, rfl⟩ := Int.eq_ofNat_of_zero_le b3
    have HD := Lib.hid (dualB_yes hb)
    have HS := Lib.hid hb2
    clear hb1 hb2 hb3 hb4
    go_enter Try.func26, Try.ntmps26
    go_wp2_with (go_at_call 49; refine (iIsInBox_any _ _ _ (by exact hx.alloc _) hn).mono ?_; rintro e w' ⟨rfl, q0, rfl⟩)
    clear hb
    go_loopw [7, 8] (fun v i wr => ∃ j : Nat, j ≤ K ∧ i = .int .i64 ((K : Int) - 1 - j) ∧ OI wr w.heap.size v (gen (fun j => n - K - nth l (K - 1 - j)) j) ∧ Below w.heap.size w wr) (fun _ i _ => (intOf i + 1).toNat)
    case atStart => exact ⟨0, by omega, by simp, OI.lit _ _ [] 0 rfl (Nat.le_refl _) (by simp), (Quiet.below ⟨_, rfl⟩ : Below w.heap.size (w.alloc _) _) |> fun h => ((Below.refl _ _).alloc (Nat.le_refl _) _).trans h⟩
    case round =>
      obtain ⟨j, hj, rfl, ho, hbl⟩ := hrel
      have hxr := hx.below hbl
      by_cases hlt : j < K
      · have hr := shape_range HS.out (K - 1 - j)
        have ht : ((K : Int) - 1 - j).toNat = K - 1 - j := by omega
        go_wp2_with (first
          | (go_at_call 73; refine (rowOf_any _ _ hxr (by omega) (by omega)).mono ?_; rintro e w' ⟨rfl, q0, rfl⟩)
          | (at_builtin; refine wpAppI rfl _ _ rfl w.heap.size _ (gen (fun j => n - K - nth l (K - 1 - j)) j) [n - K - nth l (K - 1 - j)] (some ⟨wr.heap.size, 0, none⟩) 1 1 rfl rfl (by exact ho.alloc _) (by exact RI.one wr _) (by rw [gen_len]; omega) (by have := hbl.size; simp; omega) ?_; intro v' w' h1 h2 h3))
        go_roundw
        case rel => exact ⟨j + 1, by omega, by go_num, by rw [gen_succ]; exact h1, (below_drewN (hbl.alloc hbl.size _) _).grown h2 (by have := hbl.size; simp; omega) (fun k hk => (ho.lt k hk).1)⟩
        case measure => simp [intOf]; omega
      · obtain rfl : j = K := by omega
        obtain ⟨A1, m1, c1, rfl, hr, hcc, hm, _⟩ := ho.form
        have hm1 := hr.1
        rw [gen_len] at hm1
        have HM := Lib.hid hm1
        have hmle : m1 ≤ 7 := by omega
        clear hm1
        go_wp2_with (go_at_call 74; refine (shapeOfRows_any _ hr (by omega) hcc).mono ?_; rintro e w' ⟨rfl, q0, rfl⟩)
        go_ret
        have e : dualB l j n = (gen (fun i => n - j - nth l (j - 1 - i)) j).take (bareLen (gen (fun i => n - j - nth l (j - 1 - i)) j) m1) := by
          rw [HD.out]; unfold bare dualRows; rw [gen_len, HM.out]
        rw [e]
        exact Makes.of ((ho.take (bareLen_le _ _)).below (Quiet.below ⟨_, rfl⟩)) (below_drewN hbl _) (by rw [List.length_take, gen_len]; omega)
  · have HD := Lib.hid (dualB_no hb)
    go_enter Try.func26, Try.ntmps26
    go_wp2_with (go_at_call 49; refine (iIsInBox_any _ _ _ (by exact hx.alloc _) hn).mono ?_; rintro e w' ⟨rfl, q0, rfl⟩)
    go_ret
    rw [HD.out]
    exact Makes.of (OI.lit w _ [] 0 rfl (Nat.le_refl _) (by simp)) (below_drewN ((Below.refl _ _).alloc (Nat.le_refl _) _) _) (by simp)

theorem sDual_any {A : Option Addr} {n0 : Nat} {l : List Int} {w : World} (c : Nat) (k n : Int) (hx : RI w A n0 l) (hn : n0 ≤ 1000000000) :
    Calls Try.prog 61 #[.slice A n0 c, .int .i64 k, .int .i64 n] w (Makes w (dualB l k n)) := by
  rcases Bool.eq_false_or_eq_true (inBoxB l k n) with hb | hb
  · obtain ⟨hb1, hb2, hb3, hb4⟩ := inBoxB_iff.1 hb
    obtain ⟨⟨b1, b2⟩, b3, b4⟩ := boxB_iff.1 hb1
    obtain ⟨K, rfl⟩ := Int.eq_ofNat_of_zero_le b3
    have HD := Lib.hid (dualB_yes hb)
    have HS := Lib.hid hb2
    clear hb1 hb2 hb3 hb4
    go_enter Try.func61, Try.ntmps61
    go_wp2_with (go_at_call 57; refine (l4Box_any _ _ _ hx hn).mono ?_; rintro e w' ⟨rfl, q0, rfl⟩)
    clear hb
    go_loopw [7, 8] (fun v i wr => ∃ j : Nat, j ≤ K ∧ i = .int .i64 ((K : Int) - 1 - j) ∧ OI wr w.heap.size v (gen (fun j => n - K - nth l (K - 1 - j)) j) ∧ Below w.heap.size w wr) (fun _ i _ => (intOf i + 1).toNat)
    case atStart => exact ⟨0, by omega, by simp, (OI.lit w w.heap.size [] 0 rfl (Nat.le_refl _) (by simp)).below (Quiet.below ⟨_, rfl⟩), below_drewN ((Below.refl _ _).alloc (Nat.le_refl _) _) _⟩
    case round =>
      obtain ⟨j, hj, rfl, ho, hbl⟩ := hrel
      have hxr := hx.below hbl
      by_cases hlt : j < K
      · have hr := shape_range HS.out (K - 1 - j)
        have ht : ((K : Int) - 1 - j).toNat = K - 1 - j := by omega
        go_wp2_with (first
          | (go_at_call 88; refine (l4At_any _ _ hxr (by omega) (by omega)).mono ?_; rintro e w' ⟨rfl, q0, rfl⟩)
          | (at_builtin; refine wpAppI rfl _ _ rfl w.heap.size _ (gen (fun j => n - K - nth l (K - 1 - j)) j) [n - K - nth l (K - 1 - j)] (some ⟨wr.heap.size, 0, none⟩) 1 1 rfl rfl (by exact ho.alloc _) (by exact RI.one wr _) (by rw [gen_len]; omega) (by have := hbl.size; simp; omega) ?_; intro v' w' h1 h2 h3))
        go_roundw
        case rel => exact ⟨j + 1, by omega, by go_num, by rw [gen_succ]; exact h1, (below_drewN (hbl.alloc hbl.size _) _).grown h2 (by have := hbl.size; simp; omega) (fun k hk => (ho.lt k hk).1)⟩
        case measure => simp [intOf]; omega
      · obtain rfl : j = K := by omega
        obtain ⟨A1, m1, c1, rfl, hr, hcc, hm, _⟩ := ho.form
        have hm1 := hr.1
        rw [gen_len] at hm1
        have hmle : m1 ≤ 7 := by omega
        clear hm1
        go_wp2_with fail
        refine (l4Bare_any _ hr (by omega) hcc).mono ?_
        rintro e w1 ⟨A2, m2, c2, rfl, o2, r2, cp2, b2⟩
        go_wp2
        go_ret
        rw [HD.out]
        exact ⟨A2, m2, c2, rfl, o2.mono hbl.size, r2, cp2, bnext hbl b2 hbl.size⟩
  · have HD := Lib.hid (dualB_no hb)
    go_enter Try.func61, Try.ntmps61
    go_wp2_with (go_at_call 57; refine (l4Box_any _ _ _ hx hn).mono ?_; rintro e w' ⟨rfl, q0, rfl⟩)
    go_ret
    rw [HD.out]
    exact Makes.nil (Quiet.below ⟨_, rfl⟩)
end Go.Proofs.Ytmodpicemlkbjaa
