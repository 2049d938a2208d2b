/- StringOfShape of the program and of the reference. -/
import Derived.Test.YtnljlophgolejaaShapes
namespace Go.Proofs.Ytnljlophgolejaa
open Go.RowKit

theorem iGrass_nil {A : Option Addr} {n0 : Nat} {l : List Int} {w : World} (c : Nat) (k n : Int) (hx : RI w A n0 l) (hn : n0 ≤ 1000000000) (hb : inBoxB l k n = false) :
    Calls Try.prog 81 #[.slice A n0 c, .int .i64 k, .int .i64 n] w (Gives w (.slice none 0 0)) := by
  go_enter Try.func81, Try.ntmps81
  go_wp2_with (go_at_call 82; refine (iIsInBox_any _ _ _ hx hn).mono ?_; rintro e w' ⟨rfl, q0, rfl⟩)
  go_ret
  exact ⟨rfl, (by first | exact ⟨_, rfl⟩ | exact ⟨_, (World.drewN_drewN _ _ _).symm⟩ | exact Quiet.refl _ | (simp only [World.drewN_drewN]; exact ⟨_, rfl⟩))⟩

theorem iStrOf_any {A : Option Addr} {n0 : Nat} {l : List Int} {w : World} (c : Nat) (k n : Int) (hx : RI w A n0 l) (hn : n0 ≤ 1000000000) :
    Calls Try.prog 35 #[.slice A n0 c, .int .i64 k, .int .i64 n] w (Makes w (strB l k n)) := by
  have heq := fun (w : World) (a : Option Addr) (n c : Nat) => Lib.run_eql_slice_nil (P := Try.prog) w 22 3 a n c 0 0 Try.underlying22
  rcases Bool.eq_false_or_eq_true (inBoxB l k n) with hb | hb
  · obtain ⟨hb1, hb2, hb3, hb4⟩ := inBoxB_iff.1 hb
    obtain ⟨⟨b1, b2⟩, b3, b4⟩ := boxB_iff.1 hb1
    obtain ⟨K, rfl⟩ := Int.eq_ofNat_of_zero_le b3
    obtain ⟨M, rfl⟩ := Int.eq_ofNat_of_zero_le (a := n) (by omega)
    have HG := Lib.hid (grassB_yes hb)
    have HS := Lib.hid (strB_yes hb)
    have HB := Lib.hid hb
    clear hb1 hb2 hb3 hb4 hb
    go_enter Try.func35, Try.ntmps35
    go_wp2_with fail
    refine (iGrass_any _ _ _ hx hn).mono ?_
    rintro e w1 ⟨A1, m1, c1, rfl, o1, r1, ⟨cp1, le1⟩, g1⟩
    rw [HG.out] at o1 r1
    have hp := grassB_pos (l := l) (k := K) (n := M) (by omega)
    rw [r1.1] at hp
    have hk1 : K ≤ m1 := by rw [← r1.1, List.length_append, gen_len]; omega
    have r2 := r1.take hk1
    rw [grassB_take] at r2
    obtain ⟨ad, hA, _⟩ := r1.cell (k := 0) (by omega)
    subst hA
    clear o1 r1
    go_wp2_with (at_make; refine wpMake rfl _ _ rfl M _ _ rfl rfl rfl rfl (by omega) ?_; intro w2 o2 g2 s2)
    obtain ⟨G, hG⟩ : ∃ G, G = w1.heap.size := ⟨_, rfl⟩
    rw [← hG] at o2
    rw [← hG]
    have HGG := Lib.hid hG
    clear hG
    go_loopw [10, 23] (fun _ i wr => ∃ j : Nat, j ≤ K ∧ i = .int .i64 j ∧ OI wr G (.slice (some ⟨G, 0, none⟩) M M) (setOnes (List.replicate M 0) (grassRow l K) j) ∧ Below w1.heap.size w1 wr) (fun _ i _ => K - (intOf i).toNat)
    case atStart => exact ⟨0, by omega, rfl, o2, g2⟩
    case round =>
      clear o2
      obtain ⟨j, hj, rfl, ho, hbl⟩ := hrel
      by_cases hlt : j < K
      · obtain ⟨q1, q2⟩ := grassRow_range HB.out hlt
        obtain ⟨ad', hA', hc⟩ := (r2.below hbl).cell hlt
        obtain rfl : ad = ad' := by injection hA'
        rw [nth_gen hlt] at hc
        obtain ⟨X, hX⟩ := Int.eq_ofNat_of_zero_le q1
        rw [hX] at hc q1 q2
        have HX := Lib.hid hX
        have hXM : X < M := by omega
        have hc2 := ho.cellAt hXM
        have hf := ho.frozenAt X
        have hst := Lib.hid (ho.stored X 1)
        clear ho hX
        go_wp2
        go_roundw
        case rel => exact ⟨j + 1, by omega, by go_num, by rw [setOnes, HX.out]; exact hst.out.1, hbl.setCell (by rw [HGG.out]; exact Nat.le_refl _) _⟩
        case measure => simp [intOf]; omega
      · obtain rfl : j = K := by omega
        have HO := Lib.hid ho
        clear ho
        go_wp2
        go_ret
        rw [HS.out]
        exact Makes.of (HO.out.mono (by rw [HGG.out]; exact g1.size)) (bnext g1 hbl g1.size) (by rw [setOnes_len, List.length_replicate]; omega)
  · have HS := Lib.hid (strB_no hb)
    go_enter Try.func35, Try.ntmps35
    go_wp2_with (go_at_call 81; refine (iGrass_nil _ _ _ hx hn hb).mono ?_; rintro e w' ⟨rfl, q0, rfl⟩)
    go_ret
    rw [HS.out]
    exact Makes.nil (Quiet.below ⟨_, rfl⟩)

theorem l5String_any {A : Option Addr} {n0 : Nat} {l : List Int} {w : World} (c : Nat) (k n : Int) (hx : RI w A n0 l) (hn : n0 ≤ 1000000000) (hb : inBoxB l k n = true) :
    Calls Try.prog 112 #[.slice A n0 c, .int .i64 k, .int .i64 n] w (Makes w (strB l k n)) := by
  obtain ⟨hb1, hb2, hb3, hb4⟩ := inBoxB_iff.1 hb
  obtain ⟨⟨b1, b2⟩, b3, b4⟩ := boxB_iff.1 hb1
  obtain ⟨K, rfl⟩ := Int.eq_ofNat_of_zero_le b3
  obtain ⟨M, rfl⟩ := Int.eq_ofNat_of_zero_le (a := n) (by omega)
  have HS := Lib.hid (strB_yes hb)
  have HB := Lib.hid hb
  clear hb1 hb2 hb3 hb4 hb
  go_enter Try.func112, Try.ntmps112
  go_wp2_with (at_make; refine wpMake rfl _ _ rfl M _ _ rfl rfl rfl rfl (by omega) ?_; intro w2 o2 g2 s2)
  obtain ⟨G, hG⟩ : ∃ G, G = w.heap.size := ⟨_, rfl⟩
  rw [← hG] at o2
  rw [← hG]
  have HGG := Lib.hid hG
  clear hG
  go_loopw [8] (fun i wr => ∃ j : Nat, j ≤ K ∧ i = .int .i64 j ∧ OI wr G (.slice (some ⟨G, 0, none⟩) M M) (setOnes (List.replicate M 0) (grassRow l K) j) ∧ Below w.heap.size w wr) (fun i _ => K - (intOf i).toNat)
  case atStart => exact ⟨0, by omega, rfl, o2, g2⟩
  case round =>
    clear o2
    obtain ⟨j, hj, rfl, ho, hbl⟩ := hrel
    have hxr := hx.below hbl
    by_cases hlt : j < K
    · obtain ⟨q1, q2⟩ := grassRow_range HB.out hlt
      have ht : ((K : Int) - 1 - j).toNat = K - 1 - j := by omega
      obtain ⟨Y, hY⟩ := Int.eq_ofNat_of_zero_le (shape_range (inBoxB_iff.1 HB.out).2.1 (K - 1 - j)).1
      have HX : Hid (grassRow l K j = ((j + Y : Nat) : Int)) := by
        show grassRow l K j = _
        unfold grassRow; rw [hY]; omega
      rw [HX.out] at q1 q2
      have hXM : j + Y < M := by omega
      have hc2 := ho.cellAt hXM
      have hf := ho.frozenAt (j + Y)
      have hst := Lib.hid (ho.stored (j + Y) 1)
      clear ho
      go_wp2_with (go_at_call 133; refine (l4At_any _ _ hxr (by omega) (by omega)).mono ?_; rintro e w' ⟨rfl, q0, rfl⟩)
      go_roundw
      case rel => exact ⟨j + 1, by omega, by go_num, by rw [setOnes, HX.out]; exact hst.out.1.below (Quiet.below ⟨_, rfl⟩), below_drewN (hbl.setCell (by rw [HGG.out]; exact Nat.le_refl _) _) _⟩
      case measure => simp [intOf]; omega
    · obtain rfl : j = K := by omega
      have HO := Lib.hid ho
      clear ho
      go_wp2
      go_ret
      rw [HS.out]
      exact Makes.of (HO.out.mono (by rw [HGG.out]; exact Nat.le_refl _)) hbl (by rw [setOnes_len, List.length_replicate]; omega)

end Go.Proofs.Ytnljlophgolejaa
