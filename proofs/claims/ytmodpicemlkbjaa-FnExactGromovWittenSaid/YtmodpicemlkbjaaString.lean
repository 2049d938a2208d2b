/- Sums; ShapeOfString of the program and of the reference. -/
import Derived.Test.YtmodpicemlkbjaaShapes
namespace Go.Proofs.Ytmodpicemlkbjaa
open Go.RowKit

theorem iSum_any {A : Option Addr} {n : Nat} {l : List Int} {w : World} (c : Nat) (hx : RI w A n l) (hs : Small l) (hn : n ≤ 1000000) :
    Calls Try.prog 72 #[.slice A n c] w (Gives w (.int .i64 (sumL l))) := by
  have HL := Lib.hid hx.1
  have HS := Lib.hid hs
  clear hs
  go_enter Try.func72, Try.ntmps72
  go_wp2
  go_loopw [3, 5, 8] (fun s _ i wr => ∃ k : Nat, k ≤ n ∧ i = .int .i64 k ∧ s = .int .i64 (sumTo l k) ∧ Quiet w wr) (fun _ _ i _ => n - (intOf i).toNat)
  case atStart => exact ⟨0, Nat.zero_le _, rfl, rfl, (by first | exact ⟨_, rfl⟩ | exact ⟨_, (World.drewN_drewN _ _ _).symm⟩ | exact Quiet.refl _ | (simp only [World.drewN_drewN]; exact ⟨_, rfl⟩))⟩
  case round =>
    obtain ⟨k, hk, rfl, rfl, ⟨q, rfl⟩⟩ := hrel
    by_cases hlt : k < n
    · obtain ⟨ad, hA, hc⟩ := hx.cell hlt
      subst hA
      obtain ⟨b1, b2⟩ := sumTo_bound HS.out (n := k) (by rw [HL.out]; exact hk)
      obtain ⟨b3, b4⟩ := HS.out k (by rw [HL.out]; exact hlt)
      go_wp2
      go_roundw
      case rel => exact ⟨k + 1, by omega, by go_num, rfl, (by first | exact ⟨_, rfl⟩ | exact ⟨_, (World.drewN_drewN _ _ _).symm⟩ | exact Quiet.refl _ | (simp only [World.drewN_drewN]; exact ⟨_, rfl⟩))⟩
      case measure => simp [intOf]; omega
    · obtain rfl : k = n := by omega
      go_wp2
      go_ret
      exact ⟨by unfold sumL; rw [HL.out]; rfl, (by first | exact ⟨_, rfl⟩ | exact ⟨_, (World.drewN_drewN _ _ _).symm⟩ | exact Quiet.refl _ | (simp only [World.drewN_drewN]; exact ⟨_, rfl⟩))⟩

theorem sSum_any {A : Option Addr} {n : Nat} {l : List Int} {w : World} (c : Nat) (hx : RI w A n l) (hs : Small l) (hn : n ≤ 1000000) :
    Calls Try.prog 87 #[.slice A n c] w (Gives w (.int .i64 (sumL l))) := by
  have HL := Lib.hid hx.1
  have HS := Lib.hid hs
  clear hs
  go_enter Try.func87, Try.ntmps87
  go_wp2
  go_loopw [3, 4] (fun s i wr => ∃ k : Nat, k ≤ n ∧ i = .int .i64 k ∧ s = .int .i64 (sumTo l k) ∧ Quiet w wr) (fun _ i _ => n - (intOf i).toNat)
  case atStart => exact ⟨0, Nat.zero_le _, rfl, rfl, (by first | exact ⟨_, rfl⟩ | exact ⟨_, (World.drewN_drewN _ _ _).symm⟩ | exact Quiet.refl _ | (simp only [World.drewN_drewN]; exact ⟨_, rfl⟩))⟩
  case round =>
    obtain ⟨k, hk, rfl, rfl, ⟨q, rfl⟩⟩ := hrel
    by_cases hlt : k < n
    · obtain ⟨ad, hA, hc⟩ := hx.cell hlt
      subst hA
      obtain ⟨b1, b2⟩ := sumTo_bound HS.out (n := k) (by rw [HL.out]; exact hk)
      obtain ⟨b3, b4⟩ := HS.out k (by rw [HL.out]; exact hlt)
      go_wp2
      go_roundw
      case rel => exact ⟨k + 1, by omega, by go_num, rfl, (by first | exact ⟨_, rfl⟩ | exact ⟨_, (World.drewN_drewN _ _ _).symm⟩ | exact Quiet.refl _ | (simp only [World.drewN_drewN]; exact ⟨_, rfl⟩))⟩
      case measure => simp [intOf]; omega
    · obtain rfl : k = n := by omega
      go_wp2
      go_ret
      exact ⟨by unfold sumL; rw [HL.out]; rfl, (by first | exact ⟨_, rfl⟩ | exact ⟨_, (World.drewN_drewN _ _ _).symm⟩ | exact Quiet.refl _ | (simp only [World.drewN_drewN]; exact ⟨_, rfl⟩))⟩

theorem iShapeStr_any {A : Option Addr} {n : Nat} {l : List Int} {w : World} (c : Nat) (hx : RI w A n l) (hn : n ≤ 1000000000) :
    Calls Try.prog 55 #[.slice A n c] w (Makes3 w (shapeStr l) (onesStr l) (isStrB l)) := by
  have HL := Lib.hid hx.1
  rcases Bool.eq_false_or_eq_true (isStrB l) with hb | hb
  · have HB := Lib.hid hb
    have hn7 : n ≤ 7 := by have := (isStrB_iff.1 hb).1.2; rw [hx.1] at this; exact this
    go_enter Try.func55, Try.ntmps55
    go_wp2_with (go_at_call 102; refine (iIsString_any _ hx hn).mono ?_; rintro e w' ⟨rfl, q0, rfl⟩)
    clear hb
    go_loopw [5, 6, 8, 15] (fun v z _ i wr => ∃ k : Nat, k ≤ n ∧ i = .int .i64 k ∧ z = .int .i64 (strZ l k : Int) ∧ OI wr w.heap.size v (strR l k) ∧ Below w.heap.size w wr) (fun _ _ _ i _ => n - (intOf i).toNat)
    case atStart => exact ⟨0, Nat.zero_le _, rfl, rfl, (OI.lit w w.heap.size [] 0 rfl (Nat.le_refl _) (by simp)).below (Quiet.below ⟨_, rfl⟩), below_drewN ((Below.refl _ _).alloc (Nat.le_refl _) _) _⟩
    case round =>
      obtain ⟨k, hk, rfl, rfl, ho, hbl⟩ := hrel
      by_cases hlt : k < n
      · obtain ⟨ad, hA, hc⟩ := (hx.below hbl).cell hlt
        subst hA
        have hz := strZ_le l k
        have hr := strR_len l k
        by_cases h0 : nth l k = 0
        · have HZ := Lib.hid h0
          have h0' : (nth l k == 0) = true := by simpa using h0
          clear h0
          go_wp2
          go_roundw
          case rel => exact ⟨k + 1, by omega, by go_num, by rw [strZ_zero HZ.out]; go_num, by rw [strR_zero HZ.out]; exact ho, hbl⟩
          case measure => simp [intOf]; omega
        · have HZ := Lib.hid h0
          have h0' : (nth l k == 0) = false := by simpa using h0
          clear h0
          obtain ⟨A1, m1, c1, rfl, hr1, hcc, hm, _⟩ := ho.form
          have hm1 : m1 ≤ 1000000 := by rw [hr1.1] at hr; omega
          go_wp2_with (at_builtin; refine wpAppI rfl _ _ rfl w.heap.size (.slice (some ⟨wr.heap.size, 0, none⟩) 1 1) [(strZ l k : Int)] (strR l k) A1 m1 c1 rfl rfl (by exact OI.lit wr _ [(strZ l k : Int)] 1 rfl hbl.size (by simp)) (by exact hr1.alloc _) (by simp; omega) (by have := hbl.size; simp; omega) ?_; intro v' w' h1 h2 h3)
          go_roundw
          case rel => exact ⟨k + 1, by omega, by go_num, by rw [strZ_one HZ.out], by rw [strR_one HZ.out]; exact h1, (hbl.alloc hbl.size _).grown h2 (by have := hbl.size; simp; omega) (by have := hbl.size; simp [Value.ownBlock]; omega)⟩
          case measure => simp [intOf]; omega
      · obtain rfl : k = n := by omega
        obtain ⟨A1, m1, c1, rfl, hr1, hcc, hm, _⟩ := ho.form
        have hr := strR_len l k
        have hm1 : m1 ≤ 1000000 := by rw [hr1.1] at hr; omega
        have HM := Lib.hid hr1.1
        go_wp2_with (go_at_call 74; refine (shapeOfRows_any _ hr1 (by omega) hcc).mono ?_; rintro e w' ⟨rfl, q0, rfl⟩)
        go_ret3
        rw [HB.out, onesStr_rows HB.out HL.out, shapeStr_yes HB.out HL.out, HM.out]
        have e : bare (strR l k) = (strR l k).take (bareLen (strR l k) m1) := by unfold bare; rw [HM.out]
        rw [e]
        exact Makes3.of ((ho.take (bareLen_le _ _)).below (Quiet.below ⟨_, rfl⟩)) (below_drewN hbl _) (by rw [List.length_take]; omega)
  · have HB := Lib.hid hb
    go_enter Try.func55, Try.ntmps55
    go_wp2_with (go_at_call 102; refine (iIsString_any _ hx hn).mono ?_; rintro e w' ⟨rfl, q0, rfl⟩)
    go_ret3
    rw [HB.out, onesStr_no HB.out, shapeStr_no HB.out]
    exact Makes3.of (OI.nil_ _ _) (Quiet.below ⟨_, rfl⟩) (by simp)
end Go.Proofs.Ytmodpicemlkbjaa
