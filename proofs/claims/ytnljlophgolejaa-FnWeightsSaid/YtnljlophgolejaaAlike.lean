/- Two strings that are alike: program and reference. -/
import Derived.Test.YtnljlophgolejaaShapes
namespace Go.Proofs.Ytnljlophgolejaa
open Go.RowKit

/-- Strings of one length with equally many ones. -/
def alikeB (a b : List Int) : Bool := isStrB a && (isStrB b && (decide (a.length = b.length) && decide (sumL a = sumL b)))
theorem alike_str {a b : List Int} (h : alikeB a b = true) : isStrB a = true ∧ isStrB b = true ∧ a.length = b.length ∧ sumL a = sumL b := by
  simpa [alikeB, Bool.and_eq_true] using h

set_option maxHeartbeats 1000000 in
theorem iAlike_any {A B : Option Addr} {n m : Nat} {a b : List Int} {w : World} (c d : Nat) (hx : RI w A n a) (hy : RI w B m b) (hn : n ≤ 1000000000) (hm : m ≤ 1000000000) :
    Calls Try.prog 56 #[.slice A n c, .slice B m d] w (Gives w (.bool (alikeB a b))) := by
  have HA := Lib.hid hx.1
  have HB := Lib.hid hy.1
  obtain ⟨t1, ht1⟩ : ∃ t, t = isStrB a := ⟨_, rfl⟩
  obtain ⟨t2, ht2⟩ : ∃ t, t = isStrB b := ⟨_, rfl⟩
  have H1 : Hid (∀ W, Quiet w W → Calls Try.prog 88 #[.slice A n c] W (Gives W (.bool t1))) := fun W ⟨q, hq⟩ => by rw [← hq, ht1]; exact iIsString_any _ (hx.drewN q) hn
  have H2 : Hid (∀ W, Quiet w W → Calls Try.prog 88 #[.slice B m d] W (Gives W (.bool t2))) := fun W ⟨q, hq⟩ => by rw [← hq, ht2]; exact iIsString_any _ (hy.drewN q) hm
  have HT1 := Lib.hid ht1
  have HT2 := Lib.hid ht2
  have HX := Lib.hid hx
  have HY := Lib.hid hy
  clear ht1 ht2 hx hy
  have H3 : Hid (True) := trivial
  have H4 : Hid (True) := trivial
  rcases t1 with _ | _
  · have HE : Hid (alikeB a b = false) := by show _ = _; rw [alikeB, ← HT1.out]; rfl
    go_enter Try.func56, Try.ntmps56
    go_wp2_with (first
      | (go_at_call 88; (with_reducible refine (H1.out _ ?_).mono ?_); (exact (by first | exact ⟨_, rfl⟩ | exact ⟨_, (World.drewN_drewN _ _ _).symm⟩ | exact Quiet.refl _ | (simp only [World.drewN_drewN]; exact ⟨_, rfl⟩))); rintro e w' ⟨rfl, q1, rfl⟩)
      | (go_at_call 88; (with_reducible refine (H2.out _ ?_).mono ?_); (exact (by first | exact ⟨_, rfl⟩ | exact ⟨_, (World.drewN_drewN _ _ _).symm⟩ | exact Quiet.refl _ | (simp only [World.drewN_drewN]; exact ⟨_, rfl⟩))); rintro e w' ⟨rfl, q2, rfl⟩)
      | (go_at_call 94; (with_reducible refine (H3.out _ ?_).mono ?_); (exact (by first | exact ⟨_, rfl⟩ | exact ⟨_, (World.drewN_drewN _ _ _).symm⟩ | exact Quiet.refl _ | (simp only [World.drewN_drewN]; exact ⟨_, rfl⟩))); rintro e w' ⟨rfl, q3, rfl⟩)
      | (go_at_call 94; (with_reducible refine (H4.out _ ?_).mono ?_); (exact (by first | exact ⟨_, rfl⟩ | exact ⟨_, (World.drewN_drewN _ _ _).symm⟩ | exact Quiet.refl _ | (simp only [World.drewN_drewN]; exact ⟨_, rfl⟩))); rintro e w' ⟨rfl, q4, rfl⟩))
    go_ret
    exact ⟨by rw [HE.out]; rfl, (by first | exact ⟨_, rfl⟩ | exact ⟨_, (World.drewN_drewN _ _ _).symm⟩ | exact Quiet.refl _ | (simp only [World.drewN_drewN]; exact ⟨_, rfl⟩))⟩
  rcases t2 with _ | _
  · have HE : Hid (alikeB a b = false) := by show _ = _; rw [alikeB, ← HT1.out, ← HT2.out]; rfl
    go_enter Try.func56, Try.ntmps56
    go_wp2_with (first
      | (go_at_call 88; (with_reducible refine (H1.out _ ?_).mono ?_); (exact (by first | exact ⟨_, rfl⟩ | exact ⟨_, (World.drewN_drewN _ _ _).symm⟩ | exact Quiet.refl _ | (simp only [World.drewN_drewN]; exact ⟨_, rfl⟩))); rintro e w' ⟨rfl, q1, rfl⟩)
      | (go_at_call 88; (with_reducible refine (H2.out _ ?_).mono ?_); (exact (by first | exact ⟨_, rfl⟩ | exact ⟨_, (World.drewN_drewN _ _ _).symm⟩ | exact Quiet.refl _ | (simp only [World.drewN_drewN]; exact ⟨_, rfl⟩))); rintro e w' ⟨rfl, q2, rfl⟩)
      | (go_at_call 94; (with_reducible refine (H3.out _ ?_).mono ?_); (exact (by first | exact ⟨_, rfl⟩ | exact ⟨_, (World.drewN_drewN _ _ _).symm⟩ | exact Quiet.refl _ | (simp only [World.drewN_drewN]; exact ⟨_, rfl⟩))); rintro e w' ⟨rfl, q3, rfl⟩)
      | (go_at_call 94; (with_reducible refine (H4.out _ ?_).mono ?_); (exact (by first | exact ⟨_, rfl⟩ | exact ⟨_, (World.drewN_drewN _ _ _).symm⟩ | exact Quiet.refl _ | (simp only [World.drewN_drewN]; exact ⟨_, rfl⟩))); rintro e w' ⟨rfl, q4, rfl⟩))
    go_ret
    exact ⟨by rw [HE.out]; rfl, (by first | exact ⟨_, rfl⟩ | exact ⟨_, (World.drewN_drewN _ _ _).symm⟩ | exact Quiet.refl _ | (simp only [World.drewN_drewN]; exact ⟨_, rfl⟩))⟩
  by_cases hnm : n = m
  · have HNM := Lib.hid hnm
    have hnb : ((n : Int) == (m : Int)) = true := by simp [hnm]
    have ha7 := (isStrB_iff.1 HT1.out.symm).1.2
    have hb7 := (isStrB_iff.1 HT2.out.symm).1.2
    rw [HA.out] at ha7
    rw [HB.out] at hb7
    obtain ⟨s1, hs1⟩ : ∃ s, s = sumL a := ⟨_, rfl⟩
    obtain ⟨s2, hs2⟩ : ∃ s, s = sumL b := ⟨_, rfl⟩
    have H3 : Hid (∀ W, Quiet w W → Calls Try.prog 94 #[.slice A n c] W (Gives W (.int .i64 s1))) := fun W ⟨q, hq⟩ => by rw [← hq, hs1]; exact iSum_any _ (HX.out.drewN q) (small_str HT1.out.symm) (by omega)
    have H4 : Hid (∀ W, Quiet w W → Calls Try.prog 94 #[.slice B m d] W (Gives W (.int .i64 s2))) := fun W ⟨q, hq⟩ => by rw [← hq, hs2]; exact iSum_any _ (HY.out.drewN q) (small_str HT2.out.symm) (by omega)
    have HE : Hid (alikeB a b = (s1 == s2)) := by
      show _ = _
      rw [alikeB, ← HT1.out, ← HT2.out, HA.out, HB.out, hnm, hs1, hs2]
      simp [BEq.beq]
    clear hnm hs1 hs2
    go_enter Try.func56, Try.ntmps56
    go_wp2_with (first
      | (go_at_call 88; (with_reducible refine (H1.out _ ?_).mono ?_); (exact (by first | exact ⟨_, rfl⟩ | exact ⟨_, (World.drewN_drewN _ _ _).symm⟩ | exact Quiet.refl _ | (simp only [World.drewN_drewN]; exact ⟨_, rfl⟩))); rintro e w' ⟨rfl, q1, rfl⟩)
      | (go_at_call 88; (with_reducible refine (H2.out _ ?_).mono ?_); (exact (by first | exact ⟨_, rfl⟩ | exact ⟨_, (World.drewN_drewN _ _ _).symm⟩ | exact Quiet.refl _ | (simp only [World.drewN_drewN]; exact ⟨_, rfl⟩))); rintro e w' ⟨rfl, q2, rfl⟩)
      | (go_at_call 94; (with_reducible refine (H3.out _ ?_).mono ?_); (exact (by first | exact ⟨_, rfl⟩ | exact ⟨_, (World.drewN_drewN _ _ _).symm⟩ | exact Quiet.refl _ | (simp only [World.drewN_drewN]; exact ⟨_, rfl⟩))); rintro e w' ⟨rfl, q3, rfl⟩)
      | (go_at_call 94; (with_reducible refine (H4.out _ ?_).mono ?_); (exact (by first | exact ⟨_, rfl⟩ | exact ⟨_, (World.drewN_drewN _ _ _).symm⟩ | exact Quiet.refl _ | (simp only [World.drewN_drewN]; exact ⟨_, rfl⟩))); rintro e w' ⟨rfl, q4, rfl⟩))
    go_ret
    exact ⟨by rw [HE.out]; rfl, (by first | exact ⟨_, rfl⟩ | exact ⟨_, (World.drewN_drewN _ _ _).symm⟩ | exact Quiet.refl _ | (simp only [World.drewN_drewN]; exact ⟨_, rfl⟩))⟩
  · have hnb : ((n : Int) == (m : Int)) = false := by simp; omega
    have HE : Hid (alikeB a b = false) := by
      show _ = _
      rw [alikeB, ← HT1.out, ← HT2.out, HA.out, HB.out, decide_eq_false hnm]; rfl
    clear hnm
    go_enter Try.func56, Try.ntmps56
    go_wp2_with (first
      | (go_at_call 88; (with_reducible refine (H1.out _ ?_).mono ?_); (exact (by first | exact ⟨_, rfl⟩ | exact ⟨_, (World.drewN_drewN _ _ _).symm⟩ | exact Quiet.refl _ | (simp only [World.drewN_drewN]; exact ⟨_, rfl⟩))); rintro e w' ⟨rfl, q1, rfl⟩)
      | (go_at_call 88; (with_reducible refine (H2.out _ ?_).mono ?_); (exact (by first | exact ⟨_, rfl⟩ | exact ⟨_, (World.drewN_drewN _ _ _).symm⟩ | exact Quiet.refl _ | (simp only [World.drewN_drewN]; exact ⟨_, rfl⟩))); rintro e w' ⟨rfl, q2, rfl⟩)
      | (go_at_call 94; (with_reducible refine (H3.out _ ?_).mono ?_); (exact (by first | exact ⟨_, rfl⟩ | exact ⟨_, (World.drewN_drewN _ _ _).symm⟩ | exact Quiet.refl _ | (simp only [World.drewN_drewN]; exact ⟨_, rfl⟩))); rintro e w' ⟨rfl, q3, rfl⟩)
      | (go_at_call 94; (with_reducible refine (H4.out _ ?_).mono ?_); (exact (by first | exact ⟨_, rfl⟩ | exact ⟨_, (World.drewN_drewN _ _ _).symm⟩ | exact Quiet.refl _ | (simp only [World.drewN_drewN]; exact ⟨_, rfl⟩))); rintro e w' ⟨rfl, q4, rfl⟩))
    go_ret
    exact ⟨by rw [HE.out]; rfl, (by first | exact ⟨_, rfl⟩ | exact ⟨_, (World.drewN_drewN _ _ _).symm⟩ | exact Quiet.refl _ | (simp only [World.drewN_drewN]; exact ⟨_, rfl⟩))⟩

set_option maxHeartbeats 1000000 in
theorem sTwo_any {A B : Option Addr} {n m : Nat} {a b : List Int} {w : World} (c d : Nat) (hx : RI w A n a) (hy : RI w B m b) (hn : n ≤ 1000000000) (hm : m ≤ 1000000000) :
    Calls Try.prog 52 #[.slice A n c, .slice B m d] w (Gives w (.bool (alikeB a b))) := by
  have HA := Lib.hid hx.1
  have HB := Lib.hid hy.1
  obtain ⟨t1, ht1⟩ : ∃ t, t = isStrB a := ⟨_, rfl⟩
  obtain ⟨t2, ht2⟩ : ∃ t, t = isStrB b := ⟨_, rfl⟩
  have H1 : Hid (∀ W, Quiet w W → Calls Try.prog 90 #[.slice A n c] W (Gives W (.bool t1))) := fun W ⟨q, hq⟩ => by rw [← hq, ht1]; exact sIsString_any _ (hx.drewN q) hn
  have H2 : Hid (∀ W, Quiet w W → Calls Try.prog 90 #[.slice B m d] W (Gives W (.bool t2))) := fun W ⟨q, hq⟩ => by rw [← hq, ht2]; exact sIsString_any _ (hy.drewN q) hm
  have HT1 := Lib.hid ht1
  have HT2 := Lib.hid ht2
  have HX := Lib.hid hx
  have HY := Lib.hid hy
  clear ht1 ht2 hx hy
  have H3 : Hid (True) := trivial
  have H4 : Hid (True) := trivial
  rcases t1 with _ | _
  · have HE : Hid (alikeB a b = false) := by show _ = _; rw [alikeB, ← HT1.out]; rfl
    go_enter Try.func52, Try.ntmps52
    go_wp2_with (first
      | (go_at_call 90; (with_reducible refine (H1.out _ ?_).mono ?_); (exact (by first | exact ⟨_, rfl⟩ | exact ⟨_, (World.drewN_drewN _ _ _).symm⟩ | exact Quiet.refl _ | (simp only [World.drewN_drewN]; exact ⟨_, rfl⟩))); rintro e w' ⟨rfl, q1, rfl⟩)
      | (go_at_call 90; (with_reducible refine (H2.out _ ?_).mono ?_); (exact (by first | exact ⟨_, rfl⟩ | exact ⟨_, (World.drewN_drewN _ _ _).symm⟩ | exact Quiet.refl _ | (simp only [World.drewN_drewN]; exact ⟨_, rfl⟩))); rintro e w' ⟨rfl, q2, rfl⟩)
      | (go_at_call 91; (with_reducible refine (H3.out _ ?_).mono ?_); (exact (by first | exact ⟨_, rfl⟩ | exact ⟨_, (World.drewN_drewN _ _ _).symm⟩ | exact Quiet.refl _ | (simp only [World.drewN_drewN]; exact ⟨_, rfl⟩))); rintro e w' ⟨rfl, q3, rfl⟩)
      | (go_at_call 91; (with_reducible refine (H4.out _ ?_).mono ?_); (exact (by first | exact ⟨_, rfl⟩ | exact ⟨_, (World.drewN_drewN _ _ _).symm⟩ | exact Quiet.refl _ | (simp only [World.drewN_drewN]; exact ⟨_, rfl⟩))); rintro e w' ⟨rfl, q4, rfl⟩))
    go_ret
    exact ⟨by rw [HE.out]; rfl, (by first | exact ⟨_, rfl⟩ | exact ⟨_, (World.drewN_drewN _ _ _).symm⟩ | exact Quiet.refl _ | (simp only [World.drewN_drewN]; exact ⟨_, rfl⟩))⟩
  rcases t2 with _ | _
  · have HE : Hid (alikeB a b = false) := by show _ = _; rw [alikeB, ← HT1.out, ← HT2.out]; rfl
    go_enter Try.func52, Try.ntmps52
    go_wp2_with (first
      | (go_at_call 90; (with_reducible refine (H1.out _ ?_).mono ?_); (exact (by first | exact ⟨_, rfl⟩ | exact ⟨_, (World.drewN_drewN _ _ _).symm⟩ | exact Quiet.refl _ | (simp only [World.drewN_drewN]; exact ⟨_, rfl⟩))); rintro e w' ⟨rfl, q1, rfl⟩)
      | (go_at_call 90; (with_reducible refine (H2.out _ ?_).mono ?_); (exact (by first | exact ⟨_, rfl⟩ | exact ⟨_, (World.drewN_drewN _ _ _).symm⟩ | exact Quiet.refl _ | (simp only [World.drewN_drewN]; exact ⟨_, rfl⟩))); rintro e w' ⟨rfl, q2, rfl⟩)
      | (go_at_call 91; (with_reducible refine (H3.out _ ?_).mono ?_); (exact (by first | exact ⟨_, rfl⟩ | exact ⟨_, (World.drewN_drewN _ _ _).symm⟩ | exact Quiet.refl _ | (simp only [World.drewN_drewN]; exact ⟨_, rfl⟩))); rintro e w' ⟨rfl, q3, rfl⟩)
      | (go_at_call 91; (with_reducible refine (H4.out _ ?_).mono ?_); (exact (by first | exact ⟨_, rfl⟩ | exact ⟨_, (World.drewN_drewN _ _ _).symm⟩ | exact Quiet.refl _ | (simp only [World.drewN_drewN]; exact ⟨_, rfl⟩))); rintro e w' ⟨rfl, q4, rfl⟩))
    go_ret
    exact ⟨by rw [HE.out]; rfl, (by first | exact ⟨_, rfl⟩ | exact ⟨_, (World.drewN_drewN _ _ _).symm⟩ | exact Quiet.refl _ | (simp only [World.drewN_drewN]; exact ⟨_, rfl⟩))⟩
  by_cases hnm : n = m
  · have HNM := Lib.hid hnm
    have hnb : ((n : Int) == (m : Int)) = true := by simp [hnm]
    have ha7 := (isStrB_iff.1 HT1.out.symm).1.2
    have hb7 := (isStrB_iff.1 HT2.out.symm).1.2
    rw [HA.out] at ha7
    rw [HB.out] at hb7
    obtain ⟨s1, hs1⟩ : ∃ s, s = sumL a := ⟨_, rfl⟩
    obtain ⟨s2, hs2⟩ : ∃ s, s = sumL b := ⟨_, rfl⟩
    have H3 : Hid (∀ W, Quiet w W → Calls Try.prog 91 #[.slice A n c] W (Gives W (.int .i64 s1))) := fun W ⟨q, hq⟩ => by rw [← hq, hs1]; exact sSum_any _ (HX.out.drewN q) (small_str HT1.out.symm) (by omega)
    have H4 : Hid (∀ W, Quiet w W → Calls Try.prog 91 #[.slice B m d] W (Gives W (.int .i64 s2))) := fun W ⟨q, hq⟩ => by rw [← hq, hs2]; exact sSum_any _ (HY.out.drewN q) (small_str HT2.out.symm) (by omega)
    have HE : Hid (alikeB a b = (s1 == s2)) := by
      show _ = _
      rw [alikeB, ← HT1.out, ← HT2.out, HA.out, HB.out, hnm, hs1, hs2]
      simp [BEq.beq]
    clear hnm hs1 hs2
    go_enter Try.func52, Try.ntmps52
    go_wp2_with (first
      | (go_at_call 90; (with_reducible refine (H1.out _ ?_).mono ?_); (exact (by first | exact ⟨_, rfl⟩ | exact ⟨_, (World.drewN_drewN _ _ _).symm⟩ | exact Quiet.refl _ | (simp only [World.drewN_drewN]; exact ⟨_, rfl⟩))); rintro e w' ⟨rfl, q1, rfl⟩)
      | (go_at_call 90; (with_reducible refine (H2.out _ ?_).mono ?_); (exact (by first | exact ⟨_, rfl⟩ | exact ⟨_, (World.drewN_drewN _ _ _).symm⟩ | exact Quiet.refl _ | (simp only [World.drewN_drewN]; exact ⟨_, rfl⟩))); rintro e w' ⟨rfl, q2, rfl⟩)
      | (go_at_call 91; (with_reducible refine (H3.out _ ?_).mono ?_); (exact (by first | exact ⟨_, rfl⟩ | exact ⟨_, (World.drewN_drewN _ _ _).symm⟩ | exact Quiet.refl _ | (simp only [World.drewN_drewN]; exact ⟨_, rfl⟩))); rintro e w' ⟨rfl, q3, rfl⟩)
      | (go_at_call 91; (with_reducible refine (H4.out _ ?_).mono ?_); (exact (by first | exact ⟨_, rfl⟩ | exact ⟨_, (World.drewN_drewN _ _ _).symm⟩ | exact Quiet.refl _ | (simp only [World.drewN_drewN]; exact ⟨_, rfl⟩))); rintro e w' ⟨rfl, q4, rfl⟩))
    go_ret
    exact ⟨by rw [HE.out]; rfl, (by first | exact ⟨_, rfl⟩ | exact ⟨_, (World.drewN_drewN _ _ _).symm⟩ | exact Quiet.refl _ | (simp only [World.drewN_drewN]; exact ⟨_, rfl⟩))⟩
  · have hnb : ((n : Int) == (m : Int)) = false := by simp; omega
    have HE : Hid (alikeB a b = false) := by
      show _ = _
      rw [alikeB, ← HT1.out, ← HT2.out, HA.out, HB.out, decide_eq_false hnm]; rfl
    clear hnm
    go_enter Try.func52, Try.ntmps52
    go_wp2_with (first
      | (go_at_call 90; (with_reducible refine (H1.out _ ?_).mono ?_); (exact (by first | exact ⟨_, rfl⟩ | exact ⟨_, (World.drewN_drewN _ _ _).symm⟩ | exact Quiet.refl _ | (simp only [World.drewN_drewN]; exact ⟨_, rfl⟩))); rintro e w' ⟨rfl, q1, rfl⟩)
      | (go_at_call 90; (with_reducible refine (H2.out _ ?_).mono ?_); (exact (by first | exact ⟨_, rfl⟩ | exact ⟨_, (World.drewN_drewN _ _ _).symm⟩ | exact Quiet.refl _ | (simp only [World.drewN_drewN]; exact ⟨_, rfl⟩))); rintro e w' ⟨rfl, q2, rfl⟩)
      | (go_at_call 91; (with_reducible refine (H3.out _ ?_).mono ?_); (exact (by first | exact ⟨_, rfl⟩ | exact ⟨_, (World.drewN_drewN _ _ _).symm⟩ | exact Quiet.refl _ | (simp only [World.drewN_drewN]; exact ⟨_, rfl⟩))); rintro e w' ⟨rfl, q3, rfl⟩)
      | (go_at_call 91; (with_reducible refine (H4.out _ ?_).mono ?_); (exact (by first | exact ⟨_, rfl⟩ | exact ⟨_, (World.drewN_drewN _ _ _).symm⟩ | exact Quiet.refl _ | (simp only [World.drewN_drewN]; exact ⟨_, rfl⟩))); rintro e w' ⟨rfl, q4, rfl⟩))
    go_ret
    exact ⟨by rw [HE.out]; rfl, (by first | exact ⟨_, rfl⟩ | exact ⟨_, (World.drewN_drewN _ _ _).symm⟩ | exact Quiet.refl _ | (simp only [World.drewN_drewN]; exact ⟨_, rfl⟩))⟩
end Go.Proofs.Ytnljlophgolejaa
