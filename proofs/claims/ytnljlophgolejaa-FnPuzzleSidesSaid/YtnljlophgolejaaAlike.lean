/- Two strings that are alike: program and reference. -/
import Derived.Test.YtnljlophgolejaaShapes
import Derived.Test.YtnljlophgolejaaTileK
import Derived.Test.YtnljlophgolejaaSides
import Derived.Test.YtnljlophgolejaaCnt
namespace Go.Proofs.Ytnljlophgolejaa
open Go.RowKit

/-- Strings of one length with equally many ones. -/
def alikeB (a b : List Int) : Bool := isStrB a && (isStrB b && (decide (a.length = b.length) && decide (sumL a = sumL b)))
theorem alike_str {a b : List Int} (h : alikeB a b = true) : isStrB a = true ∧ isStrB b = true ∧ a.length = b.length ∧ sumL a = sumL b := by
  simpa [alikeB, Bool.and_eq_true] using h

set_option maxHeartbeats 1000000 in
theorem iAlike_any {A B : Option Addr} {n m : Nat} {a b : List Int} {w : World} (c d : Nat) (hx : RI w A n a) (hy : RI w B m b) (hn : n ≤ 1000000000) (hm : m ≤ 1000000000) :
    Calls Try.prog 56 #[.slice A n c, .slice B m d] w (Gives w (.bool (alikeB a b))) := by
  have HA := Lib.hid hx.1
  have HB := Lib.hid hy.1
  obtain ⟨t1, ht1⟩ : ∃ t, t = isStrB a := ⟨_, rfl⟩
  obtain ⟨t2, ht2⟩ : ∃ t, t = isStrB b := ⟨_, rfl⟩
  have H1 : Hid (∀ W, Quiet w W → Calls Try.prog 88 #[.slice A n c] W (Gives W (.bool t1))) := fun W ⟨q, hq⟩ => by rw [← hq, ht1]; exact iIsString_any _ (hx.drewN q) hn
  have H2 : Hid (∀ W, Quiet w W → Calls Try.prog 88 #[.slice B m d] W (Gives W (.bool t2))) := fun W ⟨q, hq⟩ => by rw [← hq, ht2]; exact iIsString_any _ (hy.drewN q) hm
  have HT1 := Lib.hid ht1
  have HT2 := Lib.hid ht2
  have HX := Lib.hid hx
  have HY := Lib.hid hy
  clear ht1 ht2 hx hy
  have H3 : Hid (True) := trivial
  have H4 : Hid (True) := trivial
  rcases t1 with _ | _
  · have HE : Hid (alikeB a b = false) := by show _ = _; rw [alikeB, ← HT1.out]; rfl
    go_enter Try.func56, Try.ntmps56
    go_wp2_with (first
      | (go_at_call 88; (with_reducible refine (H1.out _ ?_).mono ?_); (exact (by first | exact ⟨_, rfl⟩ | exact ⟨_, (World.drewN_drewN _ _ _).symm⟩ | exact Quiet.refl _ | (simp only [World.drewN_drewN]; exact ⟨_, rfl⟩))); rintro e w' ⟨rfl, q1, rfl⟩)
      | (go_at_call 88; (with_reducible refine (H2.out _ ?_).mono ?_); (exact (by first | exact ⟨_, rfl⟩ | exact ⟨_, (World.drewN_drewN _ _ _).symm⟩ | exact Quiet.refl _ | (simp only [World.drewN_drewN]; exact ⟨_, rfl⟩))); rintro e w' ⟨rfl, q2, rfl⟩)
      | (go_at_call 94; (with_reducible refine (H3.out _ ?_).mono ?_); (exact (by first | exact ⟨_, rfl⟩ | exact ⟨_, (World.drewN_drewN _ _ _).symm⟩ | exact Quiet.refl _ | (simp only [World.drewN_drewN]; exact ⟨_, rfl⟩))); rintro e w' ⟨rfl, q3, rfl⟩)
      | (go_at_call 94; (with_reducible refine (H4.out _ ?_).mono ?_); (exact (by first | exact ⟨_, rfl⟩ | exact ⟨_, (World.drewN_drewN _ _ _).symm⟩ | exact Quiet.refl _ | (simp only [World.drewN_drewN]; exact ⟨_, rfl⟩))); rintro e w' ⟨rfl, q4, rfl⟩))
    go_ret
    exact ⟨by rw [HE.out]; rfl, (by first | exact ⟨_, rfl⟩ | exact ⟨_, (World.drewN_drewN _ _ _).symm⟩ | exact Quiet.refl _ | (simp only [World.drewN_drewN]; exact ⟨_, rfl⟩))⟩
  rcases t2 with _ | _
  · have HE : Hid (alikeB a b = false) := by show _ = _; rw [alikeB, ← HT1.out, ← HT2.out]; rfl
    go_enter Try.func56, Try.ntmps56
    go_wp2_with (first
      | (go_at_call 88; (with_reducible refine (H1.out _ ?_).mono ?_); (exact (by first | exact ⟨_, rfl⟩ | exact ⟨_, (World.drewN_drewN _ _ _).symm⟩ | exact Quiet.refl _ | (simp only [World.drewN_drewN]; exact ⟨_, rfl⟩))); rintro e w' ⟨rfl, q1, rfl⟩)
      | (go_at_call 88; (with_reducible refine (H2.out _ ?_).mono ?_); (exact (by first | exact ⟨_, rfl⟩ | exact ⟨_, (World.drewN_drewN _ _ _).symm⟩ | exact Quiet.refl _ | (simp only [World.drewN_drewN]; exact ⟨_, rfl⟩))); rintro e w' ⟨rfl, q2, rfl⟩)
      | (go_at_call 94; (with_reducible refine (H3.out _ ?_).mono ?_); (exact (by first | exact ⟨_, rfl⟩ | exact ⟨_, (World.drewN_drewN _ _ _).symm⟩ | exact Quiet.refl _ | (simp only [World.drewN_drewN]; exact ⟨_, rfl⟩))); rintro e w' ⟨rfl, q3, rfl⟩)
      | (go_at_call 94; (with_reducible refine (H4.out _ ?_).mono ?_); (exact (by first | exact ⟨_, rfl⟩ | exact ⟨_, (World.drewN_drewN _ _ _).symm⟩ | exact Quiet.refl _ | (simp only [World.drewN_drewN]; exact ⟨_, rfl⟩))); rintro e w' ⟨rfl, q4, rfl⟩))
    go_ret
    exact ⟨by rw [HE.out]; rfl, (by first | exact ⟨_, rfl⟩ | exact ⟨_, (World.drewN_drewN _ _ _).symm⟩ | exact Quiet.refl _ | (simp only [World.drewN_drewN]; exact ⟨_, rfl⟩))⟩
  by_cases hnm : n = m
  · have HNM := Lib.hid hnm
    have hnb : ((n : Int) == (m : Int)) = true := by simp [hnm]
    have ha7 := (isStrB_iff.1 HT1.out.symm).1.2
    have hb7 := (isStrB_iff.1 HT2.out.symm).1.2
    rw [HA.out] at ha7
    rw [HB.out] at hb7
    obtain ⟨s1, hs1⟩ : ∃ s, s = sumL a := ⟨_, rfl⟩
    obtain ⟨s2, hs2⟩ : ∃ s, s = sumL b := ⟨_, rfl⟩
    have H3 : Hid (∀ W, Quiet w W → Calls Try.prog 94 #[.slice A n c] W (Gives W (.int .i64 s1))) := fun W ⟨q, hq⟩ => by rw [← hq, hs1]; exact iSum_any _ (HX.out.drewN q) (small_str HT1.out.symm) (by omega)
    have H4 : Hid (∀ W, Quiet w W → Calls Try.prog 94 #[.slice B m d] W (Gives W (.int .i64 s2))) := fun W ⟨q, hq⟩ => by rw [← hq, hs2]; exact iSum_any _ (HY.out.drewN q) (small_str HT2.out.symm) (by omega)
    have HE : Hid (alikeB a b = (s1 == s2)) := by
      show _ = _
      rw [alikeB, ← HT1.out, ← HT2.out, HA.out, HB.out, hnm, hs1, hs2]
      simp [BEq.beq]
    clear hnm hs1 hs2
    go_enter Try.func56, Try.ntmps56
    go_wp2_with (first
      | (go_at_call 88; (with_reducible refine (H1.out _ ?_).mono ?_); (exact (by first | exact ⟨_, rfl⟩ | exact ⟨_, (World.drewN_drewN _ _ _).symm⟩ | exact Quiet.refl _ | (simp only [World.drewN_drewN]; exact ⟨_, rfl⟩))); rintro e w' ⟨rfl, q1, rfl⟩)
      | (go_at_call 88; (with_reducible refine (H2.out _ ?_).mono ?_); (exact (by first | exact ⟨_, rfl⟩ | exact ⟨_, (World.drewN_drewN _ _ _).symm⟩ | exact Quiet.refl _ | (simp only [World.drewN_drewN]; exact ⟨_, rfl⟩))); rintro e w' ⟨rfl, q2, rfl⟩)
      | (go_at_call 94; (with_reducible refine (H3.out _ ?_).mono ?_); (exact (by first | exact ⟨_, rfl⟩ | exact ⟨_, (World.drewN_drewN _ _ _).symm⟩ | exact Quiet.refl _ | (simp only [World.drewN_drewN]; exact ⟨_, rfl⟩))); rintro e w' ⟨rfl, q3, rfl⟩)
      | (go_at_call 94; (with_reducible refine (H4.out _ ?_).mono ?_); (exact (by first | exact ⟨_, rfl⟩ | exact ⟨_, (World.drewN_drewN _ _ _).symm⟩ | exact Quiet.refl _ | (simp only [World.drewN_drewN]; exact ⟨_, rfl⟩))); rintro e w' ⟨rfl, q4, rfl⟩))
    go_ret
    exact ⟨by rw [HE.out]; rfl, (by first | exact ⟨_, rfl⟩ | exact ⟨_, (World.drewN_drewN _ _ _).symm⟩ | exact Quiet.refl _ | (simp only [World.drewN_drewN]; exact ⟨_, rfl⟩))⟩
  · have hnb : ((n : Int) == (m : Int)) = false := by simp; omega
    have HE : Hid (alikeB a b = false) := by
      show _ = _
      rw [alikeB, ← HT1.out, ← HT2.out, HA.out, HB.out, decide_eq_false hnm]; rfl
    clear hnm
    go_enter Try.func56, Try.ntmps56
    go_wp2_with (first
      | (go_at_call 88; (with_reducible refine (H1.out _ ?_).mono ?_); (exact (by first | exact ⟨_, rfl⟩ | exact ⟨_, (World.drewN_drewN _ _ _).symm⟩ | exact Quiet.refl _ | (simp only [World.drewN_drewN]; exact ⟨_, rfl⟩))); rintro e w' ⟨rfl, q1, rfl⟩)
      | (go_at_call 88; (with_reducible refine (H2.out _ ?_).mono ?_); (exact (by first | exact ⟨_, rfl⟩ | exact ⟨_, (World.drewN_drewN _ _ _).symm⟩ | exact Quiet.refl _ | (simp only [World.drewN_drewN]; exact ⟨_, rfl⟩))); rintro e w' ⟨rfl, q2, rfl⟩)
      | (go_at_call 94; (with_reducible refine (H3.out _ ?_).mono ?_); (exact (by first | exact ⟨_, rfl⟩ | exact ⟨_, (World.drewN_drewN _ _ _).symm⟩ | exact Quiet.refl _ | (simp only [World.drewN_drewN]; exact ⟨_, rfl⟩))); rintro e w' ⟨rfl, q3, rfl⟩)
      | (go_at_call 94; (with_reducible refine (H4.out _ ?_).mono ?_); (exact (by first | exact ⟨_, rfl⟩ | exact ⟨_, (World.drewN_drewN _ _ _).symm⟩ | exact Quiet.refl _ | (simp only [World.drewN_drewN]; exact ⟨_, rfl⟩))); rintro e w' ⟨rfl, q4, rfl⟩))
    go_ret
    exact ⟨by rw [HE.out]; rfl, (by first | exact ⟨_, rfl⟩ | exact ⟨_, (World.drewN_drewN _ _ _).symm⟩ | exact Quiet.refl _ | (simp only [World.drewN_drewN]; exact ⟨_, rfl⟩))⟩

set_option maxHeartbeats 1000000 in
theorem sTwo_any {A B : Option Addr} {n m : Nat} {a b : List Int} {w : World} (c d : Nat) (hx : RI w A n a) (hy : RI w B m b) (hn : n ≤ 1000000000) (hm : m ≤ 1000000000) :
    Calls Try.prog 52 #[.slice A n c, .slice B m d] w (Gives w (.bool (alikeB a b))) := by
  have HA := Lib.hid hx.1
  have HB := Lib.hid hy.1
  obtain ⟨t1, ht1⟩ : ∃ t, t = isStrB a := ⟨_, rfl⟩
  obtain ⟨t2, ht2⟩ : ∃ t, t = isStrB b := ⟨_, rfl⟩
  have H1 : Hid (∀ W, Quiet w W → Calls Try.prog 90 #[.slice A n c] W (Gives W (.bool t1))) := fun W ⟨q, hq⟩ => by rw [← hq, ht1]; exact sIsString_any _ (hx.drewN q) hn
  have H2 : Hid (∀ W, Quiet w W → Calls Try.prog 90 #[.slice B m d] W (Gives W (.bool t2))) := fun W ⟨q, hq⟩ => by rw [← hq, ht2]; exact sIsString_any _ (hy.drewN q) hm
  have HT1 := Lib.hid ht1
  have HT2 := Lib.hid ht2
  have HX := Lib.hid hx
  have HY := Lib.hid hy
  clear ht1 ht2 hx hy
  have H3 : Hid (True) := trivial
  have H4 : Hid (True) := trivial
  rcases t1 with _ | _
  · have HE : Hid (alikeB a b = false) := by show _ = _; rw [alikeB, ← HT1.out]; rfl
    go_enter Try.func52, Try.ntmps52
    go_wp2_with (first
      | (go_at_call 90; (with_reducible refine (H1.out _ ?_).mono ?_); (exact (by first | exact ⟨_, rfl⟩ | exact ⟨_, (World.drewN_drewN _ _ _).symm⟩ | exact Quiet.refl _ | (simp only [World.drewN_drewN]; exact ⟨_, rfl⟩))); rintro e w' ⟨rfl, q1, rfl⟩)
      | (go_at_call 90; (with_reducible refine (H2.out _ ?_).mono ?_); (exact (by first | exact ⟨_, rfl⟩ | exact ⟨_, (World.drewN_drewN _ _ _).symm⟩ | exact Quiet.refl _ | (simp only [World.drewN_drewN]; exact ⟨_, rfl⟩))); rintro e w' ⟨rfl, q2, rfl⟩)
      | (go_at_call 91; (with_reducible refine (H3.out _ ?_).mono ?_); (exact (by first | exact ⟨_, rfl⟩ | exact ⟨_, (World.drewN_drewN _ _ _).symm⟩ | exact Quiet.refl _ | (simp only [World.drewN_drewN]; exact ⟨_, rfl⟩))); rintro e w' ⟨rfl, q3, rfl⟩)
      | (go_at_call 91; (with_reducible refine (H4.out _ ?_).mono ?_); (exact (by first | exact ⟨_, rfl⟩ | exact ⟨_, (World.drewN_drewN _ _ _).symm⟩ | exact Quiet.refl _ | (simp only [World.drewN_drewN]; exact ⟨_, rfl⟩))); rintro e w' ⟨rfl, q4, rfl⟩))
    go_ret
    exact ⟨by rw [HE.out]; rfl, (by first | exact ⟨_, rfl⟩ | exact ⟨_, (World.drewN_drewN _ _ _).symm⟩ | exact Quiet.refl _ | (simp only [World.drewN_drewN]; exact ⟨_, rfl⟩))⟩
  rcases t2 with _ | _
  · have HE : Hid (alikeB a b = false) := by show _ = _; rw [alikeB, ← HT1.out, ← HT2.out]; rfl
    go_enter Try.func52, Try.ntmps52
    go_wp2_with (first
      | (go_at_call 90; (with_reducible refine (H1.out _ ?_).mono ?_); (exact (by first | exact ⟨_, rfl⟩ | exact ⟨_, (World.drewN_drewN _ _ _).symm⟩ | exact Quiet.refl _ | (simp only [World.drewN_drewN]; exact ⟨_, rfl⟩))); rintro e w' ⟨rfl, q1, rfl⟩)
      | (go_at_call 90; (with_reducible refine (H2.out _ ?_).mono ?_); (exact (by first | exact ⟨_, rfl⟩ | exact ⟨_, (World.drewN_drewN _ _ _).symm⟩ | exact Quiet.refl _ | (simp only [World.drewN_drewN]; exact ⟨_, rfl⟩))); rintro e w' ⟨rfl, q2, rfl⟩)
      | (go_at_call 91; (with_reducible refine (H3.out _ ?_).mono ?_); (exact (by first | exact ⟨_, rfl⟩ | exact ⟨_, (World.drewN_drewN _ _ _).symm⟩ | exact Quiet.refl _ | (simp only [World.drewN_drewN]; exact ⟨_, rfl⟩))); rintro e w' ⟨rfl, q3, rfl⟩)
      | (go_at_call 91; (with_reducible refine (H4.out _ ?_).mono ?_); (exact (by first | exact ⟨_, rfl⟩ | exact ⟨_, (World.drewN_drewN _ _ _).symm⟩ | exact Quiet.refl _ | (simp only [World.drewN_drewN]; exact ⟨_, rfl⟩))); rintro e w' ⟨rfl, q4, rfl⟩))
    go_ret
    exact ⟨by rw [HE.out]; rfl, (by first | exact ⟨_, rfl⟩ | exact ⟨_, (World.drewN_drewN _ _ _).symm⟩ | exact Quiet.refl _ | (simp only [World.drewN_drewN]; exact ⟨_, rfl⟩))⟩
  by_cases hnm : n = m
  · have HNM := Lib.hid hnm
    have hnb : ((n : Int) == (m : Int)) = true := by simp [hnm]
    have ha7 := (isStrB_iff.1 HT1.out.symm).1.2
    have hb7 := (isStrB_iff.1 HT2.out.symm).1.2
    rw [HA.out] at ha7
    rw [HB.out] at hb7
    obtain ⟨s1, hs1⟩ : ∃ s, s = sumL a := ⟨_, rfl⟩
    obtain ⟨s2, hs2⟩ : ∃ s, s = sumL b := ⟨_, rfl⟩
    have H3 : Hid (∀ W, Quiet w W → Calls Try.prog 91 #[.slice A n c] W (Gives W (.int .i64 s1))) := fun W ⟨q, hq⟩ => by rw [← hq, hs1]; exact sSum_any _ (HX.out.drewN q) (small_str HT1.out.symm) (by omega)
    have H4 : Hid (∀ W, Quiet w W → Calls Try.prog 91 #[.slice B m d] W (Gives W (.int .i64 s2))) := fun W ⟨q, hq⟩ => by rw [← hq, hs2]; exact sSum_any _ (HY.out.drewN q) (small_str HT2.out.symm) (by omega)
    have HE : Hid (alikeB a b = (s1 == s2)) := by
      show _ = _
      rw [alikeB, ← HT1.out, ← HT2.out, HA.out, HB.out, hnm, hs1, hs2]
      simp [BEq.beq]
    clear hnm hs1 hs2
    go_enter Try.func52, Try.ntmps52
    go_wp2_with (first
      | (go_at_call 90; (with_reducible refine (H1.out _ ?_).mono ?_); (exact (by first | exact ⟨_, rfl⟩ | exact ⟨_, (World.drewN_drewN _ _ _).symm⟩ | exact Quiet.refl _ | (simp only [World.drewN_drewN]; exact ⟨_, rfl⟩))); rintro e w' ⟨rfl, q1, rfl⟩)
      | (go_at_call 90; (with_reducible refine (H2.out _ ?_).mono ?_); (exact (by first | exact ⟨_, rfl⟩ | exact ⟨_, (World.drewN_drewN _ _ _).symm⟩ | exact Quiet.refl _ | (simp only [World.drewN_drewN]; exact ⟨_, rfl⟩))); rintro e w' ⟨rfl, q2, rfl⟩)
      | (go_at_call 91; (with_reducible refine (H3.out _ ?_).mono ?_); (exact (by first | exact ⟨_, rfl⟩ | exact ⟨_, (World.drewN_drewN _ _ _).symm⟩ | exact Quiet.refl _ | (simp only [World.drewN_drewN]; exact ⟨_, rfl⟩))); rintro e w' ⟨rfl, q3, rfl⟩)
      | (go_at_call 91; (with_reducible refine (H4.out _ ?_).mono ?_); (exact (by first | exact ⟨_, rfl⟩ | exact ⟨_, (World.drewN_drewN _ _ _).symm⟩ | exact Quiet.refl _ | (simp only [World.drewN_drewN]; exact ⟨_, rfl⟩))); rintro e w' ⟨rfl, q4, rfl⟩))
    go_ret
    exact ⟨by rw [HE.out]; rfl, (by first | exact ⟨_, rfl⟩ | exact ⟨_, (World.drewN_drewN _ _ _).symm⟩ | exact Quiet.refl _ | (simp only [World.drewN_drewN]; exact ⟨_, rfl⟩))⟩
  · have hnb : ((n : Int) == (m : Int)) = false := by simp; omega
    have HE : Hid (alikeB a b = false) := by
      show _ = _
      rw [alikeB, ← HT1.out, ← HT2.out, HA.out, HB.out, decide_eq_false hnm]; rfl
    clear hnm
    go_enter Try.func52, Try.ntmps52
    go_wp2_with (first
      | (go_at_call 90; (with_reducible refine (H1.out _ ?_).mono ?_); (exact (by first | exact ⟨_, rfl⟩ | exact ⟨_, (World.drewN_drewN _ _ _).symm⟩ | exact Quiet.refl _ | (simp only [World.drewN_drewN]; exact ⟨_, rfl⟩))); rintro e w' ⟨rfl, q1, rfl⟩)
      | (go_at_call 90; (with_reducible refine (H2.out _ ?_).mono ?_); (exact (by first | exact ⟨_, rfl⟩ | exact ⟨_, (World.drewN_drewN _ _ _).symm⟩ | exact Quiet.refl _ | (simp only [World.drewN_drewN]; exact ⟨_, rfl⟩))); rintro e w' ⟨rfl, q2, rfl⟩)
      | (go_at_call 91; (with_reducible refine (H3.out _ ?_).mono ?_); (exact (by first | exact ⟨_, rfl⟩ | exact ⟨_, (World.drewN_drewN _ _ _).symm⟩ | exact Quiet.refl _ | (simp only [World.drewN_drewN]; exact ⟨_, rfl⟩))); rintro e w' ⟨rfl, q3, rfl⟩)
      | (go_at_call 91; (with_reducible refine (H4.out _ ?_).mono ?_); (exact (by first | exact ⟨_, rfl⟩ | exact ⟨_, (World.drewN_drewN _ _ _).symm⟩ | exact Quiet.refl _ | (simp only [World.drewN_drewN]; exact ⟨_, rfl⟩))); rintro e w' ⟨rfl, q4, rfl⟩))
    go_ret
    exact ⟨by rw [HE.out]; rfl, (by first | exact ⟨_, rfl⟩ | exact ⟨_, (World.drewN_drewN _ _ _).symm⟩ | exact Quiet.refl _ | (simp only [World.drewN_drewN]; exact ⟨_, rfl⟩))⟩
end Go.Proofs.Ytnljlophgolejaa

/- The closure of CountPuzzles; CountPuzzles of the program. -/
namespace Go.Proofs.Ytnljlophgolejaa
open Go.RowKit

/-- A call of a function that has a body is entered. -/
theorem ent_of {P : Program} {f : FuncId} {fn : Func} {c : Code} (hf : P.funcs[f]? = some fn) (hname : (fn.name == "runtime.NumGoroutine") = false) (hb : fn.body = some c) (args : Array Value) (w : World) :
    (callFunc f args).run P w = .ok (.enter f args) w := by
  have h1 : fn.name ≠ "runtime.NumGoroutine" := by simpa using hname
  simp [callFunc, hf, h1, hb]
theorem puz_len {n : Nat} {L R B : List Int} {wt : Bool} (h : puzB (n : Int) L R B wt = true) : (L.length ≤ 36 ∧ R.length ≤ 36 ∧ B.length ≤ 36) ∧ 1 ≤ n ∧ n ≤ 7 := by
  unfold puzB at h
  rw [Bool.and_eq_true] at h
  obtain ⟨h1, h2, h3, h4⟩ := sizesB_iff.1 h.1
  have h5 := inB_iff.1 h1
  rw [Int.toNat_natCast] at h2 h3 h4
  have := tri_small (n := n) (by omega)
  omega
/-- A puzzle counts if it has the third side. -/
def cntS (n : Nat) (c : List Int) (s : Int) (p : PZ) : Int := if sideB n p.2.2 n = c then s + 1 else s
theorem cntS_le {n : Nat} {c : List Int} {s : Int} {p : PZ} : s ≤ cntS n c s p ∧ cntS n c s p ≤ s + 1 := by unfold cntS; split <;> omega
def okP (n : Nat) (p : PZ) : Prop := puzB (n : Int) p.1 p.2.1 p.2.2 true = true
/-- What the closure's variables hold. -/
structure CntI (w0 : World) (gc gn : Nat) (Ac : Option Addr) (nc cc : Nat) (w : World) (s : Int) (O : Nat → Prop) : Prop where
  own : ∀ k, O k ↔ k = gc ∨ k = gn
  bc : BK w gc 22 [.slice Ac nc cc]
  bn : BK w gn 3 [.int .i64 s]
  bel : Below w0.heap.size w0 w

set_option maxRecDepth 100000 in
set_option maxHeartbeats 1000000 in
theorem seeC_any {w0 w : World} {gc gn : Nat} {Ac : Option Addr} {nc cc n : Nat} {c : List Int} {s : Int} {O : Nat → Prop} {p : PZ} {B : Nat} {A1 A2 A3 : Option Addr} {n1 n2 n3 c1 c2 c3 : Nat}
    (hc : RI w0 Ac nc c) (hnc : nc ≤ 1000000000) (hg : w0.heap.size ≤ gc ∧ w0.heap.size ≤ gn ∧ gc ≠ gn) (hi : CntI w0 gc gn Ac nc cc w s O) (hs : 0 ≤ s ∧ s ≤ 1000000000000) (hp : okP n p) (hB : B ≤ w.heap.size) (hO : ∀ k, O k → k < B)
    (ht : Three w B (.slice A1 n1 c1) (.slice A2 n2 c2) (.slice A3 n3 c3) p.1 p.2.1 p.2.2) :
    Calls Try.prog 58 #[.agg #[.int .i64 (n : Int), .slice A1 n1 c1, .slice A2 n2 c2, .slice A3 n3 c3], .pointer (some ⟨gc, 0, none⟩), .pointer (some ⟨gn, 0, none⟩)] w
      (fun e w' => e = .returned (.bool true) ∧ ∃ O' : Nat → Prop, CntI w0 gc gn Ac nc cc w' (cntS n c s p) O' ∧ (∀ k, O' k → O k ∨ B ≤ k) ∧ Kept O w w') := by
  have hlen := puz_len hp
  have r1 := ht.1.ri
  have r2 := ht.2.1.ri
  have r3 := ht.2.2.1.ri
  have e1 := r1.1
  have e2 := r2.1
  have e3 := r3.1
  have hgcn := hi.bc.lt
  have hgnn := hi.bn.lt
  have HI := Lib.hid hi
  have HP := Lib.hid hp
  have HC := Lib.hid hc
  have R1 := Lib.hid r1
  have R2 := Lib.hid r2
  have R3 := Lib.hid r3
  have hn1 : n1 ≤ 36 := by omega
  have hn2 : n2 ≤ 36 := by omega
  have hn3 : n3 ≤ 36 := by omega
  obtain ⟨hg1, hg2, hg3⟩ := hg
  clear hi hp hc ht r1 r2 r3 e1 e2 e3 hlen
  go_enter Try.func58, Try.ntmps58
  go_wp2_with fail
  refine (iSides_yes c1 c2 c3 n (R1.out.alloc _) (R2.out.alloc _) (R3.out.alloc _) (by omega) (by omega) (by omega) HP.out).mono ?_
  rintro e w1 ⟨A4, n4, c4, A5, n5, c5, A6, n6, c6, rfl, t1, b1'⟩
  have b1 : Below w.heap.size w w1 := ((Below.refl _ _).alloc (Nat.le_refl _) _).trans (b1'.mono (by simp))
  have kc := HI.out.bc.below b1 hgcn
  have kn := HI.out.bn.below b1 hgnn
  have f1 := kc.cell (j := 0) rfl
  have f2 := kn.cell (j := 0) rfl
  have z2 := kn.frozen (j := 0)
  have r6 := t1.2.2.1.ri
  have hn6 : n6 = n := by rw [← r6.1]; exact gen_len _ _
  have hl7 := (puz_len HP.out).2.2
  have bw0 := HI.out.bel.trans (b1.mono HI.out.bel.size)
  have rc := HC.out.below bw0
  have HE : Hid (∀ W, Below w1.heap.size w1 W → Calls Try.prog 59 #[.slice A6 n6 c6, .slice Ac nc cc] W (Gives W (.bool (decide (sideB n p.2.2 n = c))))) := fun W bW => equal_any _ _ _ (r6.below bW) (rc.below bW) rfl (by omega) (by omega)
  have KC := Lib.hid kc
  have KN := Lib.hid kn
  have HB1 := Lib.hid b1
  have HB0 := Lib.hid bw0
  obtain ⟨t, htt⟩ : ∃ t, t = decide (sideB n p.2.2 n = c) := ⟨_, rfl⟩
  rw [← htt] at HE
  have HTT := Lib.hid htt
  clear t1 b1' b1 kc kn r6 hn6 rc bw0 htt
  have fin : ∀ (W : World) (s' : Int), s' = cntS n c s p → W.os = w1.os → W.tape = w1.tape → W.output = w1.output → W.heap.size = w1.heap.size → (∀ k, k ≠ gn → W.heap[k]? = w1.heap[k]?) → BK W gn 3 [.int .i64 s'] → ∃ O' : Nat → Prop, CntI w0 gc gn Ac nc cc W (cntS n c s p) O' ∧ (∀ k, O' k → O k ∨ B ≤ k) ∧ Kept O w W := by
    intro W s' hs' h1 h2 h3 h4 h5 h6
    have kk : Kept O w W := ⟨h1.trans HB1.out.os, h2.trans HB1.out.tape, h3.trans HB1.out.output, by rw [h4]; exact HB1.out.size, fun k hk hn => (h5 k (fun e => hn ((HI.out.own k).2 (.inr e)))).trans (HB1.out.block k hk)⟩
    refine ⟨O, ⟨HI.out.own, KC.out.same (h5 gc hg3), by rw [← hs']; exact h6, ⟨h1.trans HB0.out.os, h2.trans HB0.out.tape, h3.trans HB0.out.output, by rw [h4]; exact HB0.out.size, fun k hk => (h5 k (by omega)).trans (HB0.out.block k hk)⟩⟩, fun k h => .inl h, kk⟩
  have HFIN := Lib.hid fin
  clear fin
  rcases t with _ | _
  · go_wp2_with (go_at_call 59; (with_reducible refine (HE.out _ ?_).mono ?_); (exact Below.refl _ _); rintro e w2 ⟨rfl, q2, rfl⟩)
    go_ret
    exact ⟨rfl, HFIN.out _ s (by rw [cntS, if_neg (of_decide_eq_false HTT.out.symm)]) rfl rfl rfl rfl (fun _ _ => rfl) KN.out⟩
  · have hw : IntKind.i64.wrap (s + 1) = s + 1 := IntWalk.i64_in _ (by omega)
    go_wp2_with (go_at_call 59; (with_reducible refine (HE.out _ ?_).mono ?_); (exact Below.refl _ _); rintro e w2 ⟨rfl, q2, rfl⟩)
    go_ret
    refine ⟨rfl, HFIN.out _ (s + 1) (by rw [cntS, if_pos (of_decide_eq_true HTT.out.symm)]) rfl rfl rfl (by simp [World.setCell]) (fun k hk => Below.heap_setCell _ _ _ _ (by simpa using hk)) ?_⟩
    exact KN.out.set 0 _

theorem cntC {w0 : World} {gc gn : Nat} {Ac : Option Addr} {nc cc n : Nat} {c : List Int} (hc : RI w0 Ac nc c) (hnc : nc ≤ 1000000000) (hg : w0.heap.size ≤ gc ∧ w0.heap.size ≤ gn ∧ gc ≠ gn) :
    Clos Try.prog 58 #[.pointer (some ⟨gc, 0, none⟩), .pointer (some ⟨gn, 0, none⟩)] w0.heap.size n Int (CntI w0 gc gn Ac nc cc) (cntS n c) (fun _ _ => true) (fun s m => 0 ≤ s ∧ s + m ≤ 1000000000000) (okP n) where
  ent := ent_of Try.func58 (by kernel_rfl) rfl
  ge hi k hk := by
    rcases (hi.own k).1 hk with rfl | rfl
    · exact ⟨hg.1, hi.bc.lt⟩
    · exact ⟨hg.2.1, hi.bn.lt⟩
  keep hi hk := ⟨hi.own, hi.bc.same (hk.block _ hi.bc.lt fun h => h.2 ((hi.own _).2 (.inl rfl))), hi.bn.same (hk.block _ hi.bn.lt fun h => h.2 ((hi.own _).2 (.inr rfl))), hi.bel.trans (hk.low (fun k h => h.1) hi.bel.size)⟩
  next := fun {s p m} h _ => by
    have h1 := h.1
    have h2 := h.2
    have h3 := cntS_le (n := n) (c := c) (s := s) (p := p)
    exact ⟨by omega, by omega⟩
  less h hm := by have := h.2; exact ⟨h.1, by omega⟩
  call hi hf hp _ hB hO ht := seeC_any hc hnc hg hi ⟨hf.1, by have := hf.2; omega⟩ hp hB hO ht
end Go.Proofs.Ytnljlophgolejaa
