/- HasPattern and IsVexillary of the program, at a permutation. -/
import Derived.Test.YtgbojgmmingfdaaVexW
namespace Go.Proofs.Ytgbojgmmingfdaa
open Go.RowKit

set_option maxRecDepth 100000 in
set_option maxHeartbeats 2000000 in
theorem hasPat_any {A B : Option Addr} {n m : Nat} {l p : List Int} {w : World} (c d : Nat) (hx : RI w A n l) (hy : RI w B m p) (hp : permB l = true) (hq : permB p = true) :
    Calls Try.prog 96 #[.slice A n c, .slice B m d] w (GivesB w (.bool (holdB m l p 0 []))) := by
  have HX := Lib.hid hx
  have HY := Lib.hid hy
  have hsz := permB_size hp
  have hsz2 := permB_size hq
  rw [hx.1] at hsz
  rw [hy.1] at hsz2
  have HI1 : Hid (∀ W, Below w.heap.size w W → Calls Try.prog 94 #[.slice A n c] W (GivesB W (.bool true))) := fun W b => by
    have h := isPerm_any c (HX.out.below b) (by omega)
    rw [hp] at h; exact h
  have HI2 : Hid (∀ W, Below w.heap.size w W → Calls Try.prog 94 #[.slice B m d] W (GivesB W (.bool true))) := fun W b => by
    have h := isPerm_any d (HY.out.below b) (by omega)
    rw [hq] at h; exact h
  have HH : Hid (∀ W, Below w.heap.size w W → Calls Try.prog 158 #[.slice A n c, .slice B m d, .int .i64 0, .slice none 0 0] W (GivesB W (.bool (holdB m l p 0 [])))) := fun W b =>
    hold_all m W A B none n c m d 0 0 0 l p [] (HX.out.below b) (HY.out.below b) RI.nil_ hsz.2 hsz2.2 (by omega) (by omega)
  clear hx hy hp hq
  go_enter Try.func96, Try.ntmps96
  go_wp2_with (first
    | (go_at_call 94; first
        | ((with_reducible refine (HI1.out _ ?_).mono ?_); (exact Below.refl _ _); rintro e w1 ⟨rfl, b1⟩)
        | ((with_reducible refine (HI2.out _ ?_).mono ?_); (exact b1); rintro e w2 ⟨rfl, b2⟩))
    | (go_at_call 158; (with_reducible refine (HH.out _ ?_).mono ?_); (exact b1.trans (b2.mono b1.size)); rintro e w3 ⟨rfl, b3⟩)
    | fail)
  go_ret
  have h12 := b1.trans (b2.mono b1.size)
  exact ⟨rfl, h12.trans (b3.mono h12.size)⟩
set_option maxRecDepth 100000 in
set_option maxHeartbeats 2000000 in
theorem iVex_any {A : Option Addr} {n : Nat} {l : List Int} {w : World} (c : Nat) (hx : RI w A n l) (hp : permB l = true) :
    Calls Try.prog 29 #[.slice A n c] w (GivesB w (.bool (vexB l))) := by
  have HX := Lib.hid hx
  have hsz := permB_size hp
  rw [hx.1] at hsz
  have HV : Hid (vexB l = !(holdB 4 l [1, 0, 3, 2] 0 [])) := by show _ = _; rw [vexB, hp, Bool.true_and]
  have HI1 : Hid (Calls Try.prog 94 #[.slice A n c] w (GivesB w (.bool true))) := by
    have h := isPerm_any c hx (by omega)
    rw [hp] at h; exact h
  have HH : Hid (∀ W, Below w.heap.size w W → Calls Try.prog 96 #[.slice A n c, .slice (some ⟨W.heap.size, 0, none⟩) 4 4] (W.alloc (.cells #[.int .i64 1, .int .i64 0, .int .i64 3, .int .i64 2] 3)) (GivesB (W.alloc (.cells #[.int .i64 1, .int .i64 0, .int .i64 3, .int .i64 2] 3)) (.bool (holdB 4 l [1, 0, 3, 2] 0 [])))) := fun W b => by
    have ho := OI.lit W W.heap.size [1, 0, 3, 2] 4 rfl (Nat.le_refl _) (by simp)
    exact hasPat_any c 4 (HX.out.below (b.alloc b.size _)) ho.ri hp (by decide)
  clear hx
  go_enter Try.func29, Try.ntmps29
  go_wp2_with (first
    | (go_at_call 94; refine HI1.out.mono ?_; rintro e w1 ⟨rfl, b1⟩)
    | (go_at_call 96; (with_reducible refine (HH.out _ ?_).mono ?_); (exact b1); rintro e w3 ⟨rfl, b3⟩)
    | fail)
  go_ret
  have h12 := b1.alloc b1.size (.cells #[.int .i64 1, .int .i64 0, .int .i64 3, .int .i64 2] 3)
  exact ⟨by rw [HV.out]; rfl, h12.trans (b3.mono h12.size)⟩
end Go.Proofs.Ytgbojgmmingfdaa
