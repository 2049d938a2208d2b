/- ShapeProduct of the program and of the reference. -/
import Derived.Test.YteodckkkjhapgaaGrW
import Derived.Test.YteodckkkjhapgaaShP
namespace Go.Proofs.Yteodckkkjhapgaa
open Go.RowKit

set_option maxHeartbeats 1000000 in
theorem l4Small_any {A : Option Addr} {n : Nat} {l : List Int} {w : World} (c : Nat) (hx : RI w A n l) (hn : n ≤ 1000000000) :
    Calls Try.prog 97 #[.slice A n c] w (Gives w (.bool (smallB l))) := by
  have HIS : Hid (∀ W, RI W A n l → Calls Try.prog 92 #[.slice A n c] W (Gives W (.bool (isShapeB l)))) := fun W h => sIsShape_any _ h hn
  rcases hs : isShapeB l with _ | _
  · have HO := Lib.hid (smallB_no hs)
    go_enter Try.func97, Try.ntmps97
    go_wp2_with (go_at_call 92; (with_reducible refine (HIS.out _ ?_).mono ?_); (first | exact hx | exact hx.drewN _); rintro e w' ⟨rfl, q0, rfl⟩)
    go_ret
    rw [HO.out]
    exact ⟨rfl, (by first | exact ⟨_, rfl⟩ | exact ⟨_, (World.drewN_drewN _ _ _).symm⟩ | exact Quiet.refl _ | (simp only [World.drewN_drewN]; exact ⟨_, rfl⟩))⟩
  · have HO := Lib.hid (smallB_yes hs)
    have hlen : n ≤ 16 := by have := (SD.of (K := 16) (M := 16) hs (by have h2 := hs; simp only [isShapeB, Bool.and_eq_true, decide_eq_true_eq] at h2; exact h2.1) (shape_range hs 0).2).len; rw [hx.1] at this; exact this
    have HSS : Hid (∀ W, RI W A n l → Calls Try.prog 89 #[.slice A n c] W (Gives W (.int .i64 (sumL l)))) := fun W h => sSum_any _ h (small_shape hs) (by omega)
    obtain ⟨S, hS⟩ : ∃ S, S = sumL l := ⟨_, rfl⟩
    have HSE := Lib.hid hS
    rw [← hS] at HSS HO
    clear hS
    go_enter Try.func97, Try.ntmps97
    go_wp2_with (first | (go_at_call 92; (with_reducible refine (HIS.out _ ?_).mono ?_); (first | exact hx | exact hx.drewN _); rintro e w' ⟨rfl, q0, rfl⟩) | (go_at_call 89; (with_reducible refine (HSS.out _ ?_).mono ?_); (first | exact hx | exact hx.drewN _); rintro e w' ⟨rfl, q1, rfl⟩))
    go_ret
    rw [HO.out]
    exact ⟨rfl, (by first | exact ⟨_, rfl⟩ | exact ⟨_, (World.drewN_drewN _ _ _).symm⟩ | exact Quiet.refl _ | (simp only [World.drewN_drewN]; exact ⟨_, rfl⟩))⟩
set_option maxHeartbeats 1000000 in
theorem iSmall_any {A : Option Addr} {n : Nat} {l : List Int} {w : World} (c : Nat) (hx : RI w A n l) (hn : n ≤ 1000000000) :
    Calls Try.prog 99 #[.slice A n c] w (Gives w (.bool (smallB l))) := by
  have HIS : Hid (∀ W, RI W A n l → Calls Try.prog 84 #[.slice A n c] W (Gives W (.bool (isShapeB l)))) := fun W h => iIsShape_any _ h hn
  rcases hs : isShapeB l with _ | _
  · have HO := Lib.hid (smallB_no hs)
    go_enter Try.func99, Try.ntmps99
    go_wp2_with (go_at_call 84; (with_reducible refine (HIS.out _ ?_).mono ?_); (first | exact hx | exact hx.drewN _); rintro e w' ⟨rfl, q0, rfl⟩)
    go_ret
    rw [HO.out]
    exact ⟨rfl, (by first | exact ⟨_, rfl⟩ | exact ⟨_, (World.drewN_drewN _ _ _).symm⟩ | exact Quiet.refl _ | (simp only [World.drewN_drewN]; exact ⟨_, rfl⟩))⟩
  · have HO := Lib.hid (smallB_yes hs)
    have hlen : n ≤ 16 := by have := (SD.of (K := 16) (M := 16) hs (by have h2 := hs; simp only [isShapeB, Bool.and_eq_true, decide_eq_true_eq] at h2; exact h2.1) (shape_range hs 0).2).len; rw [hx.1] at this; exact this
    have HSS : Hid (∀ W, RI W A n l → Calls Try.prog 76 #[.slice A n c] W (Gives W (.int .i64 (sumL l)))) := fun W h => iSum_any _ h (small_shape hs) (by omega)
    obtain ⟨S, hS⟩ : ∃ S, S = sumL l := ⟨_, rfl⟩
    have HSE := Lib.hid hS
    rw [← hS] at HSS HO
    clear hS
    go_enter Try.func99, Try.ntmps99
    go_wp2_with (first | (go_at_call 84; (with_reducible refine (HIS.out _ ?_).mono ?_); (first | exact hx | exact hx.drewN _); rintro e w' ⟨rfl, q0, rfl⟩) | (go_at_call 76; (with_reducible refine (HSS.out _ ?_).mono ?_); (first | exact hx | exact hx.drewN _); rintro e w' ⟨rfl, q1, rfl⟩))
    go_ret
    rw [HO.out]
    exact ⟨rfl, (by first | exact ⟨_, rfl⟩ | exact ⟨_, (World.drewN_drewN _ _ _).symm⟩ | exact Quiet.refl _ | (simp only [World.drewN_drewN]; exact ⟨_, rfl⟩))⟩

set_option maxRecDepth 100000 in
set_option maxHeartbeats 1000000 in
theorem sSh_any {w : World} {Aa Ab : Option Addr} {na nb ba bb : Nat} {a b : List Int} (ca cb : Nat) (ha : OI w ba (.slice Aa na ca) a) (hb : OI w bb (.slice Ab nb cb) b) (hna : na ≤ 1000000000) (hnb : nb ≤ 1000000000) :
    Calls Try.prog 44 #[.slice Aa na ca, .slice Ab nb cb] w (MakesPb w (shB a b) (shOk a b)) := by
  have hax := ha.ri
  have hbx := hb.ri
  have HBA : Hid (∀ W, RI W Aa na a → Calls Try.prog 97 #[.slice Aa na ca] W (Gives W (.bool (smallB a)))) := fun W h => l4Small_any _ h hna
  have HBB : Hid (∀ W, RI W Ab nb b → Calls Try.prog 97 #[.slice Ab nb cb] W (Gives W (.bool (smallB b)))) := fun W h => l4Small_any _ h hnb
  rcases h1 : smallB a with _ | _
  · have HO : Hid (shOk a b = false) := by show _ = _; simp [shOk, h1]
    have HE := Lib.hid (shB_no HO.out)
    go_enter Try.func44, Try.ntmps44
    go_wp2_with (go_at_call 97; (with_reducible refine (HBA.out _ ?_).mono ?_); (first | exact hax | exact hax.drewN _); rintro e w' ⟨rfl, q0, rfl⟩)
    go_ret2
    rw [HE.out, HO.out]
    exact MakesPb.of (OF.nil_ _ _ _ _ _) (Quiet.below ⟨_, rfl⟩)
  rcases h2 : smallB b with _ | _
  · have HO : Hid (shOk a b = false) := by show _ = _; simp [shOk, h2]
    have HE := Lib.hid (shB_no HO.out)
    go_enter Try.func44, Try.ntmps44
    go_wp2_with (first | (go_at_call 97; (with_reducible refine (HBA.out _ ?_).mono ?_); (first | exact hax | exact hax.drewN _); rintro e w' ⟨rfl, q0, rfl⟩) | (go_at_call 97; (with_reducible refine (HBB.out _ ?_).mono ?_); (first | exact hbx | exact hbx.drewN _); rintro e w' ⟨rfl, q1, rfl⟩))
    go_ret2
    rw [HE.out, HO.out]
    exact MakesPb.of (OF.nil_ _ _ _ _ _) (Quiet.below ⟨_, rfl⟩)
  · have HO : Hid (shOk a b = true) := by show _ = _; simp [shOk, h1, h2]
    have HE := Lib.hid (shB_yes HO.out)
    have hA := smallB_SD h1
    have hB := smallB_SD h2
    have hbl := hB.len
    rw [hbx.1] at hbl
    have HFL : Hid (∀ W : World, Below w.heap.size w W → Calls Try.prog 98 #[.slice Aa na ca, .slice Ab nb cb, .int .i64 16, .int .i64 16] W (MakesP W (fillB a b 16 16))) := fun W bW =>
      l4Product_any (rows := 16) (M := 16) ca cb (hax.below bW) ha.caps.1 (hbx.below bW) hA hB.lo (fun c hc => by have := hB.nats c hc; omega) (by omega) (by omega) (by omega) (Nat.le_trans (sh_len h2) (by omega))
    clear ha hb hA hB
    go_enter Try.func44, Try.ntmps44
    go_wp2_with (first | (go_at_call 97; (with_reducible refine (HBA.out _ ?_).mono ?_); (first | exact hax | exact hax.drewN _); rintro e w' ⟨rfl, q0, rfl⟩) | (go_at_call 97; (with_reducible refine (HBB.out _ ?_).mono ?_); (first | exact hbx | exact hbx.drewN _); rintro e w' ⟨rfl, q1, rfl⟩))
    refine (HFL.out _ (Quiet.below ⟨_, rfl⟩)).mono ?_
    rintro e w1 ⟨A1, n1, c1, cells, rfl, o1, l1, ⟨cp1, le1⟩, bl1⟩
    go_wp2
    go_ret2
    rw [HE.out, HO.out]
    exact MakesPb.of (by simpa using o1) ((Quiet.below ⟨_, rfl⟩).trans (by simpa using bl1))
set_option maxRecDepth 100000 in
set_option maxHeartbeats 1000000 in
theorem iSh_any {w : World} {Aa Ab : Option Addr} {na nb ba bb : Nat} {a b : List Int} (ca cb : Nat) (ha : OI w ba (.slice Aa na ca) a) (hb : OI w bb (.slice Ab nb cb) b) (hna : na ≤ 1000000000) (hnb : nb ≤ 1000000000) :
    Calls Try.prog 45 #[.slice Aa na ca, .slice Ab nb cb] w (MakesPb w (shB a b) (shOk a b)) := by
  have hax := ha.ri
  have hbx := hb.ri
  have HBA : Hid (∀ W, RI W Aa na a → Calls Try.prog 99 #[.slice Aa na ca] W (Gives W (.bool (smallB a)))) := fun W h => iSmall_any _ h hna
  have HBB : Hid (∀ W, RI W Ab nb b → Calls Try.prog 99 #[.slice Ab nb cb] W (Gives W (.bool (smallB b)))) := fun W h => iSmall_any _ h hnb
  rcases h1 : smallB a with _ | _
  · have HO : Hid (shOk a b = false) := by show _ = _; simp [shOk, h1]
    have HE := Lib.hid (shB_no HO.out)
    go_enter Try.func45, Try.ntmps45
    go_wp2_with (go_at_call 99; (with_reducible refine (HBA.out _ ?_).mono ?_); (first | exact hax | exact hax.drewN _); rintro e w' ⟨rfl, q0, rfl⟩)
    go_ret2
    rw [HE.out, HO.out]
    exact MakesPb.of (OF.nil_ _ _ _ _ _) (Quiet.below ⟨_, rfl⟩)
  rcases h2 : smallB b with _ | _
  · have HO : Hid (shOk a b = false) := by show _ = _; simp [shOk, h2]
    have HE := Lib.hid (shB_no HO.out)
    go_enter Try.func45, Try.ntmps45
    go_wp2_with (first | (go_at_call 99; (with_reducible refine (HBA.out _ ?_).mono ?_); (first | exact hax | exact hax.drewN _); rintro e w' ⟨rfl, q0, rfl⟩) | (go_at_call 99; (with_reducible refine (HBB.out _ ?_).mono ?_); (first | exact hbx | exact hbx.drewN _); rintro e w' ⟨rfl, q1, rfl⟩))
    go_ret2
    rw [HE.out, HO.out]
    exact MakesPb.of (OF.nil_ _ _ _ _ _) (Quiet.below ⟨_, rfl⟩)
  · have HO : Hid (shOk a b = true) := by show _ = _; simp [shOk, h1, h2]
    have HE := Lib.hid (shB_yes HO.out)
    have hA := smallB_SD h1
    have hB := smallB_SD h2
    have hbl := hB.len
    rw [hbx.1] at hbl
    have HFL : Hid (∀ W : World, Below w.heap.size w W → Calls Try.prog 100 #[.slice Aa na ca, .slice Ab nb cb, .int .i64 16, .int .i64 16] W (MakesP W (fillB a b 16 16))) := fun W bW => by
      have h3 := fillings_any (rows := 16) (most := 16) (a := a) (bs := natsOf b) (w := W) ca cb (hax.below bW) (by rw [fI_nats hB.lo]; exact RT.of_OI (OI.below hb bW)) hb.caps.1 hb.caps.2 (by omega) (by rw [← hax.1]; exact hA.len) (by omega) (fun j => by have h1 := hA.lo j; have h2 := hA.top j; omega) (fun c hc => by have := hB.nats c hc; omega) (by rw [fI_nats hB.lo]; exact Nat.le_trans (sh_len h2) (by omega))
      rw [fI_nats hB.lo] at h3
      exact h3
    clear ha hb hA hB
    go_enter Try.func45, Try.ntmps45
    go_wp2_with (first | (go_at_call 99; (with_reducible refine (HBA.out _ ?_).mono ?_); (first | exact hax | exact hax.drewN _); rintro e w' ⟨rfl, q0, rfl⟩) | (go_at_call 99; (with_reducible refine (HBB.out _ ?_).mono ?_); (first | exact hbx | exact hbx.drewN _); rintro e w' ⟨rfl, q1, rfl⟩))
    refine (HFL.out _ (Quiet.below ⟨_, rfl⟩)).mono ?_
    rintro e w1 ⟨A1, n1, c1, cells, rfl, o1, l1, ⟨cp1, le1⟩, bl1⟩
    go_wp2
    go_ret2
    rw [HE.out, HO.out]
    exact MakesPb.of (by simpa using o1) ((Quiet.below ⟨_, rfl⟩).trans (by simpa using bl1))
end Go.Proofs.Yteodckkkjhapgaa
