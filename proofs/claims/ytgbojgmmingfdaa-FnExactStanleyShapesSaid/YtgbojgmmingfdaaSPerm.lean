/- IsPerm of the reference. -/
import Derived.Test.YtgbojgmmingfdaaShapes
import Derived.Test.YtgbojgmmingfdaaPlain
namespace Go.Proofs.Ytgbojgmmingfdaa
open Go.RowKit

set_option maxRecDepth 100000 in
set_option maxHeartbeats 2000000 in
theorem sIsPerm_any {A : Option Addr} {n : Nat} {l : List Int} {w : World} (c : Nat) (hx : RI w A n l) (hn : n ≤ 1000000000) (hc : n ≤ c) :
    Calls Try.prog 138 #[.slice A n c] w (Gives w (.bool (permB l))) := by
  have HL : Hid (l.length = n) := hx.1
  have HX := Lib.hid hx
  have HI : Hid (∀ b, inB (n : Int) 1 7 = b → ∀ W, Calls Try.prog 59 #[.int .i64 (n : Int), .int .i64 1, .int .i64 7] W (Gives W (.bool b))) := fun b hb W => by have h := l1In_any (w := W) (n : Int) 1 7; rw [hb] at h; exact h
  clear hx
  rcases h1 : inB (n : Int) 1 7 with _ | _
  · have HE : Hid (permB l = false) := permB_len HL.out (by exact_mod_cast h1)
    have H1 := Lib.hid h1
    clear h1
    go_enter Try.func138, Try.ntmps138
    go_wp2_with (first | (go_at_call 59; refine (HI.out _ H1.out _).mono ?_; rintro e w2 ⟨rfl, q2, rfl⟩) | fail)
    go_ret
    exact ⟨by rw [HE.out]; rfl, (by first | exact ⟨_, rfl⟩ | exact ⟨_, (World.drewN_drewN _ _ _).symm⟩ | exact Quiet.refl _ | (simp only [World.drewN_drewN]; exact ⟨_, rfl⟩))⟩
  have H1 := Lib.hid h1
  have h17 := inB_iff.1 h1
  clear h1
  go_enter Try.func138, Try.ntmps138
  go_wp2_with (first | (go_at_call 59; refine (HI.out _ H1.out _).mono ?_; rintro e w2 ⟨rfl, q2, rfl⟩) | fail)
  clear HI
  go_loopw [3] (fun i wr => ∃ k : Nat, k ≤ n ∧ i = .int .i64 (k : Int) ∧ Quiet w wr ∧ Hid (∀ j, j < k → permAt l j = true)) (fun i _ => n - (intOf i).toNat)
  case atStart => exact ⟨0, Nat.zero_le _, rfl, (by first | exact ⟨_, rfl⟩ | exact ⟨_, (World.drewN_drewN _ _ _).symm⟩ | exact Quiet.refl _ | (simp only [World.drewN_drewN]; exact ⟨_, rfl⟩)), fun j hj => by omega⟩
  case round =>
    obtain ⟨k, hk, rfl, ⟨q, rfl⟩, HT⟩ := hrel
    by_cases hlt : k < n
    · obtain ⟨ad, rfl, z0⟩ := HX.out.cell hlt
      obtain ⟨x, hxx⟩ : ∃ x, x = nth l k := ⟨_, rfl⟩
      rw [← hxx] at z0
      have HXX := Lib.hid hxx
      have HIX : Hid (∀ b, inB x 0 ((n : Int) - 1) = b → ∀ q', Calls Try.prog 59 #[.int .i64 x, .int .i64 0, .int .i64 ((n : Int) - 1)] (w.drewN q') (Gives (w.drewN q') (.bool b))) := fun b hb q' => by have h := l1In_any (w := w.drewN q') x 0 ((n : Int) - 1); rw [hb] at h; exact h
      have HHS : Hid (∀ b, hasB (l.take k) x = b → ∀ q', Calls Try.prog 142 #[.slice (some ad) k c, .int .i64 x] (w.drewN q') (Gives (w.drewN q') (.bool b))) := fun b hb q' => by
        have h := l1Has_any (w := w.drewN q') c x ((HX.out.drewN q').take hk) (by omega)
        rw [hb] at h
        exact h
      have hw1 : IntKind.i64.wrap ((n : Int) - 1) = (n : Int) - 1 := IntWalk.i64_in _ (by omega)
      have hkn : (k : Int) < (n : Int) := by omega
      have hkc : (k : Int) ≤ (c : Int) := by omega
      have hk0 : (0 : Int) ≤ (k : Int) := by omega
      have hkc2 : k ≤ c := by omega
      clear hxx
      rcases hin : inB x 0 ((n : Int) - 1) with _ | _
      · have HE : Hid (permB l = false) := by
          have e : permAt l k = false := by
            unfold permAt
            rw [← HXX.out, HL.out, hin]; rfl
          exact permB_no HL.out hlt e
        have HC1 := Lib.hid (HIX.out _ hin)
        clear hin HIX HHS
        go_wp2_with fail
        go_quiet (first | (go_at_call 59; first | (with_reducible exact qcall (HC1.out _)) | (with_reducible exact qcall_add (HC1.out _))))
        go_wp2_with fail
        go_ret
        exact ⟨by rw [HE.out]; rfl, (by first | exact ⟨_, rfl⟩ | exact ⟨_, (World.drewN_drewN _ _ _).symm⟩ | exact Quiet.refl _ | (simp only [World.drewN_drewN]; exact ⟨_, rfl⟩))⟩
      · rcases hhs : hasB (l.take k) x with _ | _
        · have HOK : Hid (permAt l k = true) := by
            show _ = _
            unfold permAt
            rw [← HXX.out, HL.out, hin, hhs]; rfl
          have HC1 := Lib.hid (HIX.out _ hin)
          have HC2 := Lib.hid (HHS.out _ hhs)
          clear hin hhs HIX HHS
          go_wp2_with fail
          go_quiet (first | (go_at_call 59; first | (with_reducible exact qcall (HC1.out _)) | (with_reducible exact qcall_add (HC1.out _))) | (go_at_call 142; first | (with_reducible exact qcall (HC2.out _)) | (with_reducible exact qcall_add (HC2.out _))))
          go_wp2_with fail
          go_roundw
          case rel => exact ⟨k + 1, by omega, by go_num, (by first | exact ⟨_, rfl⟩ | exact ⟨_, (World.drewN_drewN _ _ _).symm⟩ | exact Quiet.refl _ | (simp only [World.drewN_drewN]; exact ⟨_, rfl⟩)), fun j hj => by
            by_cases h : j = k
            · subst h; exact HOK.out
            · exact HT.out j (by omega)⟩
          case measure => simp [intOf]; omega
        · have HE : Hid (permB l = false) := by
            have e : permAt l k = false := permAt_met (by rw [← HXX.out]; exact hhs)
            exact permB_no HL.out hlt e
          have HC1 := Lib.hid (HIX.out _ hin)
          have HC2 := Lib.hid (HHS.out _ hhs)
          clear hin hhs HIX HHS
          go_wp2_with fail
          go_quiet (first | (go_at_call 59; first | (with_reducible exact qcall (HC1.out _)) | (with_reducible exact qcall_add (HC1.out _))) | (go_at_call 142; first | (with_reducible exact qcall (HC2.out _)) | (with_reducible exact qcall_add (HC2.out _))))
          go_wp2_with fail
          go_ret
          exact ⟨by rw [HE.out]; rfl, (by first | exact ⟨_, rfl⟩ | exact ⟨_, (World.drewN_drewN _ _ _).symm⟩ | exact Quiet.refl _ | (simp only [World.drewN_drewN]; exact ⟨_, rfl⟩))⟩
    · have HE : Hid (permB l = true) := by
        show _ = _
        rw [permB_all HL.out fun j hj => HT.out j (by omega)]
        exact H1.out
      go_wp2
      go_ret
      exact ⟨by rw [HE.out]; rfl, (by first | exact ⟨_, rfl⟩ | exact ⟨_, (World.drewN_drewN _ _ _).symm⟩ | exact Quiet.refl _ | (simp only [World.drewN_drewN]; exact ⟨_, rfl⟩))⟩
end Go.Proofs.Ytgbojgmmingfdaa
