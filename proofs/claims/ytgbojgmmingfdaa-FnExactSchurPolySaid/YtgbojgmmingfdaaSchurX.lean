/- SchurPoly of the reference and of the program, as the statement asks for them. -/
import Derived.Test.YtgbojgmmingfdaaSchurW
import Derived.Test.YtgbojgmmingfdaaTermL
namespace Go.Proofs.Ytgbojgmmingfdaa
open Go.RowKit

def MakesTp (w : World) (ps : List (List Int × Int)) (ok : Bool) : Ending → World → Prop := fun e w' =>
  ∃ A n c cells, e = .returned (.tuple #[.slice A n c, .bool ok]) ∧ OTp w' w.heap.size w.heap.size (.slice A n c) ps cells ∧ ps.length = n ∧ (n ≤ c ∧ c ≤ 9223372036854775807) ∧ Below w.heap.size w w'
theorem MakesTm.tp {w w' : World} {ps : List (List Int × Int)} {ok : Bool} {e : Ending} (h : MakesTm w ps ok e w') : MakesTp w ps ok e w' := by
  obtain ⟨v, cells, h1, h2, h3⟩ := h
  have h4 := h2.tp
  obtain ⟨A, c, rfl, hc, hm, -⟩ := OF.form h4
  exact ⟨A, _, c, cells, h1, h4, rfl, ⟨hc, hm⟩, h3⟩
theorem poly_len {ps : List (List Int × Int)} (h : polyB ps = true) : ps.length ≤ 600 ∧ ∀ k, k < ps.length → (nthP ps k).1.length ≤ 100000 := by
  rw [polyB, Bool.and_eq_true, decide_eq_true_eq] at h
  refine ⟨h.1, fun k hk => ?_⟩
  have h2 := h.2
  rw [List.all_eq_true] at h2
  have h3 := h2 k (List.mem_range.2 hk)
  rw [Bool.and_eq_true] at h3
  have h4 := h3.1
  simp only [termB, Bool.and_eq_true, decide_eq_true_eq] at h4
  omega
theorem schurR_small {ms : List Int} {n : Int} : (schurR ms n).length ≤ 10000 ∧ ∀ k, k < (schurR ms n).length → (nthP (schurR ms n) k).1.length ≤ 100000 := by
  unfold schurR
  by_cases h : schurB ms n = true
  · rw [if_pos h]
    have h2 : polyB (schurT ms n) = true := by
      unfold schurB shutB at h
      simp only [Bool.and_eq_true] at h
      exact h.2.2
    have := poly_len h2
    exact ⟨by omega, this.2⟩
  · rw [if_neg h]
    exact ⟨by simp, fun k hk => by simp at hk⟩
theorem iSchurP_any {w : World} {A : Option Addr} {m b0 : Nat} {ms : List Int} (c : Nat) (n : Int) (hx : OI w b0 (.slice A m c) ms) (hm : m ≤ 1000000000) (hn : -9223372036854775808 ≤ n ∧ n ≤ 9223372036854775807) :
    Calls Try.prog 11 #[.slice A m c, .int .i64 n] w (MakesTp w (schurR ms n) (schurB ms n)) := (iSchur_any c n hx.ri hm hn).mono fun _ _ h => h.tp
set_option maxRecDepth 100000 in
set_option maxHeartbeats 1000000 in
theorem sSchurM_any {w : World} {A : Option Addr} {m b0 : Nat} {ms : List Int} (c : Nat) (n : Int) (hx : OI w b0 (.slice A m c) ms) (hm : m ≤ 1000000000) (hn : -9223372036854775808 ≤ n ∧ n ≤ 9223372036854775807) :
    Calls Try.prog 9 #[.slice A m c, .int .i64 n] w (MakesTm w (schurR ms n) (schurB ms n)) := by
  have hr := hx.ri
  have HIS : Hid (∀ W, RI W A m ms → Calls Try.prog 57 #[.slice A m c] W (Gives W (.bool (isShapeB ms)))) := fun W h => sIsShape_any _ h hm
  rcases h0 : isShapeB ms with _ | _
  · have HE := Lib.hid (schurB_no (n := n) (by simp [schurOk, smallB, h0] : schurOk ms n = false))
    rw [h0] at HIS
    clear h0
    go_enter Try.func9, Try.ntmps9
    go_wp2_with (go_at_call 57; (with_reducible refine (HIS.out _ ?_).mono ?_); (first | exact hr | exact hr.drewN _); rintro e w' ⟨rfl, q0, rfl⟩)
    go_ret2
    rw [HE.out.1, HE.out.2]
    exact ⟨_, _, rfl, OF.nil_ _ _ _ _ _, Quiet.below ⟨_, rfl⟩⟩
  have hlen : m ≤ 16 := by have h2 := h0; simp only [isShapeB, Bool.and_eq_true, decide_eq_true_eq] at h2; rw [← hr.1]; exact h2.1
  have HSS : Hid (∀ W, RI W A m ms → Calls Try.prog 58 #[.slice A m c] W (Gives W (.int .i64 (sumL ms)))) := fun W h => sSum_any _ h (small_shape h0) (by omega)
  obtain ⟨S, hS⟩ : ∃ S, S = sumL ms := ⟨_, rfl⟩
  have HSE := Lib.hid hS
  rw [← hS] at HSS
  clear hS
  rw [h0] at HIS
  by_cases h8 : 8 < S
  · have HE := Lib.hid (schurB_no (n := n) (by have := HSE.out; simp [schurOk, smallB]; intro _ h; omega : schurOk ms n = false))
    go_enter Try.func9, Try.ntmps9
    go_wp2_with (first | (go_at_call 57; (with_reducible refine (HIS.out _ ?_).mono ?_); (first | exact hr | exact hr.drewN _); rintro e w' ⟨rfl, q0, rfl⟩) | (go_at_call 58; (with_reducible refine (HSS.out _ ?_).mono ?_); (first | exact hr | exact hr.drewN _); rintro e w' ⟨rfl, q1, rfl⟩))
    go_ret2
    rw [HE.out.1, HE.out.2]
    exact ⟨_, _, rfl, OF.nil_ _ _ _ _ _, Quiet.below (by first | exact ⟨_, rfl⟩ | exact ⟨_, (World.drewN_drewN _ _ _).symm⟩ | exact Quiet.refl _ | (simp only [World.drewN_drewN]; exact ⟨_, rfl⟩))⟩
  have HIN : Hid (∀ W, Calls Try.prog 59 #[.int .i64 n, .int .i64 0, .int .i64 7] W (Gives W (.bool (inB n 0 7)))) := fun W => l1In_any _ _ _
  rcases h7 : inB n 0 7 with _ | _
  · have HE := Lib.hid (schurB_no (n := n) (by simp [schurOk, h7] : schurOk ms n = false))
    rw [h7] at HIN
    clear h7
    go_enter Try.func9, Try.ntmps9
    go_wp2_with (first | (go_at_call 57; (with_reducible refine (HIS.out _ ?_).mono ?_); (first | exact hr | exact hr.drewN _); rintro e w' ⟨rfl, q0, rfl⟩) | (go_at_call 58; (with_reducible refine (HSS.out _ ?_).mono ?_); (first | exact hr | exact hr.drewN _); rintro e w' ⟨rfl, q1, rfl⟩) | (go_at_call 59; (with_reducible refine (HIN.out _).mono ?_); rintro e w' ⟨rfl, q2, rfl⟩))
    go_ret2
    rw [HE.out.1, HE.out.2]
    exact ⟨_, _, rfl, OF.nil_ _ _ _ _ _, Quiet.below (by first | exact ⟨_, rfl⟩ | exact ⟨_, (World.drewN_drewN _ _ _).symm⟩ | exact Quiet.refl _ | (simp only [World.drewN_drewN]; exact ⟨_, rfl⟩))⟩
  have hsm : smallB ms = true := by rw [smallB, h0]; simp; have := HSE.out; omega
  obtain ⟨hd, hp, hs8, hl16, h1000⟩ := small_facts hsm
  have h3 := inB_iff.1 h7
  have HOK : Hid (schurB ms n = shutB (schurK n.toNat ms) ∧ schurR ms n = shutT (schurK n.toNat ms)) := by
    have e : schurOk ms n = true := by simp [schurOk, hsm, h7]
    have e2 : schurB ms n = shutB (schurK n.toNat ms) := by rw [schurB, e]; rfl
    refine ⟨e2, ?_⟩
    rw [schurR, shutT, e2]; rfl
  obtain ⟨N, rfl⟩ : ∃ N : Nat, n = (N : Int) := ⟨n.toNat, by omega⟩
  have HCS : Hid (∀ W, Below w.heap.size w W → Calls Try.prog 61 #[.slice A m c, .int .i64 (N : Int)] W (MakesM W (schurK N ms))) := fun W bW => l4Schur_any N W b0 m c A ms (hx.below bW) hd hp hs8 (by omega) h1000 (by omega)
  have HKR : Hid (∀ x ∈ schurK N ms, 0 ≤ x.1 ∧ x.1 ≤ 9223372036854775807) := fun x hx => by have := schurK_range hd hp hs8 (show N ≤ 7 by omega) hx; omega
  have HKL : Hid ((schurK N ms).length ≤ 1000000000) := by
    have h1 := absK_len (l := schurK N ms) (schurK_srt N ms).2
    have h2 := schurK_abs N ms hd hp
    have h4 := tabs_len (n := N) hd hs8 (by omega)
    unfold keysS at h2
    rw [List.length_map] at h2
    show _ ≤ _
    omega
  rw [h7] at HIN
  clear h7 hsm hd hp hs8 hl16 h1000
  have hbq : ∀ q, Below w.heap.size w (w.drewN q) := fun q => below_drewN (Below.refl _ _) q
  have HBQ := Lib.hid hbq
  clear hbq
  go_enter Try.func9, Try.ntmps9
  go_wp2_with (first
    | (go_at_call 57; (with_reducible refine (HIS.out _ ?_).mono ?_); (first | exact hr | exact hr.drewN _); rintro e w' ⟨rfl, q0, rfl⟩)
    | (go_at_call 58; (with_reducible refine (HSS.out _ ?_).mono ?_); (first | exact hr | exact hr.drewN _); rintro e w' ⟨rfl, q1, rfl⟩)
    | (go_at_call 59; (with_reducible refine (HIN.out _).mono ?_); rintro e w' ⟨rfl, q2, rfl⟩)
    | (go_at_call 61; (with_reducible refine (HCS.out _ ?_).mono ?_); (exact HBQ.out _); rintro e w5 ⟨g5, n5, c5, rfl, o5, b5⟩; have O5 := Lib.hid o5; have B5 := Lib.hid b5; clear o5 b5)
    | (go_at_call 60; refine (l2Shut_any O5.out (by have := O5.out.len; have := HKL.out; omega) HKR.out).mono ?_; rintro e w6 ⟨v6, cs6, rfl, o6, b6⟩)
    | fail)
  go_ret2
  have hb := (HBQ.out _).trans (B5.out.mono (Nat.le_refl _))
  rw [HOK.out.1, HOK.out.2]
  exact ⟨v6, cs6, rfl, OF.mono o6 hb.size hb.size, hb.trans (b6.mono hb.size)⟩
theorem sSchur_any {w : World} {A : Option Addr} {m b0 : Nat} {ms : List Int} (c : Nat) (n : Int) (hx : OI w b0 (.slice A m c) ms) (hm : m ≤ 1000000000) (hn : -9223372036854775808 ≤ n ∧ n ≤ 9223372036854775807) :
    Calls Try.prog 9 #[.slice A m c, .int .i64 n] w (MakesTp w (schurR ms n) (schurB ms n)) := (sSchurM_any c n hx hm hn).mono fun _ _ h => h.tp
end Go.Proofs.Ytgbojgmmingfdaa
