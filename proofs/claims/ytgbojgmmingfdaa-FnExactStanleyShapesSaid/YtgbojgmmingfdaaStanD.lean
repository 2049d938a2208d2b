/- slices.ContainsFunc over tableaux, with the closure of StanleyShapes. -/
import Derived.Test.YtgbojgmmingfdaaStanC
namespace Go.Proofs.Ytgbojgmmingfdaa
open Go.RowKit

/-- Not great. -/
def Low (T : List (List Int)) : Prop := T.length ≤ 1000 ∧ ∀ k, k < T.length → (nthL T k).length ≤ 1000
theorem stanClos_any {w : World} {A B : Option Addr} {n m X : Nat} {T P : List (List Int)} (c d : Nat) (hx : RS w A n T) (hy : RS w B m P) (hT : Low T) (hP : Low P) (hX : w.cell? ⟨X, 0, none⟩ = some (.slice B m d)) :
    Calls Try.prog 77 #[.slice A n c, .pointer (some ⟨X, 0, none⟩)] w (Gives w (.bool (decide (T = P)))) := by
  have h1 := hx.1
  have h2 := hy.1
  have HE : Hid (Calls Try.prog 78 #[.slice A n c, .slice B m d, .func (.func 79) #[] #[]] w (Gives w (.bool (decide (T = P))))) :=
    eqF_any c d hx hy (by have := hT.1; omega) (by have := hP.1; omega) (fun k hk => by have := hT.2 k (by omega); omega) (fun k hk => by have := hP.2 k (by omega); omega)
  obtain ⟨b, hb⟩ : ∃ b, b = decide (T = P) := ⟨_, rfl⟩
  rw [← hb] at HE ⊢
  clear hb hx hy h1 h2
  go_enter Try.func77, Try.ntmps77
  go_wp2_with (first | (go_at_call 78; refine HE.out.mono ?_; rintro e w2 ⟨rfl, q2, rfl⟩) | fail)
  go_ret
  exact ⟨rfl, (by first | exact ⟨_, rfl⟩ | exact ⟨_, (World.drewN_drewN _ _ _).symm⟩ | exact Quiet.refl _ | (simp only [World.drewN_drewN]; exact ⟨_, rfl⟩))⟩
set_option maxRecDepth 100000 in
set_option maxHeartbeats 1000000 in
theorem idx3_any {w : World} {base : Nat} {A B : Option Addr} {n m X : Nat} {Ts : List (List (List Int))} {P : List (List Int)} {cells : List Value} (c d : Nat) (hx : O3 w base (.slice A n c) Ts cells) (hy : RS w B m P) (hT : ∀ T ∈ Ts, Low T) (hP : Low P) (hX : w.cell? ⟨X, 0, none⟩ = some (.slice B m d)) (hn : n ≤ 1000000) :
    Calls Try.prog 146 #[.slice A n c, .func (.func 77) #[] #[.pointer (some ⟨X, 0, none⟩)]] w (fun e w' => ∃ i : Int, e = .returned (.int .i64 i) ∧ Quiet w w' ∧ Hid (decide (i ≥ 0) = decide (P ∈ Ts))) := by
  have HL : Hid (Ts.length = n) := hx.len
  have HX := Lib.hid hx
  have HY := Lib.hid hy
  have HTT := Lib.hid hT
  have HPP := Lib.hid hP
  have HCX := Lib.hid hX
  clear hx hy hT hP hX
  go_enter Try.func146, Try.ntmps146
  go_wp2
  go_loopw [5, 8] (fun _ i wr => ∃ k : Nat, k ≤ n ∧ i = .int .i64 (k : Int) ∧ Quiet w wr ∧ Hid (∀ j, j < k → Ts.getD j [] ≠ P)) (fun _ i _ => n - (intOf i).toNat)
  case atStart => exact ⟨0, Nat.zero_le _, rfl, (by first | exact ⟨_, rfl⟩ | exact ⟨_, (World.drewN_drewN _ _ _).symm⟩ | exact Quiet.refl _ | (simp only [World.drewN_drewN]; exact ⟨_, rfl⟩)), fun j hj => by omega⟩
  case round =>
    obtain ⟨k, hk, rfl, ⟨q, rfl⟩, HT⟩ := hrel
    by_cases hlt : k < n
    · obtain ⟨ad, A1, n1, c1, pc, rfl, z0, -, o1, -⟩ := (HX.out.below (below_drewN (Below.refl _ _) q)).cell hlt
      obtain ⟨T, hTT⟩ : ∃ T, T = Ts.getD k [] := ⟨_, rfl⟩
      rw [← hTT] at o1
      have HTE := Lib.hid hTT
      have hkl : k < Ts.length := by rw [HL.out]; exact hlt
      have hmem : T ∈ Ts := by rw [hTT, List.getD, List.getElem?_eq_getElem hkl]; exact List.getElem_mem hkl
      have HCL : Hid (∀ b, decide (T = P) = b → Calls Try.prog 77 #[.slice A1 n1 c1, .pointer (some ⟨X, 0, none⟩)] (w.drewN q) (Gives (w.drewN q) (.bool b))) := fun b hb => by
        rw [← hb]
        exact stanClos_any c1 d (OS.rs o1 (OS.lenS o1).symm) (HY.out.below (below_drewN (Below.refl _ _) q)) (HTT.out T hmem) HPP.out HCX.out
      have HMEM := Lib.hid hmem
      clear hTT o1 hkl hmem
      rcases hd : decide (T = P) with _ | _
      · have HNE := Lib.hid (of_decide_eq_false hd)
        have HD := Lib.hid hd
        clear hd
        go_wp2_with (first | (go_at_call 77; refine (HCL.out _ HD.out).mono ?_; rintro e w2 ⟨rfl, q2, rfl⟩) | fail)
        go_roundw
        case rel => exact ⟨k + 1, by omega, by go_num, (by first | exact ⟨_, rfl⟩ | exact ⟨_, (World.drewN_drewN _ _ _).symm⟩ | exact Quiet.refl _ | (simp only [World.drewN_drewN]; exact ⟨_, rfl⟩)), fun j hj => by
          by_cases h : j = k
          · subst h; rw [← HTE.out]; exact HNE.out
          · exact HT.out j (by omega)⟩
        case measure => simp [intOf]; omega
      · have HEE := Lib.hid (of_decide_eq_true hd)
        have HD := Lib.hid hd
        clear hd
        go_wp2_with (first | (go_at_call 77; refine (HCL.out _ HD.out).mono ?_; rintro e w2 ⟨rfl, q2, rfl⟩) | fail)
        go_ret
        refine ⟨(k : Int), rfl, (by first | exact ⟨_, rfl⟩ | exact ⟨_, (World.drewN_drewN _ _ _).symm⟩ | exact Quiet.refl _ | (simp only [World.drewN_drewN]; exact ⟨_, rfl⟩)), ?_⟩
        show _ = _
        rw [decide_eq_true (show ((k : Nat) : Int) ≥ 0 by omega), decide_eq_true (by rw [← HEE.out]; exact HMEM.out)]
    · have HE : Hid (decide (P ∈ Ts) = false) := decide_eq_false fun h => by
        obtain ⟨j, hj, e⟩ := List.getElem_of_mem h
        refine HT.out j (by rw [HL.out] at hj; omega) ?_
        rw [List.getD, List.getElem?_eq_getElem hj]
        exact e
      go_wp2
      go_ret
      refine ⟨-1, rfl, (by first | exact ⟨_, rfl⟩ | exact ⟨_, (World.drewN_drewN _ _ _).symm⟩ | exact Quiet.refl _ | (simp only [World.drewN_drewN]; exact ⟨_, rfl⟩)), ?_⟩
      show _ = _
      rw [HE.out]
      rfl
theorem cont3_any {w : World} {base : Nat} {A B : Option Addr} {n m X : Nat} {Ts : List (List (List Int))} {P : List (List Int)} {cells : List Value} (c d : Nat) (hx : O3 w base (.slice A n c) Ts cells) (hy : RS w B m P) (hT : ∀ T ∈ Ts, Low T) (hP : Low P) (hX : w.cell? ⟨X, 0, none⟩ = some (.slice B m d)) (hn : n ≤ 1000000) :
    Calls Try.prog 76 #[.slice A n c, .func (.func 77) #[] #[.pointer (some ⟨X, 0, none⟩)]] w (Gives w (.bool (decide (P ∈ Ts)))) := by
  have HI : Hid (Calls Try.prog 146 #[.slice A n c, .func (.func 77) #[] #[.pointer (some ⟨X, 0, none⟩)]] w (fun e w' => ∃ i : Int, e = .returned (.int .i64 i) ∧ Quiet w w' ∧ Hid (decide (i ≥ 0) = decide (P ∈ Ts)))) := idx3_any c d hx hy hT hP hX hn
  clear hx hy hT hP hX
  go_enter Try.func76, Try.ntmps76
  go_wp2_with (first | (go_at_call 146; refine HI.out.mono ?_; rintro e w2 ⟨i, rfl, ⟨q2, rfl⟩, HII⟩) | fail)
  go_ret
  exact ⟨by rw [← HII.out]; rfl, (by first | exact ⟨_, rfl⟩ | exact ⟨_, (World.drewN_drewN _ _ _).symm⟩ | exact Quiet.refl _ | (simp only [World.drewN_drewN]; exact ⟨_, rfl⟩))⟩
end Go.Proofs.Ytgbojgmmingfdaa
