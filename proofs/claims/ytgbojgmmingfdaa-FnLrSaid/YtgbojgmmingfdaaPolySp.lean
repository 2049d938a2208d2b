/- spec.PolyOk. -/
import Derived.Test.YtgbojgmmingfdaaTermA
import Derived.Test.YtgbojgmmingfdaaTerms
import Derived.Test.YtgbojgmmingfdaaSchurB
import Derived.Test.YtgbojgmmingfdaaGathW
import Derived.Test.YtgbojgmmingfdaaStripW
namespace Go.Proofs.Ytgbojgmmingfdaa
open Go.RowKit

set_option maxHeartbeats 1000000 in
theorem sPolyOk_any {A : Option Addr} {n : Nat} {ps : List (List Int × Int)} {w : World} (c : Nat) (h : RTm w A n ps) (hn : n ≤ 9223372036854775807) :
    Calls Try.prog 128 #[.slice A n c] w (Gives w (.bool (polyB ps))) := by
  have HL := Lib.hid h.1
  go_enter Try.func128, Try.ntmps128
  by_cases hbig : n ≤ 600
  case neg =>
    go_wp2
    go_ret
    refine ⟨ret_bool ?_, (by first | exact ⟨_, rfl⟩ | exact ⟨_, (World.drewN_drewN _ _ _).symm⟩ | exact Quiet.refl _ | (simp only [World.drewN_drewN]; exact ⟨_, rfl⟩))⟩
    rw [polyB, HL.out, decide_eq_false hbig]; rfl
  go_wp2
  go_loopw [3, 4] (fun i _ wr => ∃ k : Nat, k ≤ n ∧ i = .int .i64 k ∧ Quiet w wr ∧ Hid (∀ j, j < k → (termB (nthP ps j) && stepB ps j) = true)) (fun i _ _ => n - (intOf i).toNat)
  case atStart => exact ⟨0, Nat.zero_le _, rfl, (by first | exact ⟨_, rfl⟩ | exact ⟨_, (World.drewN_drewN _ _ _).symm⟩ | exact Quiet.refl _ | (simp only [World.drewN_drewN]; exact ⟨_, rfl⟩)), fun j hj => by omega⟩
  case round =>
    obtain ⟨k, hk, rfl, ⟨q, rfl⟩, HT⟩ := hrel
    by_cases hlt : k < n
    · obtain ⟨ad, hA, hq⟩ := h.2 k hlt
      obtain ⟨A', n', c', x1, x2, x3, x4⟩ := hq.cells
      subst hA
      have X3 := Lib.hid x3
      clear x3 hq
      obtain ⟨z, hz⟩ : ∃ z, z = (nthP ps k).2 := ⟨_, rfl⟩
      rw [← hz] at x2
      have hZ := Lib.hid hz
      clear hz
      have hno : Hid (termB (nthP ps k) = false → Ending.returned (.bool false) = .returned (.bool (polyB ps))) := fun h1 => ret_bool (poly_no (k := k) (by rw [HL.out]; exact hlt) (by rw [h1]; rfl)).symm
      have hlen : Hid ((nthP ps k).1.length = n') := X3.out.1
      by_cases h7 : n' = 7
      case neg =>
        have h7' : ((n' : Int) != 7) = true := by simp; omega
        go_wp2_with fail
        go_ret
        exact ⟨hno.out (by rw [termB, hlen.out, decide_eq_false h7]; rfl), (by first | exact ⟨_, rfl⟩ | exact ⟨_, (World.drewN_drewN _ _ _).symm⟩ | exact Quiet.refl _ | (simp only [World.drewN_drewN]; exact ⟨_, rfl⟩))⟩
      subst h7
      by_cases hz0 : z = 0
      · have HNO := Lib.hid (hno.out (by rw [termB, ← hZ.out, hz0]; simp))
        subst hz0
        go_wp2_with fail
        go_ret
        exact ⟨HNO.out, (by first | exact ⟨_, rfl⟩ | exact ⟨_, (World.drewN_drewN _ _ _).symm⟩ | exact Quiet.refl _ | (simp only [World.drewN_drewN]; exact ⟨_, rfl⟩))⟩
      have hz0' : (z == 0) = false := by simpa using hz0
      rcases hi : inB z (-1000000) 1000000 with _ | _
      · have HNO := Lib.hid (hno.out (by
          rw [termB, ← hZ.out]
          by_cases h1 : -1000000 ≤ z
          · have h2 : ¬ z ≤ 1000000 := fun h2 => by simp [inB, h1, h2] at hi
            rw [decide_eq_false h2]; simp
          · rw [decide_eq_false h1]; simp))
        clear hz0
        go_wp2_with (go_at_call 59; refine (l1In_any _ _ _).mono ?_; rintro e w' ⟨rfl, q0, rfl⟩)
        go_ret
        exact ⟨HNO.out, (by first | exact ⟨_, rfl⟩ | exact ⟨_, (World.drewN_drewN _ _ _).symm⟩ | exact Quiet.refl _ | (simp only [World.drewN_drewN]; exact ⟨_, rfl⟩))⟩
      have HZ : Hid (z ≠ 0 ∧ -1000000 ≤ z ∧ z ≤ 1000000) := ⟨hz0, by simp [inB] at hi; omega⟩
      clear hz0
      go_wp2_with (go_at_call 59; refine (l1In_any _ _ _).mono ?_; rintro e w' ⟨rfl, q0, rfl⟩)
      go_loopw [4] (fun i wx => ∃ j : Nat, j ≤ 7 ∧ i = .int .i64 j ∧ Quiet w wx ∧ Hid (∀ t, t < j → 0 ≤ nth (nthP ps k).1 t ∧ nth (nthP ps k).1 t ≤ 24)) (fun i _ => 7 - (intOf i).toNat)
      case atStart => exact ⟨0, Nat.zero_le _, rfl, (by first | exact ⟨_, rfl⟩ | exact ⟨_, (World.drewN_drewN _ _ _).symm⟩ | exact Quiet.refl _ | (simp only [World.drewN_drewN]; exact ⟨_, rfl⟩)), fun t ht => by omega⟩
      case round =>
        obtain ⟨j, hj, rfl, ⟨q2, rfl⟩, HJ⟩ := hrel
        by_cases hj7 : j < 7
        · obtain ⟨ae, hA, hc⟩ := X3.out.cell hj7
          subst hA
          obtain ⟨v, hv⟩ : ∃ v, v = nth (nthP ps k).1 j := ⟨_, rfl⟩
          rw [← hv] at hc
          have HV := Lib.hid hv
          clear hv
          rcases hv2 : inB v 0 24 with _ | _
          · have HNO := Lib.hid (hno.out (term_no hj7 (by rw [← HV.out]; simp [inB] at hv2 ⊢; omega)))
            go_wp2_with (go_at_call 59; refine (l1In_any _ _ _).mono ?_; rintro e w' ⟨rfl, q0, rfl⟩)
            go_ret
            exact ⟨HNO.out, (by first | exact ⟨_, rfl⟩ | exact ⟨_, (World.drewN_drewN _ _ _).symm⟩ | exact Quiet.refl _ | (simp only [World.drewN_drewN]; exact ⟨_, rfl⟩))⟩
          · have HW : Hid (0 ≤ v ∧ v ≤ 24) := by show _ ∧ _; simp [inB] at hv2; omega
            go_wp2_with (go_at_call 59; refine (l1In_any _ _ _).mono ?_; rintro e w' ⟨rfl, q0, rfl⟩)
            go_roundw
            case rel =>
              refine ⟨j + 1, by omega, by go_num, (by first | exact ⟨_, rfl⟩ | exact ⟨_, (World.drewN_drewN _ _ _).symm⟩ | exact Quiet.refl _ | (simp only [World.drewN_drewN]; exact ⟨_, rfl⟩)), fun t ht => ?_⟩
              by_cases htj : t = j
              · rw [htj, ← HV.out]; exact HW.out
              · exact HJ.out t (by omega)
            case measure => simp [intOf]; omega
        · obtain rfl : j = 7 := by omega
          have HTm : Hid (termB (nthP ps k) = true) := by
            have e1 := hlen.out
            have e2 := HZ.out
            rw [hZ.out] at e2
            show termB (nthP ps k) = true
            rw [termB, decide_eq_true e1, decide_eq_true e2.1, decide_eq_true e2.2.1, decide_eq_true e2.2.2]
            simp only [Bool.true_and, List.all_eq_true, List.mem_range]
            intro t ht
            rw [decide_eq_true (HJ.out t ht).1, decide_eq_true (HJ.out t ht).2]; rfl
          cases k with
          | zero =>
            go_wp2_with fail
            go_quiet (fail)
            go_wp2_with fail
            go_roundw
            case rel =>
              refine ⟨1, by omega, by go_num, (by first | exact ⟨_, rfl⟩ | exact ⟨_, (World.drewN_drewN _ _ _).symm⟩ | exact Quiet.refl _ | (simp only [World.drewN_drewN]; exact ⟨_, rfl⟩)), fun t ht => ?_⟩
              obtain rfl : t = 0 := by omega
              rw [HTm.out]; rfl
            case measure => simp [intOf]; omega
          | succ m =>
            obtain ⟨ad2, hA2, hq2⟩ := h.2 m (by omega)
            obtain rfl : ad = ad2 := Option.some.inj hA2
            clear hA2
            obtain ⟨A2, n2, c2, y1, y2, y3, y4⟩ := hq2.cells
            have hTm1 : termB (nthP ps m) = true := by
              have h0 := HT.out m (by omega)
              rw [Bool.and_eq_true] at h0
              exact h0.1
            have hp7 : n2 = 7 := by
              have h0 := hTm1
              rw [termB, Bool.and_eq_true] at h0
              exact y3.1.symm.trans (of_decide_eq_true h0.1)
            subst hp7
            have x128 : Ex128 (nthP ps m).1 := fun j hj => by have := term_in hTm1 hj; omega
            have y128 : Ex128 (nthP ps (m + 1)).1 := fun j hj => by have := term_in HTm.out hj; omega
            have hby := byT_key x128 y128
            obtain ⟨r1, hr1⟩ : ∃ r, r = keyL (nthP ps m).1 := ⟨_, rfl⟩
            obtain ⟨r2, hr2⟩ : ∃ r, r = keyL (nthP ps (m + 1)).1 := ⟨_, rfl⟩
            have HC1 : Hid (∀ q, Calls Try.prog 119 #[.slice A2 7 c2] (w.drewN q) (Gives (w.drewN q) (.int .i64 r1))) := fun q => by
              rw [hr1]
              exact l2Key_any _ (y3.below (below_drewN (Below.refl _ _) q)) x128
            have HC2 : Hid (∀ q, Calls Try.prog 119 #[.slice A' 7 c'] (w.drewN q) (Gives (w.drewN q) (.int .i64 r2))) := fun q => by
              rw [hr2]
              exact l2Key_any _ (X3.out.below (below_drewN (Below.refl _ _) q)) y128
            rw [← hr1, ← hr2] at hby
            have HBY := Lib.hid hby
            have hwr : IntKind.i64.wrap (((m + 1 : Nat) : Int) - 1) = (m : Int) := by rw [IntWalk.i64_in _ (by omega)]; omega
            have hpos : decide ((0 : Int) < ((m + 1 : Nat) : Int)) = true := decide_eq_true (by omega)
            clear y2 y3 y4 hq2 hr1 hr2 hby x128 y128 hTm1 x2 hi
            by_cases hs : r2 < r1
            · have hs' : decide (r1 ≤ r2) = false := decide_eq_false (by omega)
              have HSN : Hid (r2 < r1) := hs
              clear hs
              go_wp2_with fail
              go_quiet (first | (go_at_call 119; first | (with_reducible exact qcall (HC1.out _)) | (with_reducible exact qcall (HC2.out _)) | (with_reducible exact qcall_add (HC1.out _)) | (with_reducible exact qcall_add (HC2.out _))))
              go_wp2_with fail
              go_roundw
              case rel =>
                refine ⟨m + 1 + 1, by omega, by go_num, (by first | exact ⟨_, rfl⟩ | exact ⟨_, (World.drewN_drewN _ _ _).symm⟩ | exact Quiet.refl _ | (simp only [World.drewN_drewN]; exact ⟨_, rfl⟩)), fun t ht => ?_⟩
                by_cases htm : t < m + 1
                · exact HT.out t htm
                · obtain rfl : t = m + 1 := by omega
                  rw [HTm.out, Bool.true_and, stepB, Nat.add_sub_cancel, decide_eq_true (HBY.out.2 HSN.out), Bool.or_true]
              case measure => simp [intOf]; omega
            · have hs' : decide (r1 ≤ r2) = true := decide_eq_true (by omega)
              have HSP : Hid (¬ r2 < r1) := hs
              clear hs
              go_wp2_with fail
              go_quiet (first | (go_at_call 119; first | (with_reducible exact qcall (HC1.out _)) | (with_reducible exact qcall (HC2.out _)) | (with_reducible exact qcall_add (HC1.out _)) | (with_reducible exact qcall_add (HC2.out _))))
              go_wp2_with fail
              go_ret
              exact ⟨ret_bool (poly_no (k := m + 1) (by rw [HL.out]; exact hlt) (by rw [stepB, Nat.add_sub_cancel, show decide (byT (nthP ps m).1 (nthP ps (m + 1)).1 < 0) = false from decide_eq_false (fun e => by have h1 := HBY.out.1 e; have h2 := HSP.out; omega), show decide (m + 1 = 0) = false from decide_eq_false (Nat.succ_ne_zero m)]; simp)).symm, (by first | exact ⟨_, rfl⟩ | exact ⟨_, (World.drewN_drewN _ _ _).symm⟩ | exact Quiet.refl _ | (simp only [World.drewN_drewN]; exact ⟨_, rfl⟩))⟩
    · go_wp2
      go_ret
      refine ⟨ret_bool ?_, (by first | exact ⟨_, rfl⟩ | exact ⟨_, (World.drewN_drewN _ _ _).symm⟩ | exact Quiet.refl _ | (simp only [World.drewN_drewN]; exact ⟨_, rfl⟩))⟩
      rw [polyB, HL.out, decide_eq_true hbig, Bool.true_and]
      refine (List.all_eq_true.2 ?_).symm
      exact fun j hj => HT.out j (by have := List.mem_range.1 hj; omega)
end Go.Proofs.Ytgbojgmmingfdaa

/- l2Unit and l2Exp of the reference. -/
namespace Go.Proofs.Ytgbojgmmingfdaa
open Go.RowKit

theorem l2Unit_any {w : World} (i : Int) (h : 0 ≤ i ∧ i ≤ 7) : Calls Try.prog 131 #[.int .i64 i] w (Gives w (.int .i64 (128 ^ i.toNat))) := by
  have hi : i = 0 ∨ i = 1 ∨ i = 2 ∨ i = 3 ∨ i = 4 ∨ i = 5 ∨ i = 6 ∨ i = 7 := by omega
  rcases hi with rfl | rfl | rfl | rfl | rfl | rfl | rfl | rfl
  all_goals
    go_enter Try.func131, Try.ntmps131
    go_wp2
    go_ret
    exact ⟨rfl, (by first | exact ⟨_, rfl⟩ | exact ⟨_, (World.drewN_drewN _ _ _).symm⟩ | exact Quiet.refl _ | (simp only [World.drewN_drewN]; exact ⟨_, rfl⟩))⟩
set_option maxHeartbeats 1000000 in
theorem l2Exp_any {w : World} (k : Int) (h : 0 ≤ k ∧ k ≤ 9223372036854775807) : Calls Try.prog 127 #[.int .i64 k] w (Makes w (expL k)) := by
  obtain ⟨w1, e1⟩ : ∃ W, W = w.alloc (.cells #[] 3) := ⟨_, rfl⟩
  have HL : Hid (OI w1 w.heap.size (.slice (some ⟨w.heap.size, 0, none⟩) 0 0) []) := by rw [e1]; exact OI.lit w w.heap.size [] 0 rfl (Nat.le_refl _) (by simp)
  have B1 : Hid (Below w.heap.size w w1) := by rw [e1]; exact (Below.refl _ _).alloc (Nat.le_refl _) _
  have E1 := Lib.hid e1
  clear e1
  go_enter Try.func127, Try.ntmps127
  go_wp2
  have hal : w.alloc (.cells #[] 3) = w1 := E1.out.symm
  rw [hal]
  clear hal
  go_loopw [0, 3, 4] (fun kv ov iv wr => ∃ (z : Int) (i : Nat) (A : Option Addr) (n c : Nat) (l : List Int), kv = .int .i64 z ∧ ov = .slice A n c ∧ iv = .int .i64 (i : Int) ∧ i ≤ 7 ∧ 0 ≤ z ∧ z ≤ 9223372036854775807 ∧ Hid (OI wr w.heap.size (.slice A n c) l ∧ Below w.heap.size w wr ∧ l.length = i ∧ expL k = l ++ expUp (7 - i) z)) (fun _ _ iv _ => 7 - (intOf iv).toNat)
  case atStart => exact ⟨k, 0, _, _, _, [], rfl, rfl, rfl, by omega, h.1, h.2, HL.out, B1.out, rfl, rfl⟩
  case round =>
    obtain ⟨z, i, A, n, c, l, rfl, rfl, rfl, hi, hz1, hz2, HX⟩ := hrel
    by_cases hlt : i < 7
    · obtain ⟨r, hr⟩ : ∃ r, r = z % 128 := ⟨_, rfl⟩
      obtain ⟨q, hq⟩ : ∃ q, q = z / 128 := ⟨_, rfl⟩
      have hr' : Int.tmod z 128 = r := by rw [Int.tmod_eq_emod_of_nonneg hz1, hr]
      have hq' : Int.tdiv z 128 = q := by rw [Int.tdiv_eq_ediv_of_nonneg hz1, hq]
      have hw : IntKind.i64.wrap q = q := IntWalk.i64_in _ (by omega)
      have HR := Lib.hid hr
      have HQ := Lib.hid hq
      have HS : Hid (w.heap.size ≤ wr.heap.size) := HX.out.2.1.size
      have HO := Lib.hid HX.out.1
      have hl7 : Hid (l.length + 1 ≤ 1000000000000) := by have := HX.out.2.2.1; show _ ≤ _; omega
      clear hr hq
      go_wp2_with (at_builtin; refine wpApp1 rfl _ _ rfl w.heap.size (.slice A n c) l r rfl HO.out rfl hl7.out HS.out ?_; intro v' w5 o5 g5 k5)
      obtain ⟨A5, n5, c5, rfl, -⟩ := o5.form
      have HF : Hid (OI w5 w.heap.size (.slice A5 n5 c5) (l ++ [r]) ∧ Below w.heap.size w w5 ∧ (l ++ [r]).length = i + 1 ∧ expL k = (l ++ [r]) ++ expUp (7 - (i + 1)) q) := by
        obtain ⟨a1, a2, a3, a4⟩ := HX.out
        refine ⟨o5, a2.grown g5 a2.size fun k hk => (a1.lt k hk).1, by rw [List.length_append]; simpa using a3, ?_⟩
        rw [a4, show 7 - i = (7 - (i + 1)) + 1 by omega, expUp, ← HR.out, ← HQ.out]; simp
      have hq1 : 0 ≤ q ∧ q ≤ 9223372036854775807 := by have := HQ.out; omega
      clear o5 g5 k5
      go_roundw
      case rel => exact ⟨q, i + 1, A5, n5, c5, _, by first | rfl | exact congrArg (Value.int .i64) hw, rfl, by go_num, by omega, hq1.1, hq1.2, HF.out⟩
      case measure => simp [intOf]; omega
    · have HF : Hid (Makes w (expL k) (.returned (.slice A n c)) wr) := by
        obtain ⟨a1, a2, a3, a4⟩ := HX.out
        rw [show 7 - i = 0 by omega, expUp, List.append_nil] at a4
        rw [a4]
        exact Makes.of a1 a2 (by omega)
      go_wp2
      go_ret
      exact HF.out
end Go.Proofs.Ytgbojgmmingfdaa
