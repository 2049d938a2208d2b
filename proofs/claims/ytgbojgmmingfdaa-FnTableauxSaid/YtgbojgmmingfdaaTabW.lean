/- TableauOk of the program says yes of a tableau that is right. -/
import Derived.Test.YtgbojgmmingfdaaStdI
import Derived.Test.YtgbojgmmingfdaaShapes
namespace Go.Proofs.Ytgbojgmmingfdaa
open Go.RowKit

theorem add_succ_ (ad : Addr) (k : Nat) : ad.add (k + 1) = ⟨ad.block, ad.off + (k + 1), none⟩ := by unfold Addr.add; rw [if_neg (by omega)]
theorem tabB_shape {T : List (List Int)} (h : tabB T = true) : isShapeB (shapeT T) = true := by
  unfold tabB at h
  rw [Bool.and_eq_true] at h
  exact h.1
theorem tabB_at {T : List (List Int)} (h : tabB T = true) {i j : Nat} (hi : i < T.length) (hj : j < (nthL T i).length) :
    0 ≤ nth (nthL T i) j ∧ nth (nthL T i) j ≤ 20 ∧ (j = 0 ∨ nth (nthL T i) (j - 1) ≤ nth (nthL T i) j) ∧ (i = 0 ∨ nth (nthL T (i - 1)) j < nth (nthL T i) j) := by
  unfold tabB at h
  rw [Bool.and_eq_true] at h
  have h1 := List.all_eq_true.1 (List.all_eq_true.1 h.2 i (List.mem_range.2 hi)) j (List.mem_range.2 hj)
  simpa [and_assoc] using h1
theorem tabB_up {T : List (List Int)} (h : tabB T = true) {i j : Nat} (hi : i < T.length) (hj : j < (nthL T i).length) (h0 : 0 < i) : j < (nthL T (i - 1)).length := by
  have h1 := shape_down (tabB_shape h) (a := i - 1) (b := i) (by omega) (by rw [shapeT_len]; exact hi)
  rw [nth_shapeT hi, nth_shapeT (by omega)] at h1
  omega
theorem tabB_len {T : List (List Int)} (h : tabB T = true) : T.length ≤ 16 ∧ ∀ i, i < T.length → (nthL T i).length ≤ 16 := by
  have h1 := shape_len (tabB_shape h)
  rw [shapeT_len] at h1
  refine ⟨h1, fun i hi => ?_⟩
  have := shape_range (tabB_shape h) i
  rw [nth_shapeT hi] at this
  omega
set_option maxRecDepth 100000 in
set_option maxHeartbeats 4000000 in
theorem iTabOk_any {A : Option Addr} {n : Nat} {T : List (List Int)} {w : World} (c : Nat) (hx : RS w A n T) (hT : tabB T = true) :
    Calls Try.prog 25 #[.slice A n c] w (GivesB w (.bool true)) := by
  have HX := Lib.hid hx
  have HT := Lib.hid hT
  have HL : Hid (T.length = n) := hx.1
  have hn : n ≤ 16 := by rw [← HL.out]; exact (tabB_len hT).1
  have HLIT : Hid (OI (w.alloc (.cells #[] 3)) w.heap.size (.slice (some ⟨w.heap.size, 0, none⟩) 0 0) [] ∧ Below w.heap.size w (w.alloc (.cells #[] 3))) := by
    refine ⟨?_, (Below.refl _ _).alloc (Nat.le_refl _) _⟩
    have h := OI.lit w w.heap.size [] 0 rfl (Nat.le_refl _) (by simp)
    exact h
  clear hx hT
  go_enter Try.func25, Try.ntmps25
  go_upto_region 3 with fail
  go_loopw [3, 5, 13] (fun ov _ i wr => ∃ (k : Nat) (D : Option Addr) (dn dd : Nat), k ≤ n ∧ i = .int .i64 (k : Int) ∧ ov = .slice D dn dd ∧ Hid (OI wr w.heap.size (.slice D dn dd) ((shapeT T).take k) ∧ Below w.heap.size w wr)) (fun _ _ i _ => n - (intOf i).toNat)
  case atStart => exact ⟨0, _, _, _, Nat.zero_le _, rfl, rfl, by rw [List.take_zero]; exact HLIT.out⟩
  case round =>
    obtain ⟨k, D, dn, dd, hk, rfl, rfl, HY⟩ := hrel
    by_cases hlt : k < n
    · obtain ⟨ad, A', n', c', rfl, z0, r0, -⟩ := (HX.out.below HY.out.2).2 k hlt
      have hkl : k < (shapeT T).length := by rw [shapeT_len, HL.out]; exact hlt
      have HTT : Hid ((shapeT T).take (k + 1) = (shapeT T).take k ++ [(n' : Int)]) := by show _ = _; rw [take_succ_nth hkl, nth_shapeT (by rw [HL.out]; exact hlt), r0.1]
      have HLE : Hid (((shapeT T).take k).length + 1 ≤ 1000000000000) := by show _ ≤ _; rw [List.length_take]; omega
      have HSZ : Hid (w.heap.size ≤ wr.heap.size) := HY.out.2.size
      clear r0 hkl
      go_wp2_with (first
        | (at_builtin; refine wpApp1 rfl _ _ rfl w.heap.size (.slice D dn dd) ((shapeT T).take k) (n' : Int) rfl (by exact HY.out.1) rfl HLE.out HSZ.out ?_; intro v7 w7 o7 g7 k7)
        | fail)
      obtain ⟨D7, dn7, dd7, rfl, -⟩ := o7.form
      have HF7 : Hid (OI w7 w.heap.size (.slice D7 dn7 dd7) ((shapeT T).take (k + 1)) ∧ Below w.heap.size w w7) := ⟨by rw [HTT.out]; exact o7, HY.out.2.grown g7 HSZ.out fun q hq => (HY.out.1.lt q hq).1⟩
      clear o7 g7 k7
      go_roundw
      case rel => exact ⟨k + 1, _, _, _, by omega, by go_num, rfl, HF7.out⟩
      case measure => simp [intOf]; omega
    · have hsh : (shapeT T).take k = shapeT T := List.take_of_length_le (by rw [shapeT_len, HL.out]; omega)
      have HSH : Hid (RI wr D dn (shapeT T)) := by
        have h := HY.out.1.ri
        rw [hsh] at h
        exact h
      have HDN : Hid (dn ≤ 16) := by
        have h := HSH.out.1
        rw [shapeT_len, HL.out] at h
        show _ ≤ _
        omega
      have HIS : Hid (Calls Try.prog 92 #[.slice D dn dd] wr (Gives wr (.bool true))) := by
        have h := iIsShape_any dd HSH.out (by have := HDN.out; omega)
        rw [tabB_shape HT.out] at h
        exact h
      have HB := Lib.hid HY.out.2
      clear hsh HY
      go_upto_region 10 with (first
        | (go_at_call 92; refine HIS.out.mono ?_; rintro e w2 ⟨rfl, q2, rfl⟩)
        | fail)
      have HB2 : Hid (Below w.heap.size w (wr.drewN q2)) := below_drewN HB.out _
      obtain ⟨wo, eo⟩ : ∃ W, W = wr.drewN q2 := ⟨_, rfl⟩
      rw [← eo] at HB2 ⊢
      clear eo
      go_loopw [6, 7, 8, 9, 28, 33, 34, 35] (fun _ _ _ _ i _ _ _ wq => ∃ k : Nat, k ≤ n ∧ i = .int .i64 (k : Int) ∧ Hid (Below w.heap.size w wq)) (fun _ _ _ _ i _ _ _ _ => n - (intOf i).toNat)
      case atStart => exact ⟨0, Nat.zero_le _, rfl, HB2.out⟩
      case round =>
        clear HB2
        obtain ⟨i, hi, rfl, HY⟩ := hrel
        by_cases hlt : i < n
        · obtain ⟨ad, A', n', c', rfl, z0, r0, -⟩ := (HX.out.below HY.out).2 i hlt
          have HR0 := Lib.hid r0
          have HN0 : Hid ((nthL T i).length = n') := r0.1
          have hil : i < T.length := by rw [HL.out]; exact hlt
          have HIL := Lib.hid hil
          have hn' : n' ≤ 16 := by rw [← HN0.out]; exact (tabB_len HT.out).2 i hil
          obtain ⟨wp, rfl⟩ : ∃ wp : World, wp = wr := ⟨_, rfl⟩
          clear r0 hil
          go_upto_region 13 with fail
          go_loopw [8, 9, 35] (fun _ _ j wq => ∃ q : Nat, q ≤ n' ∧ j = .int .i64 (q : Int) ∧ Hid (Below w.heap.size w wq ∧ Below wp.heap.size wp wq)) (fun _ _ j _ => n' - (intOf j).toNat)
          case atStart => exact ⟨0, Nat.zero_le _, rfl, HY.out, Below.refl _ _⟩
          case round =>
            obtain ⟨j, hj, rfl, HZ⟩ := hrel
            by_cases hlj : j < n'
            · have hr3 := HR0.out.below HZ.out.2
              obtain ⟨ad2, rfl, hcl⟩ := hr3.2 (by omega)
              have z2 := hcl j hlj
              have hjl : j < (nthL T i).length := by rw [HN0.out]; exact hlj
              obtain ⟨t1, t2, t3, t4⟩ := tabB_at HT.out HIL.out hjl
              have hup : 0 < i → j < (nthL T (i - 1)).length := fun h => tabB_up HT.out HIL.out hjl h
              obtain ⟨x, hx⟩ : ∃ x, x = nth (nthL T i) j := ⟨_, rfl⟩
              rw [← hx] at t1 t2 t3 t4 z2
              have hx1 : ¬ x < 0 := by omega
              have hx2 : ¬ 20 < x := by omega
              have HUP := Lib.hid hup
              have T3 := Lib.hid t3
              have T4 := Lib.hid t4
              have HCL := Lib.hid hcl
              clear hup t3 t4 hcl hr3 hjl hx
              by_cases hj0 : 0 < j
              · obtain ⟨q, rfl⟩ : ∃ q, j = q + 1 := ⟨j - 1, by omega⟩
                by_cases hi0 : 0 < i
                · obtain ⟨p, rfl⟩ : ∃ p, i = p + 1 := ⟨i - 1, by omega⟩
                  have h3 := T3.out
                  rw [Nat.add_sub_cancel] at h3
                  have z3 := HCL.out q (by omega)
                  rw [add_succ_] at z2
                  obtain ⟨y, hy⟩ : ∃ y, y = nth (nthL T (p + 1)) q := ⟨_, rfl⟩
                  rw [← hy] at h3 z3
                  have hyx : ¬ x < y := by omega
                  have hqn : q < n' := by omega
                  clear h3 hy T3
                  obtain ⟨ad3, A3, n3, c3, eA, z4, r4, -⟩ := (HX.out.below HZ.out.1).2 p (by omega)
                  injection eA with eA
                  subst eA
                  have hup := HUP.out (by omega)
                  rw [Nat.add_sub_cancel] at hup
                  have h4 := T4.out
                  rw [Nat.add_sub_cancel] at h4
                  have hjn3 : (q + 1) < n3 := by rw [← r4.1]; exact hup
                  obtain ⟨ad4, rfl, hc4⟩ := r4.2 (by omega)
                  have z5 := hc4 (q + 1) hjn3
                  rw [add_succ_] at z5
                  obtain ⟨u, hu⟩ : ∃ u, u = nth (nthL T p) (q + 1) := ⟨_, rfl⟩
                  rw [← hu] at h4 z5
                  have hux : ¬ x ≤ u := by omega
                  have hpn : p < n := by omega
                  clear h4 hc4 r4 hu hup T4 HUP
                  go_wp2_with fail
                  go_roundw
                  case rel => exact ⟨q + 1 + 1, by omega, by go_num, HZ.out⟩
                  case measure => simp [intOf]; omega
                · have h3 := T3.out
                  rw [Nat.add_sub_cancel] at h3
                  have z3 := HCL.out q (by omega)
                  rw [add_succ_] at z2
                  obtain ⟨y, hy⟩ : ∃ y, y = nth (nthL T i) q := ⟨_, rfl⟩
                  rw [← hy] at h3 z3
                  have hyx : ¬ x < y := by omega
                  have hqn : q < n' := by omega
                  clear h3 hy T3
                  go_wp2_with fail
                  go_roundw
                  case rel => exact ⟨q + 1 + 1, by omega, by go_num, HZ.out⟩
                  case measure => simp [intOf]; omega
              · by_cases hi0 : 0 < i
                · obtain ⟨p, rfl⟩ : ∃ p, i = p + 1 := ⟨i - 1, by omega⟩
                  obtain ⟨ad3, A3, n3, c3, eA, z4, r4, -⟩ := (HX.out.below HZ.out.1).2 p (by omega)
                  injection eA with eA
                  subst eA
                  have hup := HUP.out (by omega)
                  rw [Nat.add_sub_cancel] at hup
                  have h4 := T4.out
                  rw [Nat.add_sub_cancel] at h4
                  have hjn3 : j < n3 := by rw [← r4.1]; exact hup
                  obtain ⟨ad4, rfl, hc4⟩ := r4.2 (by omega)
                  have z5 := hc4 j hjn3
                  obtain ⟨u, hu⟩ : ∃ u, u = nth (nthL T p) j := ⟨_, rfl⟩
                  rw [← hu] at h4 z5
                  have hux : ¬ x ≤ u := by omega
                  have hpn : p < n := by omega
                  clear h4 hc4 r4 hu hup T4 HUP
                  go_wp2_with fail
                  go_roundw
                  case rel => exact ⟨j + 1, by omega, by go_num, HZ.out⟩
                  case measure => simp [intOf]; omega
                · go_wp2_with fail
                  go_roundw
                  case rel => exact ⟨j + 1, by omega, by go_num, HZ.out⟩
                  case measure => simp [intOf]; omega
            · go_wp2_with fail
              go_roundw
              case rel => exact ⟨i + 1, by omega, by go_num, HZ.out.1⟩
              case measure => simp [intOf]; omega
        · go_wp2_with fail
          go_ret
          exact ⟨rfl, HY.out⟩
end Go.Proofs.Ytgbojgmmingfdaa
