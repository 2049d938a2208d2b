/- The law of key polynomials: an operator of Demazure sorts two exponents, or leaves the polynomial as it is. -/
import Derived.Test.YtgbojgmmingfdaaBraidW
import Derived.Test.YtgbojgmmingfdaaPolySp
namespace Go.Proofs.Ytgbojgmmingfdaa

theorem keyX_fuel : ∀ (n m : Nat) (e : List Int), invL e ≤ n → invL e ≤ m → keyX n e = keyX m e := by
  intro n
  induction n with
  | zero =>
    intro m e h1 h2
    cases m with
    | zero => rfl
    | succ m =>
      rw [keyX, keyX]
      rcases asc_cases e with ⟨j, a1, a2, a3, -⟩ | ⟨-, a3⟩
      · have := inv_pos j e a1 a2; omega
      · rw [a3]
  | succ n ih =>
    intro m e h1 h2
    cases m with
    | zero =>
      rw [keyX, keyX]
      rcases asc_cases e with ⟨j, a1, a2, a3, -⟩ | ⟨-, a3⟩
      · have := inv_pos j e a1 a2; omega
      · rw [a3]
    | succ m =>
      rw [keyX, keyX]
      rcases asc_cases e with ⟨j, a1, a2, a3, -⟩ | ⟨-, a3⟩
      · rw [a3]
        have := swA_inv j e a1 a2
        show demT j (keyX n (swA j e)) = demT j (keyX m (swA j e))
        rw [ih m (swA j e) (by omega) (by omega)]
      · rw [a3]
def keyZ (e : List Int) : List (List Int × Int) := keyX (invL e) e
theorem keyZ_some {e : List Int} {j : Nat} (h1 : j + 1 < e.length) (h2 : nth e j < nth e (j + 1)) (h3 : firstAsc e = some j) : keyZ e = demT j (keyZ (swA j e)) := by
  have h4 := swA_inv j e h1 h2
  unfold keyZ
  rw [← h4, keyX, h3]
theorem keyZ_none {e : List Int} (h3 : firstAsc e = none) : keyZ e = [(padL e 7, 1)] := by
  unfold keyZ
  cases invL e with
  | zero => rfl
  | succ n => rw [keyX, h3]
theorem keyZ_good {e : List Int} (h : Ok5 e) : ∀ x ∈ keyZ e, Gd x.1 := keyX_good _ e h
theorem nth_swA {e : List Int} {j i : Nat} (h : j + 1 < e.length) : nth (swA j e) i = if i = j then nth e (j + 1) else if i = j + 1 then nth e j else nth e i := by
  rw [← swapL_swA j e h, swapL]
  by_cases h1 : i = j + 1
  · rw [h1, nth_set_eq (by simp; omega), if_neg (by omega), if_pos rfl]
  rw [nth_set_ne (by omega)]
  by_cases h0 : i = j
  · rw [h0, nth_set_eq (by omega), if_pos rfl]
  · rw [nth_set_ne (by omega), if_neg h0, if_neg h1]
theorem swA_twice {e : List Int} {j : Nat} (h : j + 1 < e.length) : swA j (swA j e) = e := by
  refine ext_nth (by rw [swA_len, swA_len]) fun i _ => ?_
  rw [nth_swA (by rw [swA_len]; exact h), nth_swA h, nth_swA h, nth_swA h]
  by_cases h0 : i = j
  · simp [h0]
  by_cases h1 : i = j + 1
  · simp [h1]
  · simp [h0, h1]
theorem swA_comm {e : List Int} {j k : Nat} (hjk : j + 1 < k) (hk : k + 1 < e.length) : swA k (swA j e) = swA j (swA k e) := by
  refine ext_nth (by simp only [swA_len]) fun i _ => ?_
  have hj : j + 1 < e.length := by omega
  have hk' : k + 1 < (swA j e).length := by rw [swA_len]; exact hk
  have hj' : j + 1 < (swA k e).length := by rw [swA_len]; exact hj
  simp only [nth_swA hk', nth_swA hj', nth_swA hj, nth_swA hk]
  repeat' split
  all_goals first | rfl | omega
theorem swA_braid {e : List Int} {j : Nat} (h : j + 2 < e.length) : swA j (swA (j + 1) (swA j e)) = swA (j + 1) (swA j (swA (j + 1) e)) := by
  refine ext_nth (by simp only [swA_len]) fun i _ => ?_
  have h0 : j + 1 < e.length := by omega
  have h1 : j + 1 + 1 < e.length := by omega
  have a1 : j + 1 + 1 < (swA j e).length := by rw [swA_len]; exact h1
  have a2 : j + 1 < (swA (j + 1) (swA j e)).length := by simp only [swA_len]; exact h0
  have b1 : j + 1 < (swA (j + 1) e).length := by rw [swA_len]; exact h0
  have b2 : j + 1 + 1 < (swA j (swA (j + 1) e)).length := by simp only [swA_len]; exact h1
  simp only [nth_swA a2, nth_swA a1, nth_swA h0, nth_swA b2, nth_swA b1, nth_swA h1]
  have n1 : ¬ j = j + 1 := by omega
  have n2 : ¬ j = j + 1 + 1 := by omega
  have n3 : ¬ j + 1 = j := by omega
  have n4 : ¬ j + 1 + 1 = j := by omega
  have n5 : ¬ j + 1 + 1 = j + 1 := by omega
  have n6 : ¬ j + 1 = j + 1 + 1 := by omega
  by_cases i0 : i = j
  · subst i0; simp only [n1, n2, n3, n4, n5, n6, if_true, if_false]
  by_cases i1 : i = j + 1
  · subst i1; simp only [n1, n2, n3, n4, n5, n6, if_true, if_false]
  by_cases i2 : i = j + 1 + 1
  · subst i2; simp only [n1, n2, n3, n4, n5, n6, if_true, if_false]
  · simp only [i0, i1, i2, if_false]
theorem dem_same {p : List Int} {k : Nat} (h7 : p.length = 7) (hk : k < 6) (h : nth p k = nth p (k + 1)) : Alk (demT k [(p, 1)]) [(p, 1)] := fun φ => by
  rw [smP_dem, smP_cons, smP_cons, smP_nil, smP_nil]
  simp only
  rw [opT_loc φ (by omega), ← h]
  have e1 : loc (nth p k) (nth p k) = [(nth p k, nth p k, 1)] := by
    unfold loc
    rw [show (max (nth p k + 1) (nth p k) - min (nth p k + 1) (nth p k)).toNat = 1 by omega, show List.range 1 = [0] from rfl, List.map_cons, List.map_nil, if_neg (by omega)]
    congr 1
    rw [show max (nth p k + 1) (nth p k) - 1 - ((0 : Nat) : Int) = nth p k by omega, show min (nth p k + 1) (nth p k) + ((0 : Nat) : Int) = nth p k by omega]
  rw [e1, List.map_cons, List.map_nil, List.sum_cons, List.sum_nil]
  simp only
  have e2 : swE p k (nth p k) (nth p k) = p := by
    have := swE_same (e := p) (i := k)
    rw [← h] at this
    exact this
  rw [e2]
  omega
theorem key_main : ∀ (N : Nat) (e : List Int), invL e ≤ N → Ok5 e → (∀ k, k + 1 < e.length → nth e k < nth e (k + 1) → Alk (keyZ e) (demT k (keyZ (swA k e)))) ∧ (∀ k, k + 1 < e.length → nth e k = nth e (k + 1) → Alk (demT k (keyZ e)) (keyZ e)) := by
  intro N
  induction N with
  | zero =>
    intro e hN h5
    refine ⟨fun k h1 h2 => ?_, fun k h1 h2 => ?_⟩
    · have := inv_pos k e h1 h2; omega
    · rcases asc_cases e with ⟨j, a1, a2, a3, -⟩ | ⟨-, a3⟩
      · have := inv_pos j e a1 a2; omega
      · rw [keyZ_none a3]
        exact dem_same h5.pad.1 (by have := h5.1; omega) (by rw [nth_padL, nth_padL]; exact h2)
  | succ N ih =>
    intro e hN h5
    have hl5 := h5.1
    refine ⟨fun k h1 h2 => ?_, fun k h1 h2 => ?_⟩
    · rcases asc_cases e with ⟨j, a1, a2, a3, a4⟩ | ⟨a4, -⟩
      · rw [keyZ_some a1 a2 a3]
        have hjk : j ≤ k := by
          rcases Nat.lt_or_ge k j with h | h
          · exact absurd h2 (a4 k h)
          · exact h
        by_cases e1 : j = k
        · rw [e1]; exact Alk.refl _
        have if1 := swA_inv j e a1 a2
        have ig1 := swA_inv k e h1 h2
        by_cases e2 : j + 1 < k
        · have f1 := (ih (swA j e) (by omega) (h5.swA j)).1 k (by rw [swA_len]; exact h1) (by
            rw [nth_swA a1, nth_swA a1, if_neg (by omega), if_neg (by omega), if_neg (by omega), if_neg (by omega)]; exact h2)
          have g1 := (ih (swA k e) (by omega) (h5.swA k)).1 j (by rw [swA_len]; exact a1) (by
            rw [nth_swA h1, nth_swA h1, if_neg (by omega), if_neg (by omega), if_neg (by omega), if_neg (by omega)]; exact a2)
          rw [← swA_comm e2 h1] at g1
          refine f1.dem.trans (Alk.trans ?_ g1.symm.dem)
          exact dem_comm (keyZ_good ((h5.swA j).swA k)) e2 (by omega)
        · obtain rfl : k = j + 1 := by omega
          -- (a, b, c) rising
          have b1 : nth (swA j e) (j + 1) < nth (swA j e) (j + 1 + 1) := by
            rw [nth_swA a1, nth_swA a1, if_neg (by omega), if_pos rfl, if_neg (by omega), if_neg (by omega)]; omega
          have lf : j + 1 + 1 < (swA j e).length := by rw [swA_len]; exact h1
          have f1 := (ih (swA j e) (by omega) (h5.swA j)).1 (j + 1) lf b1
          have if2 := swA_inv (j + 1) (swA j e) lf b1
          have b2 : nth (swA (j + 1) (swA j e)) j < nth (swA (j + 1) (swA j e)) (j + 1) := by
            rw [nth_swA lf, nth_swA lf, if_neg (by omega), if_neg (by omega), if_pos rfl, nth_swA a1, nth_swA a1, if_pos rfl, if_neg (by omega), if_neg (by omega)]; exact h2
          have f2 := (ih (swA (j + 1) (swA j e)) (by omega) ((h5.swA j).swA _)).1 j (by simp only [swA_len]; exact a1) b2
          have c1 : nth (swA (j + 1) e) j < nth (swA (j + 1) e) (j + 1) := by
            rw [nth_swA h1, nth_swA h1, if_neg (by omega), if_neg (by omega), if_pos rfl]; omega
          have lg : j + 1 < (swA (j + 1) e).length := by rw [swA_len]; exact a1
          have g1 := (ih (swA (j + 1) e) (by omega) (h5.swA _)).1 j lg c1
          have ig2 := swA_inv j (swA (j + 1) e) lg c1
          have c2 : nth (swA j (swA (j + 1) e)) (j + 1) < nth (swA j (swA (j + 1) e)) (j + 1 + 1) := by
            rw [nth_swA lg, nth_swA lg, if_neg (by omega), if_pos rfl, if_neg (by omega), if_neg (by omega), nth_swA h1, nth_swA h1, if_neg (by omega), if_neg (by omega), if_neg (by omega), if_pos rfl]; exact a2
          have g2 := (ih (swA j (swA (j + 1) e)) (by omega) ((h5.swA _).swA _)).1 (j + 1) (by simp only [swA_len]; exact h1) c2
          rw [← swA_braid h1] at g2
          have hb := dem_braid (i := j) (keyZ_good (((h5.swA j).swA (j + 1)).swA j)) (by omega)
          exact (f1.trans f2.dem).dem.trans (hb.trans (g1.trans g2.dem).symm.dem)
      · exact absurd h2 (a4 k h1)
    · rcases asc_cases e with ⟨j, a1, a2, a3, a4⟩ | ⟨-, a3⟩
      · rw [keyZ_some a1 a2 a3]
        have hjk : j ≠ k := fun h => by rw [h] at a2; omega
        have if1 := swA_inv j e a1 a2
        have ihf := ih (swA j e) (by omega) (h5.swA j)
        by_cases e1 : j + 1 < k
        · have f1 := ihf.2 k (by rw [swA_len]; exact h1) (by
            rw [nth_swA a1, nth_swA a1, if_neg (by omega), if_neg (by omega), if_neg (by omega), if_neg (by omega)]; exact h2)
          exact (dem_comm (keyZ_good (h5.swA j)) e1 (by omega)).symm.trans f1.dem
        by_cases e2 : k + 1 < j
        · have f1 := ihf.2 k (by rw [swA_len]; exact h1) (by
            rw [nth_swA a1, nth_swA a1, if_neg (by omega), if_neg (by omega), if_neg (by omega), if_neg (by omega)]; exact h2)
          exact (dem_comm (keyZ_good (h5.swA j)) e2 (by omega)).trans f1.dem
        by_cases e3 : j = k + 1
        · subst e3
          have b1 : nth (swA (k + 1) e) k < nth (swA (k + 1) e) (k + 1) := by
            rw [nth_swA a1, nth_swA a1, if_neg (by omega), if_neg (by omega), if_pos rfl]; omega
          have lf : k + 1 < (swA (k + 1) e).length := by rw [swA_len]; exact h1
          have f1 := ihf.1 k lf b1
          have if2 := swA_inv k (swA (k + 1) e) lf b1
          have f2 := (ih (swA k (swA (k + 1) e)) (by omega) ((h5.swA _).swA _)).2 (k + 1) (by simp only [swA_len]; exact a1) (by
            rw [nth_swA lf, nth_swA lf, if_neg (by omega), if_pos rfl, if_neg (by omega), if_neg (by omega), nth_swA a1, nth_swA a1, if_neg (by omega), if_neg (by omega), if_neg (by omega), if_pos rfl]; exact h2)
          have hb := dem_braid (i := k) (keyZ_good ((h5.swA (k + 1)).swA k)) (by omega)
          exact f1.dem.dem.trans (hb.trans (f2.dem.dem.trans f1.symm.dem))
        · obtain rfl : k = j + 1 := by omega
          have b1 : nth (swA j e) (j + 1) < nth (swA j e) (j + 1 + 1) := by
            rw [nth_swA a1, nth_swA a1, if_neg (by omega), if_pos rfl, if_neg (by omega), if_neg (by omega)]; omega
          have lf : j + 1 + 1 < (swA j e).length := by rw [swA_len]; exact h1
          have f1 := ihf.1 (j + 1) lf b1
          have if2 := swA_inv (j + 1) (swA j e) lf b1
          have f2 := (ih (swA (j + 1) (swA j e)) (by omega) ((h5.swA _).swA _)).2 j (by simp only [swA_len]; exact a1) (by
            rw [nth_swA lf, nth_swA lf, if_neg (by omega), if_neg (by omega), if_pos rfl, nth_swA a1, nth_swA a1, if_pos rfl, if_neg (by omega), if_neg (by omega)]; exact h2)
          have hb := dem_braid (i := j) (keyZ_good ((h5.swA j).swA (j + 1))) (by omega)
          exact f1.dem.dem.trans (hb.symm.trans (f2.dem.dem.trans f1.symm.dem))
      · rw [keyZ_none a3]
        exact dem_same h5.pad.1 (by omega) (by rw [nth_padL, nth_padL]; exact h2)
theorem key_sort {e : List Int} {k : Nat} (h : Ok5 e) (hk : k + 1 < e.length) : demK k (keyM 10 e) = if nth e (k + 1) < nth e k then keyM 10 (swA k e) else keyM 10 e := by
  have h5 := h.1
  have i1 := inv_five h.1
  have i2 := inv_five (h.swA k).1
  have z1 : keyX 10 e = keyZ e := keyX_fuel _ _ e i1 (Nat.le_refl _)
  have z2 : keyX 10 (swA k e) = keyZ (swA k e) := keyX_fuel _ _ _ i2 (Nat.le_refl _)
  rw [keyM_T 10 e h, keyM_T 10 (swA k e) (h.swA k), demK_T (by omega) (keyX_good 10 e h), z1, z2]
  have hm := key_main (invL e) e (Nat.le_refl _) h
  split
  · rename_i hgt
    have hm2 := (key_main (invL (swA k e)) (swA k e) (Nat.le_refl _) (h.swA k)).1 k (by rw [swA_len]; exact hk) (by
      rw [nth_swA hk, nth_swA hk, if_pos rfl, if_neg (by omega), if_pos rfl]; exact hgt)
    rw [swA_twice hk] at hm2
    exact hm2.symm.gather
  · rename_i hle
    by_cases heq : nth e k = nth e (k + 1)
    · exact (hm.2 k hk heq).gather
    · have h1 := hm.1 k hk (by omega)
      exact (h1.dem.trans ((dem_idem (keyZ_good (h.swA k)) (by omega)).trans h1.symm)).gather
end Go.Proofs.Ytgbojgmmingfdaa

/- l2At of the reference. -/
namespace Go.Proofs.Ytgbojgmmingfdaa
open Go.RowKit

theorem i64_and127 {n : Int} (h : 0 ≤ n ∧ n ≤ 9223372036854775807) : bits BinOp.and IntKind.i64 n 127 = n % 128 := by
  have h127 : (BitVec.ofInt 64 127).toNat = 2 ^ 7 - 1 := by decide
  have key : (BitVec.ofInt 64 n &&& BitVec.ofInt 64 127).toNat = (n % ((2 ^ 64 : Nat) : Int)).toNat % 2 ^ 7 := by
    rw [BitVec.toNat_and, BitVec.toNat_ofInt, h127, Nat.and_two_pow_sub_one_eq_mod]
  have e : bits BinOp.and IntKind.i64 n 127 = IntKind.i64.wrap ((BitVec.ofInt 64 n &&& BitVec.ofInt 64 127).toNat : Nat) := rfl
  rw [e, key, IntKind.wrap_i64]
  omega
def atK (k : Int) (i : Nat) : Int := k / 128 ^ i % 128
theorem l2At_any {w : World} (k : Int) (i : Nat) (hi : i ≤ 6) (h : 0 ≤ k ∧ k ≤ 9223372036854775807) : Calls Try.prog 194 #[.int .i64 k, .int .i64 (i : Int)] w (Gives w (.int .i64 (atK k i))) := by
  have hi : i = 0 ∨ i = 1 ∨ i = 2 ∨ i = 3 ∨ i = 4 ∨ i = 5 ∨ i = 6 := by omega
  rcases hi with rfl | rfl | rfl | rfl | rfl | rfl | rfl
  all_goals
    go_enter Try.func194, Try.ntmps194
    go_wp2
    go_ret
    refine ⟨ret_int ?_, (by first | exact ⟨_, rfl⟩ | exact ⟨_, (World.drewN_drewN _ _ _).symm⟩ | exact Quiet.refl _ | (simp only [World.drewN_drewN]; exact ⟨_, rfl⟩))⟩
    first
    | (rw [i64_and127 (by omega)]; rfl)
    | (simp only [atK]; rw [i64_and127 (by omega)]; congr 1; done)
    | (simp only [atK]; rw [i64_and127 (by omega)]; simp)
end Go.Proofs.Ytgbojgmmingfdaa
