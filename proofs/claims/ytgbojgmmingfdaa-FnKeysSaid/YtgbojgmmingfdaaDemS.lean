/- l2Demazure of the reference: it makes what the program's makes. -/
import Derived.Test.YtgbojgmmingfdaaTimU
namespace Go.Proofs.Ytgbojgmmingfdaa
open Go.RowKit

theorem lowN_put {e : List Int} {j : Nat} (v : Int) (hj : j < e.length) : ∀ n, lowN (e.set j v) n = lowN e n + if j < n then (v - nth e j) * 128 ^ j else 0
  | 0 => by simp [lowN]
  | n + 1 => by
    rw [lowN, lowN, lowN_put v hj n]
    by_cases h : j = n
    · subst h
      rw [nth_set_eq hj, if_neg (by omega), if_pos (by omega), Int.sub_mul]; omega
    · rw [nth_set_ne h]
      by_cases h2 : j < n
      · rw [if_pos h2, if_pos (by omega)]; omega
      · rw [if_neg h2, if_neg (by omega)]; omega
theorem keyL_set {e : List Int} {j : Nat} (v : Int) (h7 : e.length = 7) (hj : j < 7) : keyL (e.set j v) = keyL e + (v - nth e j) * 128 ^ j := by
  rw [keyL_low, keyL_low, lowN_put v (by omega), if_pos hj]
theorem keyL_up {e : List Int} {i : Nat} (h7 : e.length = 7) (hi : i < 7) : keyL (upE i e) = keyL e + 128 ^ i := by
  rw [upE, keyL_set _ h7 hi, show nth e i + 1 - nth e i = 1 by omega, Int.one_mul]
theorem keyL_sw {e : List Int} {i : Nat} (t u : Int) (h7 : e.length = 7) (hi : i < 6) : keyL (swE e i t u) = keyL e - nth e i * 128 ^ i - nth e (i + 1) * 128 ^ (i + 1) + u * 128 ^ i + t * 128 ^ (i + 1) := by
  rw [swE, keyL_set _ (by rw [List.length_set]; exact h7) (by omega), keyL_set _ h7 (by omega), nth_set_ne (by omega), Int.sub_mul, Int.sub_mul]
  omega
theorem expL_len (k : Int) : (expL k).length = 7 := expUp_len 7 k
theorem expL_at {k : Int} {i : Nat} (hi : i < 7) : nth (expL k) i = atK k i := by
  have : i = 0 ∨ i = 1 ∨ i = 2 ∨ i = 3 ∨ i = 4 ∨ i = 5 ∨ i = 6 := by omega
  rcases this with rfl | rfl | rfl | rfl | rfl | rfl | rfl
  · show k % 128 = k / 128 ^ 0 % 128; simp
  · show k / 128 % 128 = k / 128 ^ 1 % 128; simp
  · show k / 128 / 128 % 128 = k / 128 ^ 2 % 128; omega
  · show k / 128 / 128 / 128 % 128 = k / 128 ^ 3 % 128; omega
  · show k / 128 / 128 / 128 / 128 % 128 = k / 128 ^ 4 % 128; omega
  · show k / 128 / 128 / 128 / 128 / 128 % 128 = k / 128 ^ 5 % 128; omega
  · show k / 128 / 128 / 128 / 128 / 128 / 128 % 128 = k / 128 ^ 6 % 128; omega
theorem keyL_expL {k : Int} (h : 0 ≤ k ∧ k ≤ 562949953421311) : keyL (expL k) = k := by
  rw [keyL_low]
  simp only [lowN]
  rw [expL_at (by omega), expL_at (by omega), expL_at (by omega), expL_at (by omega), expL_at (by omega), expL_at (by omega), expL_at (by omega)]
  simp only [atK]
  omega
theorem dvKT_eq {i : Nat} (hi : i < 6) (x : Int × Int) (hx : 0 ≤ x.1 ∧ x.1 ≤ 562949953421311) : (dvT i (exT x)).map kc = dvKT i x := by
  have e0 : nth (expL x.1) i = atK x.1 i := expL_at (by omega)
  have e1 : nth (expL x.1) (i + 1) = atK x.1 (i + 1) := expL_at (by omega)
  unfold dvT dvs dvKT dvK
  rw [List.map_map]
  have eN : (dHi (exT x).1 i - dLo (exT x).1 i).toNat = nK i x.1 := by
    show (dHi (expL x.1) i - dLo (expL x.1) i).toNat = _
    unfold dHi dLo nK
    rw [e0, e1]; omega
  rw [eN]
  refine List.map_congr_left fun k _ => ?_
  show (keyL (swE (expL x.1) i (dLo (expL x.1) i + k) (dHi (expL x.1) i - 1 - k)), dC (expL x.1) i x.2) = _
  rw [keyL_sw _ _ (expL_len _) hi, keyL_expL hx, e0, e1]
  have a1 : dLo (expL x.1) i = loK i x.1 := by unfold dLo loK; rw [e0, e1]
  have a2 : dHi (expL x.1) i = loK i x.1 + (nK i x.1 : Int) := by unfold dHi loK nK; rw [e0, e1]; omega
  have a3 : dC (expL x.1) i x.2 = cK i x := by
    unfold dC cK
    rw [e0, e1]
    by_cases h : atK x.1 i < atK x.1 (i + 1)
    · rw [if_pos h, if_pos (by omega)]; omega
    · rw [if_neg h, if_neg (by omega)]
  rw [a1, a2, a3]
  rfl
theorem divK_eq {i : Nat} (hi : i < 6) {L : List (Int × Int)} (hL : ∀ x ∈ L, 0 ≤ x.1 ∧ x.1 ≤ 562949953421311) : divK i L = gatherK (divKK i L) := by
  unfold divK divL divKK
  rw [List.map_flatMap, List.flatMap_map]
  congr 1
  exact flatMap_same fun x hx => dvKT_eq hi x (hL x hx)
theorem raiK_eq {i : Nat} (hi : i < 7) {L : List (Int × Int)} (hL : ∀ x ∈ L, 0 ≤ x.1 ∧ x.1 ≤ 562949953421311) : raiK i L = gatherK (mulU (128 ^ i) L) := by
  unfold raiK raL mulU
  rw [List.map_map, List.map_map]
  congr 1
  refine List.map_congr_left fun x hx => ?_
  show (keyL (upE i (expL x.1)), x.2) = _
  rw [keyL_up (expL_len _) hi, keyL_expL (hL x hx)]
end Go.Proofs.Ytgbojgmmingfdaa

/- l2Demazure of the reference: the contract. -/
namespace Go.Proofs.Ytgbojgmmingfdaa
open Go.RowKit

theorem nK_le (i : Nat) (k : Int) : nK i k ≤ 127 := by
  have := atK_in k i
  have := atK_in k (i + 1)
  unfold nK; omega
theorem absK_appK (a b : List (Int × Int)) : absK (a ++ b) = absK a + absK b := by simp [absK, List.sum_append]
theorem dvK_abs (i : Nat) (x : Int × Int) (m : Nat) : absK (dvK i x m) = m * x.2.natAbs := by
  induction m with
  | zero => simp [dvK, absK]
  | succ m ih =>
    rw [dvK_succ, absK_appK, ih, Nat.add_mul]
    have : (cK i x).natAbs = x.2.natAbs := by unfold cK; split <;> omega
    simp [absK, this]
theorem divKK_len {i : Nat} (L : List (Int × Int)) : (divKK i L).length ≤ L.length * 127 := by
  induction L with
  | nil => simp [divKK]
  | cons x L ih =>
    have e : divKK i (x :: L) = dvKT i x ++ divKK i L := rfl
    rw [e, List.length_append, dvKT, dvK_len, List.length_cons, Nat.add_mul]
    have := nK_le i x.1
    omega
theorem divKK_abs {i : Nat} (L : List (Int × Int)) : absK (divKK i L) ≤ absK L * 127 := by
  induction L with
  | nil => simp [divKK, absK]
  | cons x L ih =>
    have e : divKK i (x :: L) = dvKT i x ++ divKK i L := rfl
    have e2 : absK (x :: L) = x.2.natAbs + absK L := by simp [absK]
    rw [e, absK_appK, dvKT, dvK_abs, e2, Nat.add_mul]
    have h1 : nK i x.1 * x.2.natAbs ≤ 127 * x.2.natAbs := Nat.mul_le_mul_right _ (nK_le i x.1)
    omega
set_option maxRecDepth 100000 in
set_option maxHeartbeats 1000000 in
theorem l2Demazure_any {w : World} {bs gs ns cs : Nat} {F : List (Int × Int)} (i : Nat) (hi : i ≤ 5) (hF : OM w bs (.slice (some ⟨gs, 0, none⟩) ns cs) F)
    (hk : ∀ x ∈ F, 0 ≤ x.1 ∧ x.1 ≤ 20000000000000) (hab : absK F ≤ 2000000) (hn : F.length ≤ 2000000) :
    Calls Try.prog 120 #[.slice (some ⟨gs, 0, none⟩) ns cs, .int .i64 (i : Int)] w (MakesM w (demK i F)) := by
  obtain ⟨U0, hU0⟩ : ∃ U : Int, U = 128 ^ i := ⟨_, rfl⟩
  have hub : 1 ≤ U0 ∧ U0 ≤ 34359738368 := by
    rw [hU0]
    have : i = 0 ∨ i = 1 ∨ i = 2 ∨ i = 3 ∨ i = 4 ∨ i = 5 := by omega
    rcases this with rfl | rfl | rfl | rfl | rfl | rfl <;> decide
  have HUN0 : Hid (∀ W, Calls Try.prog 131 #[.int .i64 (i : Int)] W (Gives W (.int .i64 U0))) := fun W => by
    have h := l2Unit_any (w := W) (i : Int) (by omega)
    rw [Int.toNat_natCast, ← hU0] at h
    exact h
  have hr1 : raiK i F = gatherK (mulU U0 F) := by rw [hU0]; exact raiK_eq (by omega) fun x hx => by have := hk x hx; omega
  have hrk : ∀ x ∈ raiK i F, 0 ≤ x.1 ∧ x.1 ≤ 562949953421311 := fun x hx => by
    rw [hr1] at hx
    obtain ⟨y, hy, e⟩ := gatherK_mem hx
    obtain ⟨z, hz, rfl⟩ := List.mem_map.1 hy
    have := hk z hz
    rw [← e]; simp only; omega
  have hra : absK (raiK i F) ≤ 2000000 := by rw [hr1]; exact Nat.le_trans (gatherK_abs _) (by rw [mulU_abs]; exact hab)
  have hrl : (raiK i F).length ≤ 2000000 := by rw [hr1]; exact Nat.le_trans gatherK_len (by rw [mulU_len]; exact hn)
  have HDE : Hid (demK i F = gatherK (divKK i (raiK i F))) := divK_eq (by omega) hrk
  have HT : Hid (∀ W gu, Below w.heap.size w W → OM W w.heap.size (.slice (some ⟨gu, 0, none⟩) 1 1) [(U0, 1)] → Calls Try.prog 174 #[.slice (some ⟨gs, 0, none⟩) ns cs, .slice (some ⟨gu, 0, none⟩) 1 1] W (MakesM W (raiK i F))) := fun W gu bW ho => by
    rw [hr1]
    exact l2TimesU_any (hF.below bW) ho (fun x hx => by have := hk x hx; omega) (by omega) (by omega) (by omega)
  have HD : Hid (∀ W b g n c, OM W b (.slice (some ⟨g, 0, none⟩) n c) (raiK i F) → Calls Try.prog 173 #[.slice (some ⟨g, 0, none⟩) n c, .int .i64 (i : Int)] W (MakesM W (demK i F))) := fun W b g n c ho => by
    rw [HDE.out]
    have h1 := divKK_abs (i := i) (raiK i F)
    have h2 := divKK_len (i := i) (raiK i F)
    exact l2Divided_any i hi ho hrk (by omega) (by omega) (by omega) (by omega)
  have HLIT : Hid (∀ q, OM ((w.drewN q).alloc (.cells #[.int .i64 U0, .int .i64 1] 120)) w.heap.size (.slice (some ⟨w.heap.size, 0, none⟩) 1 1) [(U0, 1)]) := fun q => by
    have h := OM.lit1 (w.drewN q) w.heap.size U0 1 (by simp)
    simpa using h
  have HBL : Hid (∀ q o, Below w.heap.size w ((w.drewN q).alloc o)) := fun q o => (below_drewN (Below.refl _ _) q).alloc (by simp) o
  clear hF hk hab hn hr1 hrk hra hrl hU0 hub
  go_enter Try.func120, Try.ntmps120
  go_wp2_with (first
    | (go_at_call 131; (with_reducible refine (HUN0.out _).mono ?_); rintro e w2 ⟨rfl, q2, rfl⟩)
    | (go_at_call 174; refine (HT.out _ _ (HBL.out _ _) (HLIT.out _)).mono ?_; rintro e w3 ⟨g3, n3, c3, rfl, o3, b3⟩)
    | (go_at_call 173; refine (HD.out _ _ _ _ _ o3).mono ?_; rintro e w4 ⟨g4, n4, c4, rfl, o4, b4⟩)
    | fail)
  go_ret
  have h1 := (HBL.out _ _).trans (b3.mono (HBL.out _ _).size)
  exact ⟨g4, n4, c4, rfl, o4.mono h1.size, h1.trans (b4.mono h1.size)⟩
end Go.Proofs.Ytgbojgmmingfdaa
