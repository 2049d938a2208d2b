/- Weighted products, plain: how many puzzles, how large a weight, the order does not count. -/
import Derived.Test.YtnljlophgolejaaPProS
import Derived.Test.YtnljlophgolejaaPuzW
namespace Go.Proofs.Ytnljlophgolejaa
open Go.RowKit

/-- Shapes added in either order. -/
theorem insZ_comm : ∀ (ps : List (List Int × Int)) (s t : List Int) (x y : Int), insZ (insZ ps s x) t y = insZ (insZ ps t y) s x := by
  have ne : ∀ {s t : List Int} {x y : Int} {r : List (List Int × Int)}, lexLt s t = true → insZ ((s, x) :: r) t y = (s, x) :: insZ r t y := fun h => by rw [insZ, if_pos h]
  have front : ∀ {s t : List Int} {x y : Int} {r : List (List Int × Int)}, lexLt s t = true → insZ ((t, y) :: r) s x = (s, x) :: (t, y) :: r := fun h => by
    rw [insZ, if_neg (by rw [lex_asymm h]; simp), if_neg (fun e => lex_ne h e.symm)]
  have same : ∀ {s : List Int} {x y : Int} {r : List (List Int × Int)}, insZ ((s, x) :: r) s y = (s, x + y) :: r := by
    intro s x y r
    rw [insZ, if_neg (by rw [lex_irr]; simp), if_pos rfl]
  intro ps
  induction ps with
  | nil =>
    intro s t x y
    simp only [insZ]
    by_cases h : lexLt s t = true
    · rw [if_pos h, if_neg (by rw [lex_asymm h]; simp), if_neg (fun e => lex_ne h e.symm)]
    · by_cases e : s = t
      · subst e
        simp [lex_irr, Int.add_comm]
      · have h2 := lex_total (by simpa using h) e
        rw [if_neg h, if_neg e, if_pos h2]
  | cons z r ih =>
    intro s t x y
    obtain ⟨zk, zc⟩ := z
    by_cases h1 : lexLt zk s = true
    · rw [ne (x := zc) (r := r) h1]
      by_cases h2 : lexLt zk t = true
      · rw [ne h2, ne h2, ne h1, ih]
      · by_cases e2 : zk = t
        · subst e2
          rw [same, same, ne h1]
        · have h3 := lex_total (by simpa using h2) e2
          rw [front h3, front h3, ne (lex_trans h3 h1), ne h1]
    · by_cases e1 : zk = s
      · subst e1
        rw [same]
        by_cases h2 : lexLt zk t = true
        · rw [ne h2, ne h2, same]
        · by_cases e2 : zk = t
          · subst e2
            rw [same, same, same, Int.add_assoc, Int.add_assoc, Int.add_comm x]
          · have h3 := lex_total (by simpa using h2) e2
            rw [front h3, front h3, ne h3, same]
      · have h3 := lex_total (by simpa using h1) e1
        rw [front h3]
        by_cases h2 : lexLt s t = true
        · rw [ne h2]
          by_cases h4 : lexLt zk t = true
          · rw [ne h4, front h3]
          · by_cases e4 : zk = t
            · subst e4
              rw [same, front h3]
            · have h5 := lex_total (by simpa using h4) e4
              rw [front h5, front h2]
        · by_cases e2 : s = t
          · subst e2
            rw [same, front h3, same, Int.add_comm]
          · have h4 := lex_total (by simpa using h2) e2
            have h5 := lex_trans h4 h3
            rw [front h4, front h5, ne h4, front h3]
theorem proS_perm {n : Nat} {f : PZ → Int} {l l' : List PZ} (h : l.Perm l') (s : List (List Int × Int)) : l.foldl (proS n f) s = l'.foldl (proS n f) s :=
  h.foldl_eq' (fun _ _ _ _ _ => insZ_comm _ _ _ _ _) s
end Go.Proofs.Ytnljlophgolejaa

/- Weighted puzzles, plain: how many there are at most, how large a weight is. -/
namespace Go.Proofs.Ytnljlophgolejaa
open Go.RowKit

/-- How many there are at most: the last label of a row is given. -/
def frP : Nat → Nat → Nat → Nat
  | 0, _, _ => 1
  | d + 1, r, k => (if k = r then 1 else 3) * frP d (nxR r k) (nxK r k)
theorem spR_fr {wt : Bool} {n : Nat} {a b : List Int} {d r k : Nat} {p : PZ} {left right : Int} (ha : ∀ j, 0 ≤ nth a j ∧ nth a j ≤ 2) (hk : k ≤ r)
    (ih : ∀ (r k : Nat) (left : Int) (p : PZ), 0 ≤ left ∧ left ≤ 2 → k ≤ r → (sp wt n a b d r k left p).length ≤ frP d r k) : (spR wt n a b (sp wt n a b d) r k left p right).length ≤ frP d (nxR r k) (nxK r k) := by
  unfold spR
  split
  · simp
  · split
    · simp
    · unfold spK nxR nxK
      by_cases h : k < r
      · rw [if_pos h, if_neg (show ¬ k = r by omega), if_neg (show ¬ k = r by omega)]
        split
        · next h0 => exact ih _ _ _ _ ⟨h0, downB_le _ _⟩ (by omega)
        · simp
      · rw [if_neg h, if_pos (show k = r by omega), if_pos (show k = r by omega)]
        refine ih _ _ _ _ ?_ (by omega)
        split
        · exact ha _
        · omega
theorem sp_fr {wt : Bool} {n : Nat} {a b : List Int} (ha : ∀ j, 0 ≤ nth a j ∧ nth a j ≤ 2) : ∀ (d r k : Nat) (left : Int) (p : PZ), 0 ≤ left ∧ left ≤ 2 → k ≤ r → (sp wt n a b d r k left p).length ≤ frP d r k := by
  intro d
  induction d with
  | zero => intro r k left p _ _; simp [sp, frP]
  | succ d ih =>
    intro r k left p hl hk
    have key : ∀ right, (spR wt n a b (sp wt n a b d) r k left p right).length ≤ frP d (nxR r k) (nxK r k) := fun right => spR_fr ha hk ih
    have h0 := key 0
    have h1 := key 1
    have h2 := key 2
    rw [sp, frP]
    simp only [List.flatMap_cons, List.flatMap_nil, List.append_nil, List.length_append]
    by_cases e : k = r
    · rw [if_pos e]
      have none : ∀ right, right ≠ nth b r → (spR wt n a b (sp wt n a b d) r k left p right).length = 0 := fun right h => by
        unfold spR
        rw [if_pos ⟨e, h⟩]; rfl
      by_cases e0 : (0 : Int) = nth b r
      · have n1 := none 1 (by omega)
        have n2 := none 2 (by omega)
        omega
      · have n0 := none 0 e0
        by_cases e1 : (1 : Int) = nth b r
        · have n2 := none 2 (by omega)
          omega
        · have n1 := none 1 e1
          omega
    · rw [if_neg e]
      omega
theorem frP_le : ∀ (d r k : Nat), frP d r k ≤ 3 ^ d := by
  intro d
  induction d with
  | zero => intro r k; simp [frP]
  | succ d ih =>
    intro r k
    have := ih (nxR r k) (nxK r k)
    rw [frP, Nat.pow_succ]
    split <;> omega
theorem spAll_len5w {wt : Bool} {a b : List Int} (h : isStrB a = true) (h5 : a.length ≤ 5) : (spAll wt a b).length ≤ 59049 := by
  have h1 : (spAll wt a b).length ≤ frP (tri a.length) 0 0 := sp_fr (str_labels h) _ _ _ _ _ (str_labels h _) (Nat.le_refl _)
  have h2 : ∀ m, m ≤ 5 → frP (tri m) 0 0 ≤ 59049 := by decide
  exact Nat.le_trans h1 (h2 _ h5)

theorem wStep_le {n : Nat} {B Y : List Int} {r k : Nat} {x : Int} {K : Nat} (hb : ∀ j, -9 ≤ nth Y j ∧ nth Y j ≤ 9) (hx : x.natAbs ≤ K) (hK : 18 * K ≤ 9000000000000000000) : (wStep n B Y r k x).natAbs ≤ 18 * K := by
  unfold wStep
  split
  · have h1 := hb (k + n - 1 - r)
    have h2 := hb k
    have h3 : (x * (nth Y (k + n - 1 - r) - nth Y k)).natAbs ≤ K * 18 := by
      rw [Int.natAbs_mul]
      exact Nat.mul_le_mul hx (by omega)
    have h4 : wrap64 (x * (nth Y (k + n - 1 - r) - nth Y k)) = x * (nth Y (k + n - 1 - r) - nth Y k) := by unfold wrap64; omega
    rw [h4]
    omega
  · omega
theorem wRow_le {n : Nat} {B Y : List Int} {r : Nat} {x : Int} {K : Nat} (hb : ∀ j, -9 ≤ nth Y j ∧ nth Y j ≤ 9) (hx : x.natAbs ≤ K) : ∀ m, 18 ^ m * K ≤ 9000000000000000000 → (wRow n B Y r m x).natAbs ≤ 18 ^ m * K
  | 0, _ => by simpa [wRow] using hx
  | m + 1, h => by
    have e : 18 ^ (m + 1) * K = 18 * (18 ^ m * K) := by rw [Nat.pow_succ, Nat.mul_comm (18 ^ m) 18, Nat.mul_assoc]
    rw [e] at h ⊢
    rw [wRow]
    exact wStep_le hb (wRow_le hb hx m (by omega)) h
theorem wAll_le {n : Nat} {B Y : List Int} (hb : ∀ j, -9 ≤ nth Y j ∧ nth Y j ≤ 9) : ∀ r, r ≤ 4 → (wAll n B Y r).natAbs ≤ 18 ^ tri r
  | 0, _ => by simp [wAll, tri]
  | r + 1, h => by
    have ih := wAll_le (n := n) (B := B) hb r (by omega)
    have e : 18 ^ (r + 1) * 18 ^ tri r = 18 ^ tri (r + 1) := by rw [← Nat.pow_add, tri_step, Nat.add_comm]
    rw [wAll, ← e]
    refine wRow_le hb ih (r + 1) ?_
    rw [e]
    have h1 : tri (r + 1) ≤ 10 := Nat.le_trans (tri_mono h) (by decide)
    exact Nat.le_trans (Nat.pow_le_pow_right (by decide) h1) (by decide)
theorem wAll_last {n : Nat} {B Y : List Int} (hn : 1 ≤ n) (h : ∀ k, k < n → nth B (tri (n - 1) + k) ≤ 1) : wAll n B Y n = wAll n B Y (n - 1) := by
  obtain ⟨m, rfl⟩ : ∃ m, n = m + 1 := ⟨n - 1, by omega⟩
  rw [Nat.add_sub_cancel] at h
  rw [Nat.add_sub_cancel, wAll]
  exact wRow_none _ h
/-- The labels at the bottom of a puzzle. -/
theorem okP_last {n : Nat} {p : PZ} (h : okP n p) : ∀ k, k < n → nth p.2.2 (tri (n - 1) + k) ≤ 1 := by
  have hs := isStrB_iff.1 (side_str h)
  have e : (sideB n p.2.2 n).length = n := gen_len _ _
  intro k hk
  have e2 : nth (sideB n p.2.2 n) k = nth p.2.2 (tri (n - 1) + k) := nth_gen hk
  have h2 := hs.2 k (by omega)
  rw [e2] at h2
  omega
/-- The weight of a puzzle. -/
def wtP (n : Nat) (Y : List Int) (p : PZ) : Int := wAll n p.2.2 Y n
theorem shB_in {n : Nat} {Y : List Int} (h : shB (n : Int) Y = true) : n ≤ 5 ∧ Y.length = n ∧ ∀ j, -9 ≤ nth Y j ∧ nth Y j ≤ 9 := by
  unfold shB at h
  simp only [Bool.and_eq_true, decide_eq_true_eq] at h
  refine ⟨by omega, by omega, fun j => ?_⟩
  by_cases hj : j < Y.length
  · exact inB_iff.1 (allB_at h.2.2 hj)
  · rw [nth_ge (by omega)]; omega
theorem wtP_eq {n : Nat} {Y : List Int} {p : PZ} (h : okP n p) : wtP n Y p = wAll n p.2.2 Y (n - 1) := wAll_last (puz_len h).2.1 (okP_last h)
theorem wtP_le {n : Nat} {Y : List Int} {p : PZ} (h : okP n p) (hY : shB (n : Int) Y = true) : -3570467226624 ≤ wtP n Y p ∧ wtP n Y p ≤ 3570467226624 := by
  obtain ⟨h5, -, hb⟩ := shB_in hY
  rw [wtP_eq h]
  have h1 := wAll_le (n := n) (B := p.2.2) hb (n - 1) (by omega)
  have h2 : tri (n - 1) ≤ 10 := Nat.le_trans (tri_mono (show n - 1 ≤ 4 by omega)) (by decide)
  have h3 : 18 ^ tri (n - 1) ≤ 18 ^ 10 := Nat.pow_le_pow_right (by decide) h2
  have h4 : 18 ^ 10 = 3570467226624 := by decide
  omega
end Go.Proofs.Ytnljlophgolejaa
