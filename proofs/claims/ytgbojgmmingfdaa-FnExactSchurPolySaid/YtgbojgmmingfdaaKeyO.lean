/- Keys as numbers stand as byTerms has them. -/
import Derived.Test.YtgbojgmmingfdaaKeyL
import Derived.Test.YtgbojgmmingfdaaTerms
namespace Go.Proofs.Ytgbojgmmingfdaa

def lowN (e : List Int) : Nat → Int
  | 0 => 0
  | n + 1 => nth e n * 128 ^ n + lowN e n
def Ex128 (e : List Int) : Prop := ∀ j, j < 7 → 0 ≤ nth e j ∧ nth e j ≤ 127
theorem keyL_low (e : List Int) : keyL e = lowN e 7 := by
  simp only [keyL, keyUp, lowN, Nat.reduceSub]
  omega
theorem lowN_in {e : List Int} (h : Ex128 e) : ∀ n, n ≤ 7 → 0 ≤ lowN e n ∧ lowN e n < 128 ^ n
  | 0, _ => by simp [lowN]
  | n + 1, hn => by
    have ih := lowN_in h n (by omega)
    have h1 := h n (by omega)
    have hP : (0 : Int) < 128 ^ n := by omega
    rw [lowN, Int.pow_succ]
    have a1 : 0 ≤ nth e n * 128 ^ n := Int.mul_nonneg h1.1 (Int.le_of_lt hP)
    have a2 : nth e n * 128 ^ n ≤ 127 * 128 ^ n := Int.mul_le_mul_of_nonneg_right h1.2 (Int.le_of_lt hP)
    omega
theorem low_lt {a b : List Int} (ha : Ex128 a) (hb : Ex128 b) {n : Nat} (hn : n < 7) (h : nth b n < nth a n) : lowN b (n + 1) < lowN a (n + 1) := by
  have h1 := lowN_in ha n (by omega)
  have h2 := lowN_in hb n (by omega)
  have hP : (0 : Int) < 128 ^ n := by omega
  have a1 : (nth b n + 1) * 128 ^ n ≤ nth a n * 128 ^ n := Int.mul_le_mul_of_nonneg_right (by omega) (Int.le_of_lt hP)
  rw [Int.add_mul, Int.one_mul] at a1
  rw [lowN, lowN]
  omega
theorem byFrom_low {a b : List Int} (ha : Ex128 a) (hb : Ex128 b) : ∀ n, n ≤ 7 → (byFrom a b n < 0 ↔ lowN b n < lowN a n)
  | 0, _ => by simp [byFrom, lowN]
  | n + 1, hn => by
    have ih := byFrom_low ha hb n (by omega)
    rw [byFrom]
    by_cases e : nth a n = nth b n
    · rw [if_pos e, ih, lowN, lowN, e]
      omega
    · rw [if_neg e]
      constructor
      · intro h
        exact low_lt ha hb (by omega) (by omega)
      · intro h
        by_cases h2 : nth b n < nth a n
        · omega
        · have := low_lt hb ha (n := n) (by omega) (by omega)
          omega
theorem byT_key {a b : List Int} (ha : Ex128 a) (hb : Ex128 b) : byT a b < 0 ↔ keyL b < keyL a := by
  rw [keyL_low, keyL_low]
  exact byFrom_low ha hb 7 (Nat.le_refl _)
end Go.Proofs.Ytgbojgmmingfdaa
