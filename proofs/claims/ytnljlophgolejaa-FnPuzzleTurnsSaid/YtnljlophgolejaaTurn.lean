/- Puzzles turned: lists that are written over. -/
import Derived.Test.YtnljlophgolejaaPuzM
namespace Go.Proofs.Ytnljlophgolejaa
open Go.RowKit

def tRow (T : Nat → Nat → Nat) (g : Int → Int) (src : List Int) (r : Nat) : Nat → List Int → List Int
  | 0, l => l
  | k + 1, l => (tRow T g src r k l).set (T r k) (g (nth src (tri r + k)))
def tAll (T : Nat → Nat → Nat) (g : Int → Int) (src : List Int) : Nat → List Int → List Int
  | 0, l => l
  | r + 1, l => tRow T g src r (r + 1) (tAll T g src r l)
theorem tRow_len {T : Nat → Nat → Nat} {g : Int → Int} {src : List Int} {r : Nat} (k : Nat) (l : List Int) : (tRow T g src r k l).length = l.length := by
  induction k with
  | zero => rfl
  | succ k ih => rw [tRow, List.length_set, ih]
theorem tAll_len {T : Nat → Nat → Nat} {g : Int → Int} {src : List Int} (r : Nat) (l : List Int) : (tAll T g src r l).length = l.length := by
  induction r with
  | zero => rfl
  | succ r ih => rw [tAll, tRow_len, ih]
theorem tRow_agree {T : Nat → Nat → Nat} {g : Int → Int} {src : List Int} {r j : Nat} {l l' : List Int} (hl : l.length = l'.length) (hj : j < l.length) (k : Nat) (h : nth l j = nth l' j ∨ ∃ i, i < k ∧ T r i = j) :
    nth (tRow T g src r k l) j = nth (tRow T g src r k l') j := by
  induction k with
  | zero =>
    rcases h with h | ⟨i, hi, _⟩
    · exact h
    · omega
  | succ k ih =>
    rw [tRow, tRow]
    by_cases e : T r k = j
    · subst e
      rw [nth_set_eq (by rw [tRow_len]; exact hj), nth_set_eq (by rw [tRow_len, ← hl]; exact hj)]
    · rw [nth_set_ne e, nth_set_ne e]
      refine ih ?_
      rcases h with h | ⟨i, hi, he⟩
      · exact .inl h
      · refine .inr ⟨i, ?_, he⟩
        have : i ≠ k := fun h => e (h ▸ he)
        omega
theorem tAll_agree {T : Nat → Nat → Nat} {g : Int → Int} {src : List Int} {j : Nat} {l l' : List Int} (hl : l.length = l'.length) (hj : j < l.length) (n : Nat) (h : nth l j = nth l' j ∨ ∃ r, r < n ∧ ∃ i, i < r + 1 ∧ T r i = j) :
    nth (tAll T g src n l) j = nth (tAll T g src n l') j := by
  induction n with
  | zero =>
    rcases h with h | ⟨i, hi, _⟩
    · exact h
    · omega
  | succ n ih =>
    rw [tAll, tAll]
    refine tRow_agree (by rw [tAll_len, tAll_len, hl]) (by rw [tAll_len]; exact hj) _ ?_
    rcases h with h | ⟨r, hr, i, hi, he⟩
    · exact .inl (ih (.inl h))
    · by_cases e : r = n
      · subst e; exact .inr ⟨i, hi, he⟩
      · exact .inl (ih (.inr ⟨r, by omega, i, hi, he⟩))
theorem tAll_same {T : Nat → Nat → Nat} {g : Int → Int} {src : List Int} {l l' : List Int} {n m : Nat} (hl : l.length = m) (hl' : l'.length = m) (hc : ∀ j, j < m → ∃ r, r < n ∧ ∃ i, i < r + 1 ∧ T r i = j) : tAll T g src n l = tAll T g src n l' :=
  agree_all (by rw [tAll_len, hl]) (by rw [tAll_len, hl']) fun j hj => tAll_agree (hl.trans hl'.symm) (by omega) n (.inr (hc j hj))

def rotT (n r k : Nat) : Nat := tri (k + n - 1 - r) + (n - 1 - r)
def mirT (r k : Nat) : Nat := tri r + (r - k)
theorem rotT_all : ∀ n, n < 8 → ∀ j, j < tri n → ∃ r, r < n ∧ ∃ i, i < r + 1 ∧ rotT n r i = j := by decide +kernel
theorem mirT_all : ∀ n, n < 8 → ∀ j, j < tri n → ∃ r, r < n ∧ ∃ i, i < r + 1 ∧ mirT r i = j := by decide +kernel
theorem rotT_lt {n r k : Nat} (h : r < n) (hk : k ≤ r) : rotT n r k < tri n := tri_lt (by omega) (by omega)
theorem mirT_lt {n r k : Nat} (h : r < n) (hk : k ≤ r) : mirT r k < tri n := tri_lt h (by omega)
def flipB (x : Int) : Int := if x < 2 then 1 - x else x
end Go.Proofs.Ytnljlophgolejaa
