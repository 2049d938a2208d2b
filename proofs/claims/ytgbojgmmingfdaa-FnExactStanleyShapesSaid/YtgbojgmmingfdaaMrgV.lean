/- A merge sort of slices that read as lists, in the order of the reference's loops. -/
import Derived.Test.YtgbojgmmingfdaaWrdS
namespace Go.Proofs.Ytgbojgmmingfdaa
open Go.RowKit

/-- A slice, and the list that it reads as. -/
abbrev PV := Value × List Int
def nthV (X : List PV) (k : Nat) : PV := X.getD k (undef, [])
theorem nthV_lt {X : List PV} {k : Nat} (h : k < X.length) : nthV X k = X[k] := by simp [nthV, List.getD, h]
/-- In this order. -/
def LeP (x y : PV) : Prop := lexLt y.2 x.2 = false
theorem LeP.trans {x y z : PV} (h1 : LeP x y) (h2 : LeP y z) : LeP x z := by
  unfold LeP at *
  rcases h : lexLt z.2 x.2 with _ | _
  · rfl
  · by_cases e : y.2 = z.2
    · rw [e] at h1; rw [h1] at h; cases h
    · have h3 := lex_total h2 (fun h4 => e h4.symm)
      have h4 := lex_trans h3 h
      rw [h1] at h4; cases h4
def segV (X : List PV) (a b : Nat) : List PV := (X.drop a).take (b - a)
theorem sgV_nil (X : List PV) (a : Nat) : segV X a a = [] := by simp [segV]
theorem sgV_snoc {X : List PV} {a b : Nat} (hab : a ≤ b) (hb : b < X.length) : segV X a (b + 1) = segV X a b ++ [nthV X b] := by
  unfold segV
  rw [show b + 1 - a = b - a + 1 by omega, List.take_succ_eq_append_getElem (by rw [List.length_drop]; omega), nthV_lt hb]
  simp only [List.getElem_drop]
  congr 3
  omega
theorem sgV_len {X : List PV} {a b : Nat} (hb : b ≤ X.length) : (segV X a b).length = b - a := by
  unfold segV; rw [List.length_take, List.length_drop]; omega
theorem sgV_app {X : List PV} {a b c : Nat} (hab : a ≤ b) (hbc : b ≤ c) : segV X a b ++ segV X b c = segV X a c := by
  unfold segV
  have h : X.drop b = (X.drop a).drop (b - a) := by rw [List.drop_drop]; congr 1; omega
  rw [h, show c - a = (b - a) + (c - b) by omega, List.take_add]
theorem sgV_all (X : List PV) : segV X 0 X.length = X := by simp [segV]
theorem sgV_at {X : List PV} {a b k : Nat} (hk : k < b - a) : nthV (segV X a b) k = nthV X (a + k) := by
  unfold segV nthV
  simp [List.getD, List.getElem?_take, hk, List.getElem?_drop]
theorem nthV_left {a b : List PV} {k : Nat} (h : k < a.length) : nthV (a ++ b) k = nthV a k := by simp [nthV, List.getD, List.getElem?_append_left h]
theorem nthV_right {a b : List PV} {k : Nat} (h : a.length ≤ k) : nthV (a ++ b) k = nthV b (k - a.length) := by simp [nthV, List.getD, List.getElem?_append_right h]
/-- In each stretch of s places the lists ascend. -/
def ChunkV (s : Nat) (X : List PV) : Prop := ∀ i j, i < j → j < X.length → i / s = j / s → LeP (nthV X i) (nthV X j)
theorem chunkV_one (X : List PV) : ChunkV 1 X := fun i j hij hj h => by
  rw [Nat.div_one, Nat.div_one] at h; omega
theorem chunkV_all {s : Nat} {X : List PV} (h : ChunkV s X) (hs : X.length ≤ s) : X.Pairwise LeP := by
  rw [List.pairwise_iff_getElem]
  intro i j hi hj hij
  have := h i j hij hj (by rw [Nat.div_eq_of_lt (by omega), Nat.div_eq_of_lt (by omega)])
  rwa [nthV_lt hi, nthV_lt hj] at this
/-- What has been merged of two stretches. -/
structure MrgV (X : List PV) (at_ mid en i j : Nat) (M : List PV) : Prop where
  b1 : at_ ≤ i
  b2 : i ≤ mid
  b3 : mid ≤ j
  b4 : j ≤ en
  b5 : en ≤ X.length
  perm : M.Perm (segV X at_ i ++ segV X mid j)
  srt : M.Pairwise LeP
  lo1 : ∀ m ∈ M, ∀ k, i ≤ k → k < mid → LeP m (nthV X k)
  lo2 : ∀ m ∈ M, ∀ k, j ≤ k → k < en → LeP m (nthV X k)
section
variable {X M : List PV} {at_ mid en i j : Nat}
theorem MrgV.start (h1 : at_ ≤ mid) (h2 : mid ≤ en) (h3 : en ≤ X.length) : MrgV X at_ mid en at_ mid [] :=
  ⟨Nat.le_refl _, h1, Nat.le_refl _, h2, h3, by simp [sgV_nil], List.Pairwise.nil, by simp, by simp⟩
theorem MrgV.left (h : MrgV X at_ mid en i j M) (hi : i < mid) (hc : ∀ k, i < k → k < mid → LeP (nthV X i) (nthV X k)) (hd : j < en → ∀ k, j ≤ k → k < en → LeP (nthV X i) (nthV X k)) : MrgV X at_ mid en (i + 1) j (M ++ [nthV X i]) := by
  refine ⟨by have := h.b1; omega, hi, h.b3, h.b4, h.b5, ?_, ?_, fun m hm k h1 h2 => ?_, fun m hm k h1 h2 => ?_⟩
  · rw [sgV_snoc h.b1 (by have := h.b3; have := h.b4; have := h.b5; omega)]
    refine (h.perm.append_right _).trans ?_
    rw [List.append_assoc, List.append_assoc]
    exact List.Perm.append_left _ List.perm_append_comm
  · rw [List.pairwise_append]
    refine ⟨h.srt, List.pairwise_singleton _ _, fun x hx y hy => ?_⟩
    rw [List.mem_singleton.1 hy]
    exact h.lo1 x hx i (Nat.le_refl _) hi
  · rcases List.mem_append.1 hm with hm | hm
    · exact h.lo1 m hm k (by omega) h2
    · rw [List.mem_singleton.1 hm]; exact hc k (by omega) h2
  · rcases List.mem_append.1 hm with hm | hm
    · exact h.lo2 m hm k h1 h2
    · rw [List.mem_singleton.1 hm]; exact hd (by omega) k h1 h2
theorem MrgV.right (h : MrgV X at_ mid en i j M) (hj : j < en) (hc : ∀ k, j < k → k < en → LeP (nthV X j) (nthV X k)) (hd : i < mid → ∀ k, i ≤ k → k < mid → LeP (nthV X j) (nthV X k)) : MrgV X at_ mid en i (j + 1) (M ++ [nthV X j]) := by
  refine ⟨h.b1, h.b2, by have := h.b3; omega, hj, h.b5, ?_, ?_, fun m hm k h1 h2 => ?_, fun m hm k h1 h2 => ?_⟩
  · rw [sgV_snoc h.b3 (by have := h.b5; omega), ← List.append_assoc]
    exact h.perm.append_right _
  · rw [List.pairwise_append]
    refine ⟨h.srt, List.pairwise_singleton _ _, fun x hx y hy => ?_⟩
    rw [List.mem_singleton.1 hy]
    exact h.lo2 x hx j (Nat.le_refl _) hj
  · rcases List.mem_append.1 hm with hm | hm
    · exact h.lo1 m hm k h1 h2
    · rw [List.mem_singleton.1 hm]; exact hd (by omega) k h1 h2
  · rcases List.mem_append.1 hm with hm | hm
    · exact h.lo2 m hm k (by omega) h2
    · rw [List.mem_singleton.1 hm]; exact hc k (by omega) h2
end
/-- Whole stretches have been merged, up to a place. -/
structure LvlV (s : Nat) (X : List PV) (a : Nat) (Y : List PV) : Prop where
  le : a ≤ X.length
  perm : Y.Perm (segV X 0 a)
  chunk : ChunkV (2 * s) Y
theorem div_nextV {s a i : Nat} (h : s * a ≤ i) (h2 : i < s * a + s) : i / s = a := by
  have hs : 0 < s := by
    rcases Nat.eq_zero_or_pos s with h0 | h0
    · subst h0; omega
    · exact h0
  exact Nat.div_eq_of_lt_le (by rw [Nat.mul_comm]; exact h) (by rw [Nat.mul_comm, Nat.mul_add]; omega)
theorem LvlV.next {s q mid en : Nat} {X Y M : List PV} (hs : 0 < s) (h : LvlV s X (2 * s * q) Y) (hm : MrgV X (2 * s * q) mid en mid en M) (hen : en ≤ 2 * s * q + 2 * s) : LvlV s X en (Y ++ M) := by
  have hY : Y.length = 2 * s * q := by rw [h.perm.length_eq, sgV_len h.le]; omega
  have hM : M.length = en - 2 * s * q := by
    rw [hm.perm.length_eq, sgV_app hm.b1 hm.b3, sgV_len hm.b5]
  have hb1 := hm.b1
  have hb3 := hm.b3
  refine ⟨hm.b5, ?_, fun i j hij hj hd => ?_⟩
  · rw [← sgV_app (Nat.zero_le _) (show 2 * s * q ≤ en by omega), ← sgV_app (X := X) hm.b1 hm.b3]
    exact h.perm.append hm.perm
  · rw [List.length_append] at hj
    by_cases h1 : j < Y.length
    · have := h.chunk i j hij h1 hd
      rwa [nthV_left h1, nthV_left (by omega)]
    · have hj2 := div_nextV (s := 2 * s) (a := q) (i := j) (by omega) (by omega)
      have hi2 : 2 * s * q ≤ i := by
        rw [hj2] at hd
        have := Nat.div_mul_le_self i (2 * s)
        rw [hd, Nat.mul_comm] at this
        exact this
      have hp := h.le
      have h3 := List.pairwise_iff_getElem.1 hm.srt (i - Y.length) (j - Y.length) (by omega) (by omega) (by omega)
      rw [nthV_right (by omega), nthV_right (by omega), nthV_lt (by omega), nthV_lt (by omega)]
      exact h3
end Go.Proofs.Ytgbojgmmingfdaa
