/- A merge sort of keys with coefficients, in the order of the program's loops. No program is in sight here. -/
import Derived.Test.YtgbojgmmingfdaaMons
namespace Go.Proofs.Ytgbojgmmingfdaa

def keyAt (X : List (Int × Int)) (k : Nat) : Int := (nthM X k).1
def seg (X : List (Int × Int)) (a b : Nat) : List (Int × Int) := (X.drop a).take (b - a)
theorem seg_nil (X : List (Int × Int)) (a : Nat) : seg X a a = [] := by simp [seg]
theorem seg_snoc {X : List (Int × Int)} {a b : Nat} (hab : a ≤ b) (hb : b < X.length) : seg X a (b + 1) = seg X a b ++ [nthM X b] := by
  unfold seg
  rw [show b + 1 - a = b - a + 1 by omega, List.take_succ_eq_append_getElem (by rw [List.length_drop]; omega), nthM_lt hb]
  simp only [List.getElem_drop]
  congr 3
  omega
theorem seg_len {X : List (Int × Int)} {a b : Nat} (hb : b ≤ X.length) : (seg X a b).length = b - a := by
  unfold seg; rw [List.length_take, List.length_drop]; omega
theorem seg_app {X : List (Int × Int)} {a b c : Nat} (hab : a ≤ b) (hbc : b ≤ c) : seg X a b ++ seg X b c = seg X a c := by
  unfold seg
  have h : X.drop b = (X.drop a).drop (b - a) := by rw [List.drop_drop]; congr 1; omega
  rw [h, show c - a = (b - a) + (c - b) by omega, List.take_add]
theorem seg_all (X : List (Int × Int)) : seg X 0 X.length = X := by simp [seg]
theorem seg_at {X : List (Int × Int)} {a b k : Nat} (hk : k < b - a) : nthM (seg X a b) k = nthM X (a + k) := by
  unfold seg nthM
  simp [List.getD, List.getElem?_take, hk, List.getElem?_drop]
theorem nthM_left {a b : List (Int × Int)} {k : Nat} (h : k < a.length) : nthM (a ++ b) k = nthM a k := by simp [nthM, List.getD, List.getElem?_append_left h]
theorem nthM_right {a b : List (Int × Int)} {k : Nat} (h : a.length ≤ k) : nthM (a ++ b) k = nthM b (k - a.length) := by simp [nthM, List.getD, List.getElem?_append_right h]
/-- In each stretch of s places the keys descend. -/
def Chunk (s : Nat) (X : List (Int × Int)) : Prop := ∀ i j, i < j → j < X.length → i / s = j / s → keyAt X j ≤ keyAt X i
theorem chunk_one (X : List (Int × Int)) : Chunk 1 X := fun i j hij hj h => by
  rw [Nat.div_one, Nat.div_one] at h; omega
theorem chunk_all {s : Nat} {X : List (Int × Int)} (h : Chunk s X) (hs : X.length ≤ s) : X.Pairwise fun x y => y.1 ≤ x.1 := by
  rw [List.pairwise_iff_getElem]
  intro i j hi hj hij
  have := h i j hij hj (by rw [Nat.div_eq_of_lt (by omega), Nat.div_eq_of_lt (by omega)])
  unfold keyAt at this
  rwa [nthM_lt hi, nthM_lt hj] at this
/-- What has been merged of two stretches. -/
structure Mrg (X : List (Int × Int)) (at_ mid en i j : Nat) (M : List (Int × Int)) : Prop where
  b1 : at_ ≤ i
  b2 : i ≤ mid
  b3 : mid ≤ j
  b4 : j ≤ en
  b5 : en ≤ X.length
  perm : M.Perm (seg X at_ i ++ seg X mid j)
  srt : M.Pairwise fun x y => y.1 ≤ x.1
  lo1 : ∀ m ∈ M, ∀ k, i ≤ k → k < mid → keyAt X k ≤ m.1
  lo2 : ∀ m ∈ M, ∀ k, j ≤ k → k < en → keyAt X k ≤ m.1
section
variable {X M : List (Int × Int)} {at_ mid en i j : Nat}
theorem Mrg.start (h1 : at_ ≤ mid) (h2 : mid ≤ en) (h3 : en ≤ X.length) : Mrg X at_ mid en at_ mid [] :=
  ⟨Nat.le_refl _, h1, Nat.le_refl _, h2, h3, by simp [seg_nil], List.Pairwise.nil, by simp, by simp⟩
theorem Mrg.left (h : Mrg X at_ mid en i j M) (hi : i < mid) (hc : ∀ k, i < k → k < mid → keyAt X k ≤ keyAt X i) (hd : j < en → ∀ k, j ≤ k → k < en → keyAt X k ≤ keyAt X i) : Mrg X at_ mid en (i + 1) j (M ++ [nthM X i]) := by
  refine ⟨by have := h.b1; omega, hi, h.b3, h.b4, h.b5, ?_, ?_, fun m hm k h1 h2 => ?_, fun m hm k h1 h2 => ?_⟩
  · rw [seg_snoc h.b1 (by have := h.b3; have := h.b4; have := h.b5; omega)]
    refine (h.perm.append_right _).trans ?_
    rw [List.append_assoc, List.append_assoc]
    exact List.Perm.append_left _ List.perm_append_comm
  · rw [List.pairwise_append]
    refine ⟨h.srt, List.pairwise_singleton _ _, fun x hx y hy => ?_⟩
    rw [List.mem_singleton.1 hy]
    exact h.lo1 x hx i (Nat.le_refl _) hi
  · rcases List.mem_append.1 hm with hm | hm
    · exact h.lo1 m hm k (by omega) h2
    · rw [List.mem_singleton.1 hm]; exact hc k (by omega) h2
  · rcases List.mem_append.1 hm with hm | hm
    · exact h.lo2 m hm k h1 h2
    · rw [List.mem_singleton.1 hm]; exact hd (by omega) k h1 h2
theorem Mrg.right (h : Mrg X at_ mid en i j M) (hj : j < en) (hc : ∀ k, j < k → k < en → keyAt X k ≤ keyAt X j) (hd : i < mid → ∀ k, i ≤ k → k < mid → keyAt X k ≤ keyAt X j) : Mrg X at_ mid en i (j + 1) (M ++ [nthM X j]) := by
  refine ⟨h.b1, h.b2, by have := h.b3; omega, hj, h.b5, ?_, ?_, fun m hm k h1 h2 => ?_, fun m hm k h1 h2 => ?_⟩
  · rw [seg_snoc h.b3 (by have := h.b5; omega), ← List.append_assoc]
    exact h.perm.append_right _
  · rw [List.pairwise_append]
    refine ⟨h.srt, List.pairwise_singleton _ _, fun x hx y hy => ?_⟩
    rw [List.mem_singleton.1 hy]
    exact h.lo2 x hx j (Nat.le_refl _) hj
  · rcases List.mem_append.1 hm with hm | hm
    · exact h.lo1 m hm k h1 h2
    · rw [List.mem_singleton.1 hm]; exact hd (by omega) k h1 h2
  · rcases List.mem_append.1 hm with hm | hm
    · exact h.lo2 m hm k (by omega) h2
    · rw [List.mem_singleton.1 hm]; exact hc k (by omega) h2
end
/-- Whole stretches have been merged, up to a place. -/
structure Lvl (s : Nat) (X : List (Int × Int)) (a : Nat) (Y : List (Int × Int)) : Prop where
  le : a ≤ X.length
  perm : Y.Perm (seg X 0 a)
  chunk : Chunk (2 * s) Y
theorem div_next {s a i : Nat} (h : s * a ≤ i) (h2 : i < s * a + s) : i / s = a := by
  have hs : 0 < s := by
    rcases Nat.eq_zero_or_pos s with h0 | h0
    · subst h0; omega
    · exact h0
  exact Nat.div_eq_of_lt_le (by rw [Nat.mul_comm]; exact h) (by rw [Nat.mul_comm, Nat.mul_add]; omega)
theorem Lvl.next {s q mid en : Nat} {X Y M : List (Int × Int)} (hs : 0 < s) (h : Lvl s X (2 * s * q) Y) (hm : Mrg X (2 * s * q) mid en mid en M) (hen : en ≤ 2 * s * q + 2 * s) : Lvl s X en (Y ++ M) := by
  have hY : Y.length = 2 * s * q := by rw [h.perm.length_eq, seg_len h.le]; omega
  have hM : M.length = en - 2 * s * q := by
    rw [hm.perm.length_eq, seg_app hm.b1 hm.b3, seg_len hm.b5]
  have hb1 := hm.b1
  have hb3 := hm.b3
  refine ⟨hm.b5, ?_, fun i j hij hj hd => ?_⟩
  · rw [← seg_app (Nat.zero_le _) (show 2 * s * q ≤ en by omega), ← seg_app (X := X) hm.b1 hm.b3]
    exact h.perm.append hm.perm
  · rw [List.length_append] at hj
    by_cases h1 : j < Y.length
    · have := h.chunk i j hij h1 hd
      unfold keyAt at *
      rwa [nthM_left h1, nthM_left (by omega)]
    · have hj2 := div_next (s := 2 * s) (a := q) (i := j) (by omega) (by omega)
      have hi2 : 2 * s * q ≤ i := by
        rw [hj2] at hd
        have := Nat.div_mul_le_self i (2 * s)
        rw [hd, Nat.mul_comm] at this
        exact this
      have hp := h.le
      have h3 := List.pairwise_iff_getElem.1 hm.srt (i - Y.length) (j - Y.length) (by omega) (by omega) (by omega)
      unfold keyAt
      rw [nthM_right (by omega), nthM_right (by omega), nthM_lt (by omega), nthM_lt (by omega)]
      exact h3
/-! ### like keys added -/
def absK (L : List (Int × Int)) : Nat := (L.map fun x => x.2.natAbs).sum
theorem absK_app (a b : List (Int × Int)) : absK (a ++ b) = absK a + absK b := by simp [absK, List.sum_append]
theorem absK_perm {a b : List (Int × Int)} (h : a.Perm b) : absK a = absK b := by
  unfold absK
  have := h.map fun x : Int × Int => x.2.natAbs
  exact this.sum_nat
theorem absK_mem {L : List (Int × Int)} {x : Int × Int} (h : x ∈ L) : x.2.natAbs ≤ absK L := by
  induction L with
  | nil => cases h
  | cons y L ih =>
    have e : absK (y :: L) = y.2.natAbs + absK L := by simp [absK]
    rw [e]
    rcases List.mem_cons.1 h with rfl | h
    · omega
    · have := ih h; omega
/-- What the first k terms give, like keys added. -/
structure Sums (X : List (Int × Int)) (k : Nat) (S : List (Int × Int)) : Prop where
  le : k ≤ X.length
  srt : S.Pairwise fun x y => y.1 < x.1
  coef : ∀ q, coefK S q = coefK (X.take k) q
  last : 0 < k → 0 < S.length ∧ (nthM S (S.length - 1)).1 = keyAt X (k - 1)
  none : k = 0 → S = []
  abs : absK S ≤ absK (X.take k)
  len : S.length ≤ k
theorem takeK {X : List (Int × Int)} {k : Nat} (h : k < X.length) : X.take (k + 1) = X.take k ++ [nthM X k] := by rw [List.take_succ_eq_append_getElem h, nthM_lt h]
theorem last_split {S : List (Int × Int)} (h : 0 < S.length) : S = S.take (S.length - 1) ++ [nthM S (S.length - 1)] := by
  have := takeK (X := S) (k := S.length - 1) (by omega)
  rw [show S.length - 1 + 1 = S.length by omega, List.take_length] at this
  exact this
theorem setC_last {S : List (Int × Int)} (h : 0 < S.length) (y : Int) : setC S (S.length - 1) y = S.take (S.length - 1) ++ [((nthM S (S.length - 1)).1, y)] := by
  rw [setC, List.set_eq_take_append_cons_drop, if_pos (by omega), List.drop_eq_nil_of_le (by omega)]
section
variable {X S : List (Int × Int)} {k : Nat}
theorem Sums.start (X : List (Int × Int)) : Sums X 0 [] := ⟨Nat.zero_le _, List.Pairwise.nil, fun q => by simp, fun h => by omega, fun _ => rfl, by simp [absK], Nat.le_refl _⟩
theorem Sums.like (h : Sums X k S) (hk : k < X.length) (hS : 0 < S.length) (he : (nthM S (S.length - 1)).1 = keyAt X k) : Sums X (k + 1) (setC S (S.length - 1) ((nthM S (S.length - 1)).2 + (nthM X k).2)) := by
  have e1 := setC_last hS ((nthM S (S.length - 1)).2 + (nthM X k).2)
  have e0 := last_split hS
  obtain ⟨p, hp⟩ : ∃ p, p = S.take (S.length - 1) := ⟨_, rfl⟩
  obtain ⟨l, hl⟩ : ∃ l, l = nthM S (S.length - 1) := ⟨_, rfl⟩
  rw [← hp, ← hl] at e1 e0
  rw [← hl] at he
  rw [← hl, e1]
  have hsrt := h.srt
  have hc := h.coef
  have ha := h.abs
  rw [e0] at hsrt hc ha
  rw [List.pairwise_append] at hsrt
  have hlen : p.length + 1 = S.length := by rw [hp, List.length_take]; omega
  refine ⟨hk, ?_, fun q => ?_, fun _ => ?_, fun h0 => by omega, ?_, ?_⟩
  · rw [List.pairwise_append]
    exact ⟨hsrt.1, List.pairwise_singleton _ _, fun x hx y hy => by rw [List.mem_singleton.1 hy]; exact hsrt.2.2 x hx l (by simp)⟩
  · have h1 := hc q
    rw [takeK hk, coefK_append, coefK_append] at *
    rw [← h1, coefK_cons, coefK_cons, coefK_cons, coefK_nil]
    show coefK p q + ((if l.1 = q then l.2 + (nthM X k).2 else 0) + 0) = _
    have he' : l.1 = (nthM X k).1 := he
    rw [← he']
    split <;> omega
  · refine ⟨by simp, ?_⟩
    rw [List.length_append, List.length_singleton, Nat.add_sub_cancel, nthM_right (Nat.le_refl _), Nat.sub_self, Nat.add_sub_cancel, ← he]
    rfl
  · rw [takeK hk, absK_app, absK_app] at *
    simp only [absK, List.map_cons, List.map_nil, List.sum_cons, List.sum_nil] at *
    omega
  · rw [List.length_append, List.length_singleton]; have := h.len; omega
theorem Sums.other (h : Sums X k S) (hX : X.Pairwise fun x y => y.1 ≤ x.1) (hk : k < X.length) (he : 0 < S.length → (nthM S (S.length - 1)).1 ≠ keyAt X k) : Sums X (k + 1) (S ++ [nthM X k]) := by
  refine ⟨hk, ?_, fun q => ?_, fun _ => ⟨by simp, ?_⟩, fun h0 => by omega, ?_, by rw [List.length_append, List.length_singleton]; have := h.len; omega⟩
  · rw [List.pairwise_append]
    refine ⟨h.srt, List.pairwise_singleton _ _, fun x hx y hy => ?_⟩
    rw [List.mem_singleton.1 hy]
    have hS : 0 < S.length := List.length_pos_of_mem hx
    have hk0 : 0 < k := Nat.pos_of_ne_zero fun h0 => by rw [h.none h0] at hx; cases hx
    have h1 := (h.last hk0).2
    have h2 : keyAt X k ≤ keyAt X (k - 1) := by
      have := List.pairwise_iff_getElem.1 hX (k - 1) k (by omega) hk (by omega)
      unfold keyAt
      rwa [nthM_lt hk, nthM_lt (by omega)]
    have h3 := he hS
    have h4 : (nthM S (S.length - 1)).1 ≤ x.1 := by
      have hsrt := h.srt
      rw [last_split hS, List.pairwise_append] at hsrt
      have hx' := hx
      rw [last_split hS] at hx'
      rcases List.mem_append.1 hx' with hx' | hx'
      · have := hsrt.2.2 x hx' _ (List.mem_singleton.2 rfl)
        omega
      · rw [List.mem_singleton.1 hx']; exact Int.le_refl _
    show keyAt X k < x.1
    omega
  · rw [takeK hk, coefK_append, coefK_append, h.coef q]
  · rw [List.length_append, List.length_singleton, Nat.add_sub_cancel, nthM_right (Nat.le_refl _), Nat.sub_self, Nat.add_sub_cancel]
    rfl
  · rw [takeK hk, absK_app, absK_app]
    have := h.abs
    omega
end
theorem coefK_filter (S : List (Int × Int)) (q : Int) : coefK (S.filter fun x => decide (x.2 ≠ 0)) q = coefK S q := by
  induction S with
  | nil => rfl
  | cons x S ih =>
    rw [coefK_cons]
    by_cases h : x.2 = 0
    · rw [List.filter_cons_of_neg (by simpa using h), ih, h]; simp
    · rw [List.filter_cons_of_pos (by simpa using h), coefK_cons, ih]
theorem gath_end {L X S : List (Int × Int)} (hp : X.Perm L) (h : Sums X X.length S) : S.filter (fun x => decide (x.2 ≠ 0)) = gatherK L := by
  refine gatherK_is ⟨h.srt.filter _, fun x hx => ?_⟩ fun q => ?_
  · have := (List.mem_filter.1 hx).2
    simpa using this
  · rw [coefK_filter, h.coef, List.take_length, coefK_perm hp]
end Go.Proofs.Ytgbojgmmingfdaa
