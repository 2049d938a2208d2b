/- Permutations: descents, codes, lengths, the shape of one with one descent. No program is in sight here. -/
import Derived.Test.YteodckkkjhapgaaPlain
namespace Go.Proofs.Yteodckkkjhapgaa

def permAt (l : List Int) (k : Nat) : Bool := inB (nth l k) 0 ((l.length : Int) - 1) && !hasB (l.take k) (nth l k)
def permB (l : List Int) : Bool := inB l.length 1 7 && allB (permAt l) l.length
theorem permB_len {l : List Int} {n : Nat} (hl : l.length = n) (h : inB n 1 7 = false) : permB l = false := by
  unfold permB; rw [hl, h]; simp
theorem permB_no {l : List Int} {n k : Nat} (hl : l.length = n) (hk : k < n) (h : permAt l k = false) : permB l = false := by
  unfold permB; rw [hl, allB_no hk h]; simp
theorem permB_all {l : List Int} {n : Nat} (hl : l.length = n) (h : ∀ j, j < n → permAt l j = true) : permB l = inB n 1 7 := by
  unfold permB; rw [hl, allB_yes h]; simp
theorem permAt_low {l : List Int} {k : Nat} (h : nth l k < 0) : permAt l k = false := by unfold permAt; rw [inB_low h]; rfl
theorem permAt_high {l : List Int} {k n : Nat} (hl : l.length = n) (h : (n : Int) ≤ nth l k) : permAt l k = false := by unfold permAt; rw [inB_high (by omega)]; rfl
theorem permAt_met {l : List Int} {k : Nat} (h : hasB (l.take k) (nth l k) = true) : permAt l k = false := by unfold permAt; rw [h]; simp
theorem permAt_yes {l : List Int} {k n : Nat} (hl : l.length = n) (h1 : 0 ≤ nth l k) (h2 : nth l k < n) (h3 : hasB (l.take k) (nth l k) = false) : permAt l k = true := by
  unfold permAt; rw [inB_yes h1 (by omega), h3]; rfl
theorem permB_range {l : List Int} (h : permB l = true) {k : Nat} (hk : k < l.length) : 0 ≤ nth l k ∧ nth l k < l.length := by
  unfold permB at h
  rw [Bool.and_eq_true] at h
  have := allB_at h.2 hk
  unfold permAt at this
  rw [Bool.and_eq_true, inB_iff] at this
  omega
theorem permB_size {l : List Int} (h : permB l = true) : 1 ≤ l.length ∧ l.length ≤ 7 := by
  unfold permB at h
  rw [Bool.and_eq_true, inB_iff] at h
  omega

/-- Descents at places below m. -/
def descTo (l : List Int) : Nat → List Int
  | 0 => []
  | m + 1 => if nth l (m + 1) < nth l m then descTo l m ++ [(m : Int)] else descTo l m
def descB (l : List Int) : List Int := if permB l then descTo l (l.length - 1) else []
theorem descTo_yes {l : List Int} {m : Nat} (h : nth l (m + 1) < nth l m) : descTo l (m + 1) = descTo l m ++ [(m : Int)] := by rw [descTo, if_pos h]
theorem descTo_no {l : List Int} {m : Nat} (h : ¬ nth l (m + 1) < nth l m) : descTo l (m + 1) = descTo l m := by rw [descTo, if_neg h]
theorem descTo_len (l : List Int) (m : Nat) : (descTo l m).length ≤ m := by
  induction m with
  | zero => exact Nat.le_refl _
  | succ m ih =>
    unfold descTo
    split
    · simp; omega
    · omega
theorem descTo_range (l : List Int) (m : Nat) : ∀ x ∈ descTo l m, 0 ≤ x ∧ x < m := by
  induction m with
  | zero => intro x h; cases h
  | succ m ih =>
    intro x h
    unfold descTo at h
    split at h
    · rw [List.mem_append, List.mem_singleton] at h
      rcases h with h | rfl
      · have := ih x h; omega
      · omega
    · have := ih x h; omega
theorem descB_yes {l : List Int} (h : permB l = true) : descB l = descTo l (l.length - 1) := by simp [descB, h]
theorem descB_no {l : List Int} (h : permB l = false) : descB l = [] := by simp [descB, h]

/-- How many numbers behind place i, up to place m, are smaller. -/
def lessTo (l : List Int) (i : Nat) : Nat → Int
  | 0 => 0
  | m + 1 => if nth l (i + 1 + m) < nth l i then lessTo l i m + 1 else lessTo l i m
theorem lessTo_range (l : List Int) (i m : Nat) : 0 ≤ lessTo l i m ∧ lessTo l i m ≤ m := by
  induction m with
  | zero => simp [lessTo]
  | succ m ih =>
    unfold lessTo
    split <;> omega
/-- The code, its first k places; zeros behind. -/
def codeAt (l : List Int) (k i : Nat) : Int := if i < k then lessTo l i (l.length - 1 - i) else 0
def codeB (l : List Int) : List Int := if permB l then gen (codeAt l l.length) l.length else []
theorem codeB_yes {l : List Int} (h : permB l = true) : codeB l = gen (codeAt l l.length) l.length := by simp [codeB, h]
theorem codeB_no {l : List Int} (h : permB l = false) : codeB l = [] := by simp [codeB, h]
theorem lessTo_yes {l : List Int} {i m : Nat} (h : nth l (i + 1 + m) < nth l i) : lessTo l i (m + 1) = lessTo l i m + 1 := by rw [lessTo, if_pos h]
theorem lessTo_no {l : List Int} {i m : Nat} (h : ¬ nth l (i + 1 + m) < nth l i) : lessTo l i (m + 1) = lessTo l i m := by rw [lessTo, if_neg h]
/-- The code while place i is counted. -/
def codeIn (l : List Int) (n i m : Nat) : List Int := (gen (codeAt l i) n).set i (lessTo l i m)
theorem codeIn_len (l : List Int) (n i m : Nat) : (codeIn l n i m).length = n := by simp [codeIn, gen_len]
theorem codeIn_zero {l : List Int} {n i : Nat} : codeIn l n i 0 = gen (codeAt l i) n := by
  refine ext_nth (by simp [codeIn, gen_len]) fun j hj => ?_
  rw [codeIn_len] at hj
  unfold codeIn
  by_cases e : i = j
  · subst e
    rw [nth_set_eq (by rw [gen_len]; exact hj), nth_gen hj]
    simp [codeAt, lessTo]
  · rw [nth_set_ne e]
theorem codeIn_at {l : List Int} {n i m : Nat} (h : i < n) : nth (codeIn l n i m) i = lessTo l i m := nth_set_eq (by rw [gen_len]; exact h)
theorem codeIn_set {l : List Int} {n i m : Nat} {x : Int} (h : x = lessTo l i (m + 1)) : (codeIn l n i m).set i x = codeIn l n i (m + 1) := by
  unfold codeIn
  rw [List.set_set, h]
theorem codeIn_last {l : List Int} {n i : Nat} (hn : l.length = n) (h : i < n) : codeIn l n i (n - 1 - i) = gen (codeAt l (i + 1)) n := by
  refine ext_nth (by simp [codeIn, gen_len]) fun j hj => ?_
  rw [codeIn_len] at hj
  unfold codeIn
  rw [nth_gen hj]
  by_cases e : i = j
  · subst e
    rw [nth_set_eq (by rw [gen_len]; exact hj)]
    simp [codeAt, hn]
  · rw [nth_set_ne e, nth_gen hj]
    unfold codeAt
    by_cases h1 : j < i
    · rw [if_pos h1, if_pos (by omega)]
    · rw [if_neg h1, if_neg (by omega)]
theorem gen_none (l : List Int) (n : Nat) : gen (codeAt l 0) n = List.replicate n 0 := by
  refine ext_nth (by simp [gen_len]) fun j hj => ?_
  rw [gen_len] at hj
  rw [nth_gen hj, nth_lt (by simpa using hj)]
  simp [codeAt]
def lengthB (l : List Int) : Int := if permB l then sumL (codeB l) else -1
theorem lengthB_yes {l : List Int} (h : permB l = true) : lengthB l = sumL (codeB l) := by simp [lengthB, h]
theorem lengthB_no {l : List Int} (h : permB l = false) : lengthB l = -1 := by simp [lengthB, h]
theorem code_small (l : List Int) : Small (codeB l) := by
  intro j hj
  unfold codeB at hj ⊢
  split at hj
  · rename_i h
    rw [if_pos h]
    rw [gen_len] at hj
    rw [nth_gen hj]
    have := permB_size h
    unfold codeAt
    have := lessTo_range l j (l.length - 1 - j)
    split <;> omega
  · simp at hj
def grassmannB (l : List Int) : Bool := permB l && decide ((descB l).length ≤ 1)
/-- The shape of a permutation with one descent. -/
def oneDesc (l : List Int) : Bool := decide ((descB l).length = 1)
def shpK (l : List Int) : Int := if oneDesc l then nth (descB l) 0 + 1 else 0
def shpRows (l : List Int) (k : Nat) : Nat → List Int
  | 0 => []
  | m + 1 => shpRows l k m ++ [nth l (k - 1 - m) - ((k - 1 - m : Nat) : Int)]
def shpB (l : List Int) : List Int := if oneDesc l then bare (shpRows l (shpK l).toNat (shpK l).toNat) else []
theorem shpRows_len (l : List Int) (k m : Nat) : (shpRows l k m).length = m := by
  induction m with
  | zero => rfl
  | succ m ih => simp [shpRows, ih]
theorem oneDesc_perm {l : List Int} (h : oneDesc l = true) : permB l = true := by
  rcases Bool.eq_false_or_eq_true (permB l) with hp | hp
  · exact hp
  · unfold oneDesc at h
    rw [descB_no hp] at h
    simp at h
theorem shpK_yes {l : List Int} (h : oneDesc l = true) : shpK l = nth (descB l) 0 + 1 ∧ 0 ≤ nth (descB l) 0 ∧ nth (descB l) 0 + 1 < l.length := by
  have hp := oneDesc_perm h
  have hl : (descB l).length = 1 := by unfold oneDesc at h; simpa using h
  have hm := nth_mem (l := descB l) (k := 0) (by omega)
  have := descTo_range l (l.length - 1) _ (by rw [← descB_yes hp]; exact hm)
  refine ⟨by simp [shpK, h], this.1, ?_⟩
  omega
theorem shpB_yes {l : List Int} (h : oneDesc l = true) : shpB l = bare (shpRows l (shpK l).toNat (shpK l).toNat) := by simp [shpB, h]
theorem shpB_no {l : List Int} (h : oneDesc l = false) : shpB l = [] := by simp [shpB, h]
theorem shpK_no {l : List Int} (h : oneDesc l = false) : shpK l = 0 := by simp [shpK, h]
end Go.Proofs.Yteodckkkjhapgaa
