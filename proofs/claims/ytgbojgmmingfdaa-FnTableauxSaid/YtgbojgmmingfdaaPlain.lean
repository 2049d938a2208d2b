/- Plain functions that the program and the reference are shown to compute. No program is in sight here. -/
namespace Go.Proofs.Ytgbojgmmingfdaa

/-- The number at a place of a list; 0 beyond its end. Plain, so that the walk leaves it alone. -/
def nth (l : List Int) (k : Nat) : Int := l.getD k 0
theorem nth_lt {l : List Int} {k : Nat} (h : k < l.length) : nth l k = l[k] := by simp [nth, List.getD, h]
theorem nth_ge {l : List Int} {k : Nat} (h : l.length ≤ k) : nth l k = 0 := by simp [nth, List.getD, List.getElem?_eq_none h]
theorem nth_append_left {a b : List Int} {k : Nat} (h : k < a.length) : nth (a ++ b) k = nth a k := by
  simp [nth, List.getD, List.getElem?_append_left h]
theorem nth_append_right {a b : List Int} {k : Nat} (h : a.length ≤ k) : nth (a ++ b) k = nth b (k - a.length) := by
  simp [nth, List.getD, List.getElem?_append_right h]
theorem ext_nth {a b : List Int} (hl : a.length = b.length) (h : ∀ j, j < a.length → nth a j = nth b j) : a = b := by
  apply List.ext_getElem hl
  intro i h1 h2
  have := h i h1
  rwa [nth_lt h1, nth_lt h2] at this
theorem nth_mem {l : List Int} {k : Nat} (h : k < l.length) : nth l k ∈ l := by rw [nth_lt h]; exact List.getElem_mem h
theorem take_succ_nth {l : List Int} {k : Nat} (h : k < l.length) : l.take (k + 1) = l.take k ++ [nth l k] := by
  rw [nth_lt h, List.take_succ_eq_append_getElem h]
theorem nth_set_eq {l : List Int} {k : Nat} {y : Int} (h : k < l.length) : nth (l.set k y) k = y := by simp [nth, List.getD, h]
theorem nth_set_ne {l : List Int} {k j : Nat} {y : Int} (h : k ≠ j) : nth (l.set k y) j = nth l j := by simp [nth, List.getD, List.getElem?_set_ne h]
theorem nth_take {l : List Int} {k j : Nat} (h : j < k) : nth (l.take k) j = nth l j := by simp [nth, List.getD, List.getElem?_take, h]
theorem nth_drop {l : List Int} {k j : Nat} : nth (l.drop k) j = nth l (k + j) := by simp [nth, List.getD, List.getElem?_drop]

/-- What holds below k, and at k, holds below k + 1. -/
theorem upTo {P : Nat → Prop} {k : Nat} (h : ∀ j, j < k → P j) (hk : P k) : ∀ j, j < k + 1 → P j := by
  intro j hj
  by_cases e : j = k
  · subst e; exact hk
  · exact h j (by omega)

/-- All places below n answer yes. -/
def allB (p : Nat → Bool) (n : Nat) : Bool := (List.range n).all p
theorem allB_yes {p : Nat → Bool} {n : Nat} (h : ∀ j, j < n → p j = true) : allB p n = true := by
  simp only [allB, List.all_eq_true, List.mem_range]; exact h
theorem allB_no {p : Nat → Bool} {n k : Nat} (hk : k < n) (h : p k = false) : allB p n = false := by
  rw [Bool.eq_false_iff]
  intro ha
  simp only [allB, List.all_eq_true, List.mem_range] at ha
  rw [ha k hk] at h; cases h
theorem allB_at {p : Nat → Bool} {n k : Nat} (h : allB p n = true) (hk : k < n) : p k = true := by
  simp only [allB, List.all_eq_true, List.mem_range] at h; exact h k hk

def inB (n lo hi : Int) : Bool := decide (lo ≤ n ∧ n ≤ hi)
theorem inB_iff {n lo hi : Int} : inB n lo hi = true ↔ lo ≤ n ∧ n ≤ hi := by simp [inB]
theorem inB_yes {n lo hi : Int} (h1 : lo ≤ n) (h2 : n ≤ hi) : inB n lo hi = true := inB_iff.2 ⟨h1, h2⟩
theorem inB_low {n lo hi : Int} (h : n < lo) : inB n lo hi = false := by simp [inB]; omega
theorem inB_high {n lo hi : Int} (h : hi < n) : inB n lo hi = false := by simp [inB]; omega
theorem inB_no {n lo hi : Int} : inB n lo hi = false ↔ n < lo ∨ hi < n := by simp [inB]; omega

/-- A string: 1 to 7 numbers 0 and 1. -/
def isStrB (l : List Int) : Bool := inB l.length 1 7 && allB (fun k => inB (nth l k) 0 1) l.length

theorem isStrB_no {l : List Int} {n k : Nat} (hl : l.length = n) (hk : k < n) (h : inB (nth l k) 0 1 = false) : isStrB l = false := by
  unfold isStrB; rw [hl, allB_no hk h]; simp
theorem isStrB_all {l : List Int} {n : Nat} (hl : l.length = n) (h : ∀ j, j < n → inB (nth l j) 0 1 = true) : isStrB l = inB n 1 7 := by
  unfold isStrB; rw [hl, allB_yes h]; simp
theorem isStrB_len {l : List Int} {n : Nat} (hl : l.length = n) (h : inB n 1 7 = false) : isStrB l = false := by
  unfold isStrB; rw [hl, h]; simp
theorem isStrB_iff {l : List Int} : isStrB l = true ↔ (1 ≤ l.length ∧ l.length ≤ 7) ∧ ∀ j, j < l.length → nth l j = 0 ∨ nth l j = 1 := by
  unfold isStrB
  constructor
  · intro h
    rw [Bool.and_eq_true, inB_iff] at h
    refine ⟨by omega, fun j hj => ?_⟩
    have := inB_iff.1 (allB_at h.2 hj)
    omega
  · rintro ⟨h1, h2⟩
    rw [Bool.and_eq_true, inB_iff]
    refine ⟨by omega, allB_yes fun j hj => ?_⟩
    have := h2 j hj
    rw [inB_iff]; omega

/-- A shape. -/
def shapeAt (l : List Int) (k : Nat) : Bool := inB (nth l k) 1 16 && (k == 0 || decide (nth l k ≤ nth l (k - 1)))
def isShapeB (l : List Int) : Bool := decide (l.length ≤ 16) && allB (shapeAt l) l.length

theorem isShapeB_no {l : List Int} {n k : Nat} (hl : l.length = n) (hk : k < n) (h : shapeAt l k = false) : isShapeB l = false := by
  unfold isShapeB; rw [hl, allB_no hk h]; simp
theorem isShapeB_all {l : List Int} {n : Nat} (hl : l.length = n) (h : ∀ j, j < n → shapeAt l j = true) : isShapeB l = decide (n ≤ 16) := by
  unfold isShapeB; rw [hl, allB_yes h]; simp
theorem isShapeB_len {l : List Int} {n : Nat} (hl : l.length = n) (h : 16 < n) : isShapeB l = false := by
  unfold isShapeB; rw [hl]; simp; omega
theorem shapeAt_in {l : List Int} {k : Nat} (h : inB (nth l k) 1 16 = false) : shapeAt l k = false := by simp [shapeAt, h]
theorem shapeAt_zero {l : List Int} {k : Nat} (hk : k = 0) (h : inB (nth l k) 1 16 = true) : shapeAt l k = true := by simp [shapeAt, hk] at *; exact h
theorem shapeAt_le {l : List Int} {k : Nat} (h : inB (nth l k) 1 16 = true) (h2 : nth l k ≤ nth l (k - 1)) : shapeAt l k = true := by simp [shapeAt, h, h2]
theorem shapeAt_gt {l : List Int} {k : Nat} (h1 : 0 < k) (h2 : nth l (k - 1) < nth l k) : shapeAt l k = false := by
  simp [shapeAt]; intro _; omega
theorem shapeAt_iff {l : List Int} {k : Nat} : shapeAt l k = true ↔ (1 ≤ nth l k ∧ nth l k ≤ 16) ∧ (0 < k → nth l k ≤ nth l (k - 1)) := by
  simp only [shapeAt, Bool.and_eq_true, inB_iff, Bool.or_eq_true, beq_iff_eq, decide_eq_true_eq]
  constructor
  · rintro ⟨h1, h2⟩; exact ⟨h1, fun hk => h2.resolve_left (by omega)⟩
  · rintro ⟨h1, h2⟩; exact ⟨h1, (Nat.eq_zero_or_pos k).imp id h2⟩

def boxB (k n : Int) : Bool := inB n 1 7 && inB k 0 n
def inBoxB (l : List Int) (k n : Int) : Bool := boxB k n && isShapeB l && decide ((l.length : Int) ≤ k) && decide (nth l 0 ≤ n - k)
theorem inBoxB_box {l : List Int} {k n : Int} (h : boxB k n = false) : inBoxB l k n = false := by simp [inBoxB, h]
theorem inBoxB_shape {l : List Int} {k n : Int} (h : isShapeB l = false) : inBoxB l k n = false := by simp [inBoxB, h]
theorem inBoxB_rows {l : List Int} {k n : Int} (h : ¬ (l.length : Int) ≤ k) : inBoxB l k n = false := by simp [inBoxB, h]
theorem inBoxB_yes {l : List Int} {k n : Int} (h1 : boxB k n = true) (h2 : isShapeB l = true) (h3 : (l.length : Int) ≤ k) : inBoxB l k n = decide (nth l 0 ≤ n - k) := by simp [inBoxB, h1, h2, h3]
theorem boxB_iff {k n : Int} : boxB k n = true ↔ (1 ≤ n ∧ n ≤ 7) ∧ (0 ≤ k ∧ k ≤ n) := by simp [boxB, inB_iff]
theorem boxB_n {k n : Int} (h : inB n 1 7 = false) : boxB k n = false := by simp [boxB, h]
theorem boxB_k {k n : Int} (h : inB k 0 n = false) : boxB k n = false := by simp [boxB, h]
theorem inBoxB_iff {l : List Int} {k n : Int} : inBoxB l k n = true ↔ boxB k n = true ∧ isShapeB l = true ∧ (l.length : Int) ≤ k ∧ nth l 0 ≤ n - k := by
  simp [inBoxB, Bool.and_eq_true, and_assoc]

/-- A string with its last number moved to the front. -/
def rotB (l : List Int) : List Int := if isStrB l then nth l (l.length - 1) :: l.take (l.length - 1) else []
theorem rotB_yes {l : List Int} {n : Nat} (h : isStrB l = true) (hl : l.length = n) : rotB l = [nth l (n - 1)] ++ l.take (n - 1) := by simp [rotB, h, hl]
theorem rotB_no {l : List Int} (h : isStrB l = false) : rotB l = [] := by simp [rotB, h]

/-- The list f 0, f 1, .. of n numbers. -/
def gen (f : Nat → Int) (n : Nat) : List Int := (List.range n).map f
theorem gen_len (f : Nat → Int) (n : Nat) : (gen f n).length = n := by simp [gen]
theorem gen_succ (f : Nat → Int) (n : Nat) : gen f (n + 1) = gen f n ++ [f n] := by simp [gen, List.range_succ]
theorem gen_zero (f : Nat → Int) : gen f 0 = [] := rfl
theorem nth_gen {f : Nat → Int} {n j : Nat} (h : j < n) : nth (gen f n) j = f j := by
  rw [nth_lt (by rw [gen_len]; exact h)]; simp [gen]

/-- How many numbers are left of the first n without the zeros at their end. -/
def bareLen (l : List Int) : Nat → Nat
  | 0 => 0
  | n + 1 => if nth l n = 0 then bareLen l n else n + 1
theorem bareLen_le (l : List Int) (n : Nat) : bareLen l n ≤ n := by
  induction n with
  | zero => exact Nat.le_refl _
  | succ n ih => unfold bareLen; split <;> omega
theorem bareLen_zero {l : List Int} {n : Nat} (h : 0 < n) (h0 : nth l (n - 1) = 0) : bareLen l (n - 1) = bareLen l n := by
  obtain ⟨m, rfl⟩ : ∃ m, n = m + 1 := ⟨n - 1, by omega⟩
  have e : bareLen l (m + 1) = bareLen l m := by rw [bareLen, if_pos (by simpa using h0)]
  simpa using e.symm
theorem bareLen_stop {l : List Int} {n : Nat} (h : 0 < n) (h0 : nth l (n - 1) ≠ 0) : bareLen l n = n := by
  obtain ⟨m, rfl⟩ : ∃ m, n = m + 1 := ⟨n - 1, by omega⟩
  rw [bareLen, if_neg (by simpa using h0)]
/-- A list without the zeros at its end. -/
def bare (l : List Int) : List Int := l.take (bareLen l l.length)

def dualRows (l : List Int) (k : Nat) (n : Int) : List Int := gen (fun j => n - k - nth l (k - 1 - j)) k
def dualB (l : List Int) (k n : Int) : List Int := if inBoxB l k n then bare (dualRows l k.toNat n) else []
theorem dualB_yes {l : List Int} {k : Nat} {n : Int} (h : inBoxB l k n = true) : dualB l k n = bare (dualRows l k n) := by simp [dualB, h]
theorem dualB_no {l : List Int} {k n : Int} (h : inBoxB l k n = false) : dualB l k n = [] := by simp [dualB, h]
theorem shapeAt_range {l : List Int} {j : Nat} (h : isShapeB l = true) (hj : j < l.length) : 1 ≤ nth l j ∧ nth l j ≤ 16 := by
  unfold isShapeB at h
  rw [Bool.and_eq_true] at h
  exact (shapeAt_iff.1 (allB_at h.2 hj)).1
theorem shape_range {l : List Int} (h : isShapeB l = true) (j : Nat) : 0 ≤ nth l j ∧ nth l j ≤ 16 := by
  rcases Nat.lt_or_ge j l.length with hj | hj
  · have := shapeAt_range h hj; omega
  · rw [nth_ge hj]; omega

/-- The sum of the first k numbers. -/
def sumTo (l : List Int) : Nat → Int
  | 0 => 0
  | k + 1 => sumTo l k + nth l k
def sumL (l : List Int) : Int := sumTo l l.length
/-- A list whose numbers are small enough to be summed. -/
def Small (l : List Int) : Prop := ∀ j, j < l.length → -1000000 ≤ nth l j ∧ nth l j ≤ 1000000
theorem sumTo_bound {l : List Int} {n : Nat} (h : Small l) (hn : n ≤ l.length) : -1000000 * (n : Int) ≤ sumTo l n ∧ sumTo l n ≤ 1000000 * (n : Int) := by
  induction n with
  | zero => simp [sumTo]
  | succ n ih =>
    have := ih (by omega)
    have := h n (by omega)
    simp only [sumTo]
    omega
theorem small_shape {l : List Int} (h : isShapeB l = true) : Small l := fun j hj => by have := shapeAt_range h hj; omega
theorem small_str {l : List Int} (h : isStrB l = true) : Small l := fun j hj => by have := (isStrB_iff.1 h).2 j hj; omega

/-- The zeros among the first k numbers, and the rows that they give. -/
def strZ (l : List Int) : Nat → Nat
  | 0 => 0
  | k + 1 => if nth l k = 0 then strZ l k + 1 else strZ l k
def strR (l : List Int) : Nat → List Int
  | 0 => []
  | k + 1 => if nth l k = 0 then strR l k else (strZ l k : Int) :: strR l k
theorem strZ_le (l : List Int) (k : Nat) : strZ l k ≤ k := by
  induction k with
  | zero => exact Nat.le_refl _
  | succ k ih => unfold strZ; split <;> omega
theorem strR_len (l : List Int) (k : Nat) : (strR l k).length ≤ k := by
  induction k with
  | zero => exact Nat.le_refl _
  | succ k ih =>
    unfold strR
    split
    · omega
    · simp; omega
theorem strZ_zero {l : List Int} {k : Nat} (h : nth l k = 0) : strZ l (k + 1) = strZ l k + 1 := by rw [strZ, if_pos h]
theorem strZ_one {l : List Int} {k : Nat} (h : nth l k ≠ 0) : strZ l (k + 1) = strZ l k := by rw [strZ, if_neg h]
theorem strR_zero {l : List Int} {k : Nat} (h : nth l k = 0) : strR l (k + 1) = strR l k := by rw [strR, if_pos h]
theorem strR_one {l : List Int} {k : Nat} (h : nth l k ≠ 0) : strR l (k + 1) = [(strZ l k : Int)] ++ strR l k := by rw [strR, if_neg h]; rfl
theorem strR_ones {l : List Int} (h : isStrB l = true) (k : Nat) (hk : k ≤ l.length) : ((strR l k).length : Int) = sumTo l k := by
  induction k with
  | zero => rfl
  | succ k ih =>
    have i := ih (by omega)
    have := (isStrB_iff.1 h).2 k (by omega)
    by_cases h0 : nth l k = 0
    · rw [strR_zero h0, sumTo, h0, i]; omega
    · rw [strR_one h0, sumTo, List.length_append, List.length_singleton]
      omega
def shapeStr (l : List Int) : List Int := if isStrB l then bare (strR l l.length) else []
def onesStr (l : List Int) : Int := if isStrB l then sumL l else 0
theorem shapeStr_yes {l : List Int} {n : Nat} (h : isStrB l = true) (hl : l.length = n) : shapeStr l = bare (strR l n) := by simp [shapeStr, h, hl]
theorem shapeStr_no {l : List Int} (h : isStrB l = false) : shapeStr l = [] := by simp [shapeStr, h]
theorem onesStr_no {l : List Int} (h : isStrB l = false) : onesStr l = 0 := by simp [onesStr, h]
theorem onesStr_rows {l : List Int} {n : Nat} (h : isStrB l = true) (hl : l.length = n) : onesStr l = (strR l n).length := by
  subst hl
  rw [strR_ones h _ (Nat.le_refl _)]; simp [onesStr, h, sumL]
theorem onesStr_sum {l : List Int} (h : isStrB l = true) : onesStr l = sumL l := by simp [onesStr, h]

/-- Is the number among the first n? -/
def hasB (l : List Int) (x : Int) : Bool := decide (∃ j, j < l.length ∧ nth l j = x)
theorem hasB_yes {l : List Int} {x : Int} {n k : Nat} (hl : l.length = n) (hk : k < n) (h : nth l k = x) : hasB l x = true := by
  simp only [hasB, decide_eq_true_eq]; exact ⟨k, by omega, h⟩
theorem hasB_no {l : List Int} {x : Int} {n : Nat} (hl : l.length = n) (h : ∀ j, j < n → nth l j ≠ x) : hasB l x = false := by
  simp only [hasB, decide_eq_false_iff_not]
  rintro ⟨j, hj, e⟩
  exact h j (by omega) e
theorem hasB_iff {l : List Int} {x : Int} : hasB l x = true ↔ x ∈ l := by
  simp only [hasB, decide_eq_true_eq]
  constructor
  · rintro ⟨j, hj, e⟩; rw [← e]; exact nth_mem hj
  · intro h
    obtain ⟨j, hj, e⟩ := List.getElem_of_mem h
    exact ⟨j, hj, by rw [nth_lt hj]; exact e⟩

/-- The numbers below m that are not in a list. -/
def restTo (a : List Int) : Nat → List Int
  | 0 => []
  | m + 1 => if hasB a m then restTo a m else restTo a m ++ [(m : Int)]
theorem restTo_has {a : List Int} {m : Nat} (h : hasB a m = true) : restTo a (m + 1) = restTo a m := by rw [restTo, if_pos h]
theorem restTo_not {a : List Int} {m : Nat} (h : hasB a m = false) : restTo a (m + 1) = restTo a m ++ [(m : Int)] := by rw [restTo, if_neg (by rw [h]; simp)]
theorem restTo_len (a : List Int) (m : Nat) : (restTo a m).length ≤ m := by
  induction m with
  | zero => exact Nat.le_refl _
  | succ m ih =>
    unfold restTo
    split
    · omega
    · simp; omega
theorem restTo_lt {a : List Int} {m : Nat} {x : Int} (h : x ∈ restTo a m) : 0 ≤ x ∧ x < m := by
  induction m with
  | zero => cases h
  | succ m ih =>
    unfold restTo at h
    split at h
    · have := ih h; omega
    · rw [List.mem_append] at h
      rcases h with h | h
      · have := ih h; omega
      · simp at h; omega
/-- To ask the whole list so far is to ask its first part. -/
theorem restTo_same (a : List Int) (m : Nat) : hasB (a ++ restTo a m) m = hasB a m := by
  rw [Bool.eq_iff_iff, hasB_iff, hasB_iff, List.mem_append]
  constructor
  · rintro (h | h)
    · exact h
    · have := restTo_lt h; omega
  · exact .inl
def grassRow (l : List Int) (k : Nat) (i : Nat) : Int := i + nth l (k - 1 - i)
def grassA (l : List Int) (k : Nat) : List Int := gen (grassRow l k) k
def grassB (l : List Int) (k n : Int) : List Int := if inBoxB l k n then grassA l k.toNat ++ restTo (grassA l k.toNat) n.toNat else []
theorem grassB_yes {l : List Int} {k n : Nat} (h : inBoxB l k n = true) : grassB l k n = gen (grassRow l k) k ++ restTo (gen (grassRow l k) k) n := by simp [grassB, h, grassA]
theorem grassB_no {l : List Int} {k n : Int} (h : inBoxB l k n = false) : grassB l k n = [] := by simp [grassB, h]
theorem shape_desc {l : List Int} (h : isShapeB l = true) (j : Nat) : nth l j ≤ nth l 0 := by
  induction j with
  | zero => exact Int.le_refl _
  | succ j ih =>
    rcases Nat.lt_or_ge (j + 1) l.length with hj | hj
    · unfold isShapeB at h
      rw [Bool.and_eq_true] at h
      have := (shapeAt_iff.1 (allB_at h.2 hj)).2 (by omega)
      simp only [Nat.add_sub_cancel] at this
      omega
    · rw [nth_ge hj]
      exact (shape_range h 0).1
theorem grassRow_range {l : List Int} {k n : Nat} (h : inBoxB l k n = true) {i : Nat} (hi : i < k) : 0 ≤ grassRow l k i ∧ grassRow l k i < n := by
  obtain ⟨h1, h2, h3, h4⟩ := inBoxB_iff.1 h
  obtain ⟨_, _, h5⟩ := boxB_iff.1 h1
  have a1 := shape_desc h2 (k - 1 - i)
  have a2 := shape_range h2 (k - 1 - i)
  unfold grassRow
  omega

/-- Ones at the places that the first i numbers of a list name. -/
def setOnes (z : List Int) (a : Nat → Int) : Nat → List Int
  | 0 => z
  | i + 1 => (setOnes z a i).set (a i).toNat 1
theorem setOnes_len (z : List Int) (a : Nat → Int) (i : Nat) : (setOnes z a i).length = z.length := by
  induction i with
  | zero => rfl
  | succ i ih => simp [setOnes, ih]
def strB (l : List Int) (k n : Int) : List Int := if inBoxB l k n then setOnes (List.replicate n.toNat 0) (grassRow l k.toNat) k.toNat else []
theorem strB_yes {l : List Int} {k n : Nat} (h : inBoxB l k n = true) : strB l k n = setOnes (List.replicate n 0) (grassRow l k) k := by simp [strB, h]
theorem strB_no {l : List Int} {k n : Int} (h : inBoxB l k n = false) : strB l k n = [] := by simp [strB, h]

theorem restTo_nil (m : Nat) : (restTo [] m).length = m := by
  induction m with
  | zero => rfl
  | succ m ih =>
    rw [restTo_not (hasB_no (n := 0) rfl (fun j hj => by omega)), List.length_append, ih]; rfl
theorem grassB_pos {l : List Int} {k n : Nat} (hn : 1 ≤ n) : 1 ≤ (gen (grassRow l k) k ++ restTo (gen (grassRow l k) k) n).length := by
  rw [List.length_append, gen_len]
  rcases Nat.eq_zero_or_pos k with rfl | h
  · rw [gen_zero, restTo_nil]; omega
  · omega
theorem grassB_take {l : List Int} {k n : Nat} : (gen (grassRow l k) k ++ restTo (gen (grassRow l k) k) n).take k = gen (grassRow l k) k := by
  have := List.take_left (l₁ := gen (grassRow l k) k) (l₂ := restTo (gen (grassRow l k) k) n)
  rwa [gen_len] at this

/-! ### the shapes in a box, in ascending order -/
def shapesUpto (f : Nat → List (List Int)) : Nat → List (List Int)
  | 0 => []
  | x + 1 => shapesUpto f x ++ (f (x + 1)).map (fun l => ((x + 1 : Nat) : Int) :: l)
def shapesIn : Nat → Nat → List (List Int)
  | 0, _ => [[]]
  | r + 1, c => [] :: shapesUpto (shapesIn r) c
theorem upto_mono (f : Nat → List (List Int)) {x y : Nat} (h : x ≤ y) : (shapesUpto f x).length ≤ (shapesUpto f y).length := by
  induction y with
  | zero => obtain rfl : x = 0 := by omega
            exact Nat.le_refl _
  | succ y ih =>
    rcases Nat.lt_or_ge y x with hx | hx
    · obtain rfl : x = y + 1 := by omega
      exact Nat.le_refl _
    · have := ih hx
      simp only [shapesUpto, List.length_append]
      omega
theorem upto_step (f : Nat → List (List Int)) {x y : Nat} (h : x < y) : (shapesUpto f x).length + (f (x + 1)).length ≤ (shapesUpto f y).length := by
  have := upto_mono f (x := x + 1) (y := y) h
  simpa [shapesUpto] using this
theorem upto_front (f : Nat → List (List Int)) (front : List Int) (x : Nat) :
    (shapesUpto f (x + 1)).map (front ++ ·) = (shapesUpto f x).map (front ++ ·) ++ (f (x + 1)).map ((front ++ [((x + 1 : Nat) : Int)]) ++ ·) := by
  simp [shapesUpto, Function.comp_def]
theorem shapesIn_succ (r c : Nat) (front : List Int) : (shapesIn (r + 1) c).map (front ++ ·) = [front] ++ (shapesUpto (shapesIn r) c).map (front ++ ·) := by simp [shapesIn]
theorem shapesIn_zero (c : Nat) (front : List Int) : (shapesIn 0 c).map (front ++ ·) = [front] := by simp [shapesIn]

/-- How many there are. -/
def shUp (f : Nat → Nat) : Nat → Nat
  | 0 => 0
  | x + 1 => shUp f x + f (x + 1)
def shN : Nat → Nat → Nat
  | 0, _ => 1
  | r + 1, c => 1 + shUp (shN r) c
theorem shapesUpto_len (f : Nat → List (List Int)) (g : Nat → Nat) (h : ∀ x, (f x).length = g x) (x : Nat) : (shapesUpto f x).length = shUp g x := by
  induction x with
  | zero => rfl
  | succ x ih => simp [shapesUpto, shUp, ih, h]
theorem shapesIn_len (r c : Nat) : (shapesIn r c).length = shN r c := by
  induction r generalizing c with
  | zero => rfl
  | succ r ih => simp [shapesIn, shN, shapesUpto_len _ _ ih]; omega
theorem shN_small : ∀ r, r < 8 → ∀ c, c < 8 → shN r c ≤ 10000 := by decide +kernel
theorem shapesIn_small {r c : Nat} (hr : r ≤ 7) (hc : c ≤ 7) : (shapesIn r c).length ≤ 10000 := by
  rw [shapesIn_len]; exact shN_small r (by omega) c (by omega)
/-- The rows of a shape in a box. -/
theorem shapesUpto_mem {f : Nat → List (List Int)} {x : Nat} {l : List Int} (h : l ∈ shapesUpto f x) : ∃ y t, 1 ≤ y ∧ y ≤ x ∧ t ∈ f y ∧ l = (y : Int) :: t := by
  induction x with
  | zero => cases h
  | succ x ih =>
    simp only [shapesUpto, List.mem_append, List.mem_map] at h
    rcases h with h | ⟨t, ht, rfl⟩
    · obtain ⟨y, t, h1, h2, h3, h4⟩ := ih h
      exact ⟨y, t, h1, by omega, h3, h4⟩
    · exact ⟨x + 1, t, by omega, Nat.le_refl _, ht, rfl⟩
theorem shapesIn_rows {r c : Nat} {l : List Int} (h : l ∈ shapesIn r c) : l.length ≤ r ∧ ∀ y ∈ l, 1 ≤ y ∧ y ≤ c := by
  induction r generalizing c l with
  | zero => simp [shapesIn] at h; subst h; simp
  | succ r ih =>
    simp only [shapesIn, List.mem_cons] at h
    rcases h with rfl | h
    · simp
    · obtain ⟨y, t, h1, h2, h3, rfl⟩ := shapesUpto_mem h
      obtain ⟨i1, i2⟩ := ih h3
      refine ⟨by simp; omega, fun z hz => ?_⟩
      rw [List.mem_cons] at hz
      rcases hz with rfl | hz
      · omega
      · have := i2 z hz; omega

def nthL (ls : List (List Int)) (k : Nat) : List Int := ls.getD k []
theorem nthL_lt {ls : List (List Int)} {k : Nat} (h : k < ls.length) : nthL ls k = ls[k] := by simp [nthL, List.getD, h]
theorem nthL_mem {ls : List (List Int)} {k : Nat} (h : k < ls.length) : nthL ls k ∈ ls := by rw [nthL_lt h]; exact List.getElem_mem h
/-- The counts of the sizes of the first lists. -/
def countsTo (ls : List (List Int)) (z : List Int) : Nat → List Int
  | 0 => z
  | j + 1 => (countsTo ls z j).set (sumL (nthL ls j)).toNat (nth (countsTo ls z j) (sumL (nthL ls j)).toNat + 1)
theorem countsTo_len (ls : List (List Int)) (z : List Int) (j : Nat) : (countsTo ls z j).length = z.length := by
  induction j with
  | zero => rfl
  | succ j ih => simp [countsTo, ih]
theorem countsTo_bound (ls : List (List Int)) (m j i : Nat) : 0 ≤ nth (countsTo ls (List.replicate m 0) j) i ∧ nth (countsTo ls (List.replicate m 0) j) i ≤ j := by
  induction j generalizing i with
  | zero =>
    rcases Nat.lt_or_ge i m with h | h
    · simp [countsTo, nth, List.getD, h]
    · rw [nth_ge (by simp [countsTo]; exact h)]; simp
  | succ j ih =>
    rcases Nat.lt_or_ge i (countsTo ls (List.replicate m 0) (j + 1)).length with h | h
    · simp only [countsTo, List.length_set] at h ⊢
      by_cases e : (sumL (nthL ls j)).toNat = i
      · rw [e, nth_set_eq h]
        have := ih i; omega
      · rw [nth_set_ne e]
        have := ih i; omega
    · rw [nth_ge h]; omega
theorem sumTo_le {l : List Int} {m : Nat} (h : ∀ y ∈ l, 1 ≤ y ∧ y ≤ m) (k : Nat) (hk : k ≤ l.length) : 0 ≤ sumTo l k ∧ sumTo l k ≤ ((k * m : Nat) : Int) := by
  induction k with
  | zero => simp [sumTo]
  | succ k ih =>
    have i := ih (by omega)
    have := h _ (nth_mem (l := l) (k := k) (by omega))
    simp only [sumTo, Nat.succ_mul]
    omega
theorem shapesIn_sum {r c : Nat} {l : List Int} (h : l ∈ shapesIn r c) : 0 ≤ sumL l ∧ sumL l ≤ ((r * c : Nat) : Int) := by
  obtain ⟨h1, h2⟩ := shapesIn_rows h
  have := sumTo_le h2 l.length (Nat.le_refl _)
  have := Nat.mul_le_mul_right c h1
  unfold sumL
  omega
theorem shapesIn_small_sum {r c : Nat} {l : List Int} (hc : c ≤ 7) (h : l ∈ shapesIn r c) : Small l := by
  obtain ⟨h1, h2⟩ := shapesIn_rows h
  intro j hj
  have := h2 _ (nth_mem hj)
  omega
def gaussB (k n : Int) : List Int := if boxB k n then countsTo (shapesIn k.toNat (n - k).toNat) (List.replicate (k.toNat * (n - k).toNat + 1) 0) (shapesIn k.toNat (n - k).toNat).length else []
theorem gaussB_yes {k m : Nat} (h : boxB k (k + m) = true) : gaussB k (k + m) = countsTo (shapesIn k m) (List.replicate (k * m + 1) 0) (shapesIn k m).length := by
  have e : ((k : Int) + m - k).toNat = m := by omega
  simp [gaussB, h, e]
theorem gaussB_no {k n : Int} (h : boxB k n = false) : gaussB k n = [] := by simp [gaussB, h]

def primeB (p : Int) : Bool := p == 2 || p == 3 || p == 5 || p == 7
def evalUp (l : List Int) (p : Int) : Nat → Int
  | 0 => 0
  | j + 1 => evalUp l p j + nth l j * p ^ j
/-- By the rule of Horner: the last j numbers of the first n. -/
def horner (l : List Int) (p : Int) (n : Nat) : Nat → Int
  | 0 => 0
  | j + 1 => horner l p n j * p + nth l (n - 1 - j)
def countB (p k n : Int) : Int := if primeB p && boxB k n then evalUp (gaussB k n) p (gaussB k n).length else -1
def evalOk (l : List Int) (p : Int) : Bool :=
  decide (l.length ≤ 13) && horner l p l.length l.length == evalUp l p l.length && allB (fun j => inB (evalUp l p j) 0 1000000000000000 && inB (p ^ j) 0 1000000000000 && inB (horner l p l.length j) 0 1000000000000 && inB (nth l j) 0 10000) 14
theorem evals_ok : (List.range 8).all (fun n => (List.range 8).all fun k => !(boxB k n) || ([2, 3, 5, 7].all fun p => evalOk (gaussB k n) p)) = true := by decide +kernel
theorem eval_ok {p k n : Int} (hp : primeB p = true) (hb : boxB k n = true) : evalOk (gaussB k n) p = true := by
  obtain ⟨⟨b1, b2⟩, b3, b4⟩ := boxB_iff.1 hb
  obtain ⟨K, rfl⟩ := Int.eq_ofNat_of_zero_le b3
  obtain ⟨M, rfl⟩ := Int.eq_ofNat_of_zero_le (a := n) (by omega)
  have h := evals_ok
  rw [List.all_eq_true] at h
  have h1 := h M (by rw [List.mem_range]; omega)
  rw [List.all_eq_true] at h1
  have h2 := h1 K (by rw [List.mem_range]; omega)
  rw [hb, Bool.not_true, Bool.false_or, List.all_eq_true] at h2
  refine h2 p ?_
  simp only [primeB, Bool.or_eq_true, beq_iff_eq] at hp
  simp only [List.mem_cons, List.not_mem_nil, or_false]
  omega
theorem evalOk_len {l : List Int} {p : Int} (h : evalOk l p = true) : l.length ≤ 13 := by
  simp only [evalOk, Bool.and_eq_true, decide_eq_true_eq] at h; exact h.1.1
theorem evalOk_eq {l : List Int} {p : Int} {n : Nat} (h : evalOk l p = true) (hl : l.length = n) : horner l p n n = evalUp l p n := by
  subst hl
  simp only [evalOk, Bool.and_eq_true, beq_iff_eq] at h; exact h.1.2
theorem evalOk_at {l : List Int} {p : Int} {n j : Nat} (h : evalOk l p = true) (hl : l.length = n) (hj : j ≤ 13) : (0 ≤ evalUp l p j ∧ evalUp l p j ≤ 1000000000000000) ∧ (0 ≤ p ^ j ∧ p ^ j ≤ 1000000000000) ∧ (0 ≤ horner l p n j ∧ horner l p n j ≤ 1000000000000) ∧ 0 ≤ nth l j ∧ nth l j ≤ 10000 := by
  subst hl
  simp only [evalOk, Bool.and_eq_true] at h
  have := allB_at h.2 (k := j) (by omega)
  simp only [Bool.and_eq_true, inB_iff] at this
  exact ⟨this.1.1.1, this.1.1.2, this.1.2, this.2⟩
theorem countB_yes {p k n : Int} {m : Nat} (h1 : primeB p = true) (h2 : boxB k n = true) (hl : (gaussB k n).length = m) : countB p k n = evalUp (gaussB k n) p m := by simp [countB, h1, h2, hl]
theorem countB_p {p k n : Int} (h1 : primeB p = false) : countB p k n = -1 := by simp [countB, h1]
theorem countB_k {p k n : Int} (h1 : boxB k n = false) : countB p k n = -1 := by simp [countB, h1]
theorem primeB_range {p : Int} (h : primeB p = true) : 2 ≤ p ∧ p ≤ 7 := by
  simp only [primeB, Bool.or_eq_true, beq_iff_eq] at h; omega
theorem gaussB_pos {k n : Int} (hb : boxB k n = true) : 1 ≤ (gaussB k n).length := by
  simp [gaussB, hb, countsTo_len]

/-- Lists compared: a proper beginning first. -/
def lexLt : List Int → List Int → Bool
  | [], [] => false
  | [], _ :: _ => true
  | _ :: _, [] => false
  | a :: as, b :: bs => if a = b then lexLt as bs else decide (a < b)
theorem drop_nth {l : List Int} {k : Nat} (h : k < l.length) : l.drop k = nth l k :: l.drop (k + 1) := by
  rw [nth_lt h]; exact List.drop_eq_getElem_cons h
theorem lexLt_same {a b : List Int} {k : Nat} (ha : k < a.length) (hb : k < b.length) (h : nth a k = nth b k) : lexLt (a.drop k) (b.drop k) = lexLt (a.drop (k + 1)) (b.drop (k + 1)) := by
  rw [drop_nth ha, drop_nth hb, lexLt, if_pos h]
theorem lexLt_diff {a b : List Int} {k : Nat} (ha : k < a.length) (hb : k < b.length) (h : nth a k ≠ nth b k) : lexLt (a.drop k) (b.drop k) = decide (nth a k < nth b k) := by
  rw [drop_nth ha, drop_nth hb, lexLt, if_neg h]
theorem lexLt_end {a b : List Int} {k : Nat} (h : k = a.length ∨ k = b.length) (ha : k ≤ a.length) (hb : k ≤ b.length) : lexLt (a.drop k) (b.drop k) = decide (a.length < b.length) := by
  rcases h with h | h
  · rw [h, List.drop_length]
    rcases Nat.lt_or_ge a.length b.length with h2 | h2
    · rw [drop_nth h2, lexLt]; simp [h2]
    · rw [List.drop_eq_nil_of_le h2, lexLt]; simp; omega
  · rw [h, List.drop_length]
    rcases Nat.lt_or_ge b.length a.length with h2 | h2
    · rw [drop_nth h2, lexLt]; simp; omega
    · rw [List.drop_eq_nil_of_le h2, lexLt]; simp; omega

/-- Is b contained in a? (l4Contains: no shapes are asked.) -/
def within (a b : List Int) : Bool := decide (b.length ≤ a.length) && allB (fun k => decide (nth b k ≤ nth a k)) b.length
theorem within_len {a b : List Int} {n m : Nat} (ha : a.length = n) (hb : b.length = m) (h : n < m) : within a b = false := by
  unfold within; rw [ha, hb]; simp; omega
theorem within_no {a b : List Int} {m k : Nat} (hb : b.length = m) (hk : k < m) (h : nth a k < nth b k) : within a b = false := by
  unfold within; rw [hb, allB_no hk (by simp; omega)]; simp
theorem within_all {a b : List Int} {n m : Nat} (ha : a.length = n) (hb : b.length = m) (hmn : m ≤ n) (h : ∀ j, j < m → nth b j ≤ nth a j) : within a b = true := by
  unfold within; rw [ha, hb, allB_yes (fun j hj => by simpa using h j hj)]; simp; exact hmn
def containsB (a b : List Int) : Bool := isShapeB a && isShapeB b && within a b

/-! ### parts: a list of numbers and a count -/
def nthP (ps : List (List Int × Int)) (k : Nat) : List Int × Int := ps.getD k ([], 0)
theorem nthP_lt {ps : List (List Int × Int)} {k : Nat} (h : k < ps.length) : nthP ps k = ps[k] := by simp [nthP, List.getD, h]
/-- To add n times a list s to an ascending list of parts: one part after the other; the flag says that it is done. -/
def addSt (s : List Int) (n : Int) (st : List (List Int × Int) × Bool) (p : List Int × Int) : List (List Int × Int) × Bool :=
  if st.2 || lexLt p.1 s then (st.1 ++ [p], st.2)
  else if p.1 = s then (if p.2 + n = 0 then st.1 else st.1 ++ [(s, p.2 + n)], true)
  else (st.1 ++ [(s, n)] ++ [p], true)
def addUp (ps : List (List Int × Int)) (s : List Int) (n : Int) : Nat → List (List Int × Int) × Bool
  | 0 => ([], n == 0)
  | i + 1 => addSt s n (addUp ps s n i) (nthP ps i)
def addP (ps : List (List Int × Int)) (s : List Int) (n : Int) : List (List Int × Int) :=
  if (addUp ps s n ps.length).2 then (addUp ps s n ps.length).1 else (addUp ps s n ps.length).1 ++ [(s, n)]
theorem addUp_len (ps : List (List Int × Int)) (s : List Int) (n : Int) (i : Nat) : (addUp ps s n i).1.length ≤ i + 1 ∧ ((addUp ps s n i).2 = false → (addUp ps s n i).1.length ≤ i) := by
  induction i with
  | zero => simp [addUp]
  | succ i ih =>
    obtain ⟨h1, h2⟩ := ih
    simp only [addUp, addSt]
    rcases hd : (addUp ps s n i).2 with _ | _
    · have h2' := h2 hd
      by_cases hl : lexLt (nthP ps i).1 s = true
      · simp only [hl, Bool.or_true, if_true, List.length_append, List.length_singleton]
        exact ⟨by omega, fun _ => by omega⟩
      · simp only [hl, Bool.or_false, Bool.false_eq_true, if_false]
        by_cases he : (nthP ps i).1 = s
        · simp only [he, if_true]
          split <;> simp <;> omega
        · simp only [he, if_false, List.length_append, List.length_singleton]
          exact ⟨by omega, fun h => by simp at h⟩
    · simp only [Bool.true_or, if_true, List.length_append, List.length_singleton]
      exact ⟨by omega, fun h => by simp at h⟩
theorem addUp_keep {ps : List (List Int × Int)} {s : List Int} {n : Int} {i : Nat} (h : (addUp ps s n i).2 = true) : addUp ps s n (i + 1) = ((addUp ps s n i).1 ++ [nthP ps i], true) := by
  simp [addUp, addSt, h]
theorem addUp_less {ps : List (List Int × Int)} {s : List Int} {n : Int} {i : Nat} (h : (addUp ps s n i).2 = false) (h2 : lexLt (nthP ps i).1 s = true) : addUp ps s n (i + 1) = ((addUp ps s n i).1 ++ [nthP ps i], false) := by
  simp [addUp, addSt, h, h2]
theorem addUp_gone {ps : List (List Int × Int)} {s : List Int} {n : Int} {i : Nat} (h : (addUp ps s n i).2 = false) (h2 : lexLt (nthP ps i).1 s = false) (h3 : (nthP ps i).1 = s) (h4 : (nthP ps i).2 + n = 0) : addUp ps s n (i + 1) = ((addUp ps s n i).1, true) := by
  rw [h3] at h2
  simp [addUp, addSt, h, h2, h3, h4]
theorem addUp_more {ps : List (List Int × Int)} {s : List Int} {n : Int} {i : Nat} (h : (addUp ps s n i).2 = false) (h2 : lexLt (nthP ps i).1 s = false) (h3 : (nthP ps i).1 = s) (h4 : (nthP ps i).2 + n ≠ 0) : addUp ps s n (i + 1) = ((addUp ps s n i).1 ++ [(s, (nthP ps i).2 + n)], true) := by
  rw [h3] at h2
  simp [addUp, addSt, h, h2, h3, h4]
theorem addUp_new {ps : List (List Int × Int)} {s : List Int} {n : Int} {i : Nat} (h : (addUp ps s n i).2 = false) (h2 : lexLt (nthP ps i).1 s = false) (h3 : (nthP ps i).1 ≠ s) : addUp ps s n (i + 1) = ((addUp ps s n i).1 ++ [(s, n)] ++ [nthP ps i], true) := by
  simp [addUp, addSt, h, h2, h3]
theorem addP_done {ps : List (List Int × Int)} {s : List Int} {n : Int} {m : Nat} (hm : ps.length = m) (h : (addUp ps s n m).2 = true) : addP ps s n = (addUp ps s n m).1 := by subst hm; simp [addP, h]
theorem addP_last {ps : List (List Int × Int)} {s : List Int} {n : Int} {m : Nat} (hm : ps.length = m) (h : (addUp ps s n m).2 = false) : addP ps s n = (addUp ps s n m).1 ++ [(s, n)] := by subst hm; simp [addP, h]

theorem allB_succ (p : Nat → Bool) (n : Nat) : allB p (n + 1) = (allB p n && p n) := by simp [allB, List.range_succ]
/-! ### horizontal strips -/
def fit0 (c s : List Int) (p : Int) : Bool := within c s && (sumL c == sumL s + p)
def fitTo (c s : List Int) (p : Int) (m : Nat) : Bool := fit0 c s p && allB (fun i => decide (nth c (i + 1) ≤ nth s i)) m
theorem fitTo_zero (c s : List Int) (p : Int) : fitTo c s p 0 = fit0 c s p := by simp [fitTo, allB]
theorem fitTo_succ (c s : List Int) (p : Int) (m : Nat) : fitTo c s p (m + 1) = (fitTo c s p m && decide (nth c (m + 1) ≤ nth s m)) := by simp [fitTo, allB_succ, Bool.and_assoc]
theorem fitTo_mono {c s : List Int} {p : Int} (hs : ∀ j, 0 ≤ nth s j) {m n : Nat} (hm : c.length ≤ m + 1) (hn : m ≤ n) : fitTo c s p n = fitTo c s p m := by
  induction n with
  | zero => obtain rfl : m = 0 := by omega
            rfl
  | succ n ih =>
    rcases Nat.lt_or_ge n m with h | h
    · obtain rfl : m = n + 1 := by omega
      rfl
    · rw [fitTo_succ, ih h, nth_ge (l := c) (k := n + 1) (by omega)]
      simp [hs n]
def pieriTo (ls : List (List Int)) (s : List Int) (p : Int) (m : Nat) : Nat → List (List Int × Int)
  | 0 => []
  | j + 1 => if fitTo (nthL ls j) s p m then pieriTo ls s p m j ++ [(nthL ls j, 1)] else pieriTo ls s p m j
theorem pieriTo_yes {ls : List (List Int)} {s : List Int} {p : Int} {m j : Nat} (h : fitTo (nthL ls j) s p m = true) : pieriTo ls s p m (j + 1) = pieriTo ls s p m j ++ [(nthL ls j, 1)] := by rw [pieriTo, if_pos h]
theorem pieriTo_no {ls : List (List Int)} {s : List Int} {p : Int} {m j : Nat} (h : fitTo (nthL ls j) s p m = false) : pieriTo ls s p m (j + 1) = pieriTo ls s p m j := by rw [pieriTo, if_neg (by rw [h]; simp)]
theorem pieriTo_mem {ls : List (List Int)} {s : List Int} {p : Int} {m j : Nat} {x : List Int × Int} (h : x ∈ pieriTo ls s p m j) : ∃ i, i < j ∧ x = (nthL ls i, 1) := by
  induction j with
  | zero => cases h
  | succ j ih =>
    unfold pieriTo at h
    split at h
    · rw [List.mem_append] at h
      rcases h with h | h
      · obtain ⟨i, h1, h2⟩ := ih h; exact ⟨i, by omega, h2⟩
      · simp at h; exact ⟨j, by omega, h⟩
    · obtain ⟨i, h1, h2⟩ := ih h; exact ⟨i, by omega, h2⟩
theorem pieriTo_len (ls : List (List Int)) (s : List Int) (p : Int) (m j : Nat) : (pieriTo ls s p m j).length ≤ j := by
  induction j with
  | zero => exact Nat.le_refl _
  | succ j ih =>
    unfold pieriTo
    split
    · simp; omega
    · omega
/-- To add what comes last is to append it. -/
theorem addP_end {ps : List (List Int × Int)} {s : List Int} {n : Int} (hn : n ≠ 0) (h : ∀ x ∈ ps, lexLt x.1 s = true) : addP ps s n = ps ++ [(s, n)] := by
  have key : ∀ i, i ≤ ps.length → addUp ps s n i = (ps.take i, false) := by
    intro i
    induction i with
    | zero => intro _; simp [addUp]; exact hn
    | succ i ih =>
      intro hi
      have hi' : i < ps.length := by omega
      have e := ih (by omega)
      have hm : nthP ps i ∈ ps := by rw [nthP_lt hi']; exact List.getElem_mem hi'
      rw [addUp_less (by rw [e]) (h _ hm), e, nthP_lt hi']
      simp only [Prod.mk.injEq, and_true]
      exact (List.take_succ_eq_append_getElem hi').symm
  have e := key ps.length (Nat.le_refl _)
  rw [addP_last rfl (by rw [e]), e]
  simp
def sortedB (ls : List (List Int)) : Bool := allB (fun j => allB (fun i => lexLt (nthL ls i) (nthL ls j)) j) ls.length
theorem boxes_ok : (List.range 8).all (fun k => (List.range (8 - k)).all fun m => sortedB (shapesIn k m) && (shapesIn k m).all fun c => isShapeB c) = true := by decide +kernel
theorem box_ok {k m : Nat} (h : k + m ≤ 7) : sortedB (shapesIn k m) = true ∧ ∀ c ∈ shapesIn k m, isShapeB c = true := by
  have h0 := boxes_ok
  rw [List.all_eq_true] at h0
  have h1 := h0 k (by rw [List.mem_range]; omega)
  rw [List.all_eq_true] at h1
  have h2 := h1 m (by rw [List.mem_range]; omega)
  rw [Bool.and_eq_true, List.all_eq_true] at h2
  exact h2
theorem box_lt {k m i j : Nat} (h : k + m ≤ 7) (hij : i < j) (hj : j < (shapesIn k m).length) : lexLt (nthL (shapesIn k m) i) (nthL (shapesIn k m) j) = true :=
  by have h1 := (box_ok h).1; unfold sortedB at h1; have h2 := allB_at h1 hj; exact allB_at h2 hij
theorem pieri_add {k m : Nat} (h : k + m ≤ 7) {s : List Int} {p : Int} {mm j : Nat} (hj : j < (shapesIn k m).length) :
    addP (pieriTo (shapesIn k m) s p mm j) (nthL (shapesIn k m) j) 1 = pieriTo (shapesIn k m) s p mm j ++ [(nthL (shapesIn k m) j, 1)] := by
  refine addP_end (by omega) fun x hx => ?_
  obtain ⟨i, hi, rfl⟩ := pieriTo_mem hx
  exact box_lt h hi hj
/-- The shapes by horizontal strips, in a box. -/
def stripsB (s : List Int) (k n p : Int) : List (List Int × Int) := pieriTo (shapesIn k.toNat (n - k).toNat) s p (k.toNat - 1) (shapesIn k.toNat (n - k).toNat).length
def pieriOk (s : List Int) (k n p : Int) : Bool := inBoxB s k n && inB p 0 (n - k)
def pieriB (s : List Int) (k n p : Int) : List (List Int × Int) := if pieriOk s k n p then stripsB s k n p else []
theorem stripsB_eq {s : List Int} {k m : Nat} {p : Int} : stripsB s k (k + m) p = pieriTo (shapesIn k m) s p (k - 1) (shapesIn k m).length := by
  have e : ((k : Int) + m - k).toNat = m := by omega
  simp [stripsB, e]
theorem pieriB_yes {s : List Int} {k n p : Int} (h : pieriOk s k n p = true) : pieriB s k n p = stripsB s k n p := by simp [pieriB, h]
theorem pieriB_no {s : List Int} {k n p : Int} (h : pieriOk s k n p = false) : pieriB s k n p = [] := by simp [pieriB, h]
theorem containsB_within {c s : List Int} (h1 : isShapeB c = true) (h2 : isShapeB s = true) : containsB c s = within c s := by simp [containsB, h1, h2]
theorem sumL_shape {s : List Int} (h : isShapeB s = true) : 0 ≤ sumL s ∧ sumL s ≤ 16000000 := by
  have hl : s.length ≤ 16 := by unfold isShapeB at h; rw [Bool.and_eq_true, decide_eq_true_eq] at h; exact h.1
  have key : ∀ k, k ≤ s.length → 0 ≤ sumTo s k ∧ sumTo s k ≤ 16 * (k : Int) := by
    intro k
    induction k with
    | zero => intro _; simp [sumTo]
    | succ k ih =>
      intro hk
      have := ih (by omega)
      have := shapeAt_range h (j := k) (by omega)
      simp only [sumTo]
      omega
  have := key s.length (Nat.le_refl _)
  unfold sumL
  omega
end Go.Proofs.Ytgbojgmmingfdaa

/- Ascending lists of parts: where a shape stands, and what it is to add it. No program is in sight here. -/
namespace Go.Proofs.Ytgbojgmmingfdaa

theorem lex_irr : ∀ a : List Int, lexLt a a = false
  | [] => rfl
  | x :: r => by rw [lexLt, if_pos rfl]; exact lex_irr r
theorem lex_trans : ∀ {a b c : List Int}, lexLt a b = true → lexLt b c = true → lexLt a c = true
  | [], [], _, h, _ => by simp [lexLt] at h
  | [], _ :: _, [], _, h => by simp [lexLt] at h
  | [], _ :: _, _ :: _, _, _ => rfl
  | _ :: _, [], _, h, _ => by simp [lexLt] at h
  | _ :: _, _ :: _, [], _, h => by simp [lexLt] at h
  | x :: a, y :: b, z :: c, h1, h2 => by
    rw [lexLt] at h1 h2 ⊢
    by_cases e1 : x = y
    · rw [if_pos e1] at h1
      by_cases e2 : y = z
      · rw [if_pos e2] at h2
        rw [if_pos (e1.trans e2)]
        exact lex_trans h1 h2
      · rw [if_neg e2] at h2
        rw [if_neg (by rw [e1]; exact e2), e1]
        exact h2
    · rw [if_neg e1] at h1
      by_cases e2 : y = z
      · rw [if_neg (by rw [← e2]; exact e1), ← e2]
        exact h1
      · rw [if_neg e2] at h2
        simp only [decide_eq_true_eq] at h1 h2
        rw [if_neg (by omega)]
        simp only [decide_eq_true_eq]
        omega
theorem lex_total : ∀ {a b : List Int}, lexLt a b = false → a ≠ b → lexLt b a = true
  | [], [], _, h => absurd rfl h
  | [], _ :: _, h, _ => by simp [lexLt] at h
  | _ :: _, [], _, _ => rfl
  | x :: a, y :: b, h, hne => by
    rw [lexLt] at h ⊢
    by_cases e : x = y
    · rw [if_pos e] at h
      rw [if_pos e.symm]
      exact lex_total h (fun e2 => hne (by rw [e, e2]))
    · rw [if_neg e] at h
      rw [if_neg (Ne.symm e)]
      simp only [decide_eq_false_iff_not] at h
      simp only [decide_eq_true_eq]
      omega
theorem lex_asymm {a b : List Int} (h : lexLt a b = true) : lexLt b a = false := by
  rw [Bool.eq_false_iff]
  intro h2
  have := lex_trans h h2
  rw [lex_irr] at this
  cases this
theorem lex_ne {a b : List Int} (h : lexLt a b = true) : a ≠ b := fun e => by rw [e, lex_irr] at h; cases h

/-- -1, 0 or 1. -/
def cmpB (a b : List Int) : Int := if lexLt a b then -1 else if a = b then 0 else 1
theorem cmpB_neg {a b : List Int} : cmpB a b < 0 ↔ lexLt a b = true := by
  unfold cmpB
  by_cases h : lexLt a b = true
  · simp [h]
  · simp only [h, if_false, Bool.false_eq_true]
    split <;> simp
theorem cmpB_zero {a b : List Int} : cmpB a b = 0 ↔ a = b := by
  unfold cmpB
  by_cases h : lexLt a b = true
  · simp [h, lex_ne h]
  · simp only [h, if_false]
    split <;> simp_all
theorem cmpB_range (a b : List Int) : -1 ≤ cmpB a b ∧ cmpB a b ≤ 1 := by
  unfold cmpB
  split
  · omega
  · split <;> omega

/-- Strictly ascending. -/
def Srt (ps : List (List Int × Int)) : Prop := ∀ i j, i < j → j < ps.length → lexLt (nthP ps i).1 (nthP ps j).1 = true
/-- The place of a shape: how many stand ahead of it. -/
structure Place (ps : List (List Int × Int)) (s : List Int) (p : Nat) : Prop where
  le : p ≤ ps.length
  lo : ∀ i, i < p → lexLt (nthP ps i).1 s = true
  hi : ∀ i, p ≤ i → i < ps.length → lexLt (nthP ps i).1 s = false
theorem nthP_cons_take {ps : List (List Int × Int)} {p : Nat} (h : p < ps.length) : ps.drop p = nthP ps p :: ps.drop (p + 1) := by
  rw [nthP_lt h]; exact List.drop_eq_getElem_cons h
theorem nthP_take_succ {ps : List (List Int × Int)} {p : Nat} (h : p < ps.length) : ps.take (p + 1) = ps.take p ++ [nthP ps p] := by
  rw [nthP_lt h]; exact List.take_succ_eq_append_getElem h

theorem addUp_lo {ps : List (List Int × Int)} {s : List Int} {n : Int} {p : Nat} (hn : n ≠ 0) (h : ∀ i, i < p → lexLt (nthP ps i).1 s = true) : ∀ i, i ≤ p → i ≤ ps.length → addUp ps s n i = (ps.take i, false) := by
  intro i
  induction i with
  | zero => intro _ _; simp [addUp]; exact hn
  | succ i ih =>
    intro hi hl
    have e := ih (by omega) (by omega)
    rw [addUp_less (by rw [e]) (h i (by omega)), e, nthP_take_succ (by omega)]
theorem addUp_rest {ps : List (List Int × Int)} {s : List Int} {n : Int} {p : Nat} {X : List (List Int × Int)} (h : addUp ps s n p = (X, true)) : ∀ d, p + d ≤ ps.length → addUp ps s n (p + d) = (X ++ (ps.drop p).take d, true) := by
  intro d
  induction d with
  | zero => intro _; simpa using h
  | succ d ih =>
    intro hd
    have e := ih (by omega)
    rw [← Nat.add_assoc, addUp_keep (by rw [e]), e]
    simp only [Prod.mk.injEq, and_true, List.append_assoc]
    congr 1
    have hl : d < (ps.drop p).length := by rw [List.length_drop]; omega
    rw [List.take_succ_eq_append_getElem hl]
    congr 2
    rw [nthP_lt (by omega)]
    simp
theorem addP_found {ps : List (List Int × Int)} {s : List Int} {n : Int} {p : Nat} (hn : n ≠ 0) (h : ∀ i, i < p → lexLt (nthP ps i).1 s = true) (hp : p < ps.length) (he : (nthP ps p).1 = s) (hz : (nthP ps p).2 + n ≠ 0) :
    addP ps s n = ps.take p ++ [(s, (nthP ps p).2 + n)] ++ ps.drop (p + 1) := by
  have e0 := addUp_lo hn h p (Nat.le_refl _) (by omega)
  have e1 := addUp_more (n := n) (by rw [e0]) (by rw [he]; exact lex_irr s) he hz
  rw [e0] at e1
  have e2 := addUp_rest e1 (ps.length - (p + 1)) (by omega)
  rw [show p + 1 + (ps.length - (p + 1)) = ps.length by omega] at e2
  rw [addP_done rfl (by rw [e2]), e2]
  simp only
  congr 1
  rw [List.take_of_length_le (by rw [List.length_drop]; omega)]
theorem addP_new {ps : List (List Int × Int)} {s : List Int} {n : Int} {p : Nat} (hn : n ≠ 0) (h : Place ps s p) (hf : p < ps.length → (nthP ps p).1 ≠ s) :
    addP ps s n = ps.take p ++ [(s, n)] ++ ps.drop p := by
  have e0 := addUp_lo hn h.lo p (Nat.le_refl _) h.le
  by_cases hp : p < ps.length
  · have e1 := addUp_new (n := n) (by rw [e0]) (h.hi p (Nat.le_refl _) hp) (hf hp)
    rw [e0] at e1
    have e2 := addUp_rest e1 (ps.length - (p + 1)) (by omega)
    rw [show p + 1 + (ps.length - (p + 1)) = ps.length by omega] at e2
    rw [addP_done rfl (by rw [e2]), e2, nthP_cons_take hp]
    simp only [List.append_assoc]
    rw [List.take_of_length_le (l := ps.drop (p + 1)) (by rw [List.length_drop]; omega)]
    simp
  · have hp2 : p = ps.length := by have := h.le; omega
    subst hp2
    rw [addP_last rfl (by rw [e0]), e0]
    simp
theorem nthP_mem {ps : List (List Int × Int)} {k : Nat} (h : k < ps.length) : nthP ps k ∈ ps := by rw [nthP_lt h]; exact List.getElem_mem h
/-- In an ascending list each shape has its place. -/
theorem place_of (ps : List (List Int × Int)) (hs : Srt ps) (s : List Int) : ∃ p, Place ps s p := by
  have key : ∀ m, m ≤ ps.length → (∀ i, ps.length - m ≤ i → i < ps.length → lexLt (nthP ps i).1 s = false) → ∃ p, Place ps s p := by
    intro m
    induction hq : ps.length - m generalizing m with
    | zero => intro hm h; exact ⟨0, Nat.zero_le _, fun i hi => by omega, fun i _ hi => h i (by omega) hi⟩
    | succ q ih =>
      intro hm h
      rcases hl : lexLt (nthP ps q).1 s with _ | _
      · refine ih (m + 1) (by omega) (by omega) fun i h1 h2 => ?_
        by_cases e : i = q
        · subst e; exact hl
        · exact h i (by omega) h2
      · refine ⟨q + 1, by omega, fun i hi => ?_, fun i h1 h2 => h i (by omega) h2⟩
        by_cases e : i = q
        · subst e; exact hl
        · exact lex_trans (hs i q (by omega) (by omega)) hl
  exact key 0 (Nat.zero_le _) fun i h1 h2 => by omega

/-- Strictly ascending, as a chain. -/
theorem srt_mid {xs ys : List (List Int × Int)} {s : List Int} {n : Int} (h1 : Srt xs) (h2 : Srt ys) (h3 : ∀ x ∈ xs, lexLt x.1 s = true) (h4 : ∀ y ∈ ys, lexLt s y.1 = true) : Srt (xs ++ [(s, n)] ++ ys) := by
  have at1 : ∀ i, i < xs.length → nthP (xs ++ [(s, n)] ++ ys) i = nthP xs i := fun i hi => by
    simp [nthP, List.getD, List.getElem?_append_left hi]
  have at2 : nthP (xs ++ [(s, n)] ++ ys) xs.length = (s, n) := by
    simp [nthP, List.getD]
  have at3 : ∀ i, nthP (xs ++ [(s, n)] ++ ys) (xs.length + 1 + i) = nthP ys i := fun i => by
    have : (xs ++ [(s, n)]).length ≤ xs.length + 1 + i := by simp
    unfold nthP List.getD
    rw [List.getElem?_append_right this]
    simp
  intro i j hij hj
  have hlen : (xs ++ [(s, n)] ++ ys).length = xs.length + 1 + ys.length := by simp; omega
  rw [hlen] at hj
  rcases Nat.lt_trichotomy j xs.length with h | h | h
  · rw [at1 i (by omega), at1 j h]; exact h1 i j hij h
  · subst h
    rw [at1 i hij, at2]
    exact h3 _ (nthP_mem hij)
  · obtain ⟨b, rfl⟩ : ∃ b, j = xs.length + 1 + b := ⟨j - (xs.length + 1), by omega⟩
    rw [at3 b]
    have hb : b < ys.length := by omega
    rcases Nat.lt_trichotomy i xs.length with g | g | g
    · rw [at1 i g]; exact lex_trans (h3 _ (nthP_mem g)) (h4 _ (nthP_mem hb))
    · subst g; rw [at2]; exact h4 _ (nthP_mem hb)
    · obtain ⟨a, rfl⟩ : ∃ a, i = xs.length + 1 + a := ⟨i - (xs.length + 1), by omega⟩
      rw [at3 a]
      exact h2 a b (by omega) hb
theorem srt_take {ps : List (List Int × Int)} (h : Srt ps) (p : Nat) : Srt (ps.take p) := by
  intro i j hij hj
  rw [List.length_take] at hj
  have e : ∀ k, k < p → nthP (ps.take p) k = nthP ps k := fun k hk => by simp [nthP, List.getD, List.getElem?_take, hk]
  rw [e i (by omega), e j (by omega)]
  exact h i j hij (by omega)
theorem srt_drop {ps : List (List Int × Int)} (h : Srt ps) (p : Nat) : Srt (ps.drop p) := by
  intro i j hij hj
  rw [List.length_drop] at hj
  have e : ∀ k, nthP (ps.drop p) k = nthP ps (p + k) := fun k => by simp [nthP, List.getD, List.getElem?_drop]
  rw [e i, e j]
  exact h _ _ (by omega) (by omega)
theorem mem_take_nthP {ps : List (List Int × Int)} {p : Nat} {x : List Int × Int} (h : x ∈ ps.take p) : ∃ i, i < p ∧ i < ps.length ∧ nthP ps i = x := by
  obtain ⟨i, hi, e⟩ := List.getElem_of_mem h
  rw [List.length_take] at hi
  refine ⟨i, by omega, by omega, ?_⟩
  rw [nthP_lt (by omega), ← e, List.getElem_take]
theorem mem_drop_nthP {ps : List (List Int × Int)} {p : Nat} {x : List Int × Int} (h : x ∈ ps.drop p) : ∃ i, p ≤ i ∧ i < ps.length ∧ nthP ps i = x := by
  obtain ⟨i, hi, e⟩ := List.getElem_of_mem h
  rw [List.length_drop] at hi
  refine ⟨p + i, by omega, by omega, ?_⟩
  rw [nthP_lt (by omega), ← e, List.getElem_drop]
theorem place_mid {ps : List (List Int × Int)} {s : List Int} {p : Nat} {n : Int} (hs : Srt ps) (h : Place ps s p) (hf : p < ps.length → (nthP ps p).1 ≠ s) : Srt (ps.take p ++ [(s, n)] ++ ps.drop p) := by
  refine srt_mid (srt_take hs p) (srt_drop hs p) (fun x hx => ?_) (fun y hy => ?_)
  · obtain ⟨i, h1, h2, rfl⟩ := mem_take_nthP hx
    exact h.lo i h1
  · obtain ⟨i, h1, h2, rfl⟩ := mem_drop_nthP hy
    refine lex_total (h.hi i h1 h2) fun e => ?_
    rcases Nat.lt_or_ge p i with hpi | hpi
    · have := hs p i hpi h2
      rw [e] at this
      have h3 := h.hi p (Nat.le_refl _) (by omega)
      rw [this] at h3; cases h3
    · obtain rfl : i = p := by omega
      exact hf h2 e
theorem place_set {ps : List (List Int × Int)} {s : List Int} {p : Nat} {n : Int} (hs : Srt ps) (h : Place ps s p) (hp : p < ps.length) (he : (nthP ps p).1 = s) : Srt (ps.take p ++ [(s, n)] ++ ps.drop (p + 1)) := by
  refine srt_mid (srt_take hs p) (srt_drop hs (p + 1)) (fun x hx => ?_) (fun y hy => ?_)
  · obtain ⟨i, h1, h2, rfl⟩ := mem_take_nthP hx
    exact h.lo i h1
  · obtain ⟨i, h1, h2, rfl⟩ := mem_drop_nthP hy
    rw [← he]
    exact hs p i (by omega) h2
/-- What adding one leaves: ascending; the counts grow by one at most; each shape is an old one or the new one. -/
structure Grows (ps : List (List Int × Int)) (N : Int) : Prop where
  srt : Srt ps
  len : (ps.length : Int) ≤ N
  cnt : ∀ x ∈ ps, 1 ≤ x.2 ∧ x.2 ≤ N
theorem grows_nil : Grows [] 0 := ⟨fun i j _ h => by simp at h, by simp, fun x h => by simp at h⟩
theorem Grows.add {ps : List (List Int × Int)} {N : Int} (h : Grows ps N) (s : List Int) : Grows (addP ps s 1) (N + 1) := by
  obtain ⟨p, hp⟩ := place_of ps h.srt s
  have hle := hp.le
  have hl := h.len
  by_cases hf : p < ps.length ∧ (nthP ps p).1 = s
  · have hc := h.cnt _ (nthP_mem hf.1)
    rw [addP_found (by omega) hp.lo hf.1 hf.2 (by omega)]
    refine ⟨place_set h.srt hp hf.1 hf.2, by simp; omega, fun x hx => ?_⟩
    rw [List.append_assoc, List.mem_append, List.mem_append, List.mem_singleton] at hx
    rcases hx with hx | rfl | hx
    · have := h.cnt x (List.mem_of_mem_take hx); omega
    · simp only; omega
    · have := h.cnt x (List.mem_of_mem_drop hx); omega
  · have hf2 : p < ps.length → (nthP ps p).1 ≠ s := fun h1 h2 => hf ⟨h1, h2⟩
    rw [addP_new (by omega) hp hf2]
    refine ⟨place_mid h.srt hp hf2, by simp; omega, fun x hx => ?_⟩
    rw [List.append_assoc, List.mem_append, List.mem_append, List.mem_singleton] at hx
    rcases hx with hx | rfl | hx
    · have := h.cnt x (List.mem_of_mem_take hx); omega
    · have : (0 : Int) ≤ N := by omega
      simp only; omega
    · have := h.cnt x (List.mem_of_mem_drop hx); omega
theorem addP_shapes {ps : List (List Int × Int)} {s : List Int} (hs : Srt ps) (hc : ∀ x ∈ ps, 1 ≤ x.2) {x : List Int × Int} (hx : x ∈ addP ps s 1) : x.1 = s ∨ ∃ y ∈ ps, y.1 = x.1 := by
  obtain ⟨p, hp⟩ := place_of ps hs s
  by_cases hf : p < ps.length ∧ (nthP ps p).1 = s
  · rw [addP_found (by omega) hp.lo hf.1 hf.2 (by have := hc _ (nthP_mem hf.1); omega)] at hx
    rw [List.append_assoc, List.mem_append, List.mem_append, List.mem_singleton] at hx
    rcases hx with hx | rfl | hx
    · exact .inr ⟨x, List.mem_of_mem_take hx, rfl⟩
    · exact .inl rfl
    · exact .inr ⟨x, List.mem_of_mem_drop hx, rfl⟩
  · rw [addP_new (by omega) hp (fun h1 h2 => hf ⟨h1, h2⟩)] at hx
    rw [List.append_assoc, List.mem_append, List.mem_append, List.mem_singleton] at hx
    rcases hx with hx | rfl | hx
    · exact .inr ⟨x, List.mem_of_mem_take hx, rfl⟩
    · exact .inl rfl
    · exact .inr ⟨x, List.mem_of_mem_drop hx, rfl⟩
end Go.Proofs.Ytgbojgmmingfdaa

/- Puzzles: the plain side. -/
namespace Go.Proofs.Ytgbojgmmingfdaa

def tri (r : Nat) : Nat := r * (r + 1) / 2
theorem tri_step (r : Nat) : tri (r + 1) = tri r + (r + 1) := by
  unfold tri
  have : (r + 1) * (r + 1 + 1) = r * (r + 1) + (r + 1) * 2 := by
    rw [Nat.add_mul r 1, Nat.mul_add r (r + 1) 1]; omega
  rw [this]; omega
theorem tri_mono {a b : Nat} (h : a ≤ b) : tri a ≤ tri b := by
  induction h with
  | refl => exact Nat.le_refl _
  | step h ih => rw [tri_step]; omega
theorem tri_lt {r k n : Nat} (h : r < n) (hk : k ≤ r) : tri r + k < tri n := by
  have := tri_mono (show r + 1 ≤ n from h)
  rw [tri_step] at this
  omega
theorem tri_small {n : Nat} (h : n ≤ 8) : tri n ≤ 36 := tri_mono h
theorem tri_cast (r : Nat) : (r : Int) * (r + 1) / 2 = (tri r : Int) := by
  unfold tri
  have e : (r : Int) * (r + 1) = ((r * (r + 1) : Nat) : Int) := by simp
  rw [e]
  rfl

/-- The place of a small triangle, in whole numbers. -/
def atI (R K : Int) : Int := R * (R + 1) / 2 + K
theorem atI_eq {r k a : Nat} {R K : Int} (hR : R = r) (hK : K = k) (h : tri r + k = a) : atI R K = a := by
  subst hR hK
  rw [atI, tri_cast, ← h]
  simp

def hasT (ts : List (Int × Int × Int)) (a b c : Int) : Bool := ts.any fun t => decide (a = t.1) && (decide (b = t.2.1) && decide (c = t.2.2))
def trips (wt : Bool) : List (Int × Int × Int) := if wt then [(0, 0, 0), (1, 1, 1), (0, 1, 2), (1, 2, 0), (2, 0, 1), (1, 0, 3)] else [(0, 0, 0), (1, 1, 1), (0, 1, 2), (1, 2, 0), (2, 0, 1)]
def upB (l r : Int) (wt : Bool) : Int :=
  if l = r ∧ l ≤ 1 then l else if l = 0 ∧ r = 1 then 2 else if l = 1 ∧ r = 2 then 0 else if l = 2 ∧ r = 0 then 1 else if l = 1 ∧ r = 0 ∧ wt = true then 3 else -1
def downB (l t : Int) : Int :=
  if l = t ∧ l ≤ 1 then l else if l = 1 ∧ t = 2 then 0 else if l = 2 ∧ t = 0 then 1 else if l = 0 ∧ t = 1 then 2 else if l = 0 ∧ t = 3 then 1 else -1

theorem hasT_iff {wt : Bool} {a b c : Int} : hasT (trips wt) a b c = true ↔ ((a = 0 ∧ b = 0 ∧ c = 0) ∨ (a = 1 ∧ b = 1 ∧ c = 1) ∨ (a = 0 ∧ b = 1 ∧ c = 2) ∨ (a = 1 ∧ b = 2 ∧ c = 0) ∨ (a = 2 ∧ b = 0 ∧ c = 1)) ∨ ((a = 1 ∧ b = 0 ∧ c = 3) ∧ wt = true) := by
  cases wt <;> simp [hasT, trips, or_assoc]

theorem hasT_up {wt : Bool} {a b c : Int} : hasT (trips wt) a b c = true ↔ (0 ≤ a ∧ a ≤ 2) ∧ (0 ≤ b ∧ b ≤ 2) ∧ 0 ≤ c ∧ upB a b wt = c := by
  constructor
  · intro h
    have h0 : ((a = 0 ∧ b = 0 ∧ c = 0) ∨ (a = 1 ∧ b = 1 ∧ c = 1) ∨ (a = 0 ∧ b = 1 ∧ c = 2) ∨ (a = 1 ∧ b = 2 ∧ c = 0) ∨ (a = 2 ∧ b = 0 ∧ c = 1)) ∨ ((a = 1 ∧ b = 0 ∧ c = 3) ∧ wt = true) := by
      exact hasT_iff.1 h
    rcases h0 with (⟨rfl, rfl, rfl⟩ | ⟨rfl, rfl, rfl⟩ | ⟨rfl, rfl, rfl⟩ | ⟨rfl, rfl, rfl⟩ | ⟨rfl, rfl, rfl⟩) | ⟨⟨rfl, rfl, rfl⟩, rfl⟩ <;> simp [upB]
  · rintro ⟨⟨a1, a2⟩, ⟨b1, b2⟩, c1, h⟩
    have ha : a = 0 ∨ a = 1 ∨ a = 2 := by omega
    have hb : b = 0 ∨ b = 1 ∨ b = 2 := by omega
    rcases ha with rfl | rfl | rfl <;> rcases hb with rfl | rfl | rfl <;> cases wt <;> simp [upB] at h <;> subst h <;> first | (exfalso; omega) | rfl
theorem hasT_down {wt : Bool} {l r t : Int} (hr : 0 ≤ r ∧ r ≤ 2) (ht : 0 ≤ t ∧ t ≤ 3) (hw : t = 3 → wt = true) (hl : 0 ≤ l) : hasT (trips wt) l r t = decide (downB r t = l) := by
  have h1 : r = 0 ∨ r = 1 ∨ r = 2 := by omega
  have h2 : t = 0 ∨ t = 1 ∨ t = 2 ∨ t = 3 := by omega
  rcases h1 with rfl | rfl | rfl <;> rcases h2 with rfl | rfl | rfl | rfl <;> cases wt <;> simp [hasT, trips, downB] at hw ⊢ <;> first | omega | (by_cases h : l = 0 <;> by_cases h' : l = 1 <;> by_cases h'' : l = 2 <;> simp_all <;> omega)

/-- The sizes of a puzzle. -/
def sizesB (S : Int) (L R B : List Int) : Bool := inB S 1 7 && (decide (L.length = tri S.toNat) && (decide (R.length = tri S.toNat) && decide (B.length = tri S.toNat)))
/-- A cell as the program looks at it. -/
def cellI (wt : Bool) (L R B : List Int) (r k : Nat) : Bool :=
  hasT (trips wt) (nth L (tri r + k)) (nth R (tri r + k)) (nth B (tri r + k)) && (!decide (k < r) || hasT (trips wt) (nth L (tri r + (k + 1))) (nth R (tri r + k)) (nth B (tri (r - 1) + k)))
def rowI (wt : Bool) (n : Nat) (L R B : List Int) (r : Nat) : Bool :=
  (decide (nth L (tri r) ≤ 1) && (decide (nth R (tri r + r) ≤ 1) && decide (nth B (tri (n - 1) + r) ≤ 1))) && allB (cellI wt L R B r) (r + 1)
def puzB (S : Int) (L R B : List Int) (wt : Bool) : Bool := sizesB S L R B && allB (rowI wt S.toNat L R B) S.toNat
/-- A cell as the reference looks at it. -/
def cellS (wt : Bool) (n : Nat) (L R B : List Int) (r k : Nat) : Bool :=
  (hasT (trips wt) (nth L (tri r + k)) (nth R (tri r + k)) (nth B (tri r + k))) && ((!decide (k < r) || decide (downB (nth R (tri r + k)) (nth B (tri (r - 1) + k)) = nth L (tri r + (k + 1)))) &&
    (!(decide (r + 1 = n) && !decide (nth B (tri r + k) ≤ 1)) && (!(decide (k = 0) && !decide (nth L (tri r + k) ≤ 1)) && !(decide (k = r) && !decide (nth R (tri r + k) ≤ 1)))))
def puzS (S : Int) (L R B : List Int) (wt : Bool) : Bool := sizesB S L R B && allB (fun r => allB (cellS wt S.toNat L R B r) (r + 1)) S.toNat

theorem allB_iff {f : Nat → Bool} {n : Nat} : allB f n = true ↔ ∀ k, k < n → f k = true := ⟨fun h k hk => allB_at h hk, fun h => by
  induction n with
  | zero => simp [allB]
  | succ n ih => rw [allB_succ, ih fun k hk => h k (by omega), h n (by omega)]; rfl⟩
theorem up_range {wt : Bool} {a b c : Int} (h : hasT (trips wt) a b c = true) : (0 ≤ a ∧ a ≤ 2) ∧ (0 ≤ b ∧ b ≤ 2) ∧ (0 ≤ c ∧ c ≤ 3) ∧ (c = 3 → wt = true) := by
  have h0 : ((a = 0 ∧ b = 0 ∧ c = 0) ∨ (a = 1 ∧ b = 1 ∧ c = 1) ∨ (a = 0 ∧ b = 1 ∧ c = 2) ∨ (a = 1 ∧ b = 2 ∧ c = 0) ∨ (a = 2 ∧ b = 0 ∧ c = 1)) ∨ ((a = 1 ∧ b = 0 ∧ c = 3) ∧ wt = true) := by
    exact hasT_iff.1 h
  rcases h0 with (⟨rfl, rfl, rfl⟩ | ⟨rfl, rfl, rfl⟩ | ⟨rfl, rfl, rfl⟩ | ⟨rfl, rfl, rfl⟩ | ⟨rfl, rfl, rfl⟩) | ⟨⟨rfl, rfl, rfl⟩, rfl⟩ <;> simp

theorem puzS_eq (S : Int) (L R B : List Int) (wt : Bool) : puzS S L R B wt = puzB S L R B wt := by
  unfold puzS puzB
  congr 1
  obtain ⟨n, hn⟩ : ∃ n, n = S.toNat := ⟨_, rfl⟩
  rw [← hn]
  rw [Bool.eq_iff_iff, allB_iff, allB_iff]
  constructor
  · intro h r hr
    have hc : ∀ r k, r < n → k ≤ r → cellS wt n L R B r k = true := fun r k h1 h2 => allB_iff.1 (h r h1) k (by omega)
    have hT : ∀ r k, r < n → k ≤ r → hasT (trips wt) (nth L (tri r + k)) (nth R (tri r + k)) (nth B (tri r + k)) = true := fun r k h1 h2 => by
      have := hc r k h1 h2
      unfold cellS at this
      rw [Bool.and_eq_true] at this
      exact this.1
    unfold rowI
    simp only [Bool.and_eq_true, decide_eq_true_eq]
    refine ⟨⟨?_, ?_, ?_⟩, allB_iff.2 fun k hk => ?_⟩
    · have := hc r 0 hr (by omega)
      simp [cellS] at this
      exact this.2.2.2.1
    · have := hc r r hr (by omega)
      simp [cellS] at this
      exact this.2.2.2
    · have := hc (n - 1) r (by omega) (by omega)
      simp [cellS] at this
      exact this.2.2.1.resolve_left (by omega)
    · have h1 := hc r k hr (by omega)
      simp only [cellS, Bool.and_eq_true] at h1
      simp only [cellI, Bool.and_eq_true]
      refine ⟨h1.1, ?_⟩
      by_cases hlt : k < r
      · have h2 := h1.2.1
        simp [hlt] at h2 ⊢
        obtain ⟨t1, t2⟩ := up_range (hT (r - 1) k (by omega) (by omega))
        rw [hasT_down (up_range h1.1).2.1 t2.2.1 t2.2.2 (up_range (hT r (k + 1) hr (by omega))).1.1]
        simp [h2]
      · simp [hlt]
  · intro h r hr
    have hR : ∀ r, r < n → (nth L (tri r) ≤ 1 ∧ nth R (tri r + r) ≤ 1 ∧ nth B (tri (n - 1) + r) ≤ 1) ∧ ∀ k, k ≤ r → cellI wt L R B r k = true := fun r h1 => by
      have := h r h1
      unfold rowI at this
      simp only [Bool.and_eq_true, decide_eq_true_eq] at this
      exact ⟨this.1, fun k hk => allB_iff.1 this.2 k (by omega)⟩
    have hT : ∀ r k, r < n → k ≤ r → hasT (trips wt) (nth L (tri r + k)) (nth R (tri r + k)) (nth B (tri r + k)) = true := fun r k h1 h2 => by
      have := (hR r h1).2 k h2
      unfold cellI at this
      rw [Bool.and_eq_true] at this
      exact this.1
    refine allB_iff.2 fun k hk => ?_
    obtain ⟨⟨b1, b2, b3⟩, hI⟩ := hR r hr
    have h1 := hI k (by omega)
    simp only [cellI, Bool.and_eq_true] at h1
    simp only [cellS, Bool.and_eq_true]
    refine ⟨h1.1, ?_, ?_, ?_, ?_⟩
    · by_cases hlt : k < r
      · have h2 := h1.2
        simp [hlt] at h2 ⊢
        obtain ⟨t1, t2⟩ := up_range (hT (r - 1) k (by omega) (by omega))
        rw [hasT_down (up_range h1.1).2.1 t2.2.1 t2.2.2 (up_range (hT r (k + 1) hr (by omega))).1.1] at h2
        simpa using h2
      · simp [hlt]
    · by_cases he : r + 1 = n
      · have := (hR k (by omega)).1.2.2
        rw [show n - 1 = r by omega] at this
        simp [this]
      · simp [he]
    · by_cases he : k = 0
      · subst he; simp; exact b1
      · simp [he]
    · by_cases he : k = r
      · subst he; simp [b2]
      · simp [he]

theorem row_no {wt : Bool} {n r : Nat} {L R B : List Int} (h : ¬(nth L (tri r) ≤ 1 ∧ nth R (tri r + r) ≤ 1 ∧ nth B (tri (n - 1) + r) ≤ 1)) : rowI wt n L R B r = false := by
  have : (decide (nth L (tri r) ≤ 1) && (decide (nth R (tri r + r) ≤ 1) && decide (nth B (tri (n - 1) + r) ≤ 1))) = false := by
    rw [← Bool.not_eq_true]; simpa using h
  simp only [rowI, this, Bool.false_and]
theorem row_cell {wt : Bool} {n r k : Nat} {L R B : List Int} (hk : k ≤ r) (h : cellI wt L R B r k = false) : rowI wt n L R B r = false := by
  rw [rowI, allB_no (show k < r + 1 by omega) h, Bool.and_false]
theorem row_yes {wt : Bool} {n r : Nat} {L R B : List Int} (h : nth L (tri r) ≤ 1 ∧ nth R (tri r + r) ≤ 1 ∧ nth B (tri (n - 1) + r) ≤ 1) (hc : ∀ k, k < r + 1 → cellI wt L R B r k = true) : rowI wt n L R B r = true := by
  rw [rowI, allB_iff.2 hc, Bool.and_true]
  simpa using h
theorem puz_no {n r : Nat} {L R B : List Int} {wt : Bool} (hr : r < n) (h : rowI wt n L R B r = false) : puzB n L R B wt = false := by
  rw [puzB, Int.toNat_natCast, allB_no hr h, Bool.and_false]
theorem puz_yes {n : Nat} {L R B : List Int} {wt : Bool} (hs : sizesB n L R B = true) (h : ∀ r, r < n → rowI wt n L R B r = true) : puzB n L R B wt = true := by
  rw [puzB, hs, Int.toNat_natCast, allB_iff.2 h]; rfl
theorem cell_no1 {wt : Bool} {r k : Nat} {L R B : List Int} (h : hasT (trips wt) (nth L (tri r + k)) (nth R (tri r + k)) (nth B (tri r + k)) = false) : cellI wt L R B r k = false := by simp [cellI, h]
theorem cell_no2 {wt : Bool} {r k : Nat} {L R B : List Int} (hk : k < r) (h : hasT (trips wt) (nth L (tri r + (k + 1))) (nth R (tri r + k)) (nth B (tri (r - 1) + k)) = false) : cellI wt L R B r k = false := by simp [cellI, h, hk]
theorem cell_yes {wt : Bool} {r k : Nat} {L R B : List Int} (h : hasT (trips wt) (nth L (tri r + k)) (nth R (tri r + k)) (nth B (tri r + k)) = true) (h2 : k < r → hasT (trips wt) (nth L (tri r + (k + 1))) (nth R (tri r + k)) (nth B (tri (r - 1) + k)) = true) : cellI wt L R B r k = true := by
  rw [cellI, h, Bool.true_and]
  by_cases hk : k < r
  · simp [h2 hk]
  · simp [hk]
end Go.Proofs.Ytgbojgmmingfdaa

/- Shapes with powers as lists with the power ahead; counts that may become zero. No program is in sight here. -/
namespace Go.Proofs.Ytgbojgmmingfdaa

/-- A key with the power ahead, read as a power and a shape. -/
def decQ (x : List Int × Int) : Int × List Int × Int := (x.1.headD 0, x.1.tail, x.2)
def decL (ps : List (List Int × Int)) : List (Int × List Int × Int) := ps.map decQ
theorem decL_append (a b : List (List Int × Int)) : decL (a ++ b) = decL a ++ decL b := by simp [decL]
theorem decL_len (a : List (List Int × Int)) : (decL a).length = a.length := by simp [decL]
theorem decL_one (p : Int) (s : List Int) (n : Int) : decL [(p :: s, n)] = [(p, s, n)] := rfl
def Keyed (ps : List (List Int × Int)) : Prop := ∀ x ∈ ps, x.1 ≠ []
theorem Keyed.at {ps : List (List Int × Int)} (h : Keyed ps) {k : Nat} (hk : k < ps.length) : ∃ q t c, nthP ps k = (q :: t, c) := by
  have := h _ (nthP_mem hk)
  rcases hx : nthP ps k with ⟨l, c⟩
  rw [hx] at this
  cases l with
  | nil => exact absurd rfl this
  | cons q t => exact ⟨q, t, c, rfl⟩
theorem lex_cons (q : Int) (t : List Int) (p : Int) (s : List Int) : lexLt (q :: t) (p :: s) = if q = p then lexLt t s else decide (q < p) := rfl
theorem lex_cons_lt {q p : Int} (t s : List Int) (h : q < p) : lexLt (q :: t) (p :: s) = true := by rw [lex_cons, if_neg (by omega)]; simpa using h
theorem lex_cons_gt {q p : Int} (t s : List Int) (h : p < q) : lexLt (q :: t) (p :: s) = false := by rw [lex_cons, if_neg (by omega)]; simp; omega
theorem lex_cons_eq (p : Int) (t s : List Int) : lexLt (p :: t) (p :: s) = lexLt t s := by rw [lex_cons, if_pos rfl]

/-- To add n times a key, by recursion on the list. -/
def addR : List (List Int × Int) → List Int → Int → List (List Int × Int)
  | [], s, n => [(s, n)]
  | x :: r, s, n => if lexLt x.1 s then x :: addR r s n else if x.1 = s then (if x.2 + n = 0 then r else (s, x.2 + n) :: r) else (s, n) :: x :: r
/-- The same where nothing is struck. -/
def insZ : List (List Int × Int) → List Int → Int → List (List Int × Int)
  | [], s, n => [(s, n)]
  | x :: r, s, n => if lexLt x.1 s then x :: insZ r s n else if x.1 = s then (s, x.2 + n) :: r else (s, n) :: x :: r
theorem addUp_cons {x : List Int × Int} {r : List (List Int × Int)} {s : List Int} {n : Int} (hn : n ≠ 0) (h : lexLt x.1 s = true) : ∀ i, addUp (x :: r) s n (i + 1) = (x :: (addUp r s n i).1, (addUp r s n i).2)
  | 0 => by
    have h0 : (addUp (x :: r) s n 0).2 = false := by simp [addUp, hn]
    have e : nthP (x :: r) 0 = x := rfl
    rw [addUp_less h0 (by rw [e]; exact h), e]
    simp [addUp, hn]
  | i + 1 => by
    have ih := addUp_cons (r := r) hn h i
    have e : nthP (x :: r) (i + 1) = nthP r i := by simp [nthP, List.getD]
    rw [show addUp (x :: r) s n (i + 1 + 1) = addSt s n (addUp (x :: r) s n (i + 1)) (nthP (x :: r) (i + 1)) from rfl, ih, e, show addUp r s n (i + 1) = addSt s n (addUp r s n i) (nthP r i) from rfl]
    unfold addSt
    simp only
    split
    · rfl
    · split
      · split <;> rfl
      · rfl
theorem addUp_past {x : List Int × Int} {r : List (List Int × Int)} {s : List Int} {n : Int} {first : List (List Int × Int)} (h : addUp (x :: r) s n 1 = (first, true)) : ∀ i, i ≤ r.length → addUp (x :: r) s n (i + 1) = (first ++ r.take i, true)
  | 0, _ => by simpa using h
  | i + 1, hi => by
    have ih := addUp_past h i (by omega)
    have e : nthP (x :: r) (i + 1) = nthP r i := by simp [nthP, List.getD]
    rw [addUp_keep (by rw [ih]), ih, e]
    simp only [Prod.mk.injEq, and_true, List.append_assoc]
    congr 1
    rw [List.take_succ_eq_append_getElem (by omega), nthP_lt (by omega)]
theorem addP_rec {s : List Int} {n : Int} (hn : n ≠ 0) : ∀ ps : List (List Int × Int), addP ps s n = addR ps s n
  | [] => by simp [addP, addUp, addR, hn]
  | x :: r => by
    rw [addR]
    by_cases h : lexLt x.1 s = true
    · rw [if_pos h]
      have e := addUp_cons (r := r) hn h r.length
      have ih := addP_rec (s := s) hn r
      rw [← ih]
      rcases hd : (addUp r s n r.length).2 with _ | _
      · rw [addP_last (m := r.length + 1) (by simp) (by rw [e]; exact hd), addP_last rfl hd, e]; rfl
      · rw [addP_done (m := r.length + 1) (by simp) (by rw [e]; exact hd), addP_done rfl hd, e]
    · rw [if_neg h]
      have hf : lexLt x.1 s = false := by simpa using h
      have h0 : (addUp (x :: r) s n 0).2 = false := by simp [addUp, hn]
      have hz : (addUp (x :: r) s n 0).1 = [] := rfl
      have e0 : nthP (x :: r) 0 = x := rfl
      by_cases hs : x.1 = s
      · rw [if_pos hs]
        by_cases hz2 : x.2 + n = 0
        · rw [if_pos hz2]
          have e1 := addUp_gone (n := n) h0 (by rw [e0]; exact hf) (by rw [e0]; exact hs) (by rw [e0]; exact hz2)
          have e := addUp_past e1 r.length (Nat.le_refl _)
          rw [addP_done (m := r.length + 1) (by simp) (by rw [e]), e, hz]
          simp
        · rw [if_neg hz2]
          have e1 := addUp_more (n := n) h0 (by rw [e0]; exact hf) (by rw [e0]; exact hs) (by rw [e0]; exact hz2)
          have e := addUp_past e1 r.length (Nat.le_refl _)
          rw [addP_done (m := r.length + 1) (by simp) (by rw [e]), e, hz, e0]
          simp
      · rw [if_neg hs]
        have e1 := addUp_new (n := n) h0 (by rw [e0]; exact hf) (by rw [e0]; exact hs)
        have e := addUp_past e1 r.length (Nat.le_refl _)
        rw [addP_done (m := r.length + 1) (by simp) (by rw [e]), e, hz, e0]
        simp
def nz (ps : List (List Int × Int)) : List (List Int × Int) := ps.filter fun x => decide (x.2 ≠ 0)
theorem nz_cons (x : List Int × Int) (r : List (List Int × Int)) : nz (x :: r) = if x.2 = 0 then nz r else x :: nz r := by
  unfold nz
  rw [List.filter_cons]
  by_cases h : x.2 = 0 <;> simp [h]
theorem addR_front {s : List Int} {n : Int} : ∀ {ps : List (List Int × Int)}, (∀ y ∈ ps, lexLt s y.1 = true) → addR ps s n = (s, n) :: ps
  | [], _ => rfl
  | x :: r, h => by
    have h1 := h x List.mem_cons_self
    rw [addR, if_neg (by rw [lex_asymm h1]; simp), if_neg (fun e => lex_ne h1 e.symm)]
theorem srt_cons {x : List Int × Int} {r : List (List Int × Int)} (h : Srt (x :: r)) : Srt r ∧ ∀ y ∈ r, lexLt x.1 y.1 = true := by
  have e : ∀ j, nthP (x :: r) (j + 1) = nthP r j := fun j => by simp [nthP, List.getD]
  refine ⟨fun i j hij hj => ?_, fun y hy => ?_⟩
  · have := h (i + 1) (j + 1) (by omega) (by simpa using hj)
    rwa [e, e] at this
  · obtain ⟨j, hj, ej⟩ := List.getElem_of_mem hy
    have := h 0 (j + 1) (by omega) (by simpa using hj)
    rw [e, nthP_lt hj, ej] at this
    exact this
theorem nz_mem {ps : List (List Int × Int)} {y : List Int × Int} (h : y ∈ nz ps) : y ∈ ps := (List.mem_filter.1 h).1
/-- Struck at the end or at once: the same. -/
theorem nz_insZ {s : List Int} {n : Int} (hn : n ≠ 0) : ∀ {ps : List (List Int × Int)}, Srt ps → nz (insZ ps s n) = addP (nz ps) s n
  | [], _ => by rw [addP_rec hn]; simp [insZ, nz, addR, hn]
  | x :: r, h => by
    obtain ⟨hr, hx⟩ := srt_cons h
    have ih := nz_insZ (n := n) (s := s) hn hr
    rw [addP_rec hn] at ih ⊢
    rw [insZ]
    by_cases h1 : lexLt x.1 s = true
    · rw [if_pos h1, nz_cons, nz_cons, ih]
      by_cases h2 : x.2 = 0
      · rw [if_pos h2, if_pos h2]
      · rw [if_neg h2, if_neg h2, addR, if_pos h1]
    · rw [if_neg h1]
      by_cases h3 : x.1 = s
      · rw [if_pos h3, nz_cons, nz_cons]
        have hrs : ∀ y ∈ nz r, lexLt s y.1 = true := fun y hy => by rw [← h3]; exact hx y (nz_mem hy)
        by_cases h2 : x.2 = 0
        · rw [if_pos h2, if_neg (by rw [h2]; simpa using hn), addR_front hrs, h2, Int.zero_add]
        · rw [if_neg h2, addR, if_neg h1, if_pos h3]
      · rw [if_neg h3, nz_cons, if_neg hn]
        have hsx : lexLt s x.1 = true := lex_total (by simpa using h1) h3
        have hrs : ∀ y ∈ nz (x :: r), lexLt s y.1 = true := fun y hy => by
          rcases List.mem_cons.1 (nz_mem hy) with rfl | h4
          · exact hsx
          · exact lex_trans hsx (hx y h4)
        rw [addR_front hrs]
/-- At the place of a key. -/
theorem insZ_found : ∀ {ps : List (List Int × Int)} {s : List Int} {n : Int} {p : Nat}, (∀ i, i < p → lexLt (nthP ps i).1 s = true) → p < ps.length → (nthP ps p).1 = s → insZ ps s n = ps.take p ++ [(s, (nthP ps p).2 + n)] ++ ps.drop (p + 1)
  | [], s, n, p, _, h, _ => by simp at h
  | x :: r, s, n, 0, _, _, h => by
    have h' : x.1 = s := h
    rw [insZ, if_neg (by rw [h', lex_irr]; simp), if_pos h']
    rfl
  | x :: r, s, n, p + 1, h0, hp, h => by
    have h1 : lexLt x.1 s = true := h0 0 (by omega)
    have e : ∀ j, nthP (x :: r) (j + 1) = nthP r j := fun j => by simp [nthP, List.getD]
    rw [e] at h ⊢
    rw [insZ, if_pos h1, insZ_found (p := p) (fun i hi => by have := h0 (i + 1) (by omega); rwa [e] at this) (by simpa using hp) h]
    simp
theorem insZ_new : ∀ {ps : List (List Int × Int)} {s : List Int} {n : Int} {p : Nat}, Place ps s p → (p < ps.length → (nthP ps p).1 ≠ s) → insZ ps s n = ps.take p ++ [(s, n)] ++ ps.drop p
  | [], s, n, p, h, _ => by
    have := h.le
    obtain rfl : p = 0 := by simpa using this
    rfl
  | x :: r, s, n, 0, h, hf => by
    have h1 := h.hi 0 (Nat.le_refl _) (by simp)
    have e0 : nthP (x :: r) 0 = x := rfl
    rw [e0] at h1
    have h2 := hf (by simp)
    rw [e0] at h2
    rw [insZ, if_neg (by rw [h1]; simp), if_neg h2]
    rfl
  | x :: r, s, n, p + 1, h, hf => by
    have h1 : lexLt x.1 s = true := h.lo 0 (by omega)
    have e : ∀ j, nthP (x :: r) (j + 1) = nthP r j := fun j => by simp [nthP, List.getD]
    have hp : Place r s p := ⟨by have := h.le; simp at this; omega, fun i hi => by have := h.lo (i + 1) (by omega); rwa [e] at this, fun i hi hl => by have := h.hi (i + 1) (by omega) (by simpa using hl); rwa [e] at this⟩
    rw [insZ, if_pos h1, insZ_new hp fun hl => by have := hf (by simpa using hl); rwa [e] at this]
    simp
theorem insZ_len {s : List Int} {n : Int} : ∀ ps : List (List Int × Int), (insZ ps s n).length ≤ ps.length + 1
  | [] => by simp [insZ]
  | x :: r => by
    have := insZ_len (s := s) (n := n) r
    rw [insZ]
    split
    · simp; omega
    · split <;> simp
theorem insZ_srt {ps : List (List Int × Int)} {s : List Int} {n : Int} (hs : Srt ps) : Srt (insZ ps s n) := by
  obtain ⟨p, hp⟩ := place_of ps hs s
  by_cases hf : p < ps.length ∧ (nthP ps p).1 = s
  · rw [insZ_found hp.lo hf.1 hf.2]; exact place_set hs hp hf.1 hf.2
  · have hf2 : p < ps.length → (nthP ps p).1 ≠ s := fun h1 h2 => hf ⟨h1, h2⟩
    rw [insZ_new hp hf2]; exact place_mid hs hp hf2
theorem insZ_keyed {ps : List (List Int × Int)} {s : List Int} {n : Int} (hs : s ≠ []) : ∀ {ps : List (List Int × Int)}, Keyed ps → Keyed (insZ ps s n)
  | [], _ => fun x hx => by simp [insZ] at hx; rw [hx]; exact hs
  | y :: r, h => by
    have hr : Keyed r := fun x hx => h x (List.mem_cons_of_mem _ hx)
    have hy := h y List.mem_cons_self
    rw [insZ]
    split
    · intro x hx
      rcases List.mem_cons.1 hx with rfl | hx
      · exact hy
      · exact insZ_keyed (ps := ps) hs hr x hx
    · split
      · intro x hx
        rcases List.mem_cons.1 hx with rfl | hx
        · exact hs
        · exact hr x hx
      · intro x hx
        rcases List.mem_cons.1 hx with rfl | hx
        · exact hs
        · exact h x hx
theorem addR_keyed {s : List Int} {n : Int} (hs : s ≠ []) : ∀ {ps : List (List Int × Int)}, Keyed ps → Keyed (addR ps s n)
  | [], _ => fun x hx => by simp [addR] at hx; rw [hx]; exact hs
  | y :: r, h => by
    have hr : Keyed r := fun x hx => h x (List.mem_cons_of_mem _ hx)
    have hy := h y List.mem_cons_self
    rw [addR]
    split
    · intro x hx
      rcases List.mem_cons.1 hx with rfl | hx
      · exact hy
      · exact addR_keyed hs hr x hx
    · split
      · split
        · exact hr
        · intro x hx
          rcases List.mem_cons.1 hx with rfl | hx
          · exact hs
          · exact hr x hx
      · intro x hx
        rcases List.mem_cons.1 hx with rfl | hx
        · exact hs
        · exact h x hx
theorem addP_zero (ps : List (List Int × Int)) (s : List Int) : addP ps s 0 = ps := by
  have e : ∀ i, i ≤ ps.length → addUp ps s 0 i = (ps.take i, true) := by
    intro i
    induction i with
    | zero => intro _; rfl
    | succ i ih =>
      intro hi
      have h := ih (by omega)
      rw [addUp_keep (by rw [h]), h]
      simp only [Prod.mk.injEq, and_true]
      rw [List.take_succ_eq_append_getElem (by omega), nthP_lt (by omega)]
  have h := e ps.length (Nat.le_refl _)
  rw [addP_done rfl (by rw [h]), h]
  simp
end Go.Proofs.Ytgbojgmmingfdaa

/- Fillings: numbers put into the rows of a shape, one content after the other. What the program's and the reference's search leave, as one list; how long it is. No program is in sight here. -/
namespace Go.Proofs.Ytgbojgmmingfdaa

/-- How many may go into row r at most (below 0: none). -/
def mostAt (most : Int) (old : List Int) (under : Option (List Int)) (put : List Int) (left : Int) (r : Nat) : Int :=
  let m1 := min left (most - nth old r)
  let m2 := if r = 0 then m1 else min m1 (nth old (r - 1) - nth old r)
  match under with
  | none => m2
  | some u => min m2 (nth u r - sumTo put r)
/-- All ways to put 'left' numbers into the last d rows of so many. -/
def layerR (rows : Nat) (most : Int) (K : List Int → List Int → List (List Int)) (old : List Int) (under : Option (List Int)) : Nat → List Int → Int → List Int → List (List Int)
  | 0, shape, left, put => if 0 < left then [] else K shape put
  | d + 1, shape, left, put =>
    (List.range (mostAt most old under put left (rows - (d + 1)) + 1).toNat).flatMap fun (n : Nat) => layerR rows most K old under d (shape.set (rows - (d + 1)) (nth shape (rows - (d + 1)) + (n : Int))) (left - (n : Int)) (put.set (rows - (d + 1)) (n : Int))
/-- The first c of the ways at one row. -/
def layerN (rows : Nat) (most : Int) (K : List Int → List Int → List (List Int)) (old : List Int) (under : Option (List Int)) (d : Nat) (shape : List Int) (left : Int) (put : List Int) (c : Nat) : List (List Int) :=
  (List.range c).flatMap fun (n : Nat) => layerR rows most K old under d (shape.set (rows - (d + 1)) (nth shape (rows - (d + 1)) + (n : Int))) (left - (n : Int)) (put.set (rows - (d + 1)) (n : Int))
/-- The sums of the first rows. -/
def prefs (put : List Int) (n : Nat) : List Int := gen (fun k => sumTo put k) n
/-- All contents, one after the other. -/
def layerC (rows : Nat) (most : Int) : List Int → List Int → Option (List Int) → List (List Int)
  | [], shape, _ => [shape]
  | c :: rest, shape, under => layerR rows most (fun s p => layerC rows most rest s (some (prefs p rows))) shape under rows shape c (List.replicate rows 0)
/-- What follows a row that is full. -/
def layerK (rows : Nat) (most : Int) (rest : List Int) (s p : List Int) : List (List Int) := layerC rows most rest s (some (prefs p rows))
theorem layerC_cons (rows : Nat) (most : Int) (c : Int) (rest shape : List Int) (under : Option (List Int)) :
    layerC rows most (c :: rest) shape under = layerR rows most (layerK rows most rest) shape under rows shape c (List.replicate rows 0) := rfl
theorem layerK_nil (rows : Nat) (most : Int) (s p : List Int) : layerK rows most [] s p = [s] := rfl
theorem layerK_cons (rows : Nat) (most : Int) (c : Int) (rest s p : List Int) :
    layerK rows most (c :: rest) s p = layerR rows most (layerK rows most rest) s (some (prefs p rows)) rows s c (List.replicate rows 0) := rfl
section
variable {rows : Nat} {most : Int} {K : List Int → List Int → List (List Int)} {old : List Int} {under : Option (List Int)} {d : Nat} {shape : List Int} {left : Int} {put : List Int}
theorem layerR_end (h : 0 < left) : layerR rows most K old under 0 shape left put = [] := by rw [layerR, if_pos h]
theorem layerR_full (h : ¬ 0 < left) : layerR rows most K old under 0 shape left put = K shape put := by rw [layerR, if_neg h]
theorem layerN_zero : layerN rows most K old under d shape left put 0 = [] := rfl
theorem layerN_succ (c : Nat) : layerN rows most K old under d shape left put (c + 1) = layerN rows most K old under d shape left put c ++
    layerR rows most K old under d (shape.set (rows - (d + 1)) (nth shape (rows - (d + 1)) + c)) (left - c) (put.set (rows - (d + 1)) c) := by
  simp [layerN, List.range_succ]
theorem layerR_row : layerR rows most K old under (d + 1) shape left put = layerN rows most K old under d shape left put (mostAt most old under put left (rows - (d + 1)) + 1).toNat := rfl
end

/-! ### how many there are -/
def powN (b : Nat) : Nat → Nat
  | 0 => 1
  | e + 1 => b * powN b e
theorem powN_pos {b : Nat} (h : 1 ≤ b) (e : Nat) : 1 ≤ powN b e := by
  induction e with
  | zero => exact Nat.le_refl _
  | succ e ih => exact Nat.mul_pos h ih
/-- The sum of b^0 .. b^(e). -/
def geo (b : Nat) : Nat → Nat
  | 0 => 1
  | e + 1 => powN b (e + 1) + geo b e
theorem geo_le (b : Nat) : ∀ e, geo b e ≤ powN (b + 1) e
  | 0 => Nat.le_refl _
  | e + 1 => by
    have h1 := geo_le b e
    have h2 : powN b e ≤ geo b e := by cases e <;> simp [geo, powN]
    have h3 : powN b e ≤ powN (b + 1) e := Nat.le_trans h2 h1
    have h4 : b * powN b e ≤ b * powN (b + 1) e := Nat.mul_le_mul_left _ h3
    show b * powN b e + geo b e ≤ (b + 1) * powN (b + 1) e
    rw [Nat.add_mul, Nat.one_mul]
    omega
theorem length_flat {α β : Type} (f : α → List β) (g : α → Nat) : ∀ (l : List α), (∀ x ∈ l, (f x).length ≤ g x) → (l.flatMap f).length ≤ (l.map g).sum
  | [], _ => Nat.le_refl _
  | x :: l, h => by
    rw [List.flatMap_cons, List.length_append, List.map_cons, List.sum_cons]
    have h1 := h x List.mem_cons_self
    have h2 := length_flat f g l (fun y hy => h y (List.mem_cons_of_mem _ hy))
    omega
theorem sum_geo (b L : Nat) : ∀ n, n ≤ L + 1 → ((List.range n).map fun i => powN b (L - i)).sum ≤ geo b L := by
  induction L with
  | zero =>
    intro n hn
    have : n = 0 ∨ n = 1 := by omega
    rcases this with rfl | rfl <;> simp [geo, powN]
  | succ L ih =>
    intro n hn
    cases n with
    | zero => simp
    | succ n =>
      rw [List.range_succ_eq_map, List.map_cons, List.sum_cons, List.map_map]
      have h := ih n (by omega)
      have e : ((List.range n).map ((fun i => powN b (L + 1 - i)) ∘ Nat.succ)) = (List.range n).map fun i => powN b (L - i) := by
        apply List.map_congr_left
        intro i _
        simp [Nat.succ_eq_add_one]
      rw [e]
      show powN b (L + 1) + _ ≤ powN b (L + 1) + geo b L
      omega
theorem sum_mul (f : Nat → Nat) (M : Nat) : ∀ l : List Nat, (l.map fun i => f i * M).sum = (l.map f).sum * M
  | [] => by simp
  | x :: l => by simp [sum_mul f M l, Nat.add_mul]
theorem mostAt_left (most : Int) (old : List Int) (under : Option (List Int)) (put : List Int) (left : Int) (r : Nat) : mostAt most old under put left r ≤ left := by
  unfold mostAt
  have h2 : (if r = 0 then min left (most - nth old r) else min (min left (most - nth old r)) (nth old (r - 1) - nth old r)) ≤ left := by split <;> omega
  cases under with
  | none => exact h2
  | some u => simp only; omega
theorem layerR_len {rows : Nat} {most : Int} {K : List Int → List Int → List (List Int)} {old : List Int} {under : Option (List Int)} {M : Nat} (hK : ∀ s p, (K s p).length ≤ M) :
    ∀ (d : Nat) (shape : List Int) (L : Nat) (put : List Int), (layerR rows most K old under d shape L put).length ≤ powN d L * M
  | 0, shape, L, put => by
    rw [layerR]
    split
    · simp
    · rename_i h
      obtain rfl : L = 0 := by omega
      simpa [powN] using hK shape put
  | d + 1, shape, L, put => by
    rw [layerR]
    refine Nat.le_trans (length_flat _ (fun n => powN d (L - n) * M) _ fun n hn => ?_) ?_
    · rw [List.mem_range] at hn
      have hm := mostAt_left most old under put L (rows - (d + 1))
      have e : (L : Int) - n = ((L - n : Nat) : Int) := by omega
      rw [e]
      exact layerR_len hK d _ (L - n) _
    · rw [sum_mul]
      refine Nat.mul_le_mul_right _ (Nat.le_trans (sum_geo d L _ ?_) (geo_le d L))
      have hm := mostAt_left most old under put L (rows - (d + 1))
      omega
def sumN : List Nat → Nat
  | [] => 0
  | c :: r => c + sumN r
theorem powN_add (b m n : Nat) : powN b (m + n) = powN b m * powN b n := by
  induction m with
  | zero => simp [powN]
  | succ m ih => rw [Nat.succ_add]; simp only [powN]; rw [ih, Nat.mul_assoc]
theorem layerC_len {rows : Nat} {most : Int} : ∀ (cs : List Nat) (shape : List Int) (under : Option (List Int)), (layerC rows most (cs.map (fun c : Nat => (c : Int))) shape under).length ≤ powN rows (sumN cs)
  | [], shape, under => by simp [layerC, powN, sumN]
  | c :: cs, shape, under => by
    rw [List.map_cons, layerC_cons]
    have h := layerR_len (rows := rows) (most := most) (old := shape) (under := under) (K := layerK rows most (cs.map fun c : Nat => (c : Int))) (M := powN rows (sumN cs)) (fun s p => layerC_len cs s _) rows shape c (List.replicate rows 0)
    rw [sumN, powN_add]
    exact h
theorem layerK_len {rows : Nat} {most : Int} (cs : List Nat) (s p : List Int) : (layerK rows most (cs.map (fun c : Nat => (c : Int))) s p).length ≤ powN rows (sumN cs) := layerC_len cs s _

/-! ### what they are gathered into -/
/-- Shapes added one after the other. -/
def addAll (acc : List (List Int × Int)) (l : List (List Int)) : List (List Int × Int) := l.foldl (fun a s => addP a (bare s) 1) acc
theorem addAll_nil (acc : List (List Int × Int)) : addAll acc [] = acc := rfl
theorem addAll_one (acc : List (List Int × Int)) (s : List Int) : addAll acc [s] = addP acc (bare s) 1 := rfl
theorem addAll_append (acc : List (List Int × Int)) (a b : List (List Int)) : addAll acc (a ++ b) = addAll (addAll acc a) b := List.foldl_append ..
theorem Grows.all {acc : List (List Int × Int)} {N : Int} (h : Grows acc N) : ∀ (l : List (List Int)), Grows (addAll acc l) (N + l.length)
  | [] => by simpa [addAll] using h
  | s :: l => by
    have := (h.add (bare s)).all l
    have e : addAll acc (s :: l) = addAll (addP acc (bare s) 1) l := rfl
    rw [e]
    simp only [List.length_cons]
    have e2 : N + ((l.length + 1 : Nat) : Int) = N + 1 + (l.length : Int) := by omega
    rw [e2]
    exact this
/-- What fillings gives. -/
def padL (l : List Int) (n : Nat) : List Int := l ++ List.replicate (n - l.length) 0
theorem padL_len {l : List Int} {n : Nat} (h : l.length ≤ n) : (padL l n).length = n := by simp [padL]; omega
theorem nth_padL (l : List Int) (n j : Nat) : nth (padL l n) j = nth l j := by
  unfold padL
  rcases Nat.lt_or_ge j l.length with h | h
  · rw [nth_append_left h]
  · rw [nth_append_right h, nth_ge h]
    rcases Nat.lt_or_ge (j - l.length) (n - l.length) with h2 | h2
    · rw [nth_lt (by simpa using h2)]; simp
    · rw [nth_ge (by simpa using h2)]
def fillB (a b : List Int) (rows : Nat) (most : Int) : List (List Int × Int) := addAll [] (layerC rows most b (padL a rows) none)
/-! ### the tests of a row -/
def overB (most : Int) (old : List Int) (under : Option (List Int)) (put : List Int) (r : Nat) (n : Int) : Prop :=
  (0 < r ∧ nth old (r - 1) < nth old r + n) ∨ most < nth old r + n ∨ ∃ u, under = some u ∧ nth u r < sumTo put r + n
theorem mostAt_iff {most : Int} {old : List Int} {under : Option (List Int)} {put : List Int} {left : Int} {r : Nat} {n : Int} (hn : n ≤ left) :
    n ≤ mostAt most old under put left r ↔ ¬ overB most old under put r n := by
  unfold mostAt overB
  cases under with
  | none =>
    simp only [reduceCtorEq, false_and, exists_false, or_false]
    by_cases h0 : r = 0
    · subst h0; simp; omega
    · simp only [h0, if_false]; omega
  | some u =>
    simp only [Option.some.injEq, exists_eq_left']
    by_cases h0 : r = 0
    · subst h0; simp; omega
    · simp only [h0, if_false]; omega
theorem sumTo_set {l : List Int} {r : Nat} {y : Int} {k : Nat} (h : k ≤ r) : sumTo (l.set r y) k = sumTo l k := by
  induction k with
  | zero => rfl
  | succ k ih =>
    simp only [sumTo]
    rw [ih (by omega), nth_set_ne (by omega)]
theorem sumTo_take {l : List Int} {r : Nat} : ∀ k, k ≤ r → sumTo (l.take r) k = sumTo l k := by
  intro k
  induction k with
  | zero => intro _; rfl
  | succ k ih =>
    intro h
    simp only [sumTo]
    rw [ih (by omega), nth_take (by omega)]
theorem sumL_take {l : List Int} {r : Nat} (h : r ≤ l.length) : sumL (l.take r) = sumTo l r := by
  unfold sumL
  rw [List.length_take, Nat.min_eq_left h, sumTo_take r (Nat.le_refl _)]
/-- Numbers from 0 to M. -/
def Bd (l : List Int) (M : Int) : Prop := ∀ j, 0 ≤ nth l j ∧ nth l j ≤ M
theorem Bd.set {l : List Int} {M : Int} (h : Bd l M) {r : Nat} {y : Int} (h0 : 0 ≤ y) (h1 : y ≤ M) : Bd (l.set r y) M := by
  intro j
  by_cases e : r = j
  · subst e
    rcases Nat.lt_or_ge r l.length with hr | hr
    · rw [nth_set_eq hr]; exact ⟨h0, h1⟩
    · rw [List.set_eq_of_length_le hr]; exact h r
  · rw [nth_set_ne e]; exact h j
theorem Bd.sum {l : List Int} {M : Int} (h : Bd l M) (k : Nat) : 0 ≤ sumTo l k ∧ sumTo l k ≤ M * k := by
  induction k with
  | zero => simp [sumTo]
  | succ k ih =>
    have := h k
    simp only [sumTo]
    have e : M * ((k + 1 : Nat) : Int) = M * k + M := by rw [Int.natCast_succ, Int.mul_add]; omega
    rw [e]
    omega
theorem Bd.zeros (n : Nat) {M : Int} (h : 0 ≤ M) : Bd (List.replicate n 0) M := by
  intro j
  rcases Nat.lt_or_ge j n with hj | hj
  · rw [nth_lt (by simpa using hj)]; simp; exact h
  · rw [nth_ge (by simpa using hj)]; exact ⟨Int.le_refl _, h⟩
theorem prefs_len (put : List Int) (n : Nat) : (prefs put n).length = n := gen_len _ _
theorem nth_prefs {put : List Int} {n k : Nat} (h : k < n) : nth (prefs put n) k = sumTo put k := nth_gen h
theorem Bd.prefs {put : List Int} {n : Nat} (h : Bd put 1000) (hn : n ≤ 16) : Bd (prefs put n) 100000 := by
  intro j
  rcases Nat.lt_or_ge j n with hj | hj
  · rw [nth_prefs hj]
    have := h.sum j
    omega
  · rw [nth_ge (by rw [prefs_len]; exact hj)]; omega
/-- The sums so far. -/
def prefTo (put : List Int) (n k : Nat) : List Int := gen (fun j => if j < k then sumTo put j else 0) n
theorem prefTo_zero (put : List Int) (n : Nat) : prefTo put n 0 = List.replicate n 0 := by
  refine ext_nth (by simp [prefTo, gen_len]) fun j hj => ?_
  rw [prefTo, gen_len] at hj
  rw [prefTo, nth_gen hj, nth_lt (by simpa using hj)]
  simp
theorem prefTo_set {put : List Int} {n k : Nat} {y : Int} (hk : k < n) (hy : y = sumTo put k) : (prefTo put n k).set k y = prefTo put n (k + 1) := by
  refine ext_nth (by simp [prefTo, gen_len]) fun j hj => ?_
  rw [List.length_set, prefTo, gen_len] at hj
  by_cases e : k = j
  · subst e
    rw [nth_set_eq (by simp [prefTo, gen_len]; exact hj), prefTo, nth_gen hj, if_pos (by omega), hy]
  · rw [nth_set_ne e, prefTo, prefTo, nth_gen hj, nth_gen hj]
    by_cases h1 : j < k
    · rw [if_pos h1, if_pos (by omega)]
    · rw [if_neg h1, if_neg (by omega)]
theorem prefTo_all (put : List Int) (n : Nat) : prefTo put n n = prefs put n := by
  refine ext_nth (by simp [prefTo, prefs, gen_len]) fun j hj => ?_
  rw [prefTo, gen_len] at hj
  rw [prefTo, prefs, nth_gen hj, nth_gen hj, if_pos hj]
theorem prefTo_len (put : List Int) (n k : Nat) : (prefTo put n k).length = n := gen_len _ _

/-- Ascending, few, short: what the walk asks of the parts gathered so far. -/
structure Okp (ps : List (List Int × Int)) (N : Int) : Prop where
  grows : Grows ps N
  short : ∀ x ∈ ps, x.1.length ≤ 1000
theorem Okp.nil_ : Okp [] 0 := ⟨grows_nil, fun x h => by simp at h⟩
theorem Okp.add {ps : List (List Int × Int)} {N : Int} (h : Okp ps N) {s : List Int} (hs : s.length ≤ 1000) : Okp (addP ps (bare s) 1) (N + 1) :=
  ⟨h.grows.add _, fun x hx => by
    rcases addP_shapes h.grows.srt (fun y hy => (h.grows.cnt y hy).1) hx with e | ⟨y, hy, e⟩
    · rw [e]; unfold bare; rw [List.length_take]; omega
    · rw [← e]; exact h.short y hy⟩
theorem Okp.all {ps : List (List Int × Int)} {N : Int} (h : Okp ps N) : ∀ (l : List (List Int)), (∀ s ∈ l, s.length ≤ 1000) → Okp (addAll ps l) (N + l.length)
  | [], _ => by simpa [addAll] using h
  | s :: l, hl => by
    have := (h.add (hl s List.mem_cons_self)).all l (fun t ht => hl t (List.mem_cons_of_mem _ ht))
    have e : addAll ps (s :: l) = addAll (addP ps (bare s) 1) l := rfl
    rw [e]
    simp only [List.length_cons]
    have e2 : N + ((l.length + 1 : Nat) : Int) = N + 1 + (l.length : Int) := by omega
    rw [e2]
    exact this
theorem Okp.len {ps : List (List Int × Int)} {N : Int} (h : Okp ps N) : ∀ k, k < ps.length → (nthP ps k).1.length ≤ 1000000 := fun k hk => Nat.le_trans (h.short _ (nthP_mem hk)) (by omega)
theorem layerR_rows {rows : Nat} {most : Int} {K : List Int → List Int → List (List Int)} {old : List Int} {under : Option (List Int)} {m : Nat} (hK : ∀ s p, s.length = m → ∀ t ∈ K s p, t.length = m) :
    ∀ (d : Nat) (shape : List Int) (left : Int) (put : List Int), shape.length = m → ∀ t ∈ layerR rows most K old under d shape left put, t.length = m
  | 0, shape, left, put, h, t, ht => by
    rw [layerR] at ht
    split at ht
    · cases ht
    · exact hK shape put h t ht
  | d + 1, shape, left, put, h, t, ht => by
    rw [layerR, List.mem_flatMap] at ht
    obtain ⟨n, _, ht⟩ := ht
    exact layerR_rows hK d _ _ _ (by rw [List.length_set]; exact h) t ht
theorem layerC_rows {rows : Nat} {most : Int} : ∀ (cs shape : List Int) (under : Option (List Int)) (m : Nat), shape.length = m → ∀ t ∈ layerC rows most cs shape under, t.length = m
  | [], shape, under, m, h, t, ht => by
    simp [layerC] at ht
    rw [ht]; exact h
  | c :: cs, shape, under, m, h, t, ht => by
    rw [layerC_cons] at ht
    exact layerR_rows (fun s p hs t ht => layerC_rows cs s _ m hs t ht) rows shape c _ h t ht
theorem layerK_rows {rows : Nat} {most : Int} (rest s p : List Int) (m : Nat) (h : s.length = m) : ∀ t ∈ layerK rows most rest s p, t.length = m := layerC_rows rest s _ m h
theorem layerN_rows {rows : Nat} {most : Int} {K : List Int → List Int → List (List Int)} {old : List Int} {under : Option (List Int)} {d : Nat} {shape : List Int} {left : Int} {put : List Int} {m : Nat} (hK : ∀ s p, s.length = m → ∀ t ∈ K s p, t.length = m) (h : shape.length = m) (c : Nat) :
    ∀ t ∈ layerN rows most K old under d shape left put c, t.length = m := by
  intro t ht
  unfold layerN at ht
  rw [List.mem_flatMap] at ht
  obtain ⟨n, _, ht⟩ := ht
  exact layerR_rows hK d _ _ _ (by rw [List.length_set]; exact h) t ht
theorem layerN_mono {rows : Nat} {most : Int} {K : List Int → List Int → List (List Int)} {old : List Int} {under : Option (List Int)} {d : Nat} {shape : List Int} {left : Int} {put : List Int} {c1 c2 : Nat} (h : c1 ≤ c2) :
    (layerN rows most K old under d shape left put c1).length ≤ (layerN rows most K old under d shape left put c2).length := by
  induction c2 with
  | zero => obtain rfl : c1 = 0 := by omega
            exact Nat.le_refl _
  | succ c2 ih =>
    rcases Nat.lt_or_ge c2 c1 with h1 | h1
    · obtain rfl : c1 = c2 + 1 := by omega
      exact Nat.le_refl _
    · rw [layerN_succ, List.length_append]
      have := ih h1
      omega
end Go.Proofs.Ytgbojgmmingfdaa

/- Permutations: descents, codes, lengths, the shape of one with one descent. No program is in sight here. -/
namespace Go.Proofs.Ytgbojgmmingfdaa

def permAt (l : List Int) (k : Nat) : Bool := inB (nth l k) 0 ((l.length : Int) - 1) && !hasB (l.take k) (nth l k)
def permB (l : List Int) : Bool := inB l.length 1 7 && allB (permAt l) l.length
theorem permB_len {l : List Int} {n : Nat} (hl : l.length = n) (h : inB n 1 7 = false) : permB l = false := by
  unfold permB; rw [hl, h]; simp
theorem permB_no {l : List Int} {n k : Nat} (hl : l.length = n) (hk : k < n) (h : permAt l k = false) : permB l = false := by
  unfold permB; rw [hl, allB_no hk h]; simp
theorem permB_all {l : List Int} {n : Nat} (hl : l.length = n) (h : ∀ j, j < n → permAt l j = true) : permB l = inB n 1 7 := by
  unfold permB; rw [hl, allB_yes h]; simp
theorem permAt_low {l : List Int} {k : Nat} (h : nth l k < 0) : permAt l k = false := by unfold permAt; rw [inB_low h]; rfl
theorem permAt_high {l : List Int} {k n : Nat} (hl : l.length = n) (h : (n : Int) ≤ nth l k) : permAt l k = false := by unfold permAt; rw [inB_high (by omega)]; rfl
theorem permAt_met {l : List Int} {k : Nat} (h : hasB (l.take k) (nth l k) = true) : permAt l k = false := by unfold permAt; rw [h]; simp
theorem permAt_yes {l : List Int} {k n : Nat} (hl : l.length = n) (h1 : 0 ≤ nth l k) (h2 : nth l k < n) (h3 : hasB (l.take k) (nth l k) = false) : permAt l k = true := by
  unfold permAt; rw [inB_yes h1 (by omega), h3]; rfl
theorem permB_range {l : List Int} (h : permB l = true) {k : Nat} (hk : k < l.length) : 0 ≤ nth l k ∧ nth l k < l.length := by
  unfold permB at h
  rw [Bool.and_eq_true] at h
  have := allB_at h.2 hk
  unfold permAt at this
  rw [Bool.and_eq_true, inB_iff] at this
  omega
theorem permB_size {l : List Int} (h : permB l = true) : 1 ≤ l.length ∧ l.length ≤ 7 := by
  unfold permB at h
  rw [Bool.and_eq_true, inB_iff] at h
  omega

/-- Descents at places below m. -/
def descTo (l : List Int) : Nat → List Int
  | 0 => []
  | m + 1 => if nth l (m + 1) < nth l m then descTo l m ++ [(m : Int)] else descTo l m
def descB (l : List Int) : List Int := if permB l then descTo l (l.length - 1) else []
theorem descTo_yes {l : List Int} {m : Nat} (h : nth l (m + 1) < nth l m) : descTo l (m + 1) = descTo l m ++ [(m : Int)] := by rw [descTo, if_pos h]
theorem descTo_no {l : List Int} {m : Nat} (h : ¬ nth l (m + 1) < nth l m) : descTo l (m + 1) = descTo l m := by rw [descTo, if_neg h]
theorem descTo_len (l : List Int) (m : Nat) : (descTo l m).length ≤ m := by
  induction m with
  | zero => exact Nat.le_refl _
  | succ m ih =>
    unfold descTo
    split
    · simp; omega
    · omega
theorem descTo_range (l : List Int) (m : Nat) : ∀ x ∈ descTo l m, 0 ≤ x ∧ x < m := by
  induction m with
  | zero => intro x h; cases h
  | succ m ih =>
    intro x h
    unfold descTo at h
    split at h
    · rw [List.mem_append, List.mem_singleton] at h
      rcases h with h | rfl
      · have := ih x h; omega
      · omega
    · have := ih x h; omega
theorem descB_yes {l : List Int} (h : permB l = true) : descB l = descTo l (l.length - 1) := by simp [descB, h]
theorem descB_no {l : List Int} (h : permB l = false) : descB l = [] := by simp [descB, h]

/-- How many numbers behind place i, up to place m, are smaller. -/
def lessTo (l : List Int) (i : Nat) : Nat → Int
  | 0 => 0
  | m + 1 => if nth l (i + 1 + m) < nth l i then lessTo l i m + 1 else lessTo l i m
theorem lessTo_range (l : List Int) (i m : Nat) : 0 ≤ lessTo l i m ∧ lessTo l i m ≤ m := by
  induction m with
  | zero => simp [lessTo]
  | succ m ih =>
    unfold lessTo
    split <;> omega
/-- The code, its first k places; zeros behind. -/
def codeAt (l : List Int) (k i : Nat) : Int := if i < k then lessTo l i (l.length - 1 - i) else 0
def codeB (l : List Int) : List Int := if permB l then gen (codeAt l l.length) l.length else []
theorem codeB_yes {l : List Int} (h : permB l = true) : codeB l = gen (codeAt l l.length) l.length := by simp [codeB, h]
theorem codeB_no {l : List Int} (h : permB l = false) : codeB l = [] := by simp [codeB, h]
theorem lessTo_yes {l : List Int} {i m : Nat} (h : nth l (i + 1 + m) < nth l i) : lessTo l i (m + 1) = lessTo l i m + 1 := by rw [lessTo, if_pos h]
theorem lessTo_no {l : List Int} {i m : Nat} (h : ¬ nth l (i + 1 + m) < nth l i) : lessTo l i (m + 1) = lessTo l i m := by rw [lessTo, if_neg h]
/-- The code while place i is counted. -/
def codeIn (l : List Int) (n i m : Nat) : List Int := (gen (codeAt l i) n).set i (lessTo l i m)
theorem codeIn_len (l : List Int) (n i m : Nat) : (codeIn l n i m).length = n := by simp [codeIn, gen_len]
theorem codeIn_zero {l : List Int} {n i : Nat} : codeIn l n i 0 = gen (codeAt l i) n := by
  refine ext_nth (by simp [codeIn, gen_len]) fun j hj => ?_
  rw [codeIn_len] at hj
  unfold codeIn
  by_cases e : i = j
  · subst e
    rw [nth_set_eq (by rw [gen_len]; exact hj), nth_gen hj]
    simp [codeAt, lessTo]
  · rw [nth_set_ne e]
theorem codeIn_at {l : List Int} {n i m : Nat} (h : i < n) : nth (codeIn l n i m) i = lessTo l i m := nth_set_eq (by rw [gen_len]; exact h)
theorem codeIn_set {l : List Int} {n i m : Nat} {x : Int} (h : x = lessTo l i (m + 1)) : (codeIn l n i m).set i x = codeIn l n i (m + 1) := by
  unfold codeIn
  rw [List.set_set, h]
theorem codeIn_last {l : List Int} {n i : Nat} (hn : l.length = n) (h : i < n) : codeIn l n i (n - 1 - i) = gen (codeAt l (i + 1)) n := by
  refine ext_nth (by simp [codeIn, gen_len]) fun j hj => ?_
  rw [codeIn_len] at hj
  unfold codeIn
  rw [nth_gen hj]
  by_cases e : i = j
  · subst e
    rw [nth_set_eq (by rw [gen_len]; exact hj)]
    simp [codeAt, hn]
  · rw [nth_set_ne e, nth_gen hj]
    unfold codeAt
    by_cases h1 : j < i
    · rw [if_pos h1, if_pos (by omega)]
    · rw [if_neg h1, if_neg (by omega)]
theorem gen_none (l : List Int) (n : Nat) : gen (codeAt l 0) n = List.replicate n 0 := by
  refine ext_nth (by simp [gen_len]) fun j hj => ?_
  rw [gen_len] at hj
  rw [nth_gen hj, nth_lt (by simpa using hj)]
  simp [codeAt]
def lengthB (l : List Int) : Int := if permB l then sumL (codeB l) else -1
theorem lengthB_yes {l : List Int} (h : permB l = true) : lengthB l = sumL (codeB l) := by simp [lengthB, h]
theorem lengthB_no {l : List Int} (h : permB l = false) : lengthB l = -1 := by simp [lengthB, h]
theorem code_small (l : List Int) : Small (codeB l) := by
  intro j hj
  unfold codeB at hj ⊢
  split at hj
  · rename_i h
    rw [if_pos h]
    rw [gen_len] at hj
    rw [nth_gen hj]
    have := permB_size h
    unfold codeAt
    have := lessTo_range l j (l.length - 1 - j)
    split <;> omega
  · simp at hj
def grassmannB (l : List Int) : Bool := permB l && decide ((descB l).length ≤ 1)
/-- The shape of a permutation with one descent. -/
def oneDesc (l : List Int) : Bool := decide ((descB l).length = 1)
def shpK (l : List Int) : Int := if oneDesc l then nth (descB l) 0 + 1 else 0
def shpRows (l : List Int) (k : Nat) : Nat → List Int
  | 0 => []
  | m + 1 => shpRows l k m ++ [nth l (k - 1 - m) - ((k - 1 - m : Nat) : Int)]
def shpB (l : List Int) : List Int := if oneDesc l then bare (shpRows l (shpK l).toNat (shpK l).toNat) else []
theorem shpRows_len (l : List Int) (k m : Nat) : (shpRows l k m).length = m := by
  induction m with
  | zero => rfl
  | succ m ih => simp [shpRows, ih]
theorem oneDesc_perm {l : List Int} (h : oneDesc l = true) : permB l = true := by
  rcases Bool.eq_false_or_eq_true (permB l) with hp | hp
  · exact hp
  · unfold oneDesc at h
    rw [descB_no hp] at h
    simp at h
theorem shpK_yes {l : List Int} (h : oneDesc l = true) : shpK l = nth (descB l) 0 + 1 ∧ 0 ≤ nth (descB l) 0 ∧ nth (descB l) 0 + 1 < l.length := by
  have hp := oneDesc_perm h
  have hl : (descB l).length = 1 := by unfold oneDesc at h; simpa using h
  have hm := nth_mem (l := descB l) (k := 0) (by omega)
  have := descTo_range l (l.length - 1) _ (by rw [← descB_yes hp]; exact hm)
  refine ⟨by simp [shpK, h], this.1, ?_⟩
  omega
theorem shpB_yes {l : List Int} (h : oneDesc l = true) : shpB l = bare (shpRows l (shpK l).toNat (shpK l).toNat) := by simp [shpB, h]
theorem shpB_no {l : List Int} (h : oneDesc l = false) : shpB l = [] := by simp [shpB, h]
theorem shpK_no {l : List Int} (h : oneDesc l = false) : shpK l = 0 := by simp [shpK, h]
end Go.Proofs.Ytgbojgmmingfdaa
