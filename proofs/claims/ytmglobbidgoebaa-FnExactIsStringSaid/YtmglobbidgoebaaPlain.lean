/- Plain functions that the program and the reference are shown to compute. No program is in sight here. -/
namespace Go.Proofs.Ytmglobbidgoebaa

/-- The number at a place of a list; 0 beyond its end. Plain, so that the walk leaves it alone. -/
def nth (l : List Int) (k : Nat) : Int := l.getD k 0
theorem nth_lt {l : List Int} {k : Nat} (h : k < l.length) : nth l k = l[k] := by simp [nth, List.getD, h]
theorem nth_ge {l : List Int} {k : Nat} (h : l.length ≤ k) : nth l k = 0 := by simp [nth, List.getD, List.getElem?_eq_none h]
theorem nth_append_left {a b : List Int} {k : Nat} (h : k < a.length) : nth (a ++ b) k = nth a k := by
  simp [nth, List.getD, List.getElem?_append_left h]
theorem nth_append_right {a b : List Int} {k : Nat} (h : a.length ≤ k) : nth (a ++ b) k = nth b (k - a.length) := by
  simp [nth, List.getD, List.getElem?_append_right h]
theorem ext_nth {a b : List Int} (hl : a.length = b.length) (h : ∀ j, j < a.length → nth a j = nth b j) : a = b := by
  apply List.ext_getElem hl
  intro i h1 h2
  have := h i h1
  rwa [nth_lt h1, nth_lt h2] at this
theorem nth_mem {l : List Int} {k : Nat} (h : k < l.length) : nth l k ∈ l := by rw [nth_lt h]; exact List.getElem_mem h
theorem take_succ_nth {l : List Int} {k : Nat} (h : k < l.length) : l.take (k + 1) = l.take k ++ [nth l k] := by
  rw [nth_lt h, List.take_succ_eq_append_getElem h]
theorem nth_set_eq {l : List Int} {k : Nat} {y : Int} (h : k < l.length) : nth (l.set k y) k = y := by simp [nth, List.getD, h]
theorem nth_set_ne {l : List Int} {k j : Nat} {y : Int} (h : k ≠ j) : nth (l.set k y) j = nth l j := by simp [nth, List.getD, List.getElem?_set_ne h]
theorem nth_take {l : List Int} {k j : Nat} (h : j < k) : nth (l.take k) j = nth l j := by simp [nth, List.getD, List.getElem?_take, h]
theorem nth_drop {l : List Int} {k j : Nat} : nth (l.drop k) j = nth l (k + j) := by simp [nth, List.getD, List.getElem?_drop]

/-- What holds below k, and at k, holds below k + 1. -/
theorem upTo {P : Nat → Prop} {k : Nat} (h : ∀ j, j < k → P j) (hk : P k) : ∀ j, j < k + 1 → P j := by
  intro j hj
  by_cases e : j = k
  · subst e; exact hk
  · exact h j (by omega)

/-- All places below n answer yes. -/
def allB (p : Nat → Bool) (n : Nat) : Bool := (List.range n).all p
theorem allB_yes {p : Nat → Bool} {n : Nat} (h : ∀ j, j < n → p j = true) : allB p n = true := by
  simp only [allB, List.all_eq_true, List.mem_range]; exact h
theorem allB_no {p : Nat → Bool} {n k : Nat} (hk : k < n) (h : p k = false) : allB p n = false := by
  rw [Bool.eq_false_iff]
  intro ha
  simp only [allB, List.all_eq_true, List.mem_range] at ha
  rw [ha k hk] at h; cases h
theorem allB_at {p : Nat → Bool} {n k : Nat} (h : allB p n = true) (hk : k < n) : p k = true := by
  simp only [allB, List.all_eq_true, List.mem_range] at h; exact h k hk

def inB (n lo hi : Int) : Bool := decide (lo ≤ n ∧ n ≤ hi)
theorem inB_iff {n lo hi : Int} : inB n lo hi = true ↔ lo ≤ n ∧ n ≤ hi := by simp [inB]
theorem inB_yes {n lo hi : Int} (h1 : lo ≤ n) (h2 : n ≤ hi) : inB n lo hi = true := inB_iff.2 ⟨h1, h2⟩
theorem inB_low {n lo hi : Int} (h : n < lo) : inB n lo hi = false := by simp [inB]; omega
theorem inB_high {n lo hi : Int} (h : hi < n) : inB n lo hi = false := by simp [inB]; omega
theorem inB_no {n lo hi : Int} : inB n lo hi = false ↔ n < lo ∨ hi < n := by simp [inB]; omega

/-- A string: 1 to 7 numbers 0 and 1. -/
def isStrB (l : List Int) : Bool := inB l.length 1 7 && allB (fun k => inB (nth l k) 0 1) l.length

theorem isStrB_no {l : List Int} {n k : Nat} (hl : l.length = n) (hk : k < n) (h : inB (nth l k) 0 1 = false) : isStrB l = false := by
  unfold isStrB; rw [hl, allB_no hk h]; simp
theorem isStrB_all {l : List Int} {n : Nat} (hl : l.length = n) (h : ∀ j, j < n → inB (nth l j) 0 1 = true) : isStrB l = inB n 1 7 := by
  unfold isStrB; rw [hl, allB_yes h]; simp
theorem isStrB_len {l : List Int} {n : Nat} (hl : l.length = n) (h : inB n 1 7 = false) : isStrB l = false := by
  unfold isStrB; rw [hl, h]; simp
theorem isStrB_iff {l : List Int} : isStrB l = true ↔ (1 ≤ l.length ∧ l.length ≤ 7) ∧ ∀ j, j < l.length → nth l j = 0 ∨ nth l j = 1 := by
  unfold isStrB
  constructor
  · intro h
    rw [Bool.and_eq_true, inB_iff] at h
    refine ⟨by omega, fun j hj => ?_⟩
    have := inB_iff.1 (allB_at h.2 hj)
    omega
  · rintro ⟨h1, h2⟩
    rw [Bool.and_eq_true, inB_iff]
    refine ⟨by omega, allB_yes fun j hj => ?_⟩
    have := h2 j hj
    rw [inB_iff]; omega

/-- A shape. -/
def shapeAt (l : List Int) (k : Nat) : Bool := inB (nth l k) 1 16 && (k == 0 || decide (nth l k ≤ nth l (k - 1)))
def isShapeB (l : List Int) : Bool := decide (l.length ≤ 16) && allB (shapeAt l) l.length

def boxB (k n : Int) : Bool := inB n 1 7 && inB k 0 n
def inBoxB (l : List Int) (k n : Int) : Bool := boxB k n && isShapeB l && decide ((l.length : Int) ≤ k) && decide (nth l 0 ≤ n - k)
end Go.Proofs.Ytmglobbidgoebaa
