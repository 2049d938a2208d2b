/- All shapes in boxes of at most six: where they lie in the list of shapes; what they are as permutations and strings. -/
import Derived.Test.YtgbojgmmingfdaaPlain
import Derived.Test.YtgbojgmmingfdaaDraw
import Derived.Test.YtgbojgmmingfdaaShapes
namespace Go.Proofs.Ytgbojgmmingfdaa

theorem mem_upto {f : Nat → List (List Int)} {x y : Nat} {l : List Int} (h : l ∈ f (y + 1)) (hy : y < x) : ((y + 1 : Nat) : Int) :: l ∈ shapesUpto f x := by
  induction x with
  | zero => omega
  | succ x ih =>
    unfold shapesUpto
    rw [List.mem_append]
    by_cases e : y = x
    · subst e
      exact .inr (List.mem_map.2 ⟨l, h, rfl⟩)
    · exact .inl (ih (by omega))
theorem nth_cons (a : Int) (l : List Int) (j : Nat) : nth (a :: l) (j + 1) = nth l j := by simp [nth, List.getD]
theorem shIn_mem : ∀ (K M : Nat) (l : List Int), ShIn l K M → l ∈ shapesIn K M
  | 0, M, l, h => by
    have := h.len
    obtain rfl : l = [] := List.eq_nil_of_length_eq_zero (by omega)
    exact List.mem_singleton.2 rfl
  | K + 1, M, [], h => by unfold shapesIn; exact List.mem_cons_self
  | K + 1, M, a :: l, h => by
    have h0 := h.pos 0 (by simp)
    have e0 : nth (a :: l) 0 = a := rfl
    rw [e0] at h0
    obtain ⟨y, hy⟩ := Int.eq_ofNat_of_zero_le (a := a - 1) (by omega)
    have ha : a = ((y + 1 : Nat) : Int) := by omega
    have hl : ShIn l K (y + 1) := by
      have hlen := h.len
      have hdn : ∀ j, j < l.length → nth l j ≤ a := by
        intro j
        induction j with
        | zero =>
          intro hj
          have := h.down 0 (by simp; omega)
          rwa [nth_cons, e0] at this
        | succ j ih =>
          intro hj
          have := h.down (j + 1) (by simp; omega)
          rw [nth_cons, nth_cons] at this
          have := ih (by omega)
          omega
      refine ⟨by simp at hlen; omega, fun j hj => ?_, fun j hj => ?_⟩
      · have := h.pos (j + 1) (by simp; omega)
        rw [nth_cons] at this
        have := hdn j hj
        omega
      · have := h.down (j + 1) (by simp; omega)
        rwa [nth_cons, nth_cons] at this
    have := shIn_mem K (y + 1) l hl
    unfold shapesIn
    refine List.mem_cons_of_mem _ ?_
    rw [ha]
    exact mem_upto this (by omega)

/-- What is asked of a shape in a box. -/
def boxedB (l : List Int) (K M : Nat) : Bool :=
  let n : Int := (K : Int) + M
  let w := grassB l K n
  let s := strB l K n
  grassmannB w && (decide (lengthB w = sumL l) && (isStrB s && (decide (onesStr s = K) && (decide (shapeStr s = l) && (decide (conjB (conjB l) = l) &&
    (decide (oneDesc w = decide (0 < l.length)) && (!oneDesc w || (decide (shpK w = K) && decide (shpB w = l)))))))))
theorem boxed_all : (List.range 7).all (fun K => (List.range (7 - K)).all fun M => decide (K + M < 2) || (shapesIn K M).all fun l => boxedB l K M) = true := by decide +kernel
theorem boxed_at {K M : Nat} {l : List Int} (h : 2 ≤ K + M ∧ K + M ≤ 6) (hl : ShIn l K M) : boxedB l K M = true := by
  have h0 := boxed_all
  rw [List.all_eq_true] at h0
  have h1 := h0 K (by rw [List.mem_range]; omega)
  rw [List.all_eq_true] at h1
  have h2 := h1 M (by rw [List.mem_range]; omega)
  rw [Bool.or_eq_true, decide_eq_true_eq] at h2
  have h3 := h2.resolve_left (by omega)
  rw [List.all_eq_true] at h3
  exact h3 l (shIn_mem K M l hl)
theorem boxed_facts {K M : Nat} {l w s : List Int} (hw : w = grassB l K ((K : Int) + M)) (hs : s = strB l K ((K : Int) + M)) (h : boxedB l K M = true) :
    grassmannB w = true ∧ lengthB w = sumL l ∧ isStrB s = true ∧ onesStr s = K ∧ shapeStr s = l ∧ conjB (conjB l) = l ∧ oneDesc w = decide (0 < l.length) ∧ (0 < l.length → shpK w = K ∧ shpB w = l) := by
  unfold boxedB at h
  simp only [← hw, ← hs, Bool.and_eq_true, decide_eq_true_eq] at h
  obtain ⟨h1, h2, h3, h4, h5, h6, h7, h8⟩ := h
  refine ⟨h1, h2, h3, h4, h5, h6, h7, fun hl => ?_⟩
  rw [h7] at h8
  simp only [hl, decide_true, Bool.not_true, Bool.false_or, Bool.and_eq_true, decide_eq_true_eq] at h8
  exact h8
end Go.Proofs.Ytgbojgmmingfdaa
