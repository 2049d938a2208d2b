/- Products with a whole column, wrapped shapes: a finite check of all shapes in small boxes. No program is in sight here. -/
import Derived.Test.YtmodpicemlkbjaaQFin
namespace Go.Proofs.Ytmodpicemlkbjaa
def longW (b : List Int) (K N : Nat) : List Int := gen (fun i => nth b i + if i = 0 then (N : Int) else 0) K
def colQ (K M : Nat) (a : List Int) : Bool :=
  decide ((strB a K ((K : Int) + M)).length = K + M) && (if K = 0 ∨ M = 0 then decide (rotB (strB a K ((K : Int) + M)) = strB a K ((K : Int) + M)) else
    isStrB (rotB (strB a K ((K : Int) + M))) && (decide (qpB (List.replicate K 1) a K ((K : Int) + M) = [(nth (strB a K ((K : Int) + M)) (K + M - 1) :: shapeStr (rotB (strB a K ((K : Int) + M))), 1)]) &&
      (decide (wrapB a K ((K : Int) + M) = ((0, a, 1), true)) && (decide ((wrapB (bare (longW a K (K + M))) K ((K : Int) + M)).1.1 = 1) && ((wrapB (bare (longW a K (K + M))) K ((K : Int) + M)).2 &&
        (decide (sumL (wrapB (bare (longW a K (K + M))) K ((K : Int) + M)).1.2.1 = sumL a) && isShapeB (wrapB (bare (longW a K (K + M))) K ((K : Int) + M)).1.2.1))))))
theorem colQ_all : (List.range 7).all (fun K => (List.range (7 - K)).all fun M => decide (K + M < 2) || (shapesIn K M).all fun a => colQ K M a) = true := by decide +kernel
section
variable {K M : Nat} {a : List Int}
theorem colQ_at (h : 2 ≤ K + M ∧ K + M ≤ 6) (ha : ShIn a K M) : colQ K M a = true := by
  have h3 := at_box colQ_all h
  simp only [List.all_eq_true] at h3
  exact h3 a (shIn_mem K M a ha)
theorem colQ_edge (h : 2 ≤ K + M ∧ K + M ≤ 6) (ha : ShIn a K M) (h0 : K = 0 ∨ M = 0) : (strB a K ((K : Int) + M)).length = K + M ∧ rotB (strB a K ((K : Int) + M)) = strB a K ((K : Int) + M) := by
  have h1 := colQ_at h ha
  unfold colQ at h1
  rw [if_pos h0] at h1
  simpa only [Bool.and_eq_true, decide_eq_true_eq] using h1
theorem colQ_mid (h : 2 ≤ K + M ∧ K + M ≤ 6) (ha : ShIn a K M) (h0 : ¬ (K = 0 ∨ M = 0)) : (strB a K ((K : Int) + M)).length = K + M ∧ isStrB (rotB (strB a K ((K : Int) + M))) = true ∧
    qpB (List.replicate K 1) a K ((K : Int) + M) = [(nth (strB a K ((K : Int) + M)) (K + M - 1) :: shapeStr (rotB (strB a K ((K : Int) + M))), 1)] ∧ wrapB a K ((K : Int) + M) = ((0, a, 1), true) ∧
      (wrapB (bare (longW a K (K + M))) K ((K : Int) + M)).1.1 = 1 ∧ (wrapB (bare (longW a K (K + M))) K ((K : Int) + M)).2 = true ∧ sumL (wrapB (bare (longW a K (K + M))) K ((K : Int) + M)).1.2.1 = sumL a ∧ isShapeB (wrapB (bare (longW a K (K + M))) K ((K : Int) + M)).1.2.1 = true := by
  have h1 := colQ_at h ha
  unfold colQ at h1
  rw [if_neg h0] at h1
  simpa only [Bool.and_eq_true, decide_eq_true_eq] using h1
end
end Go.Proofs.Ytmodpicemlkbjaa
