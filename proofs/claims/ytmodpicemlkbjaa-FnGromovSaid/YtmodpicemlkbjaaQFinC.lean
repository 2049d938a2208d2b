/- How many parts a quantum product in a box of at most five has; the length of a dual. No program is in sight here. -/
import Derived.Test.YtmodpicemlkbjaaQFin
namespace Go.Proofs.Ytmodpicemlkbjaa
theorem lenQ_all : (List.range 7).all (fun K => (List.range (7 - K)).all fun M => decide (K + M < 2) || (decide (K = 0 ∨ 5 < K + M) || (shapesIn K M).all fun a => (shapesIn K M).all fun b =>
    decide (1 ≤ (qpB a b K ((K : Int) + M)).length ∧ (qpB a b K ((K : Int) + M)).length ≤ 256))) = true := by decide +kernel
theorem lenQ_at {K M : Nat} {a b : List Int} (h : 2 ≤ K + M ∧ K + M ≤ 5) (hK : 1 ≤ K) (ha : ShIn a K M) (hb : ShIn b K M) : 1 ≤ (qpB a b K ((K : Int) + M)).length ∧ (qpB a b K ((K : Int) + M)).length ≤ 256 := by
  have h3 := (Bool.or_eq_true _ _).mp (at_box lenQ_all (K := K) (M := M) (by omega))
  rw [decide_eq_true_eq] at h3
  have h4 := h3.resolve_left (by omega)
  simp only [List.all_eq_true, decide_eq_true_eq] at h4
  exact h4 a (shIn_mem K M a ha) b (shIn_mem K M b hb)
theorem dual_len (t : List Int) (K M : Nat) (h : K ≤ 16) : (dualB t K ((K : Int) + M)).length ≤ 16 := by
  unfold dualB
  split
  · unfold bare
    rw [List.length_take]
    have h2 : (dualRows t (K : Int).toNat ((K : Int) + M)).length = K := by unfold dualRows; rw [gen_len]; omega
    omega
  · simp
end Go.Proofs.Ytmodpicemlkbjaa
