/- Quantum products in small boxes, by a finite check. No program is in sight here. -/
import Derived.Test.YtmodpicemlkbjaaQProP
import Derived.Test.YtmodpicemlkbjaaPlain
import Derived.Test.YtmodpicemlkbjaaMeetP
namespace Go.Proofs.Ytmodpicemlkbjaa

/-- The part without q. -/
def plainQ (l : List (List Int × Int)) : List (List Int × Int) := (l.filter fun x => decide (x.1.headD 0 = 0)).map fun x => (x.1.tail, x.2)
def pairQ (K M : Nat) (a b : List Int) : Bool :=
  (qpB a b K ((K : Int) + M)).all (fun x => decide (1 ≤ x.2) && (decide (sumL x.1.tail + ((K : Int) + M) * x.1.headD 0 = sumL a + sumL b) && inBoxB x.1.tail K ((K : Int) + M))) &&
    (decide (plainQ (qpB a b K ((K : Int) + M)) = grB a b K ((K : Int) + M)) && decide (qpB a b K ((K : Int) + M) = qpB b a K ((K : Int) + M)))
theorem pairQ_all : (List.range 7).all (fun K => (List.range (7 - K)).all fun M => decide (K + M < 2) || (decide (K = 0) || (shapesIn K M).all fun a => (shapesIn K M).all fun b => pairQ K M a b)) = true := by decide +kernel
end Go.Proofs.Ytmodpicemlkbjaa

/- Quantum products in small boxes: what the finite checks say, at one; products with a row; triples. No program is in sight here. -/
namespace Go.Proofs.Ytmodpicemlkbjaa

def rowQ (K M : Nat) (a : List Int) : Bool := (List.range (M + 1)).all fun p => decide (qpB a (bare [(p : Int)]) K ((K : Int) + M) = qpieB a K ((K : Int) + M) p)
theorem rowQ_all : (List.range 7).all (fun K => (List.range (7 - K)).all fun M => decide (K + M < 2) || (decide (K = 0) || (shapesIn K M).all fun a => rowQ K M a)) = true := by decide +kernel
/-- The powers and counts of one shape. -/
def atS (l : List (List Int × Int)) (s : List Int) : List (Int × Int) := (l.filter fun x => decide (x.1.tail = s)).map fun x => (x.1.headD 0, x.2)
theorem tripQ_all : (List.range 7).all (fun K => (List.range (7 - K)).all fun M => decide (K + M < 2) || (decide (K = 0 ∨ 5 < K + M) || (shapesIn K M).all fun a => (shapesIn K M).all fun b => (shapesIn K M).all fun c =>
    decide (atS (qpB a b K ((K : Int) + M)) (dualB c K ((K : Int) + M)) = atS (qpB a c K ((K : Int) + M)) (dualB b K ((K : Int) + M))))) = true := by decide +kernel
section
variable {K M : Nat} {a b c : List Int}
theorem pairQ_at (h : 2 ≤ K + M ∧ K + M ≤ 6) (hK : 1 ≤ K) (ha : ShIn a K M) (hb : ShIn b K M) :
    (∀ x ∈ qpB a b K ((K : Int) + M), 1 ≤ x.2 ∧ sumL x.1.tail + ((K : Int) + M) * x.1.headD 0 = sumL a + sumL b ∧ inBoxB x.1.tail K ((K : Int) + M) = true) ∧
      plainQ (qpB a b K ((K : Int) + M)) = grB a b K ((K : Int) + M) ∧ qpB a b K ((K : Int) + M) = qpB b a K ((K : Int) + M) := by
  have h3 := (Bool.or_eq_true _ _).mp (at_box pairQ_all h)
  rw [decide_eq_true_eq] at h3
  have h4 := h3.resolve_left (by omega)
  simp only [List.all_eq_true] at h4
  have h5 := h4 a (shIn_mem K M a ha) b (shIn_mem K M b hb)
  simpa only [pairQ, Bool.and_eq_true, decide_eq_true_eq, List.all_eq_true] using h5
theorem rowQ_at (h : 2 ≤ K + M ∧ K + M ≤ 6) (hK : 1 ≤ K) (ha : ShIn a K M) {p : Nat} (hp : p ≤ M) : qpB a (bare [(p : Int)]) K ((K : Int) + M) = qpieB a K ((K : Int) + M) p := by
  have h3 := (Bool.or_eq_true _ _).mp (at_box rowQ_all h)
  rw [decide_eq_true_eq] at h3
  have h4 := h3.resolve_left (by omega)
  simp only [List.all_eq_true] at h4
  have h5 := h4 a (shIn_mem K M a ha)
  simp only [rowQ, decide_eq_true_eq, List.all_eq_true, List.mem_range] at h5
  exact h5 p (by omega)
theorem tripQ_at (h : 2 ≤ K + M ∧ K + M ≤ 5) (hK : 1 ≤ K) (ha : ShIn a K M) (hb : ShIn b K M) (hc : ShIn c K M) :
    atS (qpB a b K ((K : Int) + M)) (dualB c K ((K : Int) + M)) = atS (qpB a c K ((K : Int) + M)) (dualB b K ((K : Int) + M)) := by
  have h3 := (Bool.or_eq_true _ _).mp (at_box tripQ_all (K := K) (M := M) (by omega))
  rw [decide_eq_true_eq] at h3
  have h4 := h3.resolve_left (by omega)
  simp only [List.all_eq_true, decide_eq_true_eq] at h4
  exact h4 a (shIn_mem K M a ha) b (shIn_mem K M b hb) c (shIn_mem K M c hc)
end
end Go.Proofs.Ytmodpicemlkbjaa
