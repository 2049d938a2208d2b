/- The counts of shapes in a box: all boxes of at most six. No program is in sight here. -/
import Derived.Test.YteodckkkjhapgaaPlain
namespace Go.Proofs.Yteodckkkjhapgaa

/-- What is asked of the counts, at one box. -/
def okB (K M : Nat) : Bool :=
  let l := gaussB K ((K : Int) + M)
  decide (l = l.reverse) && (decide (l = gaussB M ((K : Int) + M)) && (decide (l.length = K * M + 1) &&
    (if K = 0 ∨ M = 0 then decide (l = [1]) else
      let a := gaussB K ((K : Int) + M - 1)
      let b := gaussB ((K : Int) - 1) ((K : Int) + M - 1)
      a.all (fun x => decide (0 ≤ x ∧ x ≤ 1000)) && (b.all (fun x => decide (0 ≤ x ∧ x ≤ 1000)) && (List.range l.length).all fun i => decide ((if i < a.length then nth a i else 0) + (if M ≤ i ∧ i - M < b.length then nth b (i - M) else 0) = nth l i)))))
theorem all_ok : (List.range 7).all (fun K => (List.range (7 - K)).all fun M => decide (K + M < 2) || okB K M) = true := by decide +kernel
theorem ok_at {K M : Nat} (h : 2 ≤ K + M ∧ K + M ≤ 6) : okB K M = true := by
  have h0 := all_ok
  rw [List.all_eq_true] at h0
  have h1 := h0 K (by rw [List.mem_range]; omega)
  rw [List.all_eq_true] at h1
  have h2 := h1 M (by rw [List.mem_range]; omega)
  rw [Bool.or_eq_true, decide_eq_true_eq] at h2
  exact h2.resolve_left (by omega)
theorem all_nth {l : List Int} (h : l.all (fun x => decide (0 ≤ x ∧ x ≤ 1000)) = true) (i : Nat) : 0 ≤ nth l i ∧ nth l i ≤ 1000 := by
  rcases Nat.lt_or_ge i l.length with h1 | h1
  · rw [List.all_eq_true] at h
    simpa using h _ (nth_mem h1)
  · rw [nth_ge h1]; omega
theorem ok_more {K M : Nat} (hz : ¬ (K = 0 ∨ M = 0)) {L a b : List Int} (ha : a = gaussB K ((K : Int) + M - 1)) (hb : b = gaussB ((K : Int) - 1) ((K : Int) + M - 1)) (hL : L = gaussB K ((K : Int) + M)) (h : okB K M = true) :
    (∀ i, 0 ≤ nth a i ∧ nth a i ≤ 1000) ∧ (∀ i, 0 ≤ nth b i ∧ nth b i ≤ 1000) ∧ ∀ i, i < L.length → (if i < a.length then nth a i else 0) + (if M ≤ i ∧ i - M < b.length then nth b (i - M) else 0) = nth L i := by
  unfold okB at h
  simp only [if_neg hz, Bool.and_eq_true, ← ha, ← hb, ← hL] at h
  obtain ⟨-, -, -, h1, h2, h3⟩ := h
  refine ⟨all_nth h1, all_nth h2, fun i hi => ?_⟩
  rw [List.all_eq_true] at h3
  have := h3 i (by rw [List.mem_range]; exact hi)
  simpa using this
theorem ok_less {K M : Nat} (hz : K = 0 ∨ M = 0) {L : List Int} (hL : L = gaussB K ((K : Int) + M)) (h : okB K M = true) : L = [1] := by
  unfold okB at h
  simp only [if_pos hz, Bool.and_eq_true, ← hL, decide_eq_true_eq] at h
  exact h.2.2.2
theorem ok_first {K M : Nat} {L : List Int} (hL : L = gaussB K ((K : Int) + M)) (h : okB K M = true) : L = L.reverse ∧ L = gaussB M ((K : Int) + M) ∧ L.length = K * M + 1 := by
  unfold okB at h
  simp only [Bool.and_eq_true, ← hL, decide_eq_true_eq] at h
  exact ⟨h.1, h.2.1, h.2.2.1⟩
end Go.Proofs.Yteodckkkjhapgaa
