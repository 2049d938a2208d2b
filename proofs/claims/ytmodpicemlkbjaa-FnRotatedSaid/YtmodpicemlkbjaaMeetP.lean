/- Intersection numbers of two and three shapes in a box; what FnPieri and FnMeets say of the model. No program is in sight here. -/
import Derived.Test.YtmodpicemlkbjaaSumT
import Derived.Test.YtmodpicemlkbjaaBlock
namespace Go.Proofs.Ytmodpicemlkbjaa

/-- One shape times the empty one; a pair meets in one point just if the shapes are dual; products commute; duals. -/
def pairMeet (K M : Nat) (a b : List Int) : Bool :=
  decide (stepN K ((K : Int) + M) a [([], 1)] = [(a, 1)]) && (decide (sumT (dualB [] K ((K : Int) + M)) (grB a b K ((K : Int) + M)) = if a = dualB b K ((K : Int) + M) then 1 else 0) &&
    decide (grB a b K ((K : Int) + M) = grB b a K ((K : Int) + M)))
theorem pairMeet_all : (List.range 7).all (fun K => (List.range (7 - K)).all fun M => decide (K + M < 2) || (shapesIn K M).all fun a => (shapesIn K M).all fun b => pairMeet K M a b) = true := by decide +kernel
def tMeet (K M : Nat) (a b c : List Int) : Int := cntP (grB a b K ((K : Int) + M)) (dualB c K ((K : Int) + M))
theorem tMeet_all : (List.range 7).all (fun K => (List.range (7 - K)).all fun M => decide (K + M < 2) || (shapesIn K M).all fun a => (shapesIn K M).all fun b => (shapesIn K M).all fun c => decide (tMeet K M a b c = tMeet K M c a b)) = true := by decide +kernel
def oneMeet (K M : Nat) (a : List Int) : Bool :=
  decide (dualB (dualB a K ((K : Int) + M)) K ((K : Int) + M) = a) && (decide (sumL a + sumL (dualB a K ((K : Int) + M)) = K * M) && (inBoxB (dualB a K ((K : Int) + M)) K ((K : Int) + M) &&
    (List.range (M + 1)).all fun p => decide (K = 0 ∧ 0 < p) || (decide (grB a (bare [(p : Int)]) K ((K : Int) + M) = pieriB a K ((K : Int) + M) p) && grOk a (bare [(p : Int)]) K ((K : Int) + M))))
theorem oneMeet_all : (List.range 7).all (fun K => (List.range (7 - K)).all fun M => decide (K + M < 2) || (shapesIn K M).all fun a => oneMeet K M a) = true := by decide +kernel
theorem cellsMeet_all : (List.range 7).all (fun K => (List.range (7 - K)).all fun M => decide (K + M < 2) || (decide (degB K ((K : Int) + M) = interB (List.replicate (K * M) [1]) K ((K : Int) + M)) && decide (1 ≤ degB K ((K : Int) + M)))) = true := by decide +kernel

theorem shIn_of {l : List Int} {K M : Nat} (h : inBoxB l K ((K : Int) + M) = true) : ShIn l K M := by
  obtain ⟨hb1, hb2, hb3, hb4⟩ := inBoxB_iff.1 h
  have hS := SD.box h
  exact ⟨hS.len, fun j hj => ⟨(shapeAt_range hb2 hj).1, hS.top j⟩, fun j _ => hS.desc j⟩
/-- A check of all boxes, at one. -/
theorem at_box {f : Nat → Nat → Bool} (h : (List.range 7).all (fun K => (List.range (7 - K)).all fun M => decide (K + M < 2) || f K M) = true) {K M : Nat} (hKM : 2 ≤ K + M ∧ K + M ≤ 6) : f K M = true := by
  rw [List.all_eq_true] at h
  have h1 := h K (by rw [List.mem_range]; omega)
  rw [List.all_eq_true] at h1
  have h2 := h1 M (by rw [List.mem_range]; omega)
  rw [Bool.or_eq_true, decide_eq_true_eq] at h2
  exact h2.resolve_left (by omega)
section
variable {K M : Nat} {a b c : List Int}
theorem pairMeet_at (h : 2 ≤ K + M ∧ K + M ≤ 6) (ha : ShIn a K M) (hb : ShIn b K M) : stepN K ((K : Int) + M) a [([], 1)] = [(a, 1)] ∧ sumT (dualB [] K ((K : Int) + M)) (grB a b K ((K : Int) + M)) = (if a = dualB b K ((K : Int) + M) then 1 else 0) ∧
    grB a b K ((K : Int) + M) = grB b a K ((K : Int) + M) := by
  have h3 := at_box pairMeet_all h
  simp only [List.all_eq_true] at h3
  have h4 := h3 a (shIn_mem K M a ha) b (shIn_mem K M b hb)
  simpa only [pairMeet, Bool.and_eq_true, decide_eq_true_eq] using h4
theorem tMeet_at (h : 2 ≤ K + M ∧ K + M ≤ 6) (ha : ShIn a K M) (hb : ShIn b K M) (hc : ShIn c K M) : tMeet K M a b c = tMeet K M c a b := by
  have h3 := at_box tMeet_all h
  simp only [List.all_eq_true, decide_eq_true_eq] at h3
  exact h3 a (shIn_mem K M a ha) b (shIn_mem K M b hb) c (shIn_mem K M c hc)
theorem tMeet_flip (h : 2 ≤ K + M ∧ K + M ≤ 6) (ha : ShIn a K M) (hb : ShIn b K M) : tMeet K M a b c = tMeet K M b a c := by
  unfold tMeet; rw [(pairMeet_at h ha hb).2.2]
theorem oneMeet_at (h : 2 ≤ K + M ∧ K + M ≤ 6) (ha : ShIn a K M) : dualB (dualB a K ((K : Int) + M)) K ((K : Int) + M) = a ∧ sumL a + sumL (dualB a K ((K : Int) + M)) = K * M ∧ inBoxB (dualB a K ((K : Int) + M)) K ((K : Int) + M) = true ∧
    ∀ p : Nat, p ≤ M → ¬ (K = 0 ∧ 0 < p) → grB a (bare [(p : Int)]) K ((K : Int) + M) = pieriB a K ((K : Int) + M) p ∧ grOk a (bare [(p : Int)]) K ((K : Int) + M) = true := by
  have h3 := at_box oneMeet_all h
  simp only [List.all_eq_true] at h3
  have h4 := h3 a (shIn_mem K M a ha)
  simp only [oneMeet, Bool.and_eq_true, decide_eq_true_eq, List.all_eq_true, List.mem_range, Bool.or_eq_true] at h4
  exact ⟨h4.1, h4.2.1, h4.2.2.1, fun p hp hn => (h4.2.2.2 p (by omega)).resolve_left hn⟩
theorem cellsMeet_at (h : 2 ≤ K + M ∧ K + M ≤ 6) : degB K ((K : Int) + M) = interB (List.replicate (K * M) [1]) K ((K : Int) + M) ∧ 1 ≤ degB K ((K : Int) + M) := by
  have h3 := at_box (f := fun K M => decide (degB K ((K : Int) + M) = interB (List.replicate (K * M) [1]) K ((K : Int) + M)) && decide (1 ≤ degB K ((K : Int) + M))) cellsMeet_all h
  simpa only [Bool.and_eq_true, decide_eq_true_eq] using h3

theorem interOk_of {ls : List (List Int)} (h : 2 ≤ K + M ∧ K + M ≤ 6) (hl : ls.length ≤ 12) (hs : ∀ s ∈ ls, inBoxB s K ((K : Int) + M) = true) : interOk ls K ((K : Int) + M) = true := by
  simp only [interOk, Bool.and_eq_true, decide_eq_true_eq, List.all_eq_true]
  exact ⟨⟨boxB_iff.2 (by omega), hl⟩, hs⟩
theorem two_step (h : 2 ≤ K + M ∧ K + M ≤ 6) (ha : ShIn a K M) (hb : ShIn b K M) (t : List Int) : interL K ((K : Int) + M) [a, b] = stepN K ((K : Int) + M) b [(a, 1)] ∧ sumT t (stepN K ((K : Int) + M) b [(a, 1)]) = sumT t (grB a b K ((K : Int) + M)) := by
  refine ⟨?_, ?_⟩
  · have e : interL K ((K : Int) + M) [a, b] = stepN K ((K : Int) + M) b (stepN K ((K : Int) + M) a [([], 1)]) := rfl
    rw [e, (pairMeet_at h ha hb).1]
  · rw [sumT_step (by simp), dot, dot]
    simp
/-- Two shapes meet in one point just if they are dual. -/
theorem inter_two (h : 2 ≤ K + M ∧ K + M ≤ 6) (ha : ShIn a K M) (hb : ShIn b K M) : interB [a, b] K ((K : Int) + M) = if a = dualB b K ((K : Int) + M) then 1 else 0 := by
  rw [interB, if_pos (interOk_of h (by simp) fun s hs => by
    simp only [List.mem_cons, List.not_mem_nil, or_false] at hs
    rcases hs with rfl | rfl
    · exact ha.box h
    · exact hb.box h)]
  have hW := inter_wt K ((K : Int) + M) [a, b] 2 (by simp)
  have e : interTo K ((K : Int) + M) [a, b] 2 = interL K ((K : Int) + M) [a, b] := rfl
  rw [e] at hW
  rw [cntP_sumT hW.srt, (two_step h ha hb []).1, (two_step h ha hb _).2]
  exact (pairMeet_at h ha hb).2.1
/-- Three shapes: the dual of the third in the product of the others. -/
theorem inter_three (h : 2 ≤ K + M ∧ K + M ≤ 6) (ha : ShIn a K M) (hb : ShIn b K M) (hc : ShIn c K M) : interB [a, b, c] K ((K : Int) + M) = tMeet K M a b c := by
  have hall : ∀ s ∈ [a, b, c], inBoxB s K ((K : Int) + M) = true := fun s hs => by
    simp only [List.mem_cons, List.not_mem_nil, or_false] at hs
    rcases hs with rfl | rfl | rfl
    · exact ha.box h
    · exact hb.box h
    · exact hc.box h
  rw [interB, if_pos (interOk_of h (by simp) hall)]
  have hW := inter_wt K ((K : Int) + M) [a, b, c] 3 (by simp)
  have hW2 := inter_wt K ((K : Int) + M) [a, b] 2 (by simp)
  have hB := inter_box (k := (K : Int)) (n := (K : Int) + M) [a, b] (boxB_iff.2 (by omega)) 2 (by simp)
  have e : interTo K ((K : Int) + M) [a, b, c] 3 = stepN K ((K : Int) + M) c (interL K ((K : Int) + M) [a, b]) := rfl
  have e2 : interTo K ((K : Int) + M) [a, b] 2 = interL K ((K : Int) + M) [a, b] := rfl
  have e3 : interL K ((K : Int) + M) [a, b, c] = stepN K ((K : Int) + M) c (interL K ((K : Int) + M) [a, b]) := rfl
  rw [e] at hW
  rw [e2] at hW2 hB
  rw [e3, cntP_sumT hW.srt, sumT_step hW2.pos, dot_congr (g := fun s => if s = dualB c K ((K : Int) + M) then 1 else 0) fun x hx => ?_, dot_one, (two_step h ha hb []).1, (two_step h ha hb _).2, tMeet, cntP_sumT (grB_wt a b _ _).srt]
  have hxs : ShIn x.1 K M := shIn_of (hB x hx)
  exact (pairMeet_at h hxs hc).2.1
theorem inter_three_pos (h : 2 ≤ K + M ∧ K + M ≤ 6) (ha : ShIn a K M) (hb : ShIn b K M) (hc : ShIn c K M) : 0 ≤ tMeet K M a b c := by
  rw [tMeet, cntP_sumT (grB_wt a b _ _).srt]
  have hp := (grB_wt a b K ((K : Int) + M)).pos
  generalize grB a b K ((K : Int) + M) = ps at hp
  generalize dualB c K ((K : Int) + M) = t
  induction ps with
  | nil => exact Int.le_refl _
  | cons x r ih =>
    have h1 := hp x List.mem_cons_self
    have h2 := ih fun y hy => hp y (List.mem_cons_of_mem _ hy)
    rw [sumT]
    split <;> omega
end
end Go.Proofs.Ytmodpicemlkbjaa
