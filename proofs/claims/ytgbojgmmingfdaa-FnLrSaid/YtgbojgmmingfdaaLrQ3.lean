/- FnLr: finite checks by the kernel (printed by lr_gen.py). -/
import Derived.Test.YtgbojgmmingfdaaCnt
import Derived.Test.YtgbojgmmingfdaaLrQ1
import Derived.Test.YtgbojgmmingfdaaLrQ2
import Derived.Test.YtgbojgmmingfdaaLrQ4
import Derived.Test.YtgbojgmmingfdaaLrM2
import Derived.Test.YtgbojgmmingfdaaLrM3
import Derived.Test.YtgbojgmmingfdaaLrM4
namespace Go.Proofs.Ytgbojgmmingfdaa
theorem lrQ_2 : ((shapesIn 3 2).all fun b => lrPairF [2] b) = true := by decide +kernel
theorem lrQ_6 : ((shapesIn 3 2).all fun b => lrPairF [1,1,1] b) = true := by decide +kernel
theorem lrQ_10 : ((shapesIn 3 2).all fun b => lrPairF [2,1,1] b) = true := by decide +kernel
theorem lrQ_14 : ((shapesIn 3 2).all fun b => lrPairF [3,2] b) = true := by decide +kernel
theorem lrQ_18 : ((shapesIn 3 2).all fun b => lrPairF [6] b) = true := by decide +kernel
theorem lrQ_22 : ((shapesIn 3 2).all fun b => lrPairF [3,3] b) = true := by decide +kernel
theorem lrQ_26 : ((shapesIn 3 2).all fun b => lrPairF [2,2,1,1] b) = true := by decide +kernel
theorem lrQ_30 : ((shapesIn 3 2).all fun b => lrPairF [5,1,1] b) = true := by decide +kernel
theorem lrQ_34 : ((shapesIn 3 2).all fun b => lrPairF [3,3,1] b) = true := by decide +kernel
theorem lrQ_38 : ((shapesIn 3 2).all fun b => lrPairF [8] b) = true := by decide +kernel
theorem lrQ_42 : ((shapesIn 3 2).all fun b => lrPairF [5,3] b) = true := by decide +kernel
theorem lrQ_46 : ((shapesIn 3 2).all fun b => lrPairF [4,3,1] b) = true := by decide +kernel
theorem lrQ_50 : ((shapesIn 3 2).all fun b => lrPairF [3,3,1,1] b) = true := by decide +kernel
end Go.Proofs.Ytgbojgmmingfdaa

/- FnLr: finite checks by the kernel (printed by lr_gen.py). -/
namespace Go.Proofs.Ytgbojgmmingfdaa
theorem lrM_0 : ((shapesIn 3 2).all fun b => lrMulF [] b) = true := by decide +kernel
theorem lrM_4 : ((shapesIn 3 2).all fun b => lrMulF [3] b) = true := by decide +kernel
theorem lrM_8 : ((shapesIn 3 2).all fun b => lrMulF [3,1] b) = true := by decide +kernel
theorem lrM_12 : ((shapesIn 3 2).all fun b => lrMulF [5] b) = true := by decide +kernel
theorem lrM_16 : ((shapesIn 3 2).all fun b => lrMulF [2,2,1] b) = true := by decide +kernel
theorem lrM_20 : ((shapesIn 3 2).all fun b => lrMulF [4,2] b) = true := by decide +kernel
theorem lrM_24 : ((shapesIn 3 2).all fun b => lrMulF [3,1,1,1] b) = true := by decide +kernel
theorem lrM_28 : ((shapesIn 3 2).all fun b => lrMulF [6,1] b) = true := by decide +kernel
theorem lrM_32 : ((shapesIn 3 2).all fun b => lrMulF [4,2,1] b) = true := by decide +kernel
theorem lrM_36 : ((shapesIn 3 2).all fun b => lrMulF [3,2,1,1] b) = true := by decide +kernel
theorem lrM_40 : ((shapesIn 3 2).all fun b => lrMulF [6,2] b) = true := by decide +kernel
theorem lrM_44 : ((shapesIn 3 2).all fun b => lrMulF [5,1,1,1] b) = true := by decide +kernel
theorem lrM_48 : ((shapesIn 3 2).all fun b => lrMulF [4,2,1,1] b) = true := by decide +kernel
theorem lrM_52 : ((shapesIn 3 2).all fun b => lrMulF [2,2,2,2] b) = true := by decide +kernel
end Go.Proofs.Ytgbojgmmingfdaa

/- FnLr: the finite checks, all together (printed by lr_gen.py). -/
namespace Go.Proofs.Ytgbojgmmingfdaa
def lrLit : List (List Int) := [[], [1], [2], [1,1], [3], [2,1], [1,1,1], [4], [3,1], [2,2], [2,1,1], [1,1,1,1], [5], [4,1], [3,2], [3,1,1], [2,2,1], [2,1,1,1], [6], [5,1], [4,2], [4,1,1], [3,3], [3,2,1], [3,1,1,1], [2,2,2], [2,2,1,1], [7], [6,1], [5,2], [5,1,1], [4,3], [4,2,1], [4,1,1,1], [3,3,1], [3,2,2], [3,2,1,1], [2,2,2,1], [8], [7,1], [6,2], [6,1,1], [5,3], [5,2,1], [5,1,1,1], [4,4], [4,3,1], [4,2,2], [4,2,1,1], [3,3,2], [3,3,1,1], [3,2,2,1], [2,2,2,2]]
theorem lrA_lit : (lrA.all fun a => lrLit.contains a) = true := by decide +kernel
theorem lrQ_all : ∀ a ∈ lrLit, ((shapesIn 3 2).all fun b => lrPairF a b) = true := by
  intro a h
  simp only [lrLit, List.mem_cons, List.not_mem_nil, or_false] at h
  rcases h with rfl | rfl | rfl | rfl | rfl | rfl | rfl | rfl | rfl | rfl | rfl | rfl | rfl | rfl | rfl | rfl | rfl | rfl | rfl | rfl | rfl | rfl | rfl | rfl | rfl | rfl | rfl | rfl | rfl | rfl | rfl | rfl | rfl | rfl | rfl | rfl | rfl | rfl | rfl | rfl | rfl | rfl | rfl | rfl | rfl | rfl | rfl | rfl | rfl | rfl | rfl | rfl | rfl
  · exact lrQ_0
  · exact lrQ_1
  · exact lrQ_2
  · exact lrQ_3
  · exact lrQ_4
  · exact lrQ_5
  · exact lrQ_6
  · exact lrQ_7
  · exact lrQ_8
  · exact lrQ_9
  · exact lrQ_10
  · exact lrQ_11
  · exact lrQ_12
  · exact lrQ_13
  · exact lrQ_14
  · exact lrQ_15
  · exact lrQ_16
  · exact lrQ_17
  · exact lrQ_18
  · exact lrQ_19
  · exact lrQ_20
  · exact lrQ_21
  · exact lrQ_22
  · exact lrQ_23
  · exact lrQ_24
  · exact lrQ_25
  · exact lrQ_26
  · exact lrQ_27
  · exact lrQ_28
  · exact lrQ_29
  · exact lrQ_30
  · exact lrQ_31
  · exact lrQ_32
  · exact lrQ_33
  · exact lrQ_34
  · exact lrQ_35
  · exact lrQ_36
  · exact lrQ_37
  · exact lrQ_38
  · exact lrQ_39
  · exact lrQ_40
  · exact lrQ_41
  · exact lrQ_42
  · exact lrQ_43
  · exact lrQ_44
  · exact lrQ_45
  · exact lrQ_46
  · exact lrQ_47
  · exact lrQ_48
  · exact lrQ_49
  · exact lrQ_50
  · exact lrQ_51
  · exact lrQ_52
theorem lrM_all : ∀ a ∈ lrLit, ((shapesIn 3 2).all fun b => lrMulF a b) = true := by
  intro a h
  simp only [lrLit, List.mem_cons, List.not_mem_nil, or_false] at h
  rcases h with rfl | rfl | rfl | rfl | rfl | rfl | rfl | rfl | rfl | rfl | rfl | rfl | rfl | rfl | rfl | rfl | rfl | rfl | rfl | rfl | rfl | rfl | rfl | rfl | rfl | rfl | rfl | rfl | rfl | rfl | rfl | rfl | rfl | rfl | rfl | rfl | rfl | rfl | rfl | rfl | rfl | rfl | rfl | rfl | rfl | rfl | rfl | rfl | rfl | rfl | rfl | rfl | rfl
  · exact lrM_0
  · exact lrM_1
  · exact lrM_2
  · exact lrM_3
  · exact lrM_4
  · exact lrM_5
  · exact lrM_6
  · exact lrM_7
  · exact lrM_8
  · exact lrM_9
  · exact lrM_10
  · exact lrM_11
  · exact lrM_12
  · exact lrM_13
  · exact lrM_14
  · exact lrM_15
  · exact lrM_16
  · exact lrM_17
  · exact lrM_18
  · exact lrM_19
  · exact lrM_20
  · exact lrM_21
  · exact lrM_22
  · exact lrM_23
  · exact lrM_24
  · exact lrM_25
  · exact lrM_26
  · exact lrM_27
  · exact lrM_28
  · exact lrM_29
  · exact lrM_30
  · exact lrM_31
  · exact lrM_32
  · exact lrM_33
  · exact lrM_34
  · exact lrM_35
  · exact lrM_36
  · exact lrM_37
  · exact lrM_38
  · exact lrM_39
  · exact lrM_40
  · exact lrM_41
  · exact lrM_42
  · exact lrM_43
  · exact lrM_44
  · exact lrM_45
  · exact lrM_46
  · exact lrM_47
  · exact lrM_48
  · exact lrM_49
  · exact lrM_50
  · exact lrM_51
  · exact lrM_52
theorem nth_sum : ∀ {l : List Int}, (∀ j, j < l.length → 0 ≤ nth l j) → ∀ j, nth l j ≤ l.sum ∧ 0 ≤ l.sum
  | [], _, j => by simp [nth]
  | x :: r, h, j => by
    have h0 : 0 ≤ x := h 0 (by simp)
    have ih := nth_sum (l := r) (fun j hj => h (j + 1) (by simpa using hj))
    rw [List.sum_cons]
    cases j with
    | zero =>
      have := (ih 0).2
      show x ≤ _ ∧ _
      omega
    | succ j =>
      have := ih j
      show nth r j ≤ _ ∧ _
      omega
theorem lr_lit {a : List Int} (h : smallB a = true) (hl : a.length ≤ 4) : a ∈ lrLit := by
  have hS := smallB_SD h
  have h8 := (smallB_shape h).2
  have hm : a ∈ shapesIn 4 8 := by
    refine shIn_mem 4 8 a ⟨hl, fun j hj => ⟨?_, ?_⟩, fun j _ => hS.desc j⟩
    · exact (small_facts h).2.1 j hj
    · have hp := (small_facts h).2.1
      have h3 := (nth_sum (l := a) (fun i hi => by have := hp i hi; omega) j).1
      rw [sumL_sum] at h8
      have : ((8 : Nat) : Int) = 8 := rfl
      omega
  have h1 := lrA_lit
  rw [List.all_eq_true] at h1
  have h2 := h1 a (List.mem_filter.2 ⟨hm, h⟩)
  simpa using h2
theorem lrPair_at {a b : List Int} (h : smallB a = true) (hl : a.length ≤ 4) (hb : ShIn b 3 2) : lrPair a b = true := by
  have h1 := lrQ_all a (lr_lit h hl)
  rw [List.all_eq_true] at h1
  rw [← lrPairF_eq]
  exact h1 b (shIn_mem 3 2 b hb)
theorem lrMul_at {a b : List Int} (h : smallB a = true) (hl : a.length ≤ 4) (hb : ShIn b 3 2) : lrMul a b = true := by
  have h1 := lrM_all a (lr_lit h hl)
  rw [List.all_eq_true] at h1
  exact lrMulF_yes (h1 b (shIn_mem 3 2 b hb))
end Go.Proofs.Ytgbojgmmingfdaa
