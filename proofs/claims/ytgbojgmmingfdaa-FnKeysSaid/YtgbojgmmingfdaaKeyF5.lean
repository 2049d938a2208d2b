/- FnKeys: shapes of at most five rows, all together (printed by keyf_gen.py). -/
import Derived.Test.YtgbojgmmingfdaaKeyF5a
import Derived.Test.YtgbojgmmingfdaaKeyF5b
namespace Go.Proofs.Ytgbojgmmingfdaa
def keyLit : List (List Int) := [[], [1], [2], [1,1], [3], [2,1], [1,1,1], [4], [3,1], [2,2], [2,1,1], [1,1,1,1], [4,1], [3,2], [3,1,1], [2,2,1], [2,1,1,1], [1,1,1,1,1], [4,2], [4,1,1], [3,3], [3,2,1], [3,1,1,1], [2,2,2], [2,2,1,1], [2,1,1,1,1], [4,3], [4,2,1], [4,1,1,1], [3,3,1], [3,2,2], [3,2,1,1], [3,1,1,1,1], [2,2,2,1], [2,2,1,1,1], [4,4], [4,3,1], [4,2,2], [4,2,1,1], [4,1,1,1,1], [3,3,2], [3,3,1,1], [3,2,2,1], [3,2,1,1,1], [2,2,2,2], [2,2,2,1,1]]
theorem keyLit_all : ((shapesIn 5 4).all fun l => decide (8 < sumL l) || keyLit.contains l) = true := by decide +kernel
theorem keyG_all : ∀ a ∈ keyLit, keyFB 5 a = true := by
  intro a h
  simp only [keyLit, List.mem_cons, List.not_mem_nil, or_false] at h
  rcases h with rfl | rfl | rfl | rfl | rfl | rfl | rfl | rfl | rfl | rfl | rfl | rfl | rfl | rfl | rfl | rfl | rfl | rfl | rfl | rfl | rfl | rfl | rfl | rfl | rfl | rfl | rfl | rfl | rfl | rfl | rfl | rfl | rfl | rfl | rfl | rfl | rfl | rfl | rfl | rfl | rfl | rfl | rfl | rfl | rfl | rfl
  · exact keyG_0
  · exact keyG_1
  · exact keyG_2
  · exact keyG_3
  · exact keyG_4
  · exact keyG_5
  · exact keyG_6
  · exact keyG_7
  · exact keyG_8
  · exact keyG_9
  · exact keyG_10
  · exact keyG_11
  · exact keyG_12
  · exact keyG_13
  · exact keyG_14
  · exact keyG_15
  · exact keyG_16
  · exact keyG_17
  · exact keyG_18
  · exact keyG_19
  · exact keyG_20
  · exact keyG_21
  · exact keyG_22
  · exact keyG_23
  · exact keyG_24
  · exact keyG_25
  · exact keyG_26
  · exact keyG_27
  · exact keyG_28
  · exact keyG_29
  · exact keyG_30
  · exact keyG_31
  · exact keyG_32
  · exact keyG_33
  · exact keyG_34
  · exact keyG_35
  · exact keyG_36
  · exact keyG_37
  · exact keyG_38
  · exact keyG_39
  · exact keyG_40
  · exact keyG_41
  · exact keyG_42
  · exact keyG_43
  · exact keyG_44
  · exact keyG_45
theorem keyF_5 : ((shapesIn 5 4).all (keyFB 5)) = true := by
  rw [List.all_eq_true]
  intro l hl
  have h := keyLit_all
  rw [List.all_eq_true] at h
  have h1 := h l hl
  rw [Bool.or_eq_true] at h1
  rcases h1 with h1 | h1
  · rw [keyFB, h1]; rfl
  · exact keyG_all l (by simpa using h1)
end Go.Proofs.Ytgbojgmmingfdaa
