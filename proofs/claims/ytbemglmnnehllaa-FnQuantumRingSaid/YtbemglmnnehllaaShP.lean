/- Products of small shapes: the lists, how long they are. No program is in sight here. -/
import Derived.Test.YtbemglmnnehllaaGrP
namespace Go.Proofs.Ytbemglmnnehllaa

theorem sumTo_cons_ (x : Int) (l : List Int) : ∀ n, sumTo (x :: l) (n + 1) = x + sumTo l n
  | 0 => by simp [sumTo, nth, List.getD]
  | n + 1 => by
    show sumTo (x :: l) (n + 1) + nth (x :: l) (n + 1) = x + (sumTo l n + nth l n)
    rw [sumTo_cons_ x l n, show nth (x :: l) (n + 1) = nth l n by simp [nth, List.getD]]
    omega
theorem sumN_eq : ∀ l : List Int, (∀ x ∈ l, 0 ≤ x) → (sumN (natsOf l) : Int) = sumL l
  | [], _ => rfl
  | x :: l, h => by
    have h1 := sumN_eq l fun y hy => h y (List.mem_cons_of_mem _ hy)
    have h2 := h x List.mem_cons_self
    unfold sumL at h1 ⊢
    rw [List.length_cons, sumTo_cons_, ← h1]
    show ((x.toNat + sumN (natsOf l) : Nat) : Int) = _
    omega
def smallB (l : List Int) : Bool := isShapeB l && decide (sumL l ≤ 8)
def shOk (a b : List Int) : Bool := smallB a && smallB b
def shB (a b : List Int) : List (List Int × Int) := if shOk a b then fillB a b 16 16 else []
theorem shB_no {a b : List Int} (h : shOk a b = false) : shB a b = [] := by simp [shB, h]
theorem shB_yes {a b : List Int} (h : shOk a b = true) : shB a b = fillB a b 16 16 := by simp [shB, h]
theorem smallB_shape {l : List Int} (h : smallB l = true) : isShapeB l = true ∧ sumL l ≤ 8 := by simpa [smallB] using h
theorem smallB_no {l : List Int} (h : isShapeB l = false) : smallB l = false := by simp [smallB, h]
theorem smallB_yes {l : List Int} (h : isShapeB l = true) : smallB l = decide (sumL l ≤ 8) := by simp [smallB, h]
theorem smallB_SD {l : List Int} (h : smallB l = true) : SD l 16 16 := by
  have hs := (smallB_shape h).1
  refine SD.of hs ?_ (shape_range hs 0).2
  have h2 := hs
  simp only [isShapeB, Bool.and_eq_true, decide_eq_true_eq] at h2
  exact h2.1
theorem sh_len {b s : List Int} {most : Int} {u : Option (List Int)} (h : smallB b = true) : (layerC 16 most b s u).length ≤ 4294967296 := by
  obtain ⟨hs, h8⟩ := smallB_shape h
  have h1 := layerC_len (rows := 16) (most := most) (natsOf b) s u
  rw [fI_natsOf (fun j => (shape_range hs j).1)] at h1
  refine Nat.le_trans h1 ?_
  have h2 := sumN_eq b fun x hx => by
    obtain ⟨j, hj, e⟩ := List.getElem_of_mem hx
    have := (shape_range hs j).1
    rw [nth_lt hj, e] at this
    exact this
  exact powN_mono (b := 16) (f := 8) (by omega) (by omega)
theorem shB_small {a b : List Int} : (shB a b).length ≤ 4294967296 ∧ ∀ x ∈ shB a b, x.1.length ≤ 16 := by
  rcases Bool.eq_false_or_eq_true (shOk a b) with h | h
  · have h2 := h
    simp only [shOk, Bool.and_eq_true] at h2
    rw [shB_yes h]
    obtain ⟨h3, h4, _⟩ := fillB_ok (a := a) (b := b) (rows := 16) (most := 16) (smallB_SD h2.1).len (sh_len h2.2)
    exact ⟨h3, h4⟩
  · rw [shB_no h]; simp
end Go.Proofs.Ytbemglmnnehllaa
