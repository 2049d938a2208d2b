/- Weighted products, plain: how many puzzles, how large a weight, the order does not count. -/
import Derived.Test.YtnljlophgolejaaPProT
import Derived.Test.YtnljlophgolejaaPuzY
namespace Go.Proofs.Ytnljlophgolejaa
open Go.RowKit

/-- Shapes added in either order. -/
theorem insZ_comm : ∀ (ps : List (List Int × Int)) (s t : List Int) (x y : Int), insZ (insZ ps s x) t y = insZ (insZ ps t y) s x := by
  have ne : ∀ {s t : List Int} {x y : Int} {r : List (List Int × Int)}, lexLt s t = true → insZ ((s, x) :: r) t y = (s, x) :: insZ r t y := fun h => by rw [insZ, if_pos h]
  have front : ∀ {s t : List Int} {x y : Int} {r : List (List Int × Int)}, lexLt s t = true → insZ ((t, y) :: r) s x = (s, x) :: (t, y) :: r := fun h => by
    rw [insZ, if_neg (by rw [lex_asymm h]; simp), if_neg (fun e => lex_ne h e.symm)]
  have same : ∀ {s : List Int} {x y : Int} {r : List (List Int × Int)}, insZ ((s, x) :: r) s y = (s, x + y) :: r := by
    intro s x y r
    rw [insZ, if_neg (by rw [lex_irr]; simp), if_pos rfl]
  intro ps
  induction ps with
  | nil =>
    intro s t x y
    simp only [insZ]
    by_cases h : lexLt s t = true
    · rw [if_pos h, if_neg (by rw [lex_asymm h]; simp), if_neg (fun e => lex_ne h e.symm)]
    · by_cases e : s = t
      · subst e
        simp [lex_irr, Int.add_comm]
      · have h2 := lex_total (by simpa using h) e
        rw [if_neg h, if_neg e, if_pos h2]
  | cons z r ih =>
    intro s t x y
    obtain ⟨zk, zc⟩ := z
    by_cases h1 : lexLt zk s = true
    · rw [ne (x := zc) (r := r) h1]
      by_cases h2 : lexLt zk t = true
      · rw [ne h2, ne h2, ne h1, ih]
      · by_cases e2 : zk = t
        · subst e2
          rw [same, same, ne h1]
        · have h3 := lex_total (by simpa using h2) e2
          rw [front h3, front h3, ne (lex_trans h3 h1), ne h1]
    · by_cases e1 : zk = s
      · subst e1
        rw [same]
        by_cases h2 : lexLt zk t = true
        · rw [ne h2, ne h2, same]
        · by_cases e2 : zk = t
          · subst e2
            rw [same, same, same, Int.add_assoc, Int.add_assoc, Int.add_comm x]
          · have h3 := lex_total (by simpa using h2) e2
            rw [front h3, front h3, ne h3, same]
      · have h3 := lex_total (by simpa using h1) e1
        rw [front h3]
        by_cases h2 : lexLt s t = true
        · rw [ne h2]
          by_cases h4 : lexLt zk t = true
          · rw [ne h4, front h3]
          · by_cases e4 : zk = t
            · subst e4
              rw [same, front h3]
            · have h5 := lex_total (by simpa using h4) e4
              rw [front h5, front h2]
        · by_cases e2 : s = t
          · subst e2
            rw [same, front h3, same, Int.add_comm]
          · have h4 := lex_total (by simpa using h2) e2
            have h5 := lex_trans h4 h3
            rw [front h4, front h5, ne h4, front h3]
theorem proS_perm {n : Nat} {f : PZ → Int} {l l' : List PZ} (h : l.Perm l') (s : List (List Int × Int)) : l.foldl (proS n f) s = l'.foldl (proS n f) s :=
  h.foldl_eq' (fun _ _ _ _ _ => insZ_comm _ _ _ _ _) s
end Go.Proofs.Ytnljlophgolejaa
