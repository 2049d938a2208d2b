/- PuzzleProduct of the reference. -/
import Derived.Test.YtnljlophgolejaaPPro
import Derived.Test.YtnljlophgolejaaPuzS
import Derived.Test.YtnljlophgolejaaAdd
namespace Go.Proofs.Ytnljlophgolejaa
open Go.RowKit

/-- The third side of a puzzle is a string. -/
theorem side_str {n : Nat} {p : PZ} (h : okP n p) : isStrB (sideB n p.2.2 n) = true := by
  have hl := puz_len h
  unfold okP at h
  rw [← puzS_eq] at h
  unfold puzS at h
  rw [Bool.and_eq_true] at h
  have h2 := allB_iff.1 h.2
  rw [isStrB_iff]
  have e : (sideB n p.2.2 n).length = n := gen_len _ _
  rw [e]
  refine ⟨by omega, fun k hk => ?_⟩
  have h3 := allB_iff.1 (h2 (n - 1) (by rw [Int.toNat_natCast]; omega)) k (by omega)
  unfold cellS at h3
  simp only [Int.toNat_natCast, Bool.and_eq_true] at h3
  obtain ⟨h4, -, h5, -⟩ := h3
  have hk2 : k < n := by omega
  rw [hasT_iff] at h4
  have h6 : nth p.2.2 (tri (n - 1) + k) ≤ 1 := by
    rcases Int.lt_or_le 1 (nth p.2.2 (tri (n - 1) + k)) with h7 | h7
    · rw [decide_eq_true (show n - 1 + 1 = n by omega), decide_eq_false (show ¬ nth p.2.2 (tri (n - 1) + k) ≤ 1 by omega)] at h5
      simp at h5
    · exact h7
  have e2 : nth (sideB n p.2.2 n) k = nth p.2.2 (tri (n - 1) + k) := nth_gen hk2
  rw [e2]
  omega
theorem proS_pos {n : Nat} {s : List (List Int × Int)} {p : PZ} (h : ∀ x ∈ s, 0 < x.2) : ∀ x ∈ proS n (fun _ => 1) s p, 0 < x.2 := fun x hx => by
  rcases insZ_mem hx with h1 | ⟨-, h1 | ⟨y, hy, h1⟩⟩
  · exact h x h1
  · have h1' : x.2 = 1 := h1
    omega
  · have := h y hy
    have h1' : x.2 = y.2 + 1 := h1
    omega
theorem nz_pos {s : List (List Int × Int)} (h : ∀ x ∈ s, 0 < x.2) : nz s = s := by
  unfold nz
  rw [List.filter_eq_self]
  intro x hx
  have := h x hx
  simp
  omega
theorem proS_add {n : Nat} {s : List (List Int × Int)} {p : PZ} (hp : okP n p) (hs : Srt s) (h : ∀ x ∈ s, 0 < x.2) : proS n (fun _ => 1) s p = addP s (bare (strR (sideB n p.2.2 n) n)) 1 := by
  have h1 := nz_insZ (s := shapeStr (sideB n p.2.2 n)) (n := 1) (by decide) hs
  have h2 : nz (insZ s (shapeStr (sideB n p.2.2 n)) 1) = insZ s (shapeStr (sideB n p.2.2 n)) 1 := nz_pos (proS_pos (n := n) (p := p) h)
  rw [h2, nz_pos h] at h1
  show insZ _ _ _ = _
  rw [h1, shapeStr_yes (side_str hp) (gen_len _ _)]
theorem proS_fold {n : Nat} (l : List PZ) : ∀ (s : List (List Int × Int)) (m : Nat), ProF 1 s (l.length + m) → (∀ x ∈ s, 0 < x.2) → ProF 1 (l.foldl (proS n fun _ => 1) s) m ∧ ∀ x ∈ l.foldl (proS n fun _ => 1) s, 0 < x.2 := by
  induction l with
  | nil => intro s m h h2; exact ⟨by simpa using h, h2⟩
  | cons p l ih =>
    intro s m h h2
    rw [List.foldl_cons]
    refine ih _ m (ProF.next (f := fun _ => 1) (p := p) (n := n) ?_ ⟨by decide, by decide⟩) (proS_pos h2)
    rw [List.length_cons] at h
    rw [show l.length + m + 1 = l.length + 1 + m by omega]
    exact h
end Go.Proofs.Ytnljlophgolejaa
