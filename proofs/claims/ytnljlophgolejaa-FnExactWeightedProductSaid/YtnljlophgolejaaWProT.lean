/- How large a weighted product is. -/
import Derived.Test.YtnljlophgolejaaWProS
import Derived.Test.YtnljlophgolejaaPProT
namespace Go.Proofs.Ytnljlophgolejaa
open Go.RowKit
theorem wpB_small {a b Y : List Int} : (wpB a b Y).length ≤ 300000000 ∧ ∀ x ∈ wpB a b Y, x.1.length ≤ 16 := by
  unfold wpB
  split
  · rename_i h
    unfold wpOk at h
    rw [Bool.and_eq_true] at h
    have h1 := (alike_str h.1).1
    have h5 := (shB_in h.2).1
    have h2 := spAll_len5w (wt := true) (b := b) h1 h5
    have h3 := proS_len (n := a.length) (f := wtF a.length Y) (spAll true a b) []
    have h4 : (nz ((spAll true a b).foldl (proS a.length (wtF a.length Y)) [])).length ≤ ((spAll true a b).foldl (proS a.length (wtF a.length Y)) []).length := List.length_filter_le _ _
    simp only [List.length_nil] at h3
    exact ⟨by omega, fun x hx => Nat.le_trans (proS_short _ _ (by simp) x (nz_mem hx)) (by omega)⟩
  · simp
end Go.Proofs.Ytnljlophgolejaa
