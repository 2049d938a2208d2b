/- Triples of labels; places of small triangles. -/
import Derived.Test.YteodckkkjhapgaaParts
import Derived.Test.YteodckkkjhapgaaPuz
import Derived.ChangeKeysEq
namespace Go.Proofs.Yteodckkkjhapgaa
open Go.RowKit

def nthT (ts : List (Int × Int × Int)) (j : Nat) : Int × Int × Int := ts.getD j (0, 0, 0)
/-- The slice reads as the triples. -/
def RTr (w : World) (A : Option Addr) (n : Nat) (ts : List (Int × Int × Int)) : Prop :=
  ts.length = n ∧ ∃ g, A = some ⟨g, 0, none⟩ ∧ g < w.heap.size ∧ ∀ k, k < n → w.cell? ⟨g, k * 3, none⟩ = some (.int .i64 (nthT ts k).1) ∧ w.cell? ⟨g, k * 3 + 1, none⟩ = some (.int .i64 (nthT ts k).2.1) ∧ w.cell? ⟨g, k * 3 + 2, none⟩ = some (.int .i64 (nthT ts k).2.2)
theorem RTr.below {w w' : World} {A : Option Addr} {n : Nat} {ts : List (Int × Int × Int)} (h : RTr w A n ts) (hb : Below w.heap.size w w') : RTr w' A n ts := by
  obtain ⟨h1, g, h2, h3, h4⟩ := h
  have hs := hb.size
  refine ⟨h1, g, h2, by omega, fun k hk => ?_⟩
  obtain ⟨a, b, c⟩ := h4 k hk
  exact ⟨by rw [hb.cell h3]; exact a, by rw [hb.cell h3]; exact b, by rw [hb.cell h3]; exact c⟩
theorem hasT_at {ts : List (Int × Int × Int)} {a b c : Int} {k : Nat} (hk : k < ts.length) (h : a = (nthT ts k).1 ∧ b = (nthT ts k).2.1 ∧ c = (nthT ts k).2.2) : hasT ts a b c = true := by
  unfold hasT
  rw [List.any_eq_true]
  refine ⟨nthT ts k, ?_, ?_⟩
  · simp [nthT, List.getD, List.getElem?_eq_getElem hk]
  · simp [← h.1, ← h.2.1, ← h.2.2]
theorem hasT_none {ts : List (Int × Int × Int)} {a b c : Int} (h : ∀ k, k < ts.length → ¬(a = (nthT ts k).1 ∧ b = (nthT ts k).2.1 ∧ c = (nthT ts k).2.2)) : hasT ts a b c = false := by
  rw [← Bool.not_eq_true]
  intro h'
  unfold hasT at h'
  rw [List.any_eq_true] at h'
  obtain ⟨t, ht, he⟩ := h'
  obtain ⟨k, hk, e⟩ := List.getElem_of_mem ht
  refine h k hk ?_
  have : nthT ts k = t := by simp [nthT, List.getD, List.getElem?_eq_getElem hk, e]
  rw [this]
  simpa using he

end Go.Proofs.Yteodckkkjhapgaa
