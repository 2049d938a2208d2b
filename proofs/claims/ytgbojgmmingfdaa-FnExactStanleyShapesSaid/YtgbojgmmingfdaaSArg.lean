/- Slices of lists as arguments: opened, sized, copied, compared. -/
import Derived.Test.YtgbojgmmingfdaaWords
namespace Go.Proofs.Ytgbojgmmingfdaa
open Go.ChangeShapes Go.WideShapes Go.ChangeAt Go.RowKit

/-- The slice reads as these lists. -/
def RS (w : World) (A : Option Addr) (n : Nat) (ls : List (List Int)) : Prop := ls.length = n ∧ ∀ k, k < n → ∃ ad A' n' c', A = some ad ∧ w.cell? (ad.add k) = some (.slice A' n' c') ∧ RI w A' n' (nthL ls k) ∧ n' ≤ 9223372036854775807
theorem RS.below {w w' : World} {A : Option Addr} {n : Nat} {ls : List (List Int)} (h : RS w A n ls) (b : Below w.heap.size w w') : RS w' A n ls :=
  ⟨h.1, fun k hk => by obtain ⟨ad, A', n', c', e, h1, h2, h3⟩ := h.2 k hk; exact ⟨ad, A', n', c', e, one_cell b h1, h2.below b, h3⟩⟩
theorem OS.rs {w : World} {base b : Nat} {A : Option Addr} {n c : Nat} {ls : List (List Int)} {cells : List Value} (h : OS w base b (.slice A n c) ls cells) (hn : n = ls.length) : RS w A n ls := by
  refine ⟨hn.symm, fun k hk => ?_⟩
  obtain ⟨ad, A', n', c', hA, hc, _, ho, hnc⟩ := OS.cell h hk
  obtain ⟨_, _, _, e, hr, h1, h2⟩ := ho.form
  injection e with e1 e2 e3
  subst e1 e2 e3
  exact ⟨ad, A', n', c', hA, hc, hr, Nat.le_trans h1 h2.1⟩

theorem Try.cellsS1 : Try.prog.cellsOf 22 = 1 := by kernel_rfl
theorem open_RS {H : Type} {enc : TypeId × Value → H} {W : World} {base : Nat} {sp : Nat → Bool} {hd : Bool} {a : Option Addr} {len cap : Nat} {d : DataW H} {p : List MemPlace}
    (h : DataW.Trod enc Try.prog W base sp hd 42 (.slice a len cap) d p) : ∃ ls, RS W a len ls ∧ len ≤ 9223372036854775807 := by
  obtain ⟨fuel, hf⟩ := h
  rcases Go.Deep.open_slice Try.underlying42 hf with ⟨hcs, _⟩ | ⟨x, l, c, m, nn, D, Pl, hcs, _, hl, hm, hmm, _, hel⟩
  · simp [Value.cells] at hcs
    obtain ⟨rfl, rfl, rfl⟩ := hcs
    exact ⟨[], ⟨rfl, fun k hk => by omega⟩, by omega⟩
  · simp [Value.cells] at hcs
    obtain ⟨rfl, rfl, rfl⟩ := hcs
    have key : ∀ k, ∃ y : List Int, k < len → ∃ A' n' c', W.cell? (x.add k) = some (.slice A' n' c') ∧ RI W A' n' y ∧ n' ≤ 9223372036854775807 := fun k => by
      by_cases hk : k < len
      · have hkm : k < m := by rw [hmm]; split <;> omega
        obtain ⟨cs', h1, h2⟩ := hel k hkm
        rw [Try.cellsS1] at h1
        obtain ⟨-, hl2, hcell⟩ := World.cells?_some h1
        match cs', hl2 with
        | [u0], _ =>
          have c0 := hcell 0 (by omega)
          rw [add_of_add] at c0
          obtain ⟨A, m', c, es⟩ := Joins.slice_form Try.underlying22 h2
          obtain rfl := List.head_eq_of_cons_eq es
          obtain ⟨l, hl', hle, hb⟩ := open_RI2 ⟨_, by simpa [Value.cells] using h2⟩
          exact ⟨l, fun _ => ⟨A, m', c, by simpa using c0, hl', hle⟩⟩
      · exact ⟨[], fun h => absurd h hk⟩
    obtain ⟨f, hf'⟩ := Classical.axiomOfChoice key
    refine ⟨(List.range len).map f, ⟨by simp, fun k hk => ?_⟩, by unfold maxLen at hm; omega⟩
    have : nthL ((List.range len).map f) k = f k := by simp [nthL, List.getD, hk]
    rw [this]
    obtain ⟨A', n', c', h1, h2, h3⟩ := hf' k hk
    exact ⟨x, A', n', c', rfl, h1, h2, h3⟩

end Go.Proofs.Ytgbojgmmingfdaa
