/- Slices of lists as arguments: opened, sized, copied, compared. -/
import Derived.Test.YtgbojgmmingfdaaWords
namespace Go.Proofs.Ytgbojgmmingfdaa
open Go.ChangeShapes Go.WideShapes Go.ChangeAt Go.RowKit

/-- The slice reads as these lists. -/
def RS (w : World) (A : Option Addr) (n : Nat) (ls : List (List Int)) : Prop := ls.length = n ∧ ∀ k, k < n → ∃ ad A' n' c', A = some ad ∧ w.cell? (ad.add k) = some (.slice A' n' c') ∧ RI w A' n' (nthL ls k) ∧ n' ≤ 9223372036854775807
theorem RS.below {w w' : World} {A : Option Addr} {n : Nat} {ls : List (List Int)} (h : RS w A n ls) (b : Below w.heap.size w w') : RS w' A n ls :=
  ⟨h.1, fun k hk => by obtain ⟨ad, A', n', c', e, h1, h2, h3⟩ := h.2 k hk; exact ⟨ad, A', n', c', e, one_cell b h1, h2.below b, h3⟩⟩
theorem OS.rs {w : World} {base b : Nat} {A : Option Addr} {n c : Nat} {ls : List (List Int)} {cells : List Value} (h : OS w base b (.slice A n c) ls cells) (hn : n = ls.length) : RS w A n ls := by
  refine ⟨hn.symm, fun k hk => ?_⟩
  obtain ⟨ad, A', n', c', hA, hc, _, ho, hnc⟩ := OS.cell h hk
  obtain ⟨_, _, _, e, hr, h1, h2⟩ := ho.form
  injection e with e1 e2 e3
  subst e1 e2 e3
  exact ⟨ad, A', n', c', hA, hc, hr, Nat.le_trans h1 h2.1⟩

theorem Try.cellsS1 : Try.prog.cellsOf 22 = 1 := by kernel_rfl
theorem open_RS {H : Type} {enc : TypeId × Value → H} {W : World} {base : Nat} {sp : Nat → Bool} {hd : Bool} {a : Option Addr} {len cap : Nat} {d : DataW H} {p : List MemPlace}
    (h : DataW.Trod enc Try.prog W base sp hd 42 (.slice a len cap) d p) : ∃ ls, RS W a len ls ∧ len ≤ 9223372036854775807 := by
  obtain ⟨fuel, hf⟩ := h
  rcases Go.Deep.open_slice Try.underlying42 hf with ⟨hcs, _⟩ | ⟨x, l, c, m, nn, D, Pl, hcs, _, hl, hm, hmm, _, hel⟩
  · simp [Value.cells] at hcs
    obtain ⟨rfl, rfl, rfl⟩ := hcs
    exact ⟨[], ⟨rfl, fun k hk => by omega⟩, by omega⟩
  · simp [Value.cells] at hcs
    obtain ⟨rfl, rfl, rfl⟩ := hcs
    have key : ∀ k, ∃ y : List Int, k < len → ∃ A' n' c', W.cell? (x.add k) = some (.slice A' n' c') ∧ RI W A' n' y ∧ n' ≤ 9223372036854775807 := fun k => by
      by_cases hk : k < len
      · have hkm : k < m := by rw [hmm]; split <;> omega
        obtain ⟨cs', h1, h2⟩ := hel k hkm
        rw [Try.cellsS1] at h1
        obtain ⟨-, hl2, hcell⟩ := World.cells?_some h1
        match cs', hl2 with
        | [u0], _ =>
          have c0 := hcell 0 (by omega)
          rw [add_of_add] at c0
          obtain ⟨A, m', c, es⟩ := Joins.slice_form Try.underlying22 h2
          obtain rfl := List.head_eq_of_cons_eq es
          obtain ⟨l, hl', hle, hb⟩ := open_RI2 ⟨_, by simpa [Value.cells] using h2⟩
          exact ⟨l, fun _ => ⟨A, m', c, by simpa using c0, hl', hle⟩⟩
      · exact ⟨[], fun h => absurd h hk⟩
    obtain ⟨f, hf'⟩ := Classical.axiomOfChoice key
    refine ⟨(List.range len).map f, ⟨by simp, fun k hk => ?_⟩, by unfold maxLen at hm; omega⟩
    have : nthL ((List.range len).map f) k = f k := by simp [nthL, List.getD, hk]
    rw [this]
    obtain ⟨A', n', c', h1, h2, h3⟩ := hf' k hk
    exact ⟨x, A', n', c', rfl, h1, h2, h3⟩

end Go.Proofs.Ytgbojgmmingfdaa

/- Slices of lists copied and compared. -/
namespace Go.Proofs.Ytgbojgmmingfdaa
open Go.RowKit

section
variable {w w' : World} {base b size n m : Nat} {e : TypeId} {v u : Value} {fs : List (Int ⊕ List Int)} {cells : List Value} {l : List Int}
theorem FRs.setRow (h : FRs w b fs cells) (hm : m < fs.length) (hu : OI w b u l) : FRs w b (fs.set m (.inr l)) (cells.set m u) := by
  refine ⟨by simp [h.1], fun j x a hx ha => ?_⟩
  by_cases hj : m = j
  · subst hj
    rw [List.getElem?_set_self hm] at hx
    rw [List.getElem?_set_self (by rw [h.1]; exact hm)] at ha
    injection hx with hx
    injection ha with ha
    subst hx ha
    exact hu
  · rw [List.getElem?_set_ne hj] at hx ha
    exact h.2 j x a hx ha
theorem Dist.setRow (h : Dist cells) (hap : ∀ u' ∈ cells, u'.ownBlock = none ∨ u'.ownBlock ≠ u.ownBlock) : Dist (cells.set m u) := by
  intro i j a a' hij h1 h2
  by_cases hi : m = i
  · subst hi
    have hm := (List.getElem?_eq_some_iff.1 h1).1
    rw [List.getElem?_set_self (by simpa using hm)] at h1
    rw [List.getElem?_set_ne (by omega)] at h2
    injection h1 with h1
    subst h1
    rcases hap a' (List.mem_of_getElem? h2) with h3 | h3
    · rcases hk : u.ownBlock with _ | k
      · exact .inl rfl
      · exact .inr (by rw [h3]; simp)
    · exact .inr (Ne.symm h3)
  · rw [List.getElem?_set_ne hi] at h1
    by_cases hj : m = j
    · subst hj
      have hm := (List.getElem?_eq_some_iff.1 h2).1
      rw [List.getElem?_set_self (by simpa using hm)] at h2
      injection h2 with h2
      subst h2
      exact hap a (List.mem_of_getElem? h1)
    · rw [List.getElem?_set_ne hj] at h2
      exact h i j a a' hij h1 h2
theorem OF.setRow {g c : Nat} (h : OF w base b e size (.slice (some ⟨g, 0, none⟩) n c) n fs cells) (he : e ≠ 3) (hm : m < fs.length) (hu : OI w b u l) (hap : ∀ u' ∈ cells, u'.ownBlock = none ∨ u'.ownBlock ≠ u.ownBlock) :
    OF (w.setCell ⟨g, m, none⟩ u) base b e size (.slice (some ⟨g, 0, none⟩) n c) n (fs.set m (.inr l)) (cells.set m u) ∧ w.grownBy (w.setCell ⟨g, m, none⟩ u) (some g) := by
  obtain ⟨h1, h2⟩ := h.1.stored m u
  have hk : ∀ g', some g = some g' → ∃ cs e m, w.heap[g']? = some (.cells cs e m) ∧ e ≠ 3 := fun g' e' => by
    injection e' with e'; subst e'
    exact h.typed' he g rfl
  exact ⟨⟨h1, (h.2.1.kept_type h2 hk).setRow hm (OI.kept_type hu h2 hk), h.2.2.setRow hap⟩, h2⟩
end
theorem nthL_set_eq {ls : List (List Int)} {k : Nat} {x : List Int} (h : k < ls.length) : nthL (ls.set k x) k = x := by simp [nthL, List.getD, h]
theorem nthL_set_ne {ls : List (List Int)} {k j : Nat} {x : List Int} (h : k ≠ j) : nthL (ls.set k x) j = nthL ls j := by simp [nthL, List.getD, List.getElem?_set_ne h]
theorem rows_set (ls : List (List Int)) (k : Nat) (x : List Int) : (rows ls).set k (.inr x) = rows (ls.set k x) := by simp [rows, List.map_set]
theorem ext_nthL {a b : List (List Int)} (hl : a.length = b.length) (h : ∀ j, j < a.length → nthL a j = nthL b j) : a = b := by
  refine List.ext_getElem hl fun i h1 h2 => ?_
  have := h i h1
  rwa [nthL_lt h1, nthL_lt h2] at this
/-- A row of nils. -/
theorem nils_OS {w : World} {base b n : Nat} {v : Value} (h : w.ownsRow base 22 1 v n (List.replicate n (.slice none 0 0))) : OS w base b v (List.replicate n []) (List.replicate n (.slice none 0 0)) := by
  unfold OS
  rw [List.length_replicate]
  refine ⟨h, ⟨by simp [rows], fun j x u hx hu => ?_⟩, fun i j a a' hij h1 h2 => ?_⟩
  · have e1 := List.mem_replicate.1 (List.mem_of_getElem? hu)
    have hx2 := List.mem_of_getElem? hx
    simp only [rows, List.map_replicate] at hx2
    have e2 := List.mem_replicate.1 hx2
    rw [e1.2, e2.2]
    exact OI.nil_ _ _
  · have e1 := List.mem_replicate.1 (List.mem_of_getElem? h1)
    rw [e1.2]
    exact .inl rfl

end Go.Proofs.Ytgbojgmmingfdaa
