/- Slices of shapes with powers, as they come in. -/
import Derived.Test.YtemafljipkcgcaaFrame
import Derived.Test.YtemafljipkcgcaaPuzF
import Derived.Deep.Slices
import Derived.Deep.Strs
namespace Go.Proofs.Ytemafljipkcgcaa
open Go.ChangeShapes Go.WideShapes Go.ChangeAt Go.RowKit

abbrev QT := Int × List Int × Int
def nthQ (ps : List QT) (k : Nat) : QT := ps.getD k (0, [], 0)
/-- What element k of the slice (ad, ..) holds. -/
def QAt (w : World) (ad : Addr) (k : Nat) (x : QT) : Prop := ∃ A n c, w.cell? (ad.add (k * 3)) = some (.int .i64 x.1) ∧ w.cell? (ad.add (k * 3 + 1)) = some (.slice A n c) ∧ w.cell? (ad.add (k * 3 + 2)) = some (.int .i64 x.2.2) ∧ RI w A n x.2.1 ∧ n ≤ 9223372036854775807 ∧
  (-9223372036854775808 ≤ x.1 ∧ x.1 ≤ 9223372036854775807) ∧ (-9223372036854775808 ≤ x.2.2 ∧ x.2.2 ≤ 9223372036854775807) ∧ ∀ j, j < n → -9223372036854775808 ≤ nth x.2.1 j ∧ nth x.2.1 j ≤ 9223372036854775807
/-- The slice reads as these. -/
def RQ (w : World) (A : Option Addr) (n : Nat) (ps : List QT) : Prop := ps.length = n ∧ ∀ k, k < n → ∃ ad, A = some ad ∧ QAt w ad k (nthQ ps k)

theorem open_RI2 {H : Type} {enc : TypeId × Value → H} {W : World} {base : Nat} {sp : Nat → Bool} {hd : Bool} {a : Option Addr} {len cap : Nat} {d : DataW H} {p : List MemPlace}
    (h : DataW.Trod enc Try.prog W base sp hd 22 (.slice a len cap) d p) : ∃ l, RI W a len l ∧ len ≤ 9223372036854775807 ∧ ∀ j, j < len → -9223372036854775808 ≤ nth l j ∧ nth l j ≤ 9223372036854775807 := by
  obtain ⟨fuel, hf⟩ := h
  rcases open_ints Try.underlying22 Try.underlying3 (by kernel_rfl) hf with ⟨hcs, _⟩ | ⟨x, l, c, zs, hcs, _, hl, hm, hz, _, hcell, hwz⟩
  · simp [Value.cells] at hcs
    obtain ⟨rfl, rfl, rfl⟩ := hcs
    exact ⟨[], RI.nil_, by omega, fun j hj => by omega⟩
  · simp [Value.cells] at hcs
    obtain ⟨rfl, rfl, rfl⟩ := hcs
    have hlen : len ≤ zs.length := by
      have := hz
      split at this <;> omega
    refine ⟨zs.take len, ⟨by rw [List.length_take]; omega, fun hn => ⟨x, rfl, fun j hj => ?_⟩⟩, by unfold maxLen at hm; omega, fun j hj => ?_⟩
    · rw [hcell j (by omega), nth_take hj]
      rfl
    · rw [nth_take hj]
      have hjz : j < zs.length := by omega
      exact wfI (hwz (nth zs j) (by rw [nth_lt hjz]; exact List.getElem_mem hjz))

theorem Try.cellsQ : Try.prog.cellsOf 88 = 3 := by kernel_rfl
theorem Try.cellsI_ : Try.prog.cellsOf 3 = 1 := by kernel_rfl
theorem Try.cellsS_ : Try.prog.cellsOf 22 = 1 := by kernel_rfl
set_option maxRecDepth 100000 in
theorem open_QAt {H : Type} {enc : TypeId × Value → H} {W : World} {base n : Nat} {sp : Nat → Bool} {hd : Bool} {ad : Addr} {k : Nat} {cs : List Value} {y : DataW H × List MemPlace}
    (hc : W.cells? base (ad.add (k * 3)) 3 = some cs) (h : DataW.trod enc Try.prog W base sp hd n 88 cs = some y) : ∃ x, QAt W ad k x := by
  obtain ⟨y0, y1, y2, m, -, hl, h0, h1, h2⟩ := Go.Deep.trod_struct3 Try.underlying88 h
  obtain ⟨-, hl2, hcell⟩ := World.cells?_some hc
  match cs, hl2 with
  | [u0, u1, u2], _ =>
    have c0 := hcell 0 (by omega)
    have c1 := hcell 1 (by omega)
    have c2 := hcell 2 (by omega)
    rw [add_of_add] at c0 c1 c2
    simp only [Try.cellsI_, Try.cellsS_, List.drop_zero, List.drop_succ_cons, List.take_succ_cons, List.take_zero] at h0 h1 h2
    obtain ⟨p, ep, -, wp⟩ := DataW.trod_int Try.underlying3 h0
    obtain ⟨q, eq, -, wq⟩ := DataW.trod_int Try.underlying3 h2
    obtain ⟨A, m', c, es⟩ := Joins.slice_form Try.underlying22 h1
    obtain rfl := List.head_eq_of_cons_eq ep
    obtain rfl := List.head_eq_of_cons_eq eq
    obtain rfl := List.head_eq_of_cons_eq es
    obtain ⟨l, hl', hle, hb⟩ := open_RI2 ⟨m, by simpa [Value.cells] using h1⟩
    exact ⟨(p, l, q), A, m', c, by simpa using c0, by simpa using c1, by simpa using c2, hl', hle, wfI wp, wfI wq, hb⟩
theorem open_RQ {H : Type} {enc : TypeId × Value → H} {W : World} {base : Nat} {sp : Nat → Bool} {hd : Bool} {a : Option Addr} {len cap : Nat} {d : DataW H} {p : List MemPlace}
    (h : DataW.Trod enc Try.prog W base sp hd 43 (.slice a len cap) d p) : ∃ ps, RQ W a len ps ∧ len ≤ 9223372036854775807 := by
  obtain ⟨fuel, hf⟩ := h
  rcases Go.Deep.open_slice Try.underlying43 hf with ⟨hcs, _⟩ | ⟨x, l, c, m, nn, D, Pl, hcs, _, hl, hm, hmm, _, hel⟩
  · simp [Value.cells] at hcs
    obtain ⟨rfl, rfl, rfl⟩ := hcs
    exact ⟨[], ⟨rfl, fun k hk => by omega⟩, by omega⟩
  · simp [Value.cells] at hcs
    obtain ⟨rfl, rfl, rfl⟩ := hcs
    have key : ∀ k, ∃ y : QT, k < len → QAt W x k y := fun k => by
      by_cases hk : k < len
      · have hkm : k < m := by rw [hmm]; split <;> omega
        obtain ⟨cs', h1, h2⟩ := hel k hkm
        rw [Try.cellsQ] at h1
        obtain ⟨y, hy⟩ := open_QAt h1 h2
        exact ⟨y, fun _ => hy⟩
      · exact ⟨(0, [], 0), fun h => absurd h hk⟩
    obtain ⟨f, hf'⟩ := Classical.axiomOfChoice key
    refine ⟨(List.range len).map f, ⟨by simp, fun k hk => ⟨x, rfl, ?_⟩⟩, by unfold maxLen at hm; omega⟩
    have : nthQ ((List.range len).map f) k = f k := by simp [nthQ, List.getD, hk]
    rw [this]
    exact hf' k hk
theorem QAt.below {w w' : World} {ad : Addr} {k : Nat} {x : QT} (h : QAt w ad k x) (b : Below w.heap.size w w') : QAt w' ad k x := by
  obtain ⟨A, n, c, h1, h2, h3, h4, h5⟩ := h
  exact ⟨A, n, c, one_cell b h1, one_cell b h2, one_cell b h3, h4.below b, h5⟩
theorem RQ.below {w w' : World} {A : Option Addr} {n : Nat} {ps : List QT} (h : RQ w A n ps) (b : Below w.heap.size w w') : RQ w' A n ps :=
  ⟨h.1, fun k hk => by obtain ⟨ad, e, q⟩ := h.2 k hk; exact ⟨ad, e, q.below b⟩⟩
theorem add_form (ad : Addr) (i j : Nat) (hj : 0 < j) : ad.add (i + j) = ⟨(ad.add i).block, (ad.add i).off + j, none⟩ := by
  rw [← add_of_add]
  generalize ad.add i = b
  unfold Addr.add
  rw [if_neg (by omega)]
/-- The cells as the walk spells them. -/
theorem QAt.cells {w : World} {ad : Addr} {k : Nat} {x : QT} (h : QAt w ad k x) : ∃ A n c, w.cell? (ad.add (k * 3)) = some (.int .i64 x.1) ∧ w.cell? ⟨(ad.add (k * 3)).block, (ad.add (k * 3)).off + 1, none⟩ = some (.slice A n c) ∧ w.cell? ⟨(ad.add (k * 3)).block, (ad.add (k * 3)).off + 2, none⟩ = some (.int .i64 x.2.2) ∧ RI w A n x.2.1 ∧ n ≤ 9223372036854775807 ∧
    (-9223372036854775808 ≤ x.1 ∧ x.1 ≤ 9223372036854775807) ∧ (-9223372036854775808 ≤ x.2.2 ∧ x.2.2 ≤ 9223372036854775807) ∧ ∀ j, j < n → -9223372036854775808 ≤ nth x.2.1 j ∧ nth x.2.1 j ≤ 9223372036854775807 := by
  obtain ⟨A, n, c, h1, h2, h3, h4⟩ := h
  rw [add_form _ _ _ (by omega)] at h2 h3
  exact ⟨A, n, c, h1, h2, h3, h4⟩
end Go.Proofs.Ytemafljipkcgcaa
