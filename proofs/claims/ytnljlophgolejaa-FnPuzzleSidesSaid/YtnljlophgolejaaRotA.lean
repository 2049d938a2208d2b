/- Puzzles turned: new slices in a drawn order; a store kept apart. -/
import Derived.Test.YtnljlophgolejaaPuzM
import Derived.RegionTactic
import Derived.BigRegion
import Derived.Deep.OwnRows
import Derived.Deep.CutRange
import Derived.Deep.DeepCutAuto
import Derived.Deep.RegionHeld3
namespace Go.Proofs.Ytnljlophgolejaa
open Go.RowKit

theorem OI.ofCells {w : World} {base g n : Nat} {l : List Int} (hb : base ≤ g) (hg : w.heap[g]? = some (.cells (cellsI l).toArray 3 (0, 0))) (hn : n = l.length) (hm : n ≤ 1000000000000) : OI w base (.slice (some ⟨g, 0, none⟩) n n) l := by
  subst hn
  exact ⟨by simp [cellsI], .inr ⟨g, l.length, (cellsI l).toArray, rfl, hb, hg, Nat.le_refl _, by simp only [maxLen]; omega, by simp [cellsI], List.take_of_length_le (by simp [cellsI])⟩⟩
theorem made_cells (x : Nat) : madeCells #[Value.int .i64 0] x = (cellsI (List.replicate x 0)).toArray := by
  have := toList_madeCells_one (Value.int .i64 0) x
  rw [← Array.toList_inj]
  rw [this]
  simp [cellsI]
/-- Block b holds x zeros. -/
def MK (w : World) (b x : Nat) : Prop := w.heap[b]? = some (.cells (madeCells #[Value.int .i64 0] x) 3 (0, 0))
theorem OI.ofMade {w : World} {base g n : Nat} (hg : MK w g n) (hb : base ≤ g) (hm : n ≤ 1000000000000) : OI w base (.slice (some ⟨g, 0, none⟩) n n) (List.replicate n 0) :=
  OI.ofCells hb (by unfold MK at hg; rw [hg, made_cells]) (by simp) hm
theorem heap4 (w : World) (o1 o2 o3 o4 : Obj) (W : World) (hW : W = ((((w.alloc o1).alloc o2).alloc o3).alloc o4).drew) : W.heap[w.heap.size]? = some o1 ∧ W.heap[w.heap.size + 1]? = some o2 ∧ W.heap[w.heap.size + 1 + 1]? = some o3 ∧ W.heap[w.heap.size + 1 + 1 + 1]? = some o4 ∧ Below w.heap.size w W := by
  subst hW
  have b1 : Below w.heap.size w (w.alloc o1) := (Below.refl _ _).alloc (Nat.le_refl _) _
  have b2 := b1.alloc b1.size o2
  have b3 := b2.alloc b2.size o3
  have b4 := b3.alloc b3.size o4
  have h1 : (w.alloc o1).heap[w.heap.size]? = some o1 := heap_alloc_new w o1
  have h2 : ((w.alloc o1).alloc o2).heap[w.heap.size + 1]? = some o2 := by have := heap_alloc_new (w.alloc o1) o2; simpa using this
  have h3 : (((w.alloc o1).alloc o2).alloc o3).heap[w.heap.size + 1 + 1]? = some o3 := by have := heap_alloc_new ((w.alloc o1).alloc o2) o3; simpa using this
  have h4 : ((((w.alloc o1).alloc o2).alloc o3).alloc o4).heap[w.heap.size + 1 + 1 + 1]? = some o4 := by have := heap_alloc_new (((w.alloc o1).alloc o2).alloc o3) o4; simpa using this
  have k3 : ((((w.alloc o1).alloc o2).alloc o3).alloc o4).heap[w.heap.size + 1 + 1]? = some o3 := (Below.heap_alloc _ o4 _ (by simp)).trans h3
  have k2 : ((((w.alloc o1).alloc o2).alloc o3).alloc o4).heap[w.heap.size + 1]? = some o2 := (Below.heap_alloc _ o4 _ (by simp <;> omega)).trans ((Below.heap_alloc _ o3 _ (by simp <;> omega)).trans h2)
  have k1 : ((((w.alloc o1).alloc o2).alloc o3).alloc o4).heap[w.heap.size]? = some o1 := (Below.heap_alloc _ o4 _ (by simp <;> omega)).trans ((Below.heap_alloc _ o3 _ (by simp <;> omega)).trans ((Below.heap_alloc _ o2 _ (by simp)).trans h1))
  exact ⟨k1, k2, k3, h4, b4.drew⟩

/-- Three new slices of zeros and a puzzle of them, in whatever order they were made. -/
def Fresh3 (w w' : World) (n : Nat) (x : Nat) (v : Value) : Prop :=
  ∃ g b1 b2 b3, v = .pointer (some ⟨g, 0, none⟩) ∧
    BK w' g 53 [.int .i64 (n : Int), .slice (some ⟨b1, 0, none⟩) x x, .slice (some ⟨b2, 0, none⟩) x x, .slice (some ⟨b3, 0, none⟩) x x] ∧ MK w' b1 x ∧ MK w' b2 x ∧ MK w' b3 x ∧ Below w.heap.size w w' ∧ w.heap.size ≤ g ∧ w.heap.size ≤ b1 ∧ w.heap.size ≤ b2 ∧ w.heap.size ≤ b3 ∧ g ≠ b1 ∧ g ≠ b2 ∧ g ≠ b3 ∧ b1 ≠ b2 ∧ b1 ≠ b3 ∧ b2 ≠ b3

theorem OI.setOther {w : World} {base g1 g2 j n c : Nat} {u : Value} {l : List Int} (h : OI w base (.slice (some ⟨g2, 0, none⟩) n c) l) (hne : g1 ≠ g2) : OI (w.setCell ⟨g1, j, none⟩ u) base (.slice (some ⟨g2, 0, none⟩) n c) l :=
  h.kept (row := some g1) ⟨rfl, rfl, rfl, by simp, fun k _ hk => by
    have : g1 ≠ k := fun e => hk (by rw [e])
    simp [World.setCell, Array.getElem?_modify, this]⟩ (.inr fun e => hne (Option.some.inj e).symm)
theorem src_cell {w w' : World} {ad : Addr} {n k : Nat} {l : List Int} (h : RI w (some ad) n l) (hk : k < n) (b : Below w.heap.size w w') : w'.cell? (ad.add k) = some (.int .i64 (nth l k)) := by
  obtain ⟨ad', e, hc⟩ := (h.below b).cell hk
  obtain rfl := Option.some.inj e
  exact hc
/-- What a function leaves that returns a new puzzle and a bool. -/
def MakesPb (w : World) (S : Int) (L R B : List Int) (ok : Bool) : Ending → World → Prop := fun e w' =>
  ∃ A1 n1 c1 A2 n2 c2 A3 n3 c3, e = .returned (.tuple #[.agg #[.int .i64 S, .slice A1 n1 c1, .slice A2 n2 c2, .slice A3 n3 c3], .bool ok]) ∧ Three w' w.heap.size (.slice A1 n1 c1) (.slice A2 n2 c2) (.slice A3 n3 c3) L R B ∧ Below w.heap.size w w'
end Go.Proofs.Ytnljlophgolejaa

/- Labels exchanged; the ranges of a puzzle's labels. -/
namespace Go.Proofs.Ytnljlophgolejaa
open Go.RowKit

theorem puz_range {n r k : Nat} {L R B : List Int} {wt : Bool} (hp : puzB n L R B wt = true) (hr : r < n) (hk : k < r + 1) :
    (0 ≤ nth L (tri r + k) ∧ nth L (tri r + k) ≤ 2) ∧ (0 ≤ nth R (tri r + k) ∧ nth R (tri r + k) ≤ 2) ∧ (0 ≤ nth B (tri r + k) ∧ nth B (tri r + k) ≤ 3) := by
  unfold puzB at hp
  rw [Bool.and_eq_true] at hp
  have h1 := allB_at hp.2 (show r < Int.toNat (n : Int) by simpa using hr)
  unfold rowI at h1
  rw [Bool.and_eq_true] at h1
  have h2 := allB_at h1.2 hk
  unfold cellI at h2
  rw [Bool.and_eq_true] at h2
  have := up_range h2.1
  exact ⟨this.1, this.2.1, this.2.2.1⟩
theorem flip_eq {w : World} (x : Int) (h1 : 0 ≤ x) (h2 : x ≤ 3) : Calls Try.prog 86 #[.int .i64 x] w (fun e w' => e = .returned (.int .i64 (flipB x)) ∧ w' = w) := by
  go_enter Try.func86, Try.ntmps86
  by_cases h : x < 2
  · have HF : Hid (flipB x = 1 - x) := if_pos h
    go_wp2
    go_ret
    exact ⟨by rw [HF.out]; rfl, rfl⟩
  · have HF : Hid (flipB x = x) := if_neg h
    go_wp2
    go_ret
    exact ⟨by rw [HF.out]; rfl, rfl⟩
theorem place_eq {w : World} (R K : Int) (h1 : 0 ≤ R) (h2 : R ≤ 8) (h3 : 0 ≤ K) (h4 : K ≤ 8) : Calls Try.prog 93 #[.int .i64 R, .int .i64 K] w (fun e w' => e = .returned (.int .i64 (atI R K)) ∧ w' = w) := by
  obtain ⟨r, rfl⟩ := Int.eq_ofNat_of_zero_le h1
  obtain ⟨k, rfl⟩ := Int.eq_ofNat_of_zero_le h3
  obtain ⟨x, hx⟩ : ∃ x, tri r + k = x := ⟨_, rfl⟩
  rw [atI_eq rfl rfl hx]
  have h0 := tri_small (n := r) (by omega)
  have h1 := Lib.hid (tri_cast r)
  have h2 : (r : Int) * (r + 1) ≤ 72 := by
    have := Nat.mul_le_mul (show r ≤ 8 by omega) (show r + 1 ≤ 9 by omega)
    have e : (r : Int) * ((r : Int) + 1) = ((r * (r + 1) : Nat) : Int) := by simp
    omega
  have h3 : 0 ≤ (r : Int) * (r + 1) := Int.mul_nonneg (by omega) (by omega)
  have h5 : (r : Int) * (r + 1) / 2 + (k : Int) = (x : Int) := by rw [h1.out, ← hx]; simp
  go_enter Try.func93, Try.ntmps93
  go_wp2
  go_ret
  exact ⟨by first | rfl | (rw [← h5]; rfl) | simp [h5], rfl⟩
end Go.Proofs.Ytnljlophgolejaa
