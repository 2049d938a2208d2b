/- What fill does: the tableaux that go on with the rows that are there, in order; what a closure is asked that sees them. -/
import Derived.Test.YtgbojgmmingfdaaSchurL
import Derived.Test.YtgbojgmmingfdaaCloneS
namespace Go.Proofs.Ytgbojgmmingfdaa
open Go.RowKit

def prevOf (shape : List Int) (T : List (List Int)) : List Int := if T.length = 0 then List.replicate (nth shape 0).toNat (-1) else nthL T (T.length - 1)
/-- With whole rows. -/
def goA (shape : List Int) (n : Int) (T : List (List Int)) : List (List (List Int)) := (tabR n (prevOf shape T) (shape.drop T.length)).map (T ++ ·)
/-- With k more numbers in the row acc. -/
def goB (shape : List Int) (n : Int) (T : List (List Int)) (acc : List Int) (k : Nat) : List (List (List Int)) := (rowR n (prevOf shape T) k acc).flatMap fun row => goA shape n (T ++ [row])
theorem nthL_snoc (T : List (List Int)) (r : List Int) : nthL (T ++ [r]) T.length = r := by simp [nthL]
theorem nthL_app {T : List (List Int)} {j : Nat} (h : j < T.length) (r : List (List Int)) : nthL (T ++ r) j = nthL T j := by simp [nthL, List.getD, List.getElem?_append_left h]
theorem prevOf_snoc (shape : List Int) (T : List (List Int)) (r : List Int) : prevOf shape (T ++ [r]) = r := by
  unfold prevOf
  rw [if_neg (by simp), List.length_append, List.length_singleton, Nat.add_sub_cancel, nthL_snoc]
theorem goA_end {shape : List Int} {n : Int} {T : List (List Int)} (h : shape.length ≤ T.length) : goA shape n T = [T] := by
  unfold goA
  rw [List.drop_eq_nil_of_le h, tabR]; simp
theorem goA_row {shape : List Int} {n : Int} {T : List (List Int)} (h : T.length < shape.length) : goA shape n T = goB shape n T [] (nth shape T.length).toNat := by
  unfold goA goB
  rw [drop_nth h, tabR, List.map_flatMap]
  refine flatMap_same fun row _ => ?_
  unfold goA
  rw [List.map_map, prevOf_snoc, List.length_append, List.length_singleton]
  refine List.map_congr_left fun t _ => ?_
  simp
theorem goB_zero (shape : List Int) (n : Int) (T : List (List Int)) (acc : List Int) : goB shape n T acc 0 = goA shape n (T ++ [acc]) := by simp [goB, rowR]
theorem goB_succ (shape : List Int) (n : Int) (T : List (List Int)) (acc : List Int) (k : Nat) : goB shape n T acc (k + 1) = (upI (lowR (prevOf shape T) acc) (n - lowR (prevOf shape T) acc).toNat).flatMap fun x => goB shape n T (acc ++ [x]) k := by
  unfold goB
  rw [rowR, List.flatMap_assoc]
theorem goA_nil (shape : List Int) (n : Int) : goA shape n [] = tabs shape n := by
  unfold goA tabs prevOf
  simp
/-- Whole rows of a shape. -/
structure FS (shape : List Int) (n : Int) (T : List (List Int)) : Prop where
  le : T.length ≤ shape.length
  row : ∀ i, i < T.length → ((nthL T i).length : Int) = nth shape i
  ent : ∀ r ∈ T, ∀ x ∈ r, 0 ≤ x ∧ x < n
theorem FS.nil_ (shape : List Int) (n : Int) : FS shape n [] := ⟨Nat.zero_le _, by simp, by simp⟩
theorem FS.snoc {shape : List Int} {n : Int} {T : List (List Int)} {r : List Int} (h : FS shape n T) (hl : T.length < shape.length) (hr : (r.length : Int) = nth shape T.length) (he : ∀ x ∈ r, 0 ≤ x ∧ x < n) : FS shape n (T ++ [r]) := by
  refine ⟨by simp; omega, fun i hi => ?_, fun r' hr' => ?_⟩
  · rw [List.length_append, List.length_singleton] at hi
    by_cases h2 : i < T.length
    · rw [nthL_app h2]; exact h.row i h2
    · obtain rfl : i = T.length := by omega
      rw [nthL_snoc]; exact hr
  · rcases List.mem_append.1 hr' with hr' | hr'
    · exact h.ent r' hr'
    · rw [List.mem_singleton.1 hr']; exact he
theorem goA_len {shape : List Int} {n : Int} {T : List (List Int)} : ∀ t ∈ goA shape n T, T.length ≤ t.length := fun t ht => by
  obtain ⟨t', -, rfl⟩ := List.mem_map.1 ht
  simp
/-! ### closures that see -/
/-- Through a list, as long as it is wished. -/
def seeT {α S : Type} (step : S → α → S) (go : S → α → Bool) : S → List α → S × Bool
  | s, [] => (s, true)
  | s, p :: ps => if go s p = true then seeT step go (step s p) ps else (step s p, false)
section
variable {α S : Type} {step : S → α → S} {go : S → α → Bool}
theorem seeT_app (l1 l2 : List α) : ∀ s, seeT step go s (l1 ++ l2) = if (seeT step go s l1).2 = true then seeT step go (seeT step go s l1).1 l2 else seeT step go s l1 := by
  induction l1 with
  | nil => intro s; simp [seeT]
  | cons p l ih =>
    intro s
    rw [List.cons_append, seeT, seeT]
    by_cases h : go s p = true
    · rw [if_pos h, if_pos h, ih]
    · rw [if_neg h, if_neg h]
      simp
theorem seeT_all (hg : ∀ s p, go s p = true) (l : List α) : ∀ s, seeT step go s l = (l.foldl step s, true) := by
  induction l with
  | nil => intro s; rfl
  | cons p l ih => intro s; rw [seeT, if_pos (hg _ _), ih]; rfl
theorem seeT_one (s : S) (p : α) : seeT step go s [p] = (step s p, go s p) := by
  rw [seeT]
  by_cases h : go s p = true
  · rw [if_pos h, seeT, h]
  · rw [if_neg h]; simp at h; rw [h]
end
/-- The rows lie from block B on, and none of their blocks is among O. -/
def TO (B : Nat) (w : World) (O : Nat → Prop) (v : Value) (T : List (List Int)) (cells : List Value) : Prop :=
  OS w B B v T cells ∧ (∀ k, v.ownBlock = some k → ¬ O k) ∧ ∀ u ∈ cells, ∀ k, u.ownBlock = some k → ¬ O k
theorem OI.sameV {w w' : World} {b : Nat} {u : Value} {l : List Int} (h : OI w b u l) (hk : ∀ k, u.ownBlock = some k → w'.heap[k]? = w.heap[k]?) : OI w' b u l := by
  refine ⟨h.1, ?_⟩
  rcases h.2 with h1 | ⟨g, cap, cur, rfl, hb, hg, r⟩
  · exact .inl h1
  · exact .inr ⟨g, cap, cur, rfl, hb, (hk g rfl).trans hg, r⟩
theorem OF.sameV {w w' : World} {base b size n : Nat} {e : TypeId} {v : Value} {fs : List (Int ⊕ List Int)} {cells : List Value} (h : OF w base b e size v n fs cells) (hv : ∀ k, v.ownBlock = some k → w'.heap[k]? = w.heap[k]?)
    (hc : ∀ u ∈ cells, ∀ k, u.ownBlock = some k → w'.heap[k]? = w.heap[k]?) : OF w' base b e size v n fs cells := by
  refine ⟨⟨h.1.1, ?_⟩, ⟨h.2.1.1, fun j x u hx hu => ?_⟩, h.2.2⟩
  · rcases h.1.2 with h1 | ⟨g, cap, cur, rfl, hb, hg, r⟩
    · exact .inl h1
    · exact .inr ⟨g, cap, cur, rfl, hb, (hv g rfl).trans hg, r⟩
  · have hf := h.2.1.2 j x u hx hu
    cases x with
    | inl y => exact hf
    | inr l => exact OI.sameV (w := w) hf (hc u (List.mem_of_getElem? hu))
theorem FRs.ltC {w : World} {b : Nat} {fs : List (Int ⊕ List Int)} {cells : List Value} (h : FRs w b fs cells) {u : Value} (hu : u ∈ cells) : ∀ k, u.ownBlock = some k → b ≤ k ∧ k < w.heap.size := by
  obtain ⟨j, hj, e⟩ := List.getElem_of_mem hu
  have h1 : cells[j]? = some u := by rw [List.getElem?_eq_getElem hj, e]
  have hlt : j < fs.length := by have := h.1; omega
  exact (h.2 j fs[j] u (List.getElem?_eq_getElem hlt) h1).lt
section
variable {B : Nat} {w w' : World} {O O' : Nat → Prop} {v : Value} {T : List (List Int)} {cells : List Value}
theorem TO.keep (h : TO B w O v T cells) {X : Nat → Prop} (hk : Kept X w w') (h1 : ∀ k, v.ownBlock = some k → ¬ X k) (h2 : ∀ u ∈ cells, ∀ k, u.ownBlock = some k → ¬ X k) (hO : ∀ k, O' k → O k ∨ w.heap.size ≤ k) : TO B w' O' v T cells := by
  obtain ⟨a, b, c⟩ := h
  refine ⟨OF.sameV a (fun k hk2 => hk.block k (OF.lt a k hk2).2 (h1 k hk2)) fun u hu k hk2 => hk.block k (a.2.1.ltC hu k hk2).2 (h2 u hu k hk2), fun k hk2 h3 => ?_, fun u hu k hk2 h3 => ?_⟩
  · rcases hO k h3 with h4 | h4
    · exact b k hk2 h4
    · have := (OF.lt a k hk2).2; omega
  · rcases hO k h3 with h4 | h4
    · exact c u hu k hk2 h4
    · have := (a.2.1.ltC hu k hk2).2; omega
theorem TO.seen (h : TO B w O v T cells) (hk : Kept O w w') (hO : ∀ k, O' k → O k ∨ w.heap.size ≤ k) : TO B w' O' v T cells := h.keep hk h.2.1 h.2.2 hO
theorem TO.below (h : TO B w O v T cells) (b : Below w.heap.size w w') : TO B w' O v T cells := h.seen (Kept.of_below b) fun k h => .inl h
end
/-- What a closure is asked that sees tableaux. -/
structure ClosT (P : Program) (F : FuncId) (caps : Array Value) (B0 : Nat) (S : Type) (inv : World → S → (Nat → Prop) → Prop) (step : S → List (List Int) → S) (go : S → List (List Int) → Bool) (fit : S → Nat → Prop) (okp : List (List Int) → Prop) : Prop where
  ent : ∀ (args : Array Value) (w : World), (callFunc F args).run P w = .ok (.enter F args) w
  ge : ∀ {w : World} {s : S} {O : Nat → Prop}, inv w s O → ∀ k, O k → B0 ≤ k ∧ k < w.heap.size
  keep : ∀ {w w' : World} {s : S} {O : Nat → Prop}, inv w s O → Kept (fun k => B0 ≤ k ∧ ¬ O k) w w' → inv w' s O
  next : ∀ {s : S} {p : List (List Int)} {m : Nat}, fit s (m + 1) → okp p → go s p = true → fit (step s p) m
  less : ∀ {s : S} {m m' : Nat}, fit s m → m' ≤ m → fit s m'
  call : ∀ {w : World} {s : S} {O : Nat → Prop} {T : List (List Int)} {m : Nat} {A : Option Addr} {n c : Nat} {cells : List Value}, inv w s O → fit s (m + 1) → okp T → TO B0 w O (.slice A n c) T cells →
    Calls P F (#[.slice A n c] ++ caps) w (fun e w' => e = .returned (.bool (go s T)) ∧ ∃ O' : Nat → Prop, inv w' (step s T) O' ∧ (∀ k, O' k → O k ∨ w.heap.size ≤ k) ∧ Kept O w w')
theorem ClosT.all {P : Program} {F : FuncId} {caps : Array Value} {B0 : Nat} {S : Type} {inv : World → S → (Nat → Prop) → Prop} {step : S → List (List Int) → S} {go : S → List (List Int) → Bool} {fit : S → Nat → Prop} {okp : List (List Int) → Prop} (C : ClosT P F caps B0 S inv step go fit okp) (m : Nat) :
    ∀ (l : List (List (List Int))) (s : S), (∀ q ∈ l, okp q) → fit s (l.length + m) → (seeT step go s l).2 = true → fit (seeT step go s l).1 m := by
  intro l
  induction l with
  | nil => intro s _ h _; simpa [seeT] using h
  | cons p l ih =>
    intro s hok h h2
    rw [seeT] at h2 ⊢
    by_cases hg : go s p = true
    · rw [if_pos hg] at h2 ⊢
      exact ih _ (fun q hq => hok q (List.mem_cons_of_mem _ hq)) (C.next (by rw [List.length_cons] at h; rw [show l.length + m + 1 = l.length + 1 + m by omega]; exact h) (hok p (by simp)) hg) h2
    · rw [if_neg hg] at h2
      cases h2
/-- What a call leaves that has seen. -/
def PostT {S : Type} (inv : World → S → (Nat → Prop) → Prop) (O : Nat → Prop) (v : Value) (w : World) (res : S × Bool) : Ending → World → Prop := fun e w' =>
  e = .returned (.bool res.2) ∧ ∃ O' : Nat → Prop, inv w' res.1 O' ∧ (∀ k, O' k → O k ∨ w.heap.size ≤ k) ∧ Kept (fun k => O k ∨ v.ownBlock = some k) w w'
def stepsR (ms : List Int) : Nat := (ms.map fun m => m.toNat + 1).sum
theorem stepsR_drop {shape : List Int} {r : Nat} (h : r < shape.length) : stepsR (shape.drop r) = (nth shape r).toNat + 1 + stepsR (shape.drop (r + 1)) := by
  rw [drop_nth h]; simp [stepsR]
section
variable {F : FuncId} {caps : Array Value} {S : Type} {inv : World → S → (Nat → Prop) → Prop} {step : S → List (List Int) → S} {go : S → List (List Int) → Bool} {fit : S → Nat → Prop} {okp : List (List Int) → Prop}
/-- fill at whole rows. -/
def FillA (w0 : World) (shape : List Int) (As : Option Addr) (ns cs : Nat) (n : Int) (_ : ClosT Try.prog F caps w0.heap.size S inv step go fit okp) (d : Nat) : Prop :=
  ∀ (w : World) (s : S) (O : Nat → Prop) (T : List (List Int)) (A : Option Addr) (m c : Nat) (cells : List Value), inv w s O → TO w0.heap.size w O (.slice A m c) T cells → Below w0.heap.size w0 w → FS shape n T → stepsR (shape.drop T.length) = d →
    fit s (goA shape n T).length → (∀ q ∈ goA shape n T, okp q) →
    Calls Try.prog 63 #[.slice As ns cs, .int .i64 n, .slice A m c, .func (.func F) #[] caps] w (PostT inv O (.slice A m c) w (seeT step go s (goA shape n T)))
/-- fill in a row. -/
def FillB (w0 : World) (shape : List Int) (As : Option Addr) (ns cs : Nat) (n : Int) (_ : ClosT Try.prog F caps w0.heap.size S inv step go fit okp) (d : Nat) : Prop :=
  ∀ (w : World) (s : S) (O : Nat → Prop) (T : List (List Int)) (acc : List Int) (k : Nat) (A : Option Addr) (m c : Nat) (cells : List Value), inv w s O → TO w0.heap.size w O (.slice A m c) (T ++ [acc]) cells → Below w0.heap.size w0 w → FS shape n T →
    T.length < shape.length → ((acc.length + (k + 1) : Nat) : Int) = nth shape T.length → (∀ x ∈ acc, 0 ≤ x ∧ x < n) → k + 1 + stepsR (shape.drop (T.length + 1)) = d →
    fit s (goB shape n T acc (k + 1)).length → (∀ q ∈ goB shape n T acc (k + 1), okp q) →
    Calls Try.prog 63 #[.slice As ns cs, .int .i64 n, .slice A m c, .func (.func F) #[] caps] w (PostT inv O (.slice A m c) w (seeT step go s (goB shape n T acc (k + 1))))
end
end Go.Proofs.Ytgbojgmmingfdaa
