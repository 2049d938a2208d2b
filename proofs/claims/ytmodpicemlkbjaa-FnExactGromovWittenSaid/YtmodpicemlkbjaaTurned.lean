/- A slice of parts in a variable of its own; what turns where parts are gathered in it. -/
import Derived.Test.YtmodpicemlkbjaaIns
import Derived.Test.YtmodpicemlkbjaaBin
import Derived.Test.YtmodpicemlkbjaaPlain
import Derived.Test.YtmodpicemlkbjaaWords
import Derived.Test.YtmodpicemlkbjaaDraw
namespace Go.Proofs.Ytmodpicemlkbjaa
open Go.RowKit

/-- Nothing but block g and the row of v has turned. -/
structure Turn (g : Nat) (v : Value) (w w' : World) : Prop where
  os : w'.os = w.os
  tape : w'.tape = w.tape
  output : w'.output = w.output
  size : w.heap.size ≤ w'.heap.size
  block : ∀ k, k < w.heap.size → k ≠ g → v.ownBlock ≠ some k → w'.heap[k]? = w.heap[k]?
section
variable {g : Nat} {v v1 : Value} {w w1 w2 : World}
theorem Turn.refl (g : Nat) (v : Value) (w : World) : Turn g v w w := ⟨rfl, rfl, rfl, Nat.le_refl _, fun _ _ _ _ => rfl⟩
theorem Turn.of_below (h : Below w.heap.size w w1) : Turn g v w w1 := ⟨h.os, h.tape, h.output, h.size, fun k hk _ _ => h.block k hk⟩
theorem Turn.of_grown (h : w.grownBy w1 v.ownBlock) : Turn g v w w1 := ⟨h.os, h.tape, h.output, h.size, fun k hk _ hne => h.block k hk (Ne.symm hne)⟩
theorem Turn.trans (h : Turn g v w w1) (hf : From w v v1) (k : Turn g v1 w1 w2) : Turn g v w w2 :=
  ⟨k.os.trans h.os, k.tape.trans h.tape, k.output.trans h.output, Nat.le_trans h.size k.size, fun i hi hg hne => by
    refine (k.block i (Nat.lt_of_lt_of_le hi h.size) hg fun e => ?_).trans (h.block i hi hg hne)
    rcases hf with hf | hf
    · exact hne (by rw [← hf, e])
    · have := hf i e; omega⟩
theorem Turn.store (h : Turn g v w w1) (j : Nat) (u : Value) : Turn g v w (w1.setCell ⟨g, j, none⟩ u) :=
  ⟨h.os, h.tape, h.output, by simpa [World.setCell] using h.size, fun i hi hg hne => (Below.heap_setCell _ _ _ _ (by simpa using hg)).trans (h.block i hi hg hne)⟩
theorem Turn.row {G : Nat} (h : Turn g v w w1) (hf : From w v v1) (hG : v1.ownBlock = some G) (j : Nat) (u : Value) : Turn g v w (w1.setCell ⟨G, j, none⟩ u) :=
  ⟨h.os, h.tape, h.output, by simpa [World.setCell] using h.size, fun i hi hg hne => by
    refine (Below.heap_setCell _ _ _ _ (fun e => ?_)).trans (h.block i hi hg hne)
    simp only at e
    subst e
    rcases hf with hf | hf
    · exact hne (by rw [← hf, hG])
    · have := hf i hG; omega⟩
theorem Turn.drewN (h : Turn g v w w1) (n : Nat) : Turn g v w (w1.drewN n) := ⟨h.os, h.tape, h.output, h.size, h.block⟩
theorem Turn.below {B base b : Nat} {ps : List (List Int × Int)} {cells : List Value} (h : Turn g v w w1) (hg : B ≤ g) (ho : OP w base b v ps cells) (hb : B ≤ base) (hs : B ≤ w.heap.size) : Below B w w1 :=
  ⟨h.os, h.tape, h.output, h.size, fun k hk => h.block k (by omega) (by omega) fun e => by have := (OF.lt ho k e).1; omega⟩
end

/-- A slice that reads as numbers and lies in a block of numbers. -/
structure RT (w : World) (A : Option Addr) (n : Nat) (l : List Int) : Prop where
  ri : RI w A n l
  ty : ∀ ad, A = some ad → 0 < n → ∃ cs m, w.heap[ad.block]? = some (.cells cs 3 m)
/-- The parts gathered in block g. -/
structure VO (w : World) (g base b : Nat) (v : Value) (ps : List (List Int × Int)) (cells : List Value) : Prop where
  cel : BK w g 35 [v]
  own : OP w base b v ps cells
theorem RT.turn {w w' : World} {g base b : Nat} {v : Value} {ps : List (List Int × Int)} {cells : List Value} {A : Option Addr} {n : Nat} {l : List Int} (h : RT w A n l) (ho : VO w g base b v ps cells) (t : Turn g v w w') : RT w' A n l := by
  have key : ∀ ad, A = some ad → 0 < n → w'.heap[ad.block]? = w.heap[ad.block]? := fun ad e hn => by
    obtain ⟨cs, m, hb⟩ := h.ty ad e hn
    have hlt : ad.block < w.heap.size := by
      by_cases h1 : ad.block < w.heap.size
      · exact h1
      · rw [Array.getElem?_eq_none (by omega)] at hb; cases hb
    refine t.block _ hlt (fun e2 => ?_) fun e2 => ?_
    · have hc := ho.cel
      unfold BK at hc
      rw [← e2, hb] at hc
      injection hc with hc
      injection hc with _ hc
      exact absurd hc (by decide)
    · obtain ⟨cs', m', hh⟩ := OF.typed ho.own _ e2
      rw [hb] at hh
      injection hh with hh
      injection hh with _ hh
      exact absurd hh (by decide)
  refine ⟨⟨h.ri.1, fun hn => ?_⟩, fun ad e hn => ?_⟩
  · obtain ⟨ad, e, hc⟩ := h.ri.2 hn
    refine ⟨ad, e, fun j hj => ?_⟩
    have hc1 := hc j hj
    unfold World.cell? at hc1 ⊢
    rw [show (ad.add j).block = ad.block from block_of_add ad j] at hc1 ⊢
    rw [key ad e hn]
    exact hc1
  · obtain ⟨cs, m, hb⟩ := h.ty ad e hn
    exact ⟨cs, m, by rw [key ad e hn]; exact hb⟩
theorem RT.of_OI {w : World} {base : Nat} {A : Option Addr} {n c : Nat} {l : List Int} (h : OI w base (.slice A n c) l) : RT w A n l := by
  refine ⟨h.ri, fun ad e hn => ?_⟩
  rcases h.2 with ⟨he, _⟩ | ⟨g, cap, cur, he, hb, hg, _⟩
  · obtain ⟨rfl, -, -⟩ := slice_inj he; cases e
  · obtain ⟨rfl, -, -⟩ := slice_inj he
    injection e with e
    subst e
    exact ⟨_, _, hg⟩
theorem RT.below {w w' : World} {A : Option Addr} {n : Nat} {l : List Int} (h : RT w A n l) (b : Below w.heap.size w w') : RT w' A n l :=
  ⟨h.ri.below b, fun ad e hn => by
    obtain ⟨cs, m, hb⟩ := h.ty ad e hn
    have hlt : ad.block < w.heap.size := by
      by_cases h1 : ad.block < w.heap.size
      · exact h1
      · rw [Array.getElem?_eq_none (by omega)] at hb; cases hb
    exact ⟨cs, m, (b.block _ hlt).trans hb⟩⟩
theorem VO.below {w w' : World} {g base b : Nat} {v : Value} {ps : List (List Int × Int)} {cells : List Value} (h : VO w g base b v ps cells) (hb : Below w.heap.size w w') : VO w' g base b v ps cells :=
  ⟨h.cel.below hb h.cel.lt, OP.below h.own hb⟩
theorem VO.ne {w : World} {g base b : Nat} {v : Value} {ps : List (List Int × Int)} {cells : List Value} (h : VO w g base b v ps cells) : v.ownBlock ≠ some g := fun e => by
  obtain ⟨cs, m, hh⟩ := OF.typed h.own _ e
  have hc := h.cel
  unfold BK at hc
  rw [hh] at hc
  injection hc with hc
  injection hc with _ hc
  exact absurd hc (by decide)
theorem OP.frozen {w : World} {base b g n c : Nat} {ps : List (List Int × Int)} {cells : List Value} (h : OP w base b (.slice (some ⟨g, 0, none⟩) n c) ps cells) (j : Nat) : w.frozen? ⟨g, j, none⟩ = false := by
  have hn : n = ps.length := by
    obtain ⟨A, c', hv, _⟩ := OF.form h
    injection hv
  subst hn
  exact OF.frozenF h j
/-- The variable is written. -/
theorem VO.put {w : World} {g base b : Nat} {v v' : Value} {ps : List (List Int × Int)} {cells : List Value} (hk : BK w g 35 [v]) (ho : OP w base b v' ps cells) (hne : v'.ownBlock ≠ some g) : VO (w.setCell ⟨g, 0, none⟩ v') g base b v' ps cells := by
  have hg := BK.grown hk 0 v'
  refine ⟨hk.set 0 v', OF.kept ho hg ?_ fun g' e => ?_⟩
  · rcases h : v'.ownBlock with _ | k
    · exact .inl rfl
    · exact .inr (by rw [← h]; exact hne)
  · injection e with e
    subst e
    exact ⟨_, _, _, hk, by decide⟩
/-- A count among the parts is written. -/
theorem partF_set (ps : List (List Int × Int)) (p : Nat) (y : Int) (h : p < ps.length) : (partF ps).set (p * 2 + 1) (.inl y) = partF (ps.take p ++ [((nthP ps p).1, y)] ++ ps.drop (p + 1)) := by
  induction ps generalizing p with
  | nil => simp at h
  | cons q r ih =>
    cases p with
    | zero => simp [partF, nthP]
    | succ p =>
      have := ih p (by simpa using h)
      have e : (p + 1) * 2 + 1 = p * 2 + 1 + 1 + 1 := by omega
      have e2 : nthP (q :: r) (p + 1) = nthP r p := by simp [nthP, List.getD]
      simp only [partF, List.flatMap_cons] at this ⊢
      rw [e, e2]
      simp only [List.cons_append, List.nil_append, List.set_cons_succ, List.take_succ_cons, List.drop_succ_cons, List.flatMap_cons]
      rw [this]
theorem set_len (ps : List (List Int × Int)) (p : Nat) (x : List Int × Int) (h : p < ps.length) : (ps.take p ++ [x] ++ ps.drop (p + 1)).length = ps.length := by simp; omega
theorem OP.setCount {w : World} {base b g n c p : Nat} {ps : List (List Int × Int)} {cells : List Value} (h : OP w base b (.slice (some ⟨g, 0, none⟩) n c) ps cells) (hp : p < ps.length) (y : Int) :
    OP (w.setCell ⟨g, p * 2 + 1, none⟩ (.int .i64 y)) base b (.slice (some ⟨g, 0, none⟩) n c) (ps.take p ++ [((nthP ps p).1, y)] ++ ps.drop (p + 1)) (cells.set (p * 2 + 1) (.int .i64 y)) ∧ w.grownBy (w.setCell ⟨g, p * 2 + 1, none⟩ (.int .i64 y)) (some g) := by
  have hn : n = ps.length := by
    obtain ⟨A, c', hv, _⟩ := OF.form h
    injection hv
  subst hn
  obtain ⟨h1, h2⟩ := OF.setInt h (by decide) (partF_at1 hp) y
  refine ⟨?_, h2⟩
  unfold OP
  rw [set_len ps p _ hp, ← partF_set ps p y hp]
  exact h1
/-- What a call of a gathering closure leaves. -/
def Sees (w : World) (g base b : Nat) (v : Value) (ps : List (List Int × Int)) : Ending → World → Prop := fun e w' =>
  ∃ v' cells', e = .returned (.tuple #[]) ∧ VO w' g base b v' ps cells' ∧ Turn g v w w' ∧ From w v v'
end Go.Proofs.Ytmodpicemlkbjaa
