/- Words for memory, more: what is written lies between two block numbers; a field of an owned row is written. -/
import Derived.Test.YteodckkkjhapgaaNest
namespace Go.Proofs.Yteodckkkjhapgaa
open Go.RowKit

theorem slice_inj {A A' : Option Addr} {n n' c c' : Nat} (h : Value.slice A n c = Value.slice A' n' c') : A = A' ∧ n = n' ∧ c = c' := by
  injection h with h1 h2 h3
  exact ⟨h1, h2, h3⟩
theorem own_same {w w' : World} {base n size : Nat} {e : TypeId} {v : Value} {xs : List Value} (h : w.ownsRow base e size v n xs) (hs : ∀ k, v.ownBlock = some k → w'.heap[k]? = w.heap[k]?) : w'.ownsRow base e size v n xs := by
  refine ⟨h.1, ?_⟩
  rcases h.2 with hn | ⟨g, cap, cur, rfl, hb, hgg, rest⟩
  · exact .inl hn
  · exact .inr ⟨g, cap, cur, rfl, hb, (hs g rfl).trans hgg, rest⟩
theorem OI.same {w w' : World} {base : Nat} {v : Value} {l : List Int} (h : OI w base v l) (hs : ∀ k, v.ownBlock = some k → w'.heap[k]? = w.heap[k]?) : OI w' base v l := own_same h hs
theorem FR.same {w w' : World} {b : Nat} {x : Int ⊕ List Int} {u : Value} (h : FR w b x u) (hs : ∀ k, u.ownBlock = some k → w'.heap[k]? = w.heap[k]?) : FR w' b x u := by
  cases x with
  | inl n => exact h
  | inr l => exact OI.same h hs
theorem FRs.same {w w' : World} {b : Nat} {fs : List (Int ⊕ List Int)} {cells : List Value} (h : FRs w b fs cells) (hs : ∀ u ∈ cells, ∀ k, u.ownBlock = some k → w'.heap[k]? = w.heap[k]?) : FRs w' b fs cells :=
  ⟨h.1, fun j x u h1 h2 => (h.2 j x u h1 h2).same (hs u (List.mem_of_getElem? h2))⟩

/-- Nothing but blocks from lo to hi has turned. -/
structure Within (lo hi : Nat) (w w' : World) : Prop where
  os : w'.os = w.os
  tape : w'.tape = w.tape
  output : w'.output = w.output
  size : w.heap.size ≤ w'.heap.size
  block : ∀ k, k < w.heap.size → k < lo ∨ hi ≤ k → w'.heap[k]? = w.heap[k]?
section
variable {lo hi lo' hi' : Nat} {a b c w w' : World}
theorem Within.refl (lo hi : Nat) (w : World) : Within lo hi w w := ⟨rfl, rfl, rfl, Nat.le_refl _, fun _ _ _ => rfl⟩
theorem Within.trans (h : Within lo hi a b) (k : Within lo hi b c) : Within lo hi a c :=
  ⟨k.os.trans h.os, k.tape.trans h.tape, k.output.trans h.output, Nat.le_trans h.size k.size, fun i hi he => (k.block i (Nat.lt_of_lt_of_le hi h.size) he).trans (h.block i hi he)⟩
theorem Within.wide (h : Within lo hi a b) (h1 : lo' ≤ lo) (h2 : hi ≤ hi') : Within lo' hi' a b := ⟨h.os, h.tape, h.output, h.size, fun k hk he => h.block k hk (by omega)⟩
theorem Within.grown {row : Option Nat} (h : Within lo hi a b) (hg : b.grownBy c row) (hr : ∀ g, row = some g → lo ≤ g ∧ g < hi) : Within lo hi a c :=
  h.trans ⟨hg.os, hg.tape, hg.output, hg.size, fun k hk he => hg.block k hk (fun e => by have := hr k e.symm; omega)⟩
theorem Within.quiet (h : Within lo hi a b) (hq : Quiet b c) : Within lo hi a c := by
  obtain ⟨n, rfl⟩ := hq
  exact ⟨h.os, h.tape, h.output, h.size, h.block⟩
theorem Within.setCell (h : Within lo hi a b) {p : Addr} (hp : lo ≤ p.block ∧ p.block < hi) (u : Value) : Within lo hi a (b.setCell p u) :=
  h.trans ⟨rfl, rfl, rfl, by simp [World.setCell], fun k hk he => Below.heap_setCell _ _ _ _ (by omega)⟩
theorem below_within {B : Nat} (h : Below B a b) (hw : Within lo hi b c) (hB : B ≤ lo) (hs : B ≤ b.heap.size) : Below B a c :=
  h.trans ⟨hw.os, hw.tape, hw.output, hw.size, fun k hk => hw.block k (by omega) (.inl (by omega))⟩
theorem OI.within {base : Nat} {v : Value} {l : List Int} (h : OI w base v l) (hw : Within lo hi w w') (hs : ∀ k, v.ownBlock = some k → k < lo ∨ hi ≤ k) : OI w' base v l :=
  h.same fun k hk => hw.block k (h.lt k hk).2 (hs k hk)
end

/-- All blocks of a value and of its cells lie from lo to hi. -/
def In (lo hi : Nat) (v : Value) (cells : List Value) : Prop := (∀ k, v.ownBlock = some k → lo ≤ k ∧ k < hi) ∧ ∀ u ∈ cells, ∀ k, u.ownBlock = some k → lo ≤ k ∧ k < hi
section
variable {w w' : World} {base b size n lo hi lo' hi' : Nat} {e : TypeId} {v : Value} {fs : List (Int ⊕ List Int)} {cells : List Value}
theorem FRs.in_ (h : FRs w b fs cells) : ∀ u ∈ cells, ∀ k, u.ownBlock = some k → b ≤ k ∧ k < w.heap.size := by
  intro u hu k hk
  obtain ⟨j, hj, e⟩ := List.getElem_of_mem hu
  have hx : fs[j]? = some (fs[j]'(by rw [← h.1]; exact hj)) := List.getElem?_eq_getElem _
  exact (h.2 j _ u hx (by rw [List.getElem?_eq_getElem hj, e])).lt k hk
theorem OF.in_ (h : OF w base b e size v n fs cells) (hb : base ≤ b) : In base w.heap.size v cells :=
  ⟨h.lt, fun u hu k hk => by have := h.2.1.in_ u hu k hk; omega⟩
theorem OF.same (h : OF w base b e size v n fs cells) (hs : ∀ k, v.ownBlock = some k → w'.heap[k]? = w.heap[k]?) (hs2 : ∀ u ∈ cells, ∀ k, u.ownBlock = some k → w'.heap[k]? = w.heap[k]?) : OF w' base b e size v n fs cells :=
  ⟨own_same h.1 hs, h.2.1.same hs2, h.2.2⟩
theorem OF.within (h : OF w base b e size v n fs cells) (hi_ : In lo' hi' v cells) (hw : Within lo hi w w') (hs : hi' ≤ lo ∨ hi ≤ lo') : OF w' base b e size v n fs cells :=
  h.same (fun k hk => hw.block k (h.lt k hk).2 (by have := hi_.1 k hk; omega)) (fun u hu k hk => hw.block k (h.2.1.in_ u hu k hk).2 (by have := hi_.2 u hu k hk; omega))
theorem FRs.within (h : FRs w b fs cells) (hi_ : ∀ u ∈ cells, ∀ k, u.ownBlock = some k → lo' ≤ k ∧ k < hi') (hw : Within lo hi w w') (hs : hi' ≤ lo ∨ hi ≤ lo') : FRs w' b fs cells :=
  h.same (fun u hu k hk => hw.block k (h.in_ u hu k hk).2 (by have := hi_ u hu k hk; omega))
end

theorem OI.le {w : World} {b : Nat} {A : Option Addr} {n c : Nat} {l : List Int} (h : OI w b (.slice A n c) l) : n ≤ 9223372036854775807 ∧ n ≤ c := by
  obtain ⟨A', n', c', hv, _, h1, h2, _⟩ := h.form
  obtain ⟨_, rfl, rfl⟩ := slice_inj hv
  omega
theorem OI.typed {w : World} {b : Nat} {u : Value} {l : List Int} (h : OI w b u l) : ∀ k, u.ownBlock = some k → ∃ cs m, w.heap[k]? = some (.cells cs 3 m) := by
  intro k hk
  rcases h.2 with ⟨rfl, _⟩ | ⟨g, cap, cur, rfl, _, hh, _⟩
  · simp [Value.ownBlock] at hk
  · simp [Value.ownBlock] at hk
    subst hk
    exact ⟨_, _, hh⟩

section
variable {w w' : World} {base b size n m : Nat} {e : TypeId} {v u : Value} {fs : List (Int ⊕ List Int)} {cells : List Value} {l l' : List Int}
/-- One slice among fields was written. -/
theorem FRs.setInner (h : FRs w b fs cells) (hd : Dist cells) (hm : fs[m]? = some (.inr l)) (hu : cells[m]? = some u) (hg : w.grownBy w' u.ownBlock) (ho : OI w' b u l') : FRs w' b (fs.set m (.inr l')) cells := by
  refine ⟨by rw [List.length_set, h.1], fun j x a hx ha => ?_⟩
  by_cases hj : m = j
  · subst hj
    rw [List.getElem?_set_self (by exact (List.getElem?_eq_some_iff.1 hm).1)] at hx
    rw [hu] at ha
    injection hx with hx
    injection ha with ha
    subst hx ha
    exact ho
  · rw [List.getElem?_set_ne hj] at hx
    refine (h.2 j x a hx ha).same fun k hk => hg.block k ((h.2 j x a hx ha).lt k hk).2 (fun e => ?_)
    rcases Nat.lt_or_gt_of_ne hj with h1 | h1
    · rcases hd m j u a h1 hu ha with h2 | h2
      · rw [h2] at e; cases e
      · exact h2 (by rw [← e, hk])
    · rcases hd j m a u h1 ha hu with h2 | h2
      · rw [h2] at hk; cases hk
      · exact h2 (by rw [← e, hk])
theorem OF.setInner (h : OF w base b e size v n fs cells) (he : e ≠ 3) (hm : fs[m]? = some (.inr l)) (hu : cells[m]? = some u) (hg : w.grownBy w' u.ownBlock) (ho : OI w' b u l') : OF w' base b e size v n (fs.set m (.inr l')) cells := by
  refine ⟨own_same h.1 fun k hk => hg.block k (h.lt k hk).2 fun e' => ?_, h.2.1.setInner h.2.2 hm hu hg ho, h.2.2⟩
  obtain ⟨cs, m1, h1⟩ := h.typed k hk
  have hf : OI w b u l := h.2.1.2 m _ u hm hu
  obtain ⟨cs', m2, h2⟩ := hf.typed k e'.symm
  rw [h1] at h2
  injection h2 with h2
  injection h2 with _ h3
  exact he h3
/-- One number among fields was written. -/
theorem FRs.setInt (h : FRs w b fs cells) {x : Int} (hm : fs[m]? = some (.inl x)) (y : Int) : FRs w b (fs.set m (.inl y)) (cells.set m (.int .i64 y)) := by
  refine ⟨by simp [h.1], fun j x' a hx ha => ?_⟩
  by_cases hj : m = j
  · subst hj
    have hl := (List.getElem?_eq_some_iff.1 hm).1
    rw [List.getElem?_set_self hl] at hx
    rw [List.getElem?_set_self (by rw [h.1]; exact hl)] at ha
    injection hx with hx
    injection ha with ha
    subst hx ha
    rfl
  · rw [List.getElem?_set_ne hj] at hx ha
    exact h.2 j x' a hx ha
theorem Dist.setInt (h : Dist cells) (y : Int) : Dist (cells.set m (.int .i64 y)) := by
  intro i j a a' hij h1 h2
  by_cases hi : m = i
  · subst hi
    rw [List.getElem?_set] at h1
    simp only [if_true] at h1
    split at h1
    · injection h1 with h1; subst h1; exact .inl rfl
    · cases h1
  · rw [List.getElem?_set_ne hi] at h1
    by_cases hj : m = j
    · subst hj
      rw [List.getElem?_set] at h2
      simp only [if_true] at h2
      split at h2
      · injection h2 with h2; subst h2
        rcases hk : a.ownBlock with _ | k
        · exact .inl rfl
        · exact .inr (by simp [Value.ownBlock])
      · cases h2
    · rw [List.getElem?_set_ne hj] at h2
      exact h i j a a' hij h1 h2
theorem OF.setInt {g c : Nat} (h : OF w base b e size (.slice (some ⟨g, 0, none⟩) n c) n fs cells) (he : e ≠ 3) {x : Int} (hm : fs[m]? = some (.inl x)) (y : Int) :
    OF (w.setCell ⟨g, m, none⟩ (.int .i64 y)) base b e size (.slice (some ⟨g, 0, none⟩) n c) n (fs.set m (.inl y)) (cells.set m (.int .i64 y)) ∧ w.grownBy (w.setCell ⟨g, m, none⟩ (.int .i64 y)) (some g) := by
  obtain ⟨h1, h2⟩ := h.1.stored m (.int .i64 y)
  exact ⟨⟨h1, (h.2.1.kept_type h2 (fun g' e' => by
    injection e' with e'; subst e'
    exact h.typed' he g rfl)).setInt hm y, h.2.2.setInt y⟩, h2⟩
theorem OF.cellF {g c : Nat} (h : OF w base b e size (.slice (some ⟨g, 0, none⟩) n c) n fs cells) (hm : m < n * size) : w.cell? ⟨g, m, none⟩ = cells[m]? := h.1.cellAt m hm
theorem OF.frozenF {g c : Nat} (h : OF w base b e size (.slice (some ⟨g, 0, none⟩) n c) n fs cells) (m : Nat) : w.frozen? ⟨g, m, none⟩ = false := h.1.frozenAt m
theorem OF.shape (h : OF w base b e size v n fs cells) (hn : 0 < n) : ∃ g c, v = .slice (some ⟨g, 0, none⟩) n c ∧ base ≤ g ∧ g < w.heap.size := by
  obtain ⟨g, c, h1, h2, h3⟩ := World.ownsRow.form h.1 hn
  exact ⟨g, c, h1, h2, h3⟩
end

/-- How many marks a field takes; the mark before field m; a field marked; fields of which the first m are marked from k0 on. -/
def wF : Int ⊕ List Int → Nat
  | .inl _ => 1
  | .inr l => l.length
def getF (fs : List (Int ⊕ List Int)) (j : Nat) : Int ⊕ List Int := fs.getD j (.inl 0)
def kF (fs : List (Int ⊕ List Int)) (k0 : Int) : Nat → Int
  | 0 => k0
  | m + 1 => kF fs k0 m + wF (getF fs m)
def mkF : Int ⊕ List Int → Int → Int ⊕ List Int
  | .inl _, k => .inl k
  | .inr l, k => .inr (upFrom k l.length)
def markedF (fs : List (Int ⊕ List Int)) (k0 : Int) (m : Nat) : List (Int ⊕ List Int) :=
  (List.range fs.length).map fun j => if j < m then mkF (getF fs j) (kF fs k0 j) else getF fs j
theorem getF_at {fs : List (Int ⊕ List Int)} {j : Nat} {x : Int ⊕ List Int} (h : fs[j]? = some x) : getF fs j = x := by simp [getF, List.getD, h]
theorem getF_lt {fs : List (Int ⊕ List Int)} {j : Nat} (h : j < fs.length) : fs[j]? = some (getF fs j) := by simp [getF, List.getD, h]
theorem markedF_len (fs : List (Int ⊕ List Int)) (k0 : Int) (m : Nat) : (markedF fs k0 m).length = fs.length := by simp [markedF]
theorem markedF_zero (fs : List (Int ⊕ List Int)) (k0 : Int) : markedF fs k0 0 = fs := by
  apply List.ext_getElem (by simp [markedF])
  intro i h1 h2
  simp [markedF, getF, List.getD, h2]
theorem markedF_at {fs : List (Int ⊕ List Int)} {k0 : Int} {m j : Nat} (h : j < fs.length) : (markedF fs k0 m)[j]? = some (if j < m then mkF (getF fs j) (kF fs k0 j) else getF fs j) := by
  simp [markedF, h]
theorem markedF_new {fs : List (Int ⊕ List Int)} {k0 : Int} {m : Nat} {x : Int ⊕ List Int} (h : fs[m]? = some x) : (markedF fs k0 m)[m]? = some x := by
  rw [markedF_at (List.getElem?_eq_some_iff.1 h).1, if_neg (by omega), getF_at h]
theorem markedF_old {fs : List (Int ⊕ List Int)} {k0 : Int} {m j : Nat} {x : Int ⊕ List Int} (h : fs[j]? = some x) (hj : j < m) : (markedF fs k0 m)[j]? = some (mkF x (kF fs k0 j)) := by
  rw [markedF_at (List.getElem?_eq_some_iff.1 h).1, if_pos hj, getF_at h]
theorem markedF_step {fs : List (Int ⊕ List Int)} {k0 : Int} {m : Nat} {x : Int ⊕ List Int} (h : fs[m]? = some x) : (markedF fs k0 m).set m (mkF x (kF fs k0 m)) = markedF fs k0 (m + 1) := by
  apply List.ext_getElem?
  intro j
  rcases Nat.lt_or_ge j fs.length with hj | hj
  · rw [markedF_at (m := m + 1) hj]
    by_cases e : m = j
    · subst e
      rw [List.getElem?_set_self (by rw [markedF_len]; exact hj), if_pos (by omega), getF_at h]
    · rw [List.getElem?_set_ne e, markedF_at hj]
      by_cases h1 : j < m
      · rw [if_pos h1, if_pos (by omega)]
      · rw [if_neg h1, if_neg (by omega)]
  · rw [List.getElem?_eq_none (by rw [List.length_set, markedF_len]; exact hj), List.getElem?_eq_none (by rw [markedF_len]; exact hj)]
theorem kF_step {fs : List (Int ⊕ List Int)} {k0 : Int} {m : Nat} {x : Int ⊕ List Int} (h : fs[m]? = some x) : kF fs k0 (m + 1) = kF fs k0 m + wF x := by rw [kF, getF_at h]
theorem kF_bound {fs : List (Int ⊕ List Int)} {k0 : Int} {W : Nat} (h : ∀ x ∈ fs, wF x ≤ W) (hW : 1 ≤ W) (m : Nat) : k0 ≤ kF fs k0 m ∧ kF fs k0 m ≤ k0 + ((m * W : Nat) : Int) := by
  induction m with
  | zero => simp [kF]
  | succ m ih =>
    have hw : wF (getF fs m) ≤ W := by
      rcases Nat.lt_or_ge m fs.length with hm | hm
      · exact h _ (List.mem_of_getElem? (getF_lt hm))
      · have : getF fs m = .inl 0 := by simp [getF, List.getD, List.getElem?_eq_none hm]
        rw [this]; exact hW
    simp only [kF, Nat.succ_mul]
    omega
end Go.Proofs.Yteodckkkjhapgaa
