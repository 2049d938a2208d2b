/- Words for memory: a slice that reads as a list of numbers, a slice that the call itself owns, and the laws of append and make in these words. -/
import Derived.Test.YteodckkkjhapgaaRows
import Derived.Test.YteodckkkjhapgaaPlain
import Derived.WalkKit
import Derived.WalkSpells
import Derived.ProofKit
import Derived.Below
import Derived.Lib.Hide
import Derived.Laws.OwnMore
import Derived.Deep.AppendLies
import Derived.Maps.AppendAt
import Derived.Deep.Draws
import Derived.Deep.QuietTactic
import Derived.BigQuiet
import Derived.OpenShut
import Derived.BigGuardPart
import Derived.Deep.RegionLaw
namespace Go.Proofs.Yteodckkkjhapgaa
open Go.RowKit

/-- The cells of a list of numbers. -/
def cellsI (l : List Int) : List Value := l.map (Value.int .i64)
theorem cellsI_length (l : List Int) : (cellsI l).length = l.length := by simp [cellsI]
theorem cellsI_at (l : List Int) (j : Nat) (h : j < l.length) : (cellsI l)[j]? = some (.int .i64 (nth l j)) := by
  simp [cellsI, nth, List.getD, h]
theorem cellsI_one (l : List Int) : ∀ u ∈ cellsI l, u.oneCell' = true := ints_oneCell _ _

/-- The world that a function leaves which only reads. -/
def Quiet (w w' : World) : Prop := ∃ k, w.drewN k = w'
theorem Quiet.refl (w : World) : Quiet w w := ⟨0, rfl⟩
theorem Quiet.below {B : Nat} {w w' : World} (h : Quiet w w') : Below B w w' := by
  obtain ⟨k, rfl⟩ := h
  exact ⟨rfl, rfl, rfl, Nat.le_refl _, fun _ _ => rfl⟩
theorem below_drewN {B : Nat} {a w : World} (h : Below B a w) (n : Nat) : Below B a (w.drewN n) := ⟨h.os, h.tape, h.output, h.size, h.block⟩

theorem block_of_add (a : Addr) (n : Nat) : (a.add n).block = a.block := by unfold Addr.add; split <;> rfl
theorem add_zero_ (a : Addr) : a.add 0 = a := by simp [Addr.add]
theorem add_of_add (a : Addr) (i j : Nat) : (a.add i).add j = a.add (i + j) := by
  unfold Addr.add
  by_cases hi : i = 0 <;> by_cases hj : j = 0 <;> simp [hi, hj, Nat.add_assoc]

/-- The slice with address A and length n reads as the numbers l. -/
def RI (w : World) (A : Option Addr) (n : Nat) (l : List Int) : Prop :=
  l.length = n ∧ (0 < n → ∃ ad, A = some ad ∧ ∀ j, j < n → w.cell? (ad.add j) = some (.int .i64 (nth l j)))

section
variable {w w' : World} {B n : Nat} {A : Option Addr} {l : List Int}
theorem RI.nil_ : RI w A 0 [] := ⟨rfl, fun h => absurd h (by omega)⟩
theorem RI.cell {k : Nat} (h : RI w A n l) (hk : k < n) : ∃ ad, A = some ad ∧ w.cell? (ad.add k) = some (.int .i64 (nth l k)) := by
  obtain ⟨ad, e, hc⟩ := h.2 (by omega)
  exact ⟨ad, e, hc k hk⟩
theorem RI.lt {ad : Addr} (h : RI w (some ad) n l) (hn : 0 < n) : ad.block < w.heap.size := by
  obtain ⟨ad', e, hc⟩ := h.2 hn
  injection e with e; subst e
  have := World.block_lt_of_cell? w _ (hc 0 hn)
  rwa [block_of_add] at this
theorem RI.keep (h : RI w A n l) (hk : ∀ p : Addr, p.block < w.heap.size → w'.cell? p = w.cell? p) : RI w' A n l :=
  ⟨h.1, fun hn => by
    obtain ⟨ad, e, hc⟩ := h.2 hn
    refine ⟨ad, e, fun j hj => ?_⟩
    rw [hk _ (World.block_lt_of_cell? w _ (hc j hj))]
    exact hc j hj⟩
theorem RI.below (h : RI w A n l) (hb : Below w.heap.size w w') : RI w' A n l := h.keep fun _ hp => hb.cell hp
theorem RI.quiet (h : RI w A n l) (hb : Quiet w w') : RI w' A n l := h.below hb.below
theorem RI.drewN (h : RI w A n l) (k : Nat) : RI (w.drewN k) A n l := h
theorem RI.alloc (h : RI w A n l) (o : Obj) : RI (w.alloc o) A n l := h.keep fun p hp => World.cell?_alloc_lt w o p hp
theorem RI.take (h : RI w A n l) {k : Nat} (hk : k ≤ n) : RI w A k (l.take k) := by
  refine ⟨by rw [List.length_take, h.1]; omega, fun hn => ?_⟩
  obtain ⟨ad, e, hc⟩ := h.2 (by omega)
  refine ⟨ad, e, fun j hj => ?_⟩
  rw [hc j (by omega)]
  congr 2
  simp [nth, List.getD, List.getElem?_take, hj]
theorem RI.cut (h : RI w A n l) {k cap : Nat} (hk : k ≤ n) (hc : n ≤ cap) : RI w (if cap = k then A else A.map (·.add k)) (n - k) (l.drop k) := by
  refine ⟨by rw [List.length_drop, h.1], fun hn => ?_⟩
  obtain ⟨ad, rfl, hcell⟩ := h.2 (by omega)
  rw [if_neg (by omega)]
  refine ⟨ad.add k, rfl, fun j hj => ?_⟩
  rw [add_of_add, hcell _ (by omega)]
  congr 2
  simp [nth, List.getD, List.getElem?_drop]
end

/-- The value is a slice that the call owns from block 'base' on, and reads as the numbers l. -/
def OI (w : World) (base : Nat) (v : Value) (l : List Int) : Prop := w.ownsRow base 3 1 v l.length (cellsI l)

section
variable {w w' : World} {base : Nat} {v : Value} {l : List Int}
theorem OI.nil_ (w : World) (base : Nat) : OI w base (.slice none 0 0) [] := World.ownsRow_nil _ _ _ _
/-- What an owned slice is, as the walk wants it. -/
theorem OI.form (h : OI w base v l) : ∃ A n c, v = .slice A n c ∧ RI w A n l ∧ n ≤ c ∧ c ≤ 9223372036854775807 ∧ (A = none → n = 0 ∧ c = 0) := by
  rcases h.2 with ⟨rfl, hn⟩ | ⟨g, cap, cur, rfl, hb, hg, hnc, hcm, hs, ht⟩
  · have hl : l = [] := List.eq_nil_of_length_eq_zero hn
    subst hl
    exact ⟨_, _, _, rfl, RI.nil_, by simp, by simp, fun _ => ⟨rfl, rfl⟩⟩
  · refine ⟨_, _, _, rfl, ⟨rfl, fun hn => ⟨_, rfl, fun j hj => ?_⟩⟩, hnc, by simpa [maxLen] using hcm, fun h => by cases h⟩
    exact h.cells (g := g) rfl j _ (cellsI_at l j hj)
theorem OI.ri {A : Option Addr} {n c : Nat} (h : OI w base (.slice A n c) l) : RI w A n l := by
  obtain ⟨A', n', c', he, hr, _⟩ := h.form
  injection he with h1 h2 h3
  subst h1 h2
  exact hr
theorem OI.lt (h : OI w base v l) : ∀ k, v.ownBlock = some k → base ≤ k ∧ k < w.heap.size := World.ownsRow.lt h
/-- What was made first lies apart from what was made later. -/
theorem apart {wa wb : World} {b1 b2 : Nat} {v1 v2 : Value} {l1 l2 : List Int} (h1 : OI wa b1 v1 l1) (h2 : OI wb b2 v2 l2) (h : wa.heap.size ≤ b2) : v1.ownBlock = none ∨ v1.ownBlock ≠ v2.ownBlock := by
  rcases h' : v1.ownBlock with _ | k
  · exact .inl rfl
  · refine .inr fun e => ?_
    have := (h1.lt k h').2
    have := (h2.lt k e.symm).1
    omega
theorem flip_apart {v1 v2 : Value} (h : v1.ownBlock = none ∨ v1.ownBlock ≠ v2.ownBlock) : v2.ownBlock = none ∨ v2.ownBlock ≠ v1.ownBlock := by
  rcases h with h | h
  · rcases h' : v2.ownBlock with _ | k
    · exact .inl rfl
    · exact .inr (by rw [h]; simp)
  · exact .inr (Ne.symm h)
theorem OI.kept {row : Option Nat} (h : OI w base v l) (hg : w.grownBy w' row) (hne : v.ownBlock = none ∨ v.ownBlock ≠ row) : OI w' base v l := World.ownsRow.kept h hg hne
theorem OI.alloc (h : OI w base v l) (o : Obj) : OI (w.alloc o) base v l := World.ownsRow.alloc h o
theorem OI.below (h : OI w base v l) (hb : Below w.heap.size w w') : OI w' base v l :=
  World.ownsRow.kept h (row := none) ⟨hb.os, hb.tape, hb.output, hb.size, fun k hk _ => hb.block k hk⟩ (by cases hv : v.ownBlock <;> simp)
theorem OI.mono {base' : Nat} (h : OI w base v l) (hb : base' ≤ base) : OI w base' v l := by
  refine ⟨h.1, ?_⟩
  rcases h.2 with hn | ⟨g, cap, cur, rfl, hg, r⟩
  · exact .inl hn
  · exact .inr ⟨g, cap, cur, rfl, Nat.le_trans hb hg, r⟩
end

section
variable {w : World} {base g n c : Nat} {l : List Int}
theorem OI.len (h : OI w base (.slice (some ⟨g, 0, none⟩) n c) l) : l.length = n := by
  obtain ⟨A, n', c', he, hr, _⟩ := h.form
  injection he with h1 h2 h3
  subst h2
  exact hr.1
theorem OI.own (h : OI w base (.slice (some ⟨g, 0, none⟩) n c) l) : w.ownsRow base 3 1 (.slice (some ⟨g, 0, none⟩) n c) n (cellsI l) := by
  have := h.len
  unfold OI at h
  rwa [this] at h
theorem OI.cellAt (h : OI w base (.slice (some ⟨g, 0, none⟩) n c) l) {j : Nat} (hj : j < n) : w.cell? ⟨g, j, none⟩ = some (.int .i64 (nth l j)) := by
  rw [h.own.cellAt j (by omega)]
  exact cellsI_at l j (by rw [h.len]; exact hj)
theorem OI.frozenAt (h : OI w base (.slice (some ⟨g, 0, none⟩) n c) l) (j : Nat) : w.frozen? ⟨g, j, none⟩ = false := h.own.frozenAt j
theorem OI.stored (h : OI w base (.slice (some ⟨g, 0, none⟩) n c) l) (j : Nat) (y : Int) :
    OI (w.setCell ⟨g, j, none⟩ (.int .i64 y)) base (.slice (some ⟨g, 0, none⟩) n c) (l.set j y) ∧ w.grownBy (w.setCell ⟨g, j, none⟩ (.int .i64 y)) (some g) := by
  obtain ⟨h1, h2⟩ := h.own.stored j (.int .i64 y)
  refine ⟨?_, h2⟩
  unfold OI
  rw [List.length_set, h.len]
  have e : cellsI (l.set j y) = (cellsI l).set j (.int .i64 y) := by simp [cellsI, List.map_set]
  rw [e]
  exact h1
end

theorem OI.take {w : World} {base n c : Nat} {A : Option Addr} {l : List Int} (h : OI w base (.slice A n c) l) {k : Nat} (hk : k ≤ n) : OI w base (.slice A k c) (l.take k) := by
  have hl : l.length = n := h.ri.1
  have e : (l.take k).length = k := by rw [List.length_take]; omega
  unfold OI
  rw [e]
  refine ⟨by rw [cellsI_length, e]; omega, ?_⟩
  rcases h.2 with ⟨he, h0⟩ | ⟨g, cap, cur, he, hb, hg, hnc, hcm, hs, ht⟩
  · injection he with h1 h2 h3
    subst h1 h2 h3
    obtain rfl : k = 0 := by omega
    exact .inl ⟨rfl, rfl⟩
  · injection he with h1 h2 h3
    subst h1 h3
    refine .inr ⟨g, c, cur, rfl, hb, hg, by omega, hcm, hs, ?_⟩
    have : cellsI (l.take k) = (cellsI l).take k := by simp [cellsI, List.map_take]
    rw [this, ← ht, List.take_take, hl]
    congr 1
    omega

theorem Try.infoInt : (Try.prog.info? 3).map (fun i => (i.zero, i.size, i.bytes)) = some (some (.int .i64 0), 1, 8) := by kernel_rfl

theorem run_append_nothing {P : Program} (w : World) (base : Nat) (t ty e : TypeId) (i : TypeInfo) (size : Nat) (ht : P.underlying t = some (.slice e)) (hi : P.info? e = some i)
    (v : Value) (n : Nat) (xs : List Value) (hown : w.ownsRow base e size v n xs) (c : Nat) : (Builtin.append_ #[t, t] ty #[v, .slice none 0 c]).run P w = .ok v w := by
  rcases hown.2 with ⟨rfl, rfl⟩ | ⟨g, cap, cur, rfl, _, _, hnc, _⟩
  · simp [Builtin.append_, run_underlying ht, sizeOf, typeInfo, hi, Builtin.lenOf, Builtin.firstCells]
  · simp [Builtin.append_, run_underlying ht, sizeOf, typeInfo, hi, Builtin.lenOf, Builtin.firstCells, hnc, storeCells]

/-- append at []int: the first slice is the call's own, the second reads as numbers. -/
theorem run_appI {w : World} {base : Nat} {v : Value} {l l2 : List Int} {A : Option Addr} {m c : Nat} (ty : TypeId) (hown : OI w base v l) (hr : RI w A m l2) (hlen : l.length + m ≤ 1000000000000) (hbase : base ≤ w.heap.size) :
    ∃ v' w', (Builtin.append_ #[26, 26] ty #[v, .slice A m c]).run Try.prog w = .ok v' w' ∧ OI w' base v' (l ++ l2) ∧ w.grownBy w' v.ownBlock ∧ (v'.ownBlock = v.ownBlock ∨ v'.ownBlock = some w.heap.size) := by
  obtain ⟨i0, hi, hz, hs1, hb⟩ := info_parts Try.infoInt
  rcases A with _ | ad
  · have hm : m = 0 := by
      rcases Nat.eq_zero_or_pos m with h0 | h0
      · exact h0
      · obtain ⟨ad, h, _⟩ := hr.2 h0
        cases h
    subst hm
    obtain rfl : l2 = [] := List.eq_nil_of_length_eq_zero hr.1
    exact ⟨v, w, run_append_nothing w base 26 ty 3 i0 1 Try.underlying26 hi v _ _ hown c, by simpa using hown, World.grownBy.refl w _, .inl rfl⟩
  · have hcells : ∀ j u, (cellsI l2)[j]? = some u → w.cell? (ad.add j) = some u := by
      intro j u hu
      have hj : j < m := by
        have := (List.getElem?_eq_some_iff.1 hu).1
        rw [cellsI_length, hr.1] at this; exact this
      obtain ⟨ad', h, hc⟩ := hr.2 (by omega)
      obtain rfl := Option.some.inj h
      rw [hc j hj, ← hu, cellsI_at l2 j (by rw [hr.1]; exact hj)]
    obtain ⟨v', w', hrun, h2, h3, _, h5⟩ := run_append_own_at (P := Try.prog) w base 26 ty 3 i0 (.int .i64 0) 1 8 Try.underlying26 hi hz hs1 hb rfl (by decide)
      v l.length (cellsI l) hown ad m c (cellsI l2) (by rw [cellsI_length, hr.1]; omega) hcells (cellsI_one _) (by simp only [maxLen]; omega) (by omega) hbase
    refine ⟨v', w', hrun, ?_, h3, h5⟩
    unfold OI
    have e : cellsI (l ++ l2) = cellsI l ++ cellsI l2 := by simp [cellsI]
    rw [e, List.length_append, hr.1]
    exact h2

theorem wp_appI {w : World} {o : Oper} {a : Act} {K : Act → World → Prop} {Q : Exit → Act → World → Prop} (s x : Operand)
    (ho : o.op = .call { callee := .builtin .append, args := #[s, x], argTypes := #[26, 26] })
    (base : Nat) (v : Value) (l l2 : List Int) (A : Option Addr) (m c : Nat) (hs : a.eval s = v) (hx : a.eval x = .slice A m c) (hown : OI w base v l) (hr : RI w A m l2) (hlen : l.length + m ≤ 1000000000000) (hbase : base ≤ w.heap.size)
    (h : ∀ v' w', OI w' base v' (l ++ l2) → w.grownBy w' v.ownBlock → (v'.ownBlock = v.ownBlock ∨ v'.ownBlock = some w.heap.size) → K (a.put o.dst v') w') : o.wp Try.prog a w K Q := by
  obtain ⟨v', w', hrun, h2, h3, h5⟩ := run_appI (c := c) o.type hown hr hlen hbase
  unfold Oper.wp execOp
  simp only [ho, resolve, invoke, builtin, Sem.run_bind, Sem.run_pure, Result.andThen_ok, List.map_toArray, List.map_cons, List.map_nil, hs, hx, hrun]
  exact h v' w' h2 h3 h5

/-- append at []int, at a plain region. -/
theorem wpAppI {w : World} {ops : Array Oper} {rest : List Oper} {o : Oper} {a : Act} {Q : Exit → Act → World → Prop} (hgd : o.guard = none) (s x : Operand)
    (ho : o.op = .call { callee := .builtin .append, args := #[s, x], argTypes := #[26, 26] })
    (base : Nat) (v : Value) (l l2 : List Int) (A : Option Addr) (m c : Nat) (hs : a.eval s = v) (hx : a.eval x = .slice A m c) (hown : OI w base v l) (hr : RI w A m l2) (hlen : l.length + m ≤ 1000000000000) (hbase : base ≤ w.heap.size)
    (h : ∀ v' w', OI w' base v' (l ++ l2) → w.grownBy w' v.ownBlock → (v'.ownBlock = v.ownBlock ∨ v'.ownBlock = some w.heap.size) → wpList Try.prog ops Q rest (a.put o.dst v') w') :
    wpList Try.prog ops Q (o :: rest) a w :=
  wpList_plain hgd fun _ hK => wp_appI s x ho base v l l2 A m c hs hx hown hr hlen hbase fun v' w' h2 h3 h5 => hK _ _ (h v' w' h2 h3 h5)

/-- The same, the new slice written out. -/
theorem wpAppI2 {w : World} {ops : Array Oper} {rest : List Oper} {o : Oper} {a : Act} {Q : Exit → Act → World → Prop} (hgd : o.guard = none) (s x : Operand)
    (ho : o.op = .call { callee := .builtin .append, args := #[s, x], argTypes := #[26, 26] })
    (base : Nat) (v : Value) (l l2 : List Int) (A : Option Addr) (m c : Nat) (hs : a.eval s = v) (hx : a.eval x = .slice A m c) (hown : OI w base v l) (hr : RI w A m l2) (hlen : l.length + m ≤ 1000000000000) (hbase : base ≤ w.heap.size)
    (h : ∀ A' n' c' w', OI w' base (.slice A' n' c') (l ++ l2) → w.grownBy w' v.ownBlock → (Value.ownBlock (.slice A' n' c') = v.ownBlock ∨ Value.ownBlock (.slice A' n' c') = some w.heap.size) → wpList Try.prog ops Q rest (a.put o.dst (.slice A' n' c')) w') :
    wpList Try.prog ops Q (o :: rest) a w :=
  wpAppI hgd s x ho base v l l2 A m c hs hx hown hr hlen hbase fun v' w' h2 h3 h5 => by
    obtain ⟨A', n', c', rfl, _⟩ := h2.form
    exact h A' n' c' w' h2 h3 h5

/-- append at []int, at a region that draws its order. -/
theorem stepAppI {w : World} {ops : Array Oper} {o : Oper} {a : Act} {K : Act → World → Prop} {Q : Exit → Act → World → Prop} {E : Prop} (hgd : o.guard = none) (s x : Operand)
    (ho : o.op = .call { callee := .builtin .append, args := #[s, x], argTypes := #[26, 26] })
    (base : Nat) (v : Value) (l l2 : List Int) (A : Option Addr) (m c : Nat) (hs : a.eval s = v) (hx : a.eval x = .slice A m c) (hown : OI w base v l) (hr : RI w A m l2) (hlen : l.length + m ≤ 1000000000000) (hbase : base ≤ w.heap.size)
    (h : ∀ v' w', OI w' base v' (l ++ l2) → w.grownBy w' v.ownBlock → (v'.ownBlock = v.ownBlock ∨ v'.ownBlock = some w.heap.size) → K (a.put o.dst v') w') :
    if Region.wanted o (yielded ops a.tmps) = true then Oper.wp Try.prog o a w K Q else E := by
  have hw : Region.wanted o (yielded ops a.tmps) = true := by simp [Region.wanted, hgd]
  rw [if_pos hw]
  exact wp_appI s x ho base v l l2 A m c hs hx hown hr hlen hbase h

/-- A new block that holds one number reads so. -/
theorem RI.one (w : World) (y : Int) : RI (w.alloc (.cells #[.int .i64 y] 3)) (some ⟨w.heap.size, 0, none⟩) 1 [y] := by
  refine ⟨rfl, fun _ => ⟨_, rfl, fun j hj => ?_⟩⟩
  obtain rfl : j = 0 := by omega
  simp [Addr.add, nth]
/-- A new block that holds some numbers is owned. -/
theorem OI.lit (w : World) (base : Nat) (l : List Int) (n : Nat) (hn : n = l.length) (hb : base ≤ w.heap.size) (hl : l.length ≤ 1000000000000) :
    OI (w.alloc (.cells (cellsI l).toArray 3)) base (.slice (some ⟨w.heap.size, 0, none⟩) n n) l := by
  subst hn
  have := World.ownsRow_lit (e := 3) (size := 1) (base := base) w (cellsI l).toArray l.length hb (by simp only [maxLen]; omega) (by simp [cellsI])
  simpa [OI] using this

/-- 'append(out, x)' at []int. -/
theorem wpApp1 {w0 : World} {ops : Array Oper} {rest : List Oper} {o : Oper} {a : Act} {Q : Exit → Act → World → Prop} (hgd : o.guard = none) (s x : Operand)
    (ho : o.op = .call { callee := .builtin .append, args := #[s, x], argTypes := #[26, 26] })
    (base : Nat) (v : Value) (l : List Int) (y : Int) (hs : a.eval s = v) (hown : OI w0 base v l)
    (hx : a.eval x = .slice (some ⟨w0.heap.size, 0, none⟩) 1 1) (hlen : l.length + 1 ≤ 1000000000000) (hbase : base ≤ w0.heap.size)
    (h : ∀ v' w', OI w' base v' (l ++ [y]) → w0.grownBy w' v.ownBlock → (v'.ownBlock = v.ownBlock ∨ v'.ownBlock = some (w0.heap.size + 1)) → wpList Try.prog ops Q rest (a.put o.dst v') w') :
    wpList Try.prog ops Q (o :: rest) a (w0.alloc (.cells #[.int .i64 y] 3)) :=
  wpAppI hgd s x ho base v l [y] _ 1 1 hs hx (hown.alloc _) (RI.one w0 y) hlen (by simp; omega) fun v' w' h2 h3 h5 =>
    h v' w' h2 ⟨h3.os, h3.tape, h3.output, Nat.le_trans (by simp) h3.size, fun k hk hne => (h3.block k (by simp; omega) hne).trans (Below.heap_alloc w0 _ k hk)⟩ (by simpa using h5)

/-- 'make([]int, n)'. -/
theorem wpMake {w : World} {ops : Array Oper} {rest : List Oper} {o : Oper} {a : Act} {Q : Exit → Act → World → Prop} (hgd : o.guard = none) (s x : Operand)
    (ho : o.op = .makeSlice 26 s x) (n : Nat) (N M : Int) (hs : a.eval s = .int .i64 N) (hx : a.eval x = .int .i64 M) (hN : N = (n : Int)) (hM : M = (n : Int)) (hlen : n ≤ 1000000000000)
    (h : ∀ w', OI w' w.heap.size (.slice (some ⟨w.heap.size, 0, none⟩) n n) (List.replicate n 0) → Below w.heap.size w w' → w.heap.size < w'.heap.size → wpList Try.prog ops Q rest (a.put o.dst (.slice (some ⟨w.heap.size, 0, none⟩) n n)) w') :
    wpList Try.prog ops Q (o :: rest) a w := by
  obtain ⟨i0, hi, hz, hs1, hb⟩ := info_parts Try.infoInt
  refine wpList_make_full w hgd s x 26 ho w.heap.size 3 i0 (.int .i64 0) 1 Try.underlying26 hi hz hs1 .i64 .i64 N M n hs hx hN hM (by rw [hb]; omega) (by simp only [maxLen]; omega) (Nat.le_refl _) ?_
  intro w' hown hg
  refine h w' ?_ ⟨hg.os, hg.tape, hg.output, hg.size, fun k hk => hg.block k hk (by simp)⟩ ?_
  · have e : (madeCells (Value.int .i64 0).cells (n * 1)).toList = cellsI (List.replicate n 0) := by
      have := toList_madeCells_one (.int .i64 0) (n * 1)
      simp only [Nat.mul_one] at this
      simp only [Value.cells, Nat.mul_one, cellsI, List.map_replicate]
      exact this
    rw [e] at hown
    simpa [OI] using hown
  · exact (hown.lt w.heap.size rfl).2
end Go.Proofs.Yteodckkkjhapgaa
