/- Words for memory: a slice that reads as a list of numbers, a slice that the call itself owns, and the laws of append and make in these words. -/
import Derived.Test.YtgbojgmmingfdaaRows
import Derived.Test.YtgbojgmmingfdaaPlain
import Derived.WalkKit
import Derived.WalkSpells
import Derived.ProofKit
import Derived.Below
import Derived.Lib.Hide
import Derived.Laws.OwnMore
import Derived.Deep.AppendLies
import Derived.Maps.AppendAt
import Derived.Deep.Draws
import Derived.Deep.QuietTactic
import Derived.BigQuiet
import Derived.OpenShut
import Derived.BigGuardPart
import Derived.Deep.RegionLaw
import Derived.StillTailTactics
import Derived.Deep.RegionHeld3
import Derived.ChangeKeysEq
import Derived.ShutString
import Derived.ChangeOld
import Derived.Lib.SmallJoins
import Derived.Deep.Slices
import Derived.Deep.Strs
namespace Go.Proofs.Ytgbojgmmingfdaa
open Go.RowKit

/-- The cells of a list of numbers. -/
def cellsI (l : List Int) : List Value := l.map (Value.int .i64)
theorem cellsI_length (l : List Int) : (cellsI l).length = l.length := by simp [cellsI]
theorem cellsI_at (l : List Int) (j : Nat) (h : j < l.length) : (cellsI l)[j]? = some (.int .i64 (nth l j)) := by
  simp [cellsI, nth, List.getD, h]
theorem cellsI_one (l : List Int) : ∀ u ∈ cellsI l, u.oneCell' = true := ints_oneCell _ _

/-- The world that a function leaves which only reads. -/
def Quiet (w w' : World) : Prop := ∃ k, w.drewN k = w'
theorem Quiet.refl (w : World) : Quiet w w := ⟨0, rfl⟩
theorem Quiet.below {B : Nat} {w w' : World} (h : Quiet w w') : Below B w w' := by
  obtain ⟨k, rfl⟩ := h
  exact ⟨rfl, rfl, rfl, Nat.le_refl _, fun _ _ => rfl⟩
theorem below_drewN {B : Nat} {a w : World} (h : Below B a w) (n : Nat) : Below B a (w.drewN n) := ⟨h.os, h.tape, h.output, h.size, h.block⟩

theorem block_of_add (a : Addr) (n : Nat) : (a.add n).block = a.block := by unfold Addr.add; split <;> rfl
theorem add_zero_ (a : Addr) : a.add 0 = a := by simp [Addr.add]
theorem add_of_add (a : Addr) (i j : Nat) : (a.add i).add j = a.add (i + j) := by
  unfold Addr.add
  by_cases hi : i = 0 <;> by_cases hj : j = 0 <;> simp [hi, hj, Nat.add_assoc]

/-- The slice with address A and length n reads as the numbers l. -/
def RI (w : World) (A : Option Addr) (n : Nat) (l : List Int) : Prop :=
  l.length = n ∧ (0 < n → ∃ ad, A = some ad ∧ ∀ j, j < n → w.cell? (ad.add j) = some (.int .i64 (nth l j)))

section
variable {w w' : World} {B n : Nat} {A : Option Addr} {l : List Int}
theorem RI.nil_ : RI w A 0 [] := ⟨rfl, fun h => absurd h (by omega)⟩
theorem RI.cell {k : Nat} (h : RI w A n l) (hk : k < n) : ∃ ad, A = some ad ∧ w.cell? (ad.add k) = some (.int .i64 (nth l k)) := by
  obtain ⟨ad, e, hc⟩ := h.2 (by omega)
  exact ⟨ad, e, hc k hk⟩
theorem RI.lt {ad : Addr} (h : RI w (some ad) n l) (hn : 0 < n) : ad.block < w.heap.size := by
  obtain ⟨ad', e, hc⟩ := h.2 hn
  injection e with e; subst e
  have := World.block_lt_of_cell? w _ (hc 0 hn)
  rwa [block_of_add] at this
theorem RI.keep (h : RI w A n l) (hk : ∀ p : Addr, p.block < w.heap.size → w'.cell? p = w.cell? p) : RI w' A n l :=
  ⟨h.1, fun hn => by
    obtain ⟨ad, e, hc⟩ := h.2 hn
    refine ⟨ad, e, fun j hj => ?_⟩
    rw [hk _ (World.block_lt_of_cell? w _ (hc j hj))]
    exact hc j hj⟩
theorem RI.below (h : RI w A n l) (hb : Below w.heap.size w w') : RI w' A n l := h.keep fun _ hp => hb.cell hp
theorem RI.quiet (h : RI w A n l) (hb : Quiet w w') : RI w' A n l := h.below hb.below
theorem RI.drewN (h : RI w A n l) (k : Nat) : RI (w.drewN k) A n l := h
theorem RI.alloc (h : RI w A n l) (o : Obj) : RI (w.alloc o) A n l := h.keep fun p hp => World.cell?_alloc_lt w o p hp
theorem RI.take (h : RI w A n l) {k : Nat} (hk : k ≤ n) : RI w A k (l.take k) := by
  refine ⟨by rw [List.length_take, h.1]; omega, fun hn => ?_⟩
  obtain ⟨ad, e, hc⟩ := h.2 (by omega)
  refine ⟨ad, e, fun j hj => ?_⟩
  rw [hc j (by omega)]
  congr 2
  simp [nth, List.getD, List.getElem?_take, hj]
theorem RI.cut (h : RI w A n l) {k cap : Nat} (hk : k ≤ n) (hc : n ≤ cap) : RI w (if cap = k then A else A.map (·.add k)) (n - k) (l.drop k) := by
  refine ⟨by rw [List.length_drop, h.1], fun hn => ?_⟩
  obtain ⟨ad, rfl, hcell⟩ := h.2 (by omega)
  rw [if_neg (by omega)]
  refine ⟨ad.add k, rfl, fun j hj => ?_⟩
  rw [add_of_add, hcell _ (by omega)]
  congr 2
  simp [nth, List.getD, List.getElem?_drop]
end

/-- The value is a slice that the call owns from block 'base' on, and reads as the numbers l. -/
def OI (w : World) (base : Nat) (v : Value) (l : List Int) : Prop := w.ownsRow base 3 1 v l.length (cellsI l)

section
variable {w w' : World} {base : Nat} {v : Value} {l : List Int}
theorem OI.nil_ (w : World) (base : Nat) : OI w base (.slice none 0 0) [] := World.ownsRow_nil _ _ _ _
/-- What an owned slice is, as the walk wants it. -/
theorem OI.form (h : OI w base v l) : ∃ A n c, v = .slice A n c ∧ RI w A n l ∧ n ≤ c ∧ c ≤ 9223372036854775807 ∧ (A = none → n = 0 ∧ c = 0) := by
  rcases h.2 with ⟨rfl, hn⟩ | ⟨g, cap, cur, rfl, hb, hg, hnc, hcm, hs, ht⟩
  · have hl : l = [] := List.eq_nil_of_length_eq_zero hn
    subst hl
    exact ⟨_, _, _, rfl, RI.nil_, by simp, by simp, fun _ => ⟨rfl, rfl⟩⟩
  · refine ⟨_, _, _, rfl, ⟨rfl, fun hn => ⟨_, rfl, fun j hj => ?_⟩⟩, hnc, by simpa [maxLen] using hcm, fun h => by cases h⟩
    exact h.cells (g := g) rfl j _ (cellsI_at l j hj)
theorem OI.ri {A : Option Addr} {n c : Nat} (h : OI w base (.slice A n c) l) : RI w A n l := by
  obtain ⟨A', n', c', he, hr, _⟩ := h.form
  injection he with h1 h2 h3
  subst h1 h2
  exact hr
theorem OI.lt (h : OI w base v l) : ∀ k, v.ownBlock = some k → base ≤ k ∧ k < w.heap.size := World.ownsRow.lt h
/-- What was made first lies apart from what was made later. -/
theorem apart {wa wb : World} {b1 b2 : Nat} {v1 v2 : Value} {l1 l2 : List Int} (h1 : OI wa b1 v1 l1) (h2 : OI wb b2 v2 l2) (h : wa.heap.size ≤ b2) : v1.ownBlock = none ∨ v1.ownBlock ≠ v2.ownBlock := by
  rcases h' : v1.ownBlock with _ | k
  · exact .inl rfl
  · refine .inr fun e => ?_
    have := (h1.lt k h').2
    have := (h2.lt k e.symm).1
    omega
theorem flip_apart {v1 v2 : Value} (h : v1.ownBlock = none ∨ v1.ownBlock ≠ v2.ownBlock) : v2.ownBlock = none ∨ v2.ownBlock ≠ v1.ownBlock := by
  rcases h with h | h
  · rcases h' : v2.ownBlock with _ | k
    · exact .inl rfl
    · exact .inr (by rw [h]; simp)
  · exact .inr (Ne.symm h)
theorem OI.kept {row : Option Nat} (h : OI w base v l) (hg : w.grownBy w' row) (hne : v.ownBlock = none ∨ v.ownBlock ≠ row) : OI w' base v l := World.ownsRow.kept h hg hne
theorem OI.alloc (h : OI w base v l) (o : Obj) : OI (w.alloc o) base v l := World.ownsRow.alloc h o
theorem OI.below (h : OI w base v l) (hb : Below w.heap.size w w') : OI w' base v l :=
  World.ownsRow.kept h (row := none) ⟨hb.os, hb.tape, hb.output, hb.size, fun k hk _ => hb.block k hk⟩ (by cases hv : v.ownBlock <;> simp)
theorem OI.mono {base' : Nat} (h : OI w base v l) (hb : base' ≤ base) : OI w base' v l := by
  refine ⟨h.1, ?_⟩
  rcases h.2 with hn | ⟨g, cap, cur, rfl, hg, r⟩
  · exact .inl hn
  · exact .inr ⟨g, cap, cur, rfl, Nat.le_trans hb hg, r⟩
end

section
variable {w : World} {base g n c : Nat} {l : List Int}
theorem OI.len (h : OI w base (.slice (some ⟨g, 0, none⟩) n c) l) : l.length = n := by
  obtain ⟨A, n', c', he, hr, _⟩ := h.form
  injection he with h1 h2 h3
  subst h2
  exact hr.1
theorem OI.own (h : OI w base (.slice (some ⟨g, 0, none⟩) n c) l) : w.ownsRow base 3 1 (.slice (some ⟨g, 0, none⟩) n c) n (cellsI l) := by
  have := h.len
  unfold OI at h
  rwa [this] at h
theorem OI.cellAt (h : OI w base (.slice (some ⟨g, 0, none⟩) n c) l) {j : Nat} (hj : j < n) : w.cell? ⟨g, j, none⟩ = some (.int .i64 (nth l j)) := by
  rw [h.own.cellAt j (by omega)]
  exact cellsI_at l j (by rw [h.len]; exact hj)
theorem OI.frozenAt (h : OI w base (.slice (some ⟨g, 0, none⟩) n c) l) (j : Nat) : w.frozen? ⟨g, j, none⟩ = false := h.own.frozenAt j
theorem OI.stored (h : OI w base (.slice (some ⟨g, 0, none⟩) n c) l) (j : Nat) (y : Int) :
    OI (w.setCell ⟨g, j, none⟩ (.int .i64 y)) base (.slice (some ⟨g, 0, none⟩) n c) (l.set j y) ∧ w.grownBy (w.setCell ⟨g, j, none⟩ (.int .i64 y)) (some g) := by
  obtain ⟨h1, h2⟩ := h.own.stored j (.int .i64 y)
  refine ⟨?_, h2⟩
  unfold OI
  rw [List.length_set, h.len]
  have e : cellsI (l.set j y) = (cellsI l).set j (.int .i64 y) := by simp [cellsI, List.map_set]
  rw [e]
  exact h1
end

theorem OI.take {w : World} {base n c : Nat} {A : Option Addr} {l : List Int} (h : OI w base (.slice A n c) l) {k : Nat} (hk : k ≤ n) : OI w base (.slice A k c) (l.take k) := by
  have hl : l.length = n := h.ri.1
  have e : (l.take k).length = k := by rw [List.length_take]; omega
  unfold OI
  rw [e]
  refine ⟨by rw [cellsI_length, e]; omega, ?_⟩
  rcases h.2 with ⟨he, h0⟩ | ⟨g, cap, cur, he, hb, hg, hnc, hcm, hs, ht⟩
  · injection he with h1 h2 h3
    subst h1 h2 h3
    obtain rfl : k = 0 := by omega
    exact .inl ⟨rfl, rfl⟩
  · injection he with h1 h2 h3
    subst h1 h3
    refine .inr ⟨g, c, cur, rfl, hb, hg, by omega, hcm, hs, ?_⟩
    have : cellsI (l.take k) = (cellsI l).take k := by simp [cellsI, List.map_take]
    rw [this, ← ht, List.take_take, hl]
    congr 1
    omega

theorem Try.infoInt : (Try.prog.info? 3).map (fun i => (i.zero, i.size, i.bytes)) = some (some (.int .i64 0), 1, 8) := by kernel_rfl

theorem run_append_nothing {P : Program} (w : World) (base : Nat) (t ty e : TypeId) (i : TypeInfo) (size : Nat) (ht : P.underlying t = some (.slice e)) (hi : P.info? e = some i)
    (v : Value) (n : Nat) (xs : List Value) (hown : w.ownsRow base e size v n xs) (c : Nat) : (Builtin.append_ #[t, t] ty #[v, .slice none 0 c]).run P w = .ok v w := by
  rcases hown.2 with ⟨rfl, rfl⟩ | ⟨g, cap, cur, rfl, _, _, hnc, _⟩
  · simp [Builtin.append_, run_underlying ht, sizeOf, typeInfo, hi, Builtin.lenOf, Builtin.firstCells]
  · simp [Builtin.append_, run_underlying ht, sizeOf, typeInfo, hi, Builtin.lenOf, Builtin.firstCells, hnc, storeCells]

/-- append at []int: the first slice is the call's own, the second reads as numbers. -/
theorem run_appI {w : World} {base : Nat} {v : Value} {l l2 : List Int} {A : Option Addr} {m c : Nat} (ty : TypeId) (hown : OI w base v l) (hr : RI w A m l2) (hlen : l.length + m ≤ 1000000000000) (hbase : base ≤ w.heap.size) :
    ∃ v' w', (Builtin.append_ #[22, 22] ty #[v, .slice A m c]).run Try.prog w = .ok v' w' ∧ OI w' base v' (l ++ l2) ∧ w.grownBy w' v.ownBlock ∧ (v'.ownBlock = v.ownBlock ∨ v'.ownBlock = some w.heap.size) := by
  obtain ⟨i0, hi, hz, hs1, hb⟩ := info_parts Try.infoInt
  rcases A with _ | ad
  · have hm : m = 0 := by
      rcases Nat.eq_zero_or_pos m with h0 | h0
      · exact h0
      · obtain ⟨ad, h, _⟩ := hr.2 h0
        cases h
    subst hm
    obtain rfl : l2 = [] := List.eq_nil_of_length_eq_zero hr.1
    exact ⟨v, w, run_append_nothing w base 22 ty 3 i0 1 Try.underlying22 hi v _ _ hown c, by simpa using hown, World.grownBy.refl w _, .inl rfl⟩
  · have hcells : ∀ j u, (cellsI l2)[j]? = some u → w.cell? (ad.add j) = some u := by
      intro j u hu
      have hj : j < m := by
        have := (List.getElem?_eq_some_iff.1 hu).1
        rw [cellsI_length, hr.1] at this; exact this
      obtain ⟨ad', h, hc⟩ := hr.2 (by omega)
      obtain rfl := Option.some.inj h
      rw [hc j hj, ← hu, cellsI_at l2 j (by rw [hr.1]; exact hj)]
    obtain ⟨v', w', hrun, h2, h3, _, h5⟩ := run_append_own_at (P := Try.prog) w base 22 ty 3 i0 (.int .i64 0) 1 8 Try.underlying22 hi hz hs1 hb rfl (by decide)
      v l.length (cellsI l) hown ad m c (cellsI l2) (by rw [cellsI_length, hr.1]; omega) hcells (cellsI_one _) (by simp only [maxLen]; omega) (by omega) hbase
    refine ⟨v', w', hrun, ?_, h3, h5⟩
    unfold OI
    have e : cellsI (l ++ l2) = cellsI l ++ cellsI l2 := by simp [cellsI]
    rw [e, List.length_append, hr.1]
    exact h2

theorem wp_appI {w : World} {o : Oper} {a : Act} {K : Act → World → Prop} {Q : Exit → Act → World → Prop} (s x : Operand)
    (ho : o.op = .call { callee := .builtin .append, args := #[s, x], argTypes := #[22, 22] })
    (base : Nat) (v : Value) (l l2 : List Int) (A : Option Addr) (m c : Nat) (hs : a.eval s = v) (hx : a.eval x = .slice A m c) (hown : OI w base v l) (hr : RI w A m l2) (hlen : l.length + m ≤ 1000000000000) (hbase : base ≤ w.heap.size)
    (h : ∀ v' w', OI w' base v' (l ++ l2) → w.grownBy w' v.ownBlock → (v'.ownBlock = v.ownBlock ∨ v'.ownBlock = some w.heap.size) → K (a.put o.dst v') w') : o.wp Try.prog a w K Q := by
  obtain ⟨v', w', hrun, h2, h3, h5⟩ := run_appI (c := c) o.type hown hr hlen hbase
  unfold Oper.wp execOp
  simp only [ho, resolve, invoke, builtin, Sem.run_bind, Sem.run_pure, Result.andThen_ok, List.map_toArray, List.map_cons, List.map_nil, hs, hx, hrun]
  exact h v' w' h2 h3 h5

/-- append at []int, at a plain region. -/
theorem wpAppI {w : World} {ops : Array Oper} {rest : List Oper} {o : Oper} {a : Act} {Q : Exit → Act → World → Prop} (hgd : o.guard = none) (s x : Operand)
    (ho : o.op = .call { callee := .builtin .append, args := #[s, x], argTypes := #[22, 22] })
    (base : Nat) (v : Value) (l l2 : List Int) (A : Option Addr) (m c : Nat) (hs : a.eval s = v) (hx : a.eval x = .slice A m c) (hown : OI w base v l) (hr : RI w A m l2) (hlen : l.length + m ≤ 1000000000000) (hbase : base ≤ w.heap.size)
    (h : ∀ v' w', OI w' base v' (l ++ l2) → w.grownBy w' v.ownBlock → (v'.ownBlock = v.ownBlock ∨ v'.ownBlock = some w.heap.size) → wpList Try.prog ops Q rest (a.put o.dst v') w') :
    wpList Try.prog ops Q (o :: rest) a w :=
  wpList_plain hgd fun _ hK => wp_appI s x ho base v l l2 A m c hs hx hown hr hlen hbase fun v' w' h2 h3 h5 => hK _ _ (h v' w' h2 h3 h5)

/-- The same, the new slice written out. -/
theorem wpAppI2 {w : World} {ops : Array Oper} {rest : List Oper} {o : Oper} {a : Act} {Q : Exit → Act → World → Prop} (hgd : o.guard = none) (s x : Operand)
    (ho : o.op = .call { callee := .builtin .append, args := #[s, x], argTypes := #[22, 22] })
    (base : Nat) (v : Value) (l l2 : List Int) (A : Option Addr) (m c : Nat) (hs : a.eval s = v) (hx : a.eval x = .slice A m c) (hown : OI w base v l) (hr : RI w A m l2) (hlen : l.length + m ≤ 1000000000000) (hbase : base ≤ w.heap.size)
    (h : ∀ A' n' c' w', OI w' base (.slice A' n' c') (l ++ l2) → w.grownBy w' v.ownBlock → (Value.ownBlock (.slice A' n' c') = v.ownBlock ∨ Value.ownBlock (.slice A' n' c') = some w.heap.size) → wpList Try.prog ops Q rest (a.put o.dst (.slice A' n' c')) w') :
    wpList Try.prog ops Q (o :: rest) a w :=
  wpAppI hgd s x ho base v l l2 A m c hs hx hown hr hlen hbase fun v' w' h2 h3 h5 => by
    obtain ⟨A', n', c', rfl, _⟩ := h2.form
    exact h A' n' c' w' h2 h3 h5

/-- append at []int, at a region that draws its order. -/
theorem stepAppI {w : World} {ops : Array Oper} {o : Oper} {a : Act} {K : Act → World → Prop} {Q : Exit → Act → World → Prop} {E : Prop} (hgd : o.guard = none) (s x : Operand)
    (ho : o.op = .call { callee := .builtin .append, args := #[s, x], argTypes := #[22, 22] })
    (base : Nat) (v : Value) (l l2 : List Int) (A : Option Addr) (m c : Nat) (hs : a.eval s = v) (hx : a.eval x = .slice A m c) (hown : OI w base v l) (hr : RI w A m l2) (hlen : l.length + m ≤ 1000000000000) (hbase : base ≤ w.heap.size)
    (h : ∀ v' w', OI w' base v' (l ++ l2) → w.grownBy w' v.ownBlock → (v'.ownBlock = v.ownBlock ∨ v'.ownBlock = some w.heap.size) → K (a.put o.dst v') w') :
    if Region.wanted o (yielded ops a.tmps) = true then Oper.wp Try.prog o a w K Q else E := by
  have hw : Region.wanted o (yielded ops a.tmps) = true := by simp [Region.wanted, hgd]
  rw [if_pos hw]
  exact wp_appI s x ho base v l l2 A m c hs hx hown hr hlen hbase h

/-- A new block that holds one number reads so. -/
theorem RI.one (w : World) (y : Int) : RI (w.alloc (.cells #[.int .i64 y] 3)) (some ⟨w.heap.size, 0, none⟩) 1 [y] := by
  refine ⟨rfl, fun _ => ⟨_, rfl, fun j hj => ?_⟩⟩
  obtain rfl : j = 0 := by omega
  simp [Addr.add, nth]
/-- A new block that holds some numbers is owned. -/
theorem OI.lit (w : World) (base : Nat) (l : List Int) (n : Nat) (hn : n = l.length) (hb : base ≤ w.heap.size) (hl : l.length ≤ 1000000000000) :
    OI (w.alloc (.cells (cellsI l).toArray 3)) base (.slice (some ⟨w.heap.size, 0, none⟩) n n) l := by
  subst hn
  have := World.ownsRow_lit (e := 3) (size := 1) (base := base) w (cellsI l).toArray l.length hb (by simp only [maxLen]; omega) (by simp [cellsI])
  simpa [OI] using this

/-- 'append(out, x)' at []int. -/
theorem wpApp1 {w0 : World} {ops : Array Oper} {rest : List Oper} {o : Oper} {a : Act} {Q : Exit → Act → World → Prop} (hgd : o.guard = none) (s x : Operand)
    (ho : o.op = .call { callee := .builtin .append, args := #[s, x], argTypes := #[22, 22] })
    (base : Nat) (v : Value) (l : List Int) (y : Int) (hs : a.eval s = v) (hown : OI w0 base v l)
    (hx : a.eval x = .slice (some ⟨w0.heap.size, 0, none⟩) 1 1) (hlen : l.length + 1 ≤ 1000000000000) (hbase : base ≤ w0.heap.size)
    (h : ∀ v' w', OI w' base v' (l ++ [y]) → w0.grownBy w' v.ownBlock → (v'.ownBlock = v.ownBlock ∨ v'.ownBlock = some (w0.heap.size + 1)) → wpList Try.prog ops Q rest (a.put o.dst v') w') :
    wpList Try.prog ops Q (o :: rest) a (w0.alloc (.cells #[.int .i64 y] 3)) :=
  wpAppI hgd s x ho base v l [y] _ 1 1 hs hx (hown.alloc _) (RI.one w0 y) hlen (by simp; omega) fun v' w' h2 h3 h5 =>
    h v' w' h2 ⟨h3.os, h3.tape, h3.output, Nat.le_trans (by simp) h3.size, fun k hk hne => (h3.block k (by simp; omega) hne).trans (Below.heap_alloc w0 _ k hk)⟩ (by simpa using h5)

/-- 'make([]int, n)'. -/
theorem wpMake {w : World} {ops : Array Oper} {rest : List Oper} {o : Oper} {a : Act} {Q : Exit → Act → World → Prop} (hgd : o.guard = none) (s x : Operand)
    (ho : o.op = .makeSlice 22 s x) (n : Nat) (N M : Int) (hs : a.eval s = .int .i64 N) (hx : a.eval x = .int .i64 M) (hN : N = (n : Int)) (hM : M = (n : Int)) (hlen : n ≤ 1000000000000)
    (h : ∀ w', OI w' w.heap.size (.slice (some ⟨w.heap.size, 0, none⟩) n n) (List.replicate n 0) → Below w.heap.size w w' → w.heap.size < w'.heap.size → wpList Try.prog ops Q rest (a.put o.dst (.slice (some ⟨w.heap.size, 0, none⟩) n n)) w') :
    wpList Try.prog ops Q (o :: rest) a w := by
  obtain ⟨i0, hi, hz, hs1, hb⟩ := info_parts Try.infoInt
  refine wpList_make_full w hgd s x 22 ho w.heap.size 3 i0 (.int .i64 0) 1 Try.underlying22 hi hz hs1 .i64 .i64 N M n hs hx hN hM (by rw [hb]; omega) (by simp only [maxLen]; omega) (Nat.le_refl _) ?_
  intro w' hown hg
  refine h w' ?_ ⟨hg.os, hg.tape, hg.output, hg.size, fun k hk => hg.block k hk (by simp)⟩ ?_
  · have e : (madeCells (Value.int .i64 0).cells (n * 1)).toList = cellsI (List.replicate n 0) := by
      have := toList_madeCells_one (.int .i64 0) (n * 1)
      simp only [Nat.mul_one] at this
      simp only [Value.cells, Nat.mul_one, cellsI, List.map_replicate]
      exact this
    rw [e] at hown
    simpa [OI] using hown
  · exact (hown.lt w.heap.size rfl).2
end Go.Proofs.Ytgbojgmmingfdaa

/- The small functions of the statements: copies, comparisons, marks. -/
namespace Go.Proofs.Ytgbojgmmingfdaa
open Go.RowKit

def Gives (w : World) (v : Value) : Ending → World → Prop := fun e w' => e = .returned v ∧ Quiet w w'

/-- A value, new blocks. -/
def GivesB (w : World) (v : Value) : Ending → World → Prop := fun e w' => e = .returned v ∧ Below w.heap.size w w'

theorem two_cells {w W : World} {p q : Addr} {u u' : Value} (b : Below w.heap.size w W) (x1 : w.cell? p = some u) (x4 : w.cell? q = some u') : W.cell? p = some u ∧ W.cell? q = some u' :=
  ⟨(b.cell (World.block_lt_of_cell? w _ x1)).trans x1, (b.cell (World.block_lt_of_cell? w _ x4)).trans x4⟩
theorem one_cell {w W : World} {p : Addr} {u : Value} (b : Below w.heap.size w W) (x1 : w.cell? p = some u) : W.cell? p = some u := (b.cell (World.block_lt_of_cell? w _ x1)).trans x1

theorem qcall {P : Program} {f : FuncId} {args : Array Value} {w : World} {n : Nat} {v : Value} (h : Calls P f args (w.drewN n) (Gives (w.drewN n) v)) :
    Calls P f args (w.drewN n) fun e w'' => e = .returned v ∧ ∃ m, w'' = w.drewN m :=
  h.mono fun _ _ ⟨he, m, hm⟩ => ⟨he, n + m, by rw [← hm, World.drewN_drewN]⟩
theorem qcall_add {P : Program} {f : FuncId} {args : Array Value} {w : World} {a n : Nat} {v : Value} (h : Calls P f args (w.drewN (a + n)) (Gives (w.drewN (a + n)) v)) :
    Calls P f args (w.drewN (a + n)) fun e w'' => e = .returned v ∧ ∃ m, w'' = w.drewN (a + m) :=
  h.mono fun _ _ ⟨he, m, hm⟩ => ⟨he, n + m, by rw [← hm, World.drewN_drewN, Nat.add_assoc]⟩

theorem agree_all {xs ys : List Int} {n : Nat} (h1 : xs.length = n) (h2 : ys.length = n) (h : ∀ j, j < n → nth xs j = nth ys j) : xs = ys :=
  ext_nth (h1.trans h2.symm) (fun j hj => h j (by omega))

theorem eqI_any {A C : Option Addr} {n m : Nat} {xs ys : List Int} {w : World} (b : Bool) (c d : Nat) (hx : RI w A n xs) (hy : RI w C m ys) (hb : b = decide (xs = ys)) (hn : n ≤ 9223372036854775807) (hm : m ≤ 9223372036854775807) :
    Calls Try.prog 13 #[.slice A n c, .slice C m d] w (Gives w (.bool b)) := by
  have HL1 := Lib.hid hx.1
  have HL2 := Lib.hid hy.1
  have HB := Lib.hid hb
  clear hb
  by_cases hnm : n = m
  · subst hnm
    go_enter Try.func13, Try.ntmps13
    go_wp2
    go_loopw [5] (fun i wr => ∃ k q : Nat, k ≤ n ∧ i = .int .i64 k ∧ w.drewN q = wr ∧ ∀ j, j < k → nth xs j = nth ys j) (fun i _ => n - (intOf i).toNat)
    case atStart => exact ⟨0, 0, Nat.zero_le _, rfl, rfl, by simp⟩
    case round =>
      obtain ⟨k, q, hk, rfl, rfl, ht⟩ := hrel
      have HT := Lib.hid ht
      clear ht
      by_cases hlt : k < n
      · obtain ⟨ad, hA, hc⟩ := hx.cell hlt
        obtain ⟨ad', hA', hc'⟩ := hy.cell hlt
        subst hA hA'
        go_wp2
        go_quiet (fail)
        go_wp2
        · go_ret
          refine ⟨?_, _, (World.drewN_drewN _ _ _).symm⟩
          have : b = false := by
            rw [HB.out]
            rename_i hne
            simp only [decide_eq_false_iff_not]
            intro e
            subst e
            simp at hne
          rw [this]; rfl
        · go_roundw
          case rel =>
            refine ⟨k + 1, _, by omega, by go_num, rfl, ?_⟩
            intro j hj
            rename_i hne
            by_cases hjk : j = k
            · subst hjk; simpa using hne
            · exact HT.out j (by omega)
          case measure => simp [intOf]; omega
      · go_wp2
        go_ret
        refine ⟨?_, _, rfl⟩
        have : b = true := by
          rw [HB.out]
          simp only [decide_eq_true_eq]
          exact agree_all HL1.out HL2.out (fun j hj => HT.out j (by omega))
        rw [this]; rfl
  · go_enter Try.func13, Try.ntmps13
    go_wp2
    go_ret
    refine ⟨?_, Quiet.refl _⟩
    have : b = false := by
      rw [HB.out]
      simp only [decide_eq_false_iff_not]
      intro e
      subst e
      exact hnm (HL1.out.symm.trans HL2.out)
    rw [this]; rfl

/-- What a function leaves that returns a new slice. -/
def Makes (w : World) (l : List Int) : Ending → World → Prop := fun e w' =>
  ∃ A n c, e = .returned (.slice A n c) ∧ OI w' w.heap.size (.slice A n c) l ∧ RI w' A n l ∧ (n ≤ c ∧ n ≤ 1000000000000) ∧ Below w.heap.size w w'
theorem Makes.of {w w' : World} {v : Value} {l : List Int} (ho : OI w' w.heap.size v l) (hb : Below w.heap.size w w') (hl : l.length ≤ 1000000000000) : Makes w l (.returned v) w' := by
  obtain ⟨A, n, c, rfl, hr, hc, _⟩ := ho.form
  exact ⟨A, n, c, rfl, ho, hr, ⟨hc, hr.1 ▸ hl⟩, hb⟩
theorem Makes.nil {w w' : World} (hb : Below w.heap.size w w') : Makes w [] (.returned (.slice none 0 0)) w' := Makes.of (OI.nil_ _ _) hb (by simp)

/-- The same with a number and a bool behind it. -/
def Makes3 (w : World) (l : List Int) (k : Int) (b : Bool) : Ending → World → Prop := fun e w' =>
  ∃ A n c, e = .returned (.tuple #[.slice A n c, .int .i64 k, .bool b]) ∧ OI w' w.heap.size (.slice A n c) l ∧ RI w' A n l ∧ (n ≤ c ∧ n ≤ 1000000000000) ∧ Below w.heap.size w w'
theorem Makes3.of {w w' : World} {v : Value} {l : List Int} {k : Int} {b : Bool} (ho : OI w' w.heap.size v l) (hb : Below w.heap.size w w') (hl : l.length ≤ 1000000000000) : Makes3 w l k b (.returned (.tuple #[v, .int .i64 k, .bool b])) w' := by
  obtain ⟨A, n, c, rfl, hr, hc, _⟩ := ho.form
  exact ⟨A, n, c, rfl, ho, hr, ⟨hc, hr.1 ▸ hl⟩, hb⟩

theorem toI_any {A : Option Addr} {n : Nat} {xs : List Int} {w : World} (c : Nat) (hx : RI w A n xs) (hn : n ≤ 1000000000) :
    Calls Try.prog 10 #[.slice A n c] w (Makes w xs) := by
  have HL := Lib.hid hx.1
  go_enter Try.func10, Try.ntmps10
  go_wp2_with (at_make; refine wpMake rfl _ _ rfl n _ _ rfl rfl rfl rfl (by omega) ?_; intro w1 hown hbel hsz)
  go_loopw [4] (fun i wr => ∃ (k : Nat) (l : List Int), k ≤ n ∧ i = .int .i64 k ∧ OI wr w.heap.size (.slice (some ⟨w.heap.size, 0, none⟩) n n) l ∧ Below w.heap.size w wr ∧ ∀ j, j < k → nth l j = nth xs j) (fun i _ => n - (intOf i).toNat)
  case atStart => exact ⟨0, _, Nat.zero_le _, rfl, hown, hbel, by simp⟩
  case round =>
    obtain ⟨k, l, hk, rfl, ho, hb, ht⟩ := hrel
    have HT := Lib.hid ht
    clear ht
    by_cases hlt : k < n
    · obtain ⟨ad, hA, hc⟩ := (hx.below hb).cell hlt
      subst hA
      have hc2 := ho.cellAt hlt
      have hf := ho.frozenAt k
      have HS := Lib.hid (ho.stored k (nth xs k))
      have hl := Lib.hid ho.len
      clear ho
      go_wp2
      go_roundw
      case rel =>
        refine ⟨k + 1, _, by omega, by go_num, HS.out.1, hb.setCell (Nat.le_refl _) _, ?_⟩
        intro j hj
        by_cases hjk : j = k
        · subst hjk; exact nth_set_eq (by rw [hl.out]; exact hlt)
        · rw [nth_set_ne (Ne.symm hjk)]; exact HT.out j (by omega)
      case measure => simp [intOf]; omega
    · have hl := ho.len
      have e : l = xs := agree_all hl HL.out (fun j hj => HT.out j (by omega))
      subst e
      have HO := Lib.hid ho
      clear ho hl
      go_wp2
      go_ret
      exact Makes.of HO.out hb (by rw [HL.out]; omega)

/-- The numbers from k on, n of them. -/
def upFrom (k : Int) (n : Nat) : List Int := (List.range n).map (fun i : Nat => k + (i : Int))
theorem upFrom_len (k : Int) (n : Nat) : (upFrom k n).length = n := by simp [upFrom]
theorem upFrom_nth {k : Int} {n j : Nat} (h : j < n) : nth (upFrom k n) j = k + j := by
  rw [nth_lt (by rw [upFrom_len]; exact h)]; simp [upFrom]

theorem markI_any {w : World} {base : Nat} {A : Option Addr} {n c : Nat} {l : List Int} (k0 : Int) (ho : OI w base (.slice A n c) l) (h0 : 0 ≤ k0) (h1 : k0 ≤ 1000000000000) (hn : n ≤ 1000000000000) :
    Calls Try.prog 14 #[.slice A n c, .int .i64 k0] w (fun e w' => e = .returned (.int .i64 (k0 + n)) ∧ OI w' base (.slice A n c) (upFrom k0 n) ∧ w.grownBy w' (Value.ownBlock (.slice A n c))) := by
  rcases ho.2 with ⟨he, hl⟩ | ⟨g, cap, cur, he, r⟩
  · injection he with h1 h2 h3
    subst h1 h2 h3
    obtain rfl : l = [] := List.eq_nil_of_length_eq_zero hl
    have HO := Lib.hid ho
    clear ho hl
    go_enter Try.func14, Try.ntmps14
    go_wp2
    go_loopw [1, 5] (fun k i wr => k = .int .i64 k0 ∧ i = .int .i64 0 ∧ w = wr) (fun _ i _ => 0)
    case atStart => exact ⟨rfl, rfl, rfl⟩
    case round =>
      obtain ⟨rfl, rfl, rfl⟩ := hrel
      go_wp2
      go_ret
      exact ⟨by simp, HO.out, World.grownBy.refl _ _⟩
  · injection he with h1 h2 h3
    subst h1
    clear r h2 h3
    go_enter Try.func14, Try.ntmps14
    go_wp2
    go_loopw [1, 5] (fun k i wr => ∃ (q : Nat) (m : List Int), q ≤ n ∧ k = .int .i64 (k0 + q) ∧ i = .int .i64 q ∧ OI wr base (.slice (some ⟨g, 0, none⟩) n c) m ∧ w.grownBy wr (some g) ∧ ∀ j, j < q → nth m j = k0 + j) (fun _ i _ => n - (intOf i).toNat)
    case atStart => exact ⟨0, l, Nat.zero_le _, by simp, rfl, ho, World.grownBy.refl _ _, by simp⟩
    case round =>
      obtain ⟨q, m, hq, rfl, rfl, hom, hg, ht⟩ := hrel
      have HT := Lib.hid ht
      have HG := Lib.hid hg
      clear ht hg ho
      by_cases hlt : q < n
      · have hc2 := hom.cellAt hlt
        have hf := hom.frozenAt q
        have HS := Lib.hid (hom.stored q (k0 + q))
        have hl := Lib.hid hom.len
        clear hom
        go_wp2
        go_roundw
        case rel =>
          refine ⟨q + 1, _, by omega, by go_num, by go_num, HS.out.1, HG.out.trans HS.out.2, ?_⟩
          intro j hj
          by_cases hjk : j = q
          · subst hjk; exact nth_set_eq (by rw [hl.out]; exact hlt)
          · rw [nth_set_ne (Ne.symm hjk)]; exact HT.out j (by omega)
        case measure => simp [intOf]; omega
      · have hl := hom.len
        obtain rfl : q = n := by omega
        have e : m = upFrom k0 q := agree_all hl (upFrom_len _ _) (fun j hj => by rw [HT.out j (by omega), upFrom_nth hj])
        subst e
        have HO := Lib.hid hom
        clear hom hl
        go_wp2
        go_ret
        exact ⟨rfl, HO.out, HG.out⟩

theorem heldI_any {A : Option Addr} {n : Nat} {w : World} (c : Nat) (k0 : Int) (hx : RI w A n (upFrom k0 n)) (h0 : 0 ≤ k0) (h1 : k0 ≤ 1000000000000) (hn : n ≤ 1000000000000) :
    Calls Try.prog 68 #[.slice A n c, .int .i64 k0] w (Gives w (.int .i64 (k0 + n))) := by
  go_enter Try.func68, Try.ntmps68
  go_wp2
  go_loopw [1, 5] (fun k i wr => ∃ (q : Nat), q ≤ n ∧ k = .int .i64 (k0 + q) ∧ i = .int .i64 q ∧ w = wr) (fun _ i _ => n - (intOf i).toNat)
  case atStart => exact ⟨0, Nat.zero_le _, by simp, rfl, rfl⟩
  case round =>
    obtain ⟨q, hq, rfl, rfl, rfl⟩ := hrel
    by_cases hlt : q < n
    · obtain ⟨ad, hA, hc⟩ := hx.cell hlt
      subst hA
      rw [upFrom_nth hlt] at hc
      go_wp2
      go_roundw
      case rel => exact ⟨q + 1, by omega, by go_num, by go_num, by trivial⟩
      case measure => simp [intOf]; omega
    · obtain rfl : q = n := by omega
      go_wp2
      go_ret
      exact ⟨rfl, Quiet.refl _⟩

/-- What a law leaves. -/
def Law (w : World) : Ending → World → Prop := fun e w' => e = .returned (.bool true) ∧ Below w.heap.size w w'
theorem bmark {B : Nat} {a w w' wx : World} {base : Nat} {v : Value} {l : List Int} (g : Below B a w) (hg : w.grownBy w' v.ownBlock) (ho : OI wx base v l) (hB : B ≤ base) (hs : B ≤ w.heap.size) : Below B a w' :=
  g.grown hg hs fun k hk => Nat.le_trans hB (ho.lt k hk).1
theorem bnext {B : Nat} {a b c : World} (h : Below B a b) (k : Below b.heap.size b c) (hB : B ≤ b.heap.size) : Below B a c := h.trans (k.mono hB)
end Go.Proofs.Ytgbojgmmingfdaa

/- Words for memory, more: rows whose cells are numbers and slices of numbers ([][]int, slices of structs). -/
namespace Go.Proofs.Ytgbojgmmingfdaa
open Go.RowKit

/-- A field: a number, or a list of numbers. -/
def FR (w : World) (b : Nat) : Int ⊕ List Int → Value → Prop
  | .inl n, u => u = .int .i64 n
  | .inr l, u => OI w b u l
/-- The cells u read as the fields f. -/
def FRs (w : World) (b : Nat) (fs : List (Int ⊕ List Int)) (cells : List Value) : Prop :=
  cells.length = fs.length ∧ ∀ (j : Nat) (x : Int ⊕ List Int) (u : Value), fs[j]? = some x → cells[j]? = some u → FR w b x u
/-- No two of the slices among the cells share a block. -/
def Dist (cells : List Value) : Prop := ∀ (i j : Nat) (u u' : Value), i < j → cells[i]? = some u → cells[j]? = some u' → u.ownBlock = none ∨ u.ownBlock ≠ u'.ownBlock

theorem OI.one {w : World} {b : Nat} {u : Value} {l : List Int} (h : OI w b u l) : u.oneCell' = true := by
  obtain ⟨A, n, c, rfl, _⟩ := h.form
  rfl
theorem FR.one {w : World} {b : Nat} {x : Int ⊕ List Int} {u : Value} (h : FR w b x u) : u.oneCell' = true := by
  cases x with
  | inl n => unfold FR at h; subst h; rfl
  | inr l => exact OI.one h
theorem OI.kept_type {w w' : World} {b : Nat} {u : Value} {l : List Int} {row : Option Nat} (h : OI w b u l) (hg : w.grownBy w' row)
    (hrow : ∀ g, row = some g → ∃ cs e m, w.heap[g]? = some (.cells cs e m) ∧ e ≠ 3) : OI w' b u l := by
  refine h.kept hg ?_
  rcases h.2 with ⟨rfl, _⟩ | ⟨g, cap, cur, rfl, _, hh, _⟩
  · exact .inl rfl
  · refine .inr fun e => ?_
    obtain ⟨cs, e', m, h1, h2⟩ := hrow g e.symm
    rw [hh] at h1
    injection h1 with h1
    injection h1 with _ h3
    exact h2 h3.symm
theorem FR.kept_type {w w' : World} {b : Nat} {x : Int ⊕ List Int} {u : Value} {row : Option Nat} (h : FR w b x u) (hg : w.grownBy w' row)
    (hrow : ∀ g, row = some g → ∃ cs e m, w.heap[g]? = some (.cells cs e m) ∧ e ≠ 3) : FR w' b x u := by
  cases x with
  | inl n => exact h
  | inr l => exact OI.kept_type h hg hrow
theorem FR.below {w w' : World} {b : Nat} {x : Int ⊕ List Int} {u : Value} (h : FR w b x u) (hb : Below w.heap.size w w') : FR w' b x u := by
  cases x with
  | inl n => exact h
  | inr l => exact OI.below h hb
theorem FR.mono {w : World} {b b' : Nat} {x : Int ⊕ List Int} {u : Value} (h : FR w b x u) (hb : b' ≤ b) : FR w b' x u := by
  cases x with
  | inl n => exact h
  | inr l => exact OI.mono h hb
theorem FR.lt {w : World} {b : Nat} {x : Int ⊕ List Int} {u : Value} (h : FR w b x u) : ∀ k, u.ownBlock = some k → b ≤ k ∧ k < w.heap.size := by
  cases x with
  | inl n => unfold FR at h; subst h; intro k hk; simp [Value.ownBlock] at hk
  | inr l => exact OI.lt h

section
variable {w w' : World} {b b' : Nat} {fs fs2 : List (Int ⊕ List Int)} {cells news : List Value}
theorem FRs.nil_ : FRs w b [] [] := ⟨rfl, fun j x u h => by simp at h⟩
theorem FRs.below (h : FRs w b fs cells) (hb : Below w.heap.size w w') : FRs w' b fs cells := ⟨h.1, fun j x u h1 h2 => (h.2 j x u h1 h2).below hb⟩
theorem FRs.kept_type {row : Option Nat} (h : FRs w b fs cells) (hg : w.grownBy w' row) (hrow : ∀ g, row = some g → ∃ cs e m, w.heap[g]? = some (.cells cs e m) ∧ e ≠ 3) : FRs w' b fs cells :=
  ⟨h.1, fun j x u h1 h2 => (h.2 j x u h1 h2).kept_type hg hrow⟩
theorem FRs.mono (h : FRs w b fs cells) (hb : b' ≤ b) : FRs w b' fs cells := ⟨h.1, fun j x u h1 h2 => (h.2 j x u h1 h2).mono hb⟩
theorem FRs.append (h : FRs w b fs cells) (h2 : FRs w b fs2 news) : FRs w b (fs ++ fs2) (cells ++ news) := by
  refine ⟨by simp [h.1, h2.1], fun j x u hx hu => ?_⟩
  rcases Nat.lt_or_ge j fs.length with hj | hj
  · rw [List.getElem?_append_left hj] at hx
    rw [List.getElem?_append_left (by rw [h.1]; exact hj)] at hu
    exact h.2 j x u hx hu
  · rw [List.getElem?_append_right hj] at hx
    rw [List.getElem?_append_right (by rw [h.1]; exact hj), h.1] at hu
    exact h2.2 _ x u hx hu
theorem FRs.at_ (h : FRs w b fs cells) {j : Nat} {x : Int ⊕ List Int} (hx : fs[j]? = some x) : ∃ u, cells[j]? = some u ∧ FR w b x u := by
  have hj := (List.getElem?_eq_some_iff.1 hx).1
  have hu : cells[j]? = some (cells[j]'(by rw [h.1]; exact hj)) := List.getElem?_eq_getElem _
  exact ⟨_, hu, h.2 j x _ hx hu⟩
theorem FRs.one (h : FRs w b fs cells) : ∀ u ∈ cells, u.oneCell' = true := by
  intro u hu
  obtain ⟨j, hj, e⟩ := List.getElem_of_mem hu
  have hx : fs[j]? = some (fs[j]'(by rw [← h.1]; exact hj)) := List.getElem?_eq_getElem _
  exact (h.2 j _ u hx (by rw [List.getElem?_eq_getElem hj, e])).one
theorem Dist.nil_ : Dist [] := fun i j u u' _ h => by simp at h
theorem Dist.append (h : Dist cells) (h2 : Dist news) (h3 : ∀ u ∈ cells, ∀ u' ∈ news, u.ownBlock = none ∨ u.ownBlock ≠ u'.ownBlock) : Dist (cells ++ news) := by
  intro i j u u' hij hu hu'
  rcases Nat.lt_or_ge j cells.length with hj | hj
  · rw [List.getElem?_append_left (by omega)] at hu
    rw [List.getElem?_append_left hj] at hu'
    exact h i j u u' hij hu hu'
  · rw [List.getElem?_append_right hj] at hu'
    rcases Nat.lt_or_ge i cells.length with hi | hi
    · rw [List.getElem?_append_left hi] at hu
      exact h3 u (List.mem_of_getElem? hu) u' (List.mem_of_getElem? hu')
    · rw [List.getElem?_append_right hi] at hu
      exact h2 _ _ u u' (by omega) hu hu'
/-- What was made later lies apart from what was there. -/
theorem FRs.apart (h : FRs w b fs cells) (h2 : FRs w' b' fs2 news) (hs : w.heap.size ≤ b') : ∀ u ∈ cells, ∀ u' ∈ news, u.ownBlock = none ∨ u.ownBlock ≠ u'.ownBlock := by
  intro u hu u' hu'
  obtain ⟨i, hi, e⟩ := List.getElem_of_mem hu
  obtain ⟨j, hj, e'⟩ := List.getElem_of_mem hu'
  have f1 := h.2 i _ u (List.getElem?_eq_getElem (by rw [← h.1]; exact hi)) (by rw [List.getElem?_eq_getElem hi, e])
  have f2 := h2.2 j _ u' (List.getElem?_eq_getElem (by rw [← h2.1]; exact hj)) (by rw [List.getElem?_eq_getElem hj, e'])
  rcases hk : u.ownBlock with _ | k
  · exact .inl rfl
  · refine .inr fun e => ?_
    have := (f1.lt k hk).2
    have := (f2.lt k e.symm).1
    omega
end

/-- The value is a slice of n elements of type e, of 'size' cells each, that the call owns from block 'base' on; its cells read as the fields fs, whose slices are owned from b on and share no block. -/
def OF (w : World) (base b : Nat) (e : TypeId) (size : Nat) (v : Value) (n : Nat) (fs : List (Int ⊕ List Int)) (cells : List Value) : Prop :=
  w.ownsRow base e size v n cells ∧ FRs w b fs cells ∧ Dist cells

section
variable {w w' : World} {base base' b b' size n : Nat} {e : TypeId} {v : Value} {fs : List (Int ⊕ List Int)} {cells : List Value}
theorem OF.nil_ (w : World) (base b : Nat) (e : TypeId) (size : Nat) : OF w base b e size (.slice none 0 0) 0 [] [] := ⟨World.ownsRow_nil _ _ _ _, FRs.nil_, Dist.nil_⟩
theorem OF.below (h : OF w base b e size v n fs cells) (hb : Below w.heap.size w w') : OF w' base b e size v n fs cells :=
  ⟨World.ownsRow.kept h.1 (row := none) ⟨hb.os, hb.tape, hb.output, hb.size, fun k hk _ => hb.block k hk⟩ (by cases hv : v.ownBlock <;> simp), h.2.1.below hb, h.2.2⟩
theorem OF.alloc (h : OF w base b e size v n fs cells) (o : Obj) : OF (w.alloc o) base b e size v n fs cells := h.below ((Below.refl _ _).alloc (Nat.le_refl _) o)
theorem OF.mono (h : OF w base b e size v n fs cells) (h1 : base' ≤ base) (h2 : b' ≤ b) : OF w base' b' e size v n fs cells := by
  refine ⟨⟨h.1.1, ?_⟩, h.2.1.mono h2, h.2.2⟩
  rcases h.1.2 with hn | ⟨g, cap, cur, rfl, hg, r⟩
  · exact .inl hn
  · exact .inr ⟨g, cap, cur, rfl, Nat.le_trans h1 hg, r⟩
theorem OF.lt (h : OF w base b e size v n fs cells) : ∀ k, v.ownBlock = some k → base ≤ k ∧ k < w.heap.size := World.ownsRow.lt h.1
theorem OF.typed (h : OF w base b e size v n fs cells) : ∀ g, v.ownBlock = some g → ∃ cs m, w.heap[g]? = some (.cells cs e m) := by
  intro g hg
  rcases h.1.2 with ⟨rfl, _⟩ | ⟨g', cap, cur, rfl, _, hh, _⟩
  · simp [Value.ownBlock] at hg
  · simp [Value.ownBlock] at hg
    subst hg
    exact ⟨_, _, hh⟩
theorem OF.typed' (h : OF w base b e size v n fs cells) (he : e ≠ 3) : ∀ g, v.ownBlock = some g → ∃ cs e m, w.heap[g]? = some (.cells cs e m) ∧ e ≠ 3 := by
  intro g hg
  obtain ⟨cs, m, hh⟩ := h.typed g hg
  exact ⟨cs, e, m, hh, he⟩
/-- What an owned row is, as the walk wants it. -/
theorem OF.form (h : OF w base b e size v n fs cells) : ∃ A c, v = .slice A n c ∧ n ≤ c ∧ c ≤ 9223372036854775807 ∧ (A = none → n = 0) ∧ cells.length = n * size ∧ fs.length = n * size ∧
    (0 < n → ∃ ad, A = some ad ∧ ∀ j u, cells[j]? = some u → w.cell? (ad.add j) = some u) := by
  have hl := h.1.1
  have hl2 : fs.length = n * size := by rw [← h.2.1.1, hl]
  rcases h.1.2 with ⟨rfl, rfl⟩ | ⟨g, cap, cur, rfl, hb, hg, hnc, hcm, hs, ht⟩
  · exact ⟨_, _, rfl, by simp, by simp, fun _ => rfl, hl, hl2, fun h => absurd h (by omega)⟩
  · exact ⟨_, _, rfl, hnc, by simpa [maxLen] using hcm, fun h => by (cases h), hl, hl2, fun _ => ⟨_, rfl, h.1.cells (g := g) rfl⟩⟩
end

/-- append of one element of 'size' cells, at a row of the call's own. -/
theorem run_appF {P : Program} {w : World} {base b : Nat} {t e : TypeId} {size bytes : Nat} {z : Value} {v : Value} {n : Nat} {fs fs2 : List (Int ⊕ List Int)} {cells news : List Value} (ty : TypeId)
    (ht : P.underlying t = some (.slice e)) (hinfo : (P.info? e).map (fun i => (i.zero, i.size, i.bytes)) = some (some z, size, bytes)) (hzs : z.cells.size = size) (hsz : 0 < size) (hbt : bytes ≤ 100) (he : e ≠ 3)
    (hown : OF w base b e size v n fs cells) (ad : Addr) (c : Nat) (hl : news.length = size) (hnews : ∀ j u, news[j]? = some u → w.cell? (ad.add j) = some u) (hfr : FRs w b fs2 news) (hd : Dist news)
    (hap : ∀ u ∈ cells, ∀ u' ∈ news, u.ownBlock = none ∨ u.ownBlock ≠ u'.ownBlock) (hlen : n + 1 ≤ 1000000000000) (hbase : base ≤ w.heap.size) :
    ∃ v' w', (Builtin.append_ #[t, t] ty #[v, .slice (some ad) 1 c]).run P w = .ok v' w' ∧ OF w' base b e size v' (n + 1) (fs ++ fs2) (cells ++ news) ∧ w.grownBy w' v.ownBlock ∧ (v'.ownBlock = v.ownBlock ∨ v'.ownBlock = some w.heap.size) := by
  obtain ⟨i0, hi, hz, hs1, hb⟩ := info_parts hinfo
  obtain ⟨v', w', hr, h2, h3, _, h5⟩ := run_append_own_at (P := P) w base t ty e i0 z size bytes ht hi hz hs1 hb hzs hsz v n cells hown.1 ad 1 c news (by omega) hnews hfr.one (by simp only [maxLen]; omega)
    (Nat.le_trans (Nat.mul_le_mul_left _ hbt) (by omega)) hbase
  exact ⟨v', w', hr, ⟨h2, (hown.2.1.append hfr).kept_type h3 (hown.typed' he), hown.2.2.append hd hap⟩, h3, h5⟩

theorem wpAppF {P : Program} {w : World} {ops : Array Oper} {rest : List Oper} {o : Oper} {a : Act} {Q : Exit → Act → World → Prop} (hgd : o.guard = none) (s x : Operand) (t e : TypeId)
    (ho : o.op = .call { callee := .builtin .append, args := #[s, x], argTypes := #[t, t] }) (size bytes : Nat) (z : Value)
    (ht : P.underlying t = some (.slice e)) (hinfo : (P.info? e).map (fun i => (i.zero, i.size, i.bytes)) = some (some z, size, bytes)) (hzs : z.cells.size = size) (hsz : 0 < size) (hbt : bytes ≤ 100) (he : e ≠ 3)
    (base b : Nat) (v : Value) (n : Nat) (fs fs2 : List (Int ⊕ List Int)) (cells news : List Value) (ad : Addr) (c : Nat) (hs : a.eval s = v) (hx : a.eval x = .slice (some ad) 1 c)
    (hown : OF w base b e size v n fs cells) (hl : news.length = size) (hnews : ∀ j u, news[j]? = some u → w.cell? (ad.add j) = some u) (hfr : FRs w b fs2 news) (hd : Dist news)
    (hap : ∀ u ∈ cells, ∀ u' ∈ news, u.ownBlock = none ∨ u.ownBlock ≠ u'.ownBlock) (hlen : n + 1 ≤ 1000000000000) (hbase : base ≤ w.heap.size)
    (h : ∀ v' w', OF w' base b e size v' (n + 1) (fs ++ fs2) (cells ++ news) → w.grownBy w' v.ownBlock → (v'.ownBlock = v.ownBlock ∨ v'.ownBlock = some w.heap.size) → wpList P ops Q rest (a.put o.dst v') w') :
    wpList P ops Q (o :: rest) a w := by
  refine wpList_plain hgd fun K hK => ?_
  obtain ⟨v', w', hr, h2, h3, h5⟩ := run_appF o.type ht hinfo hzs hsz hbt he hown ad c hl hnews hfr hd hap hlen hbase
  unfold Oper.wp execOp
  simp only [ho, resolve, invoke, builtin, Sem.run_bind, Sem.run_pure, Result.andThen_ok, List.map_toArray, List.map_cons, List.map_nil, hs, hx, hr]
  exact hK _ _ (h v' w' h2 h3 h5)

/-- A new block's cells. -/
theorem new_cells (w : World) (cs : List Value) (e : TypeId) : ∀ j u, cs[j]? = some u → (w.alloc (.cells cs.toArray e)).cell? ((⟨w.heap.size, 0, none⟩ : Addr).add j) = some u := by
  intro j u hu
  have hadd : (⟨w.heap.size, 0, none⟩ : Addr).add j = ⟨w.heap.size, j, none⟩ := by unfold Addr.add; split <;> simp_all
  rw [hadd, cell_of_row _ _ j _ _ (0, 0) (heap_alloc_new w _)]
  simpa using hu

theorem Dist.one (u : Value) : Dist [u] := by
  intro i j a a' hij h1 h2
  have := (List.getElem?_eq_some_iff.1 h2).1
  simp at this
  omega
theorem FRs.one_ {w : World} {b : Nat} {x : Int ⊕ List Int} {u : Value} (h : FR w b x u) : FRs w b [x] [u] := by
  refine ⟨rfl, fun j y a h1 h2 => ?_⟩
  have hj := (List.getElem?_eq_some_iff.1 h1).1
  simp at hj
  subst hj
  simp at h1 h2
  subst h1 h2
  exact h

/-! ### slices of slices of numbers -/
theorem Try.infoInts : (Try.prog.info? 22).map (fun i => (i.zero, i.size, i.bytes)) = some (some (.slice none 0 0), 1, 24) := by kernel_rfl
def rows (ls : List (List Int)) : List (Int ⊕ List Int) := ls.map .inr
theorem rows_at {ls : List (List Int)} {k : Nat} (h : k < ls.length) : (rows ls)[k]? = some (.inr (nthL ls k)) := by simp [rows, nthL, List.getD, h]
theorem rows_append (a b : List (List Int)) : rows (a ++ b) = rows a ++ rows b := by simp [rows]
theorem rows_len (a : List (List Int)) : (rows a).length = a.length := by simp [rows]

/-- The value is a slice of slices that the call owns; it reads as ls. -/
def OS (w : World) (base b : Nat) (v : Value) (ls : List (List Int)) (cells : List Value) : Prop := OF w base b 22 1 v ls.length (rows ls) cells

theorem OS.form {w : World} {base b : Nat} {v : Value} {ls : List (List Int)} {cells : List Value} (h : OS w base b v ls cells) : ∃ A n c, v = .slice A n c ∧ ls.length = n ∧ n ≤ c ∧ c ≤ 9223372036854775807 := by
  obtain ⟨A, c, hv, h1, h2, _⟩ := OF.form h
  exact ⟨A, ls.length, c, hv, rfl, h1, h2⟩
/-- The k-th element, in a world in which the row is still as it was. -/
theorem OS.cell {w : World} {base b : Nat} {A : Option Addr} {n c k : Nat} {ls : List (List Int)} {cells : List Value} (h : OS w base b (.slice A n c) ls cells) (hk : k < n) :
    ∃ ad A' n' c', A = some ad ∧ w.cell? (ad.add k) = some (.slice A' n' c') ∧ cells[k]? = some (.slice A' n' c') ∧ OI w b (.slice A' n' c') (nthL ls k) ∧ n' ≤ c' := by
  obtain ⟨A1, c1, hv, h1, h2, h3, h4, h5, h6⟩ := OF.form h
  injection hv with e1 e2 e3
  subst e1 e3
  rw [e2] at hk
  obtain ⟨ad, hA, hc⟩ := h6 (by omega)
  obtain ⟨u, hu, hf⟩ := h.2.1.at_ (rows_at hk)
  have hf' : OI w b u (nthL ls k) := hf
  obtain ⟨A', n', c', rfl, _, hcc, _⟩ := hf'.form
  exact ⟨ad, A', n', c', hA, hc _ _ hu, hu, hf', hcc⟩


theorem OS.below {w w' : World} {base b : Nat} {v : Value} {ls : List (List Int)} {cells : List Value} (h : OS w base b v ls cells) (hb : Below w.heap.size w w') : OS w' base b v ls cells := OF.below h hb
/-- 'append(out, x)' at [][]int: x is a slice of the call's own, apart from all that out holds. -/
theorem wpAppS {w0 : World} {ops : Array Oper} {rest : List Oper} {o : Oper} {a : Act} {Q : Exit → Act → World → Prop} (hgd : o.guard = none) (s x : Operand)
    (ho : o.op = .call { callee := .builtin .append, args := #[s, x], argTypes := #[42, 42] })
    (base b : Nat) (v : Value) (ls : List (List Int)) (cells : List Value) (u : Value) (l : List Int) (hs : a.eval s = v) (hx : a.eval x = .slice (some ⟨w0.heap.size, 0, none⟩) 1 1)
    (hown : OS w0 base b v ls cells) (hu : OI w0 b u l) (hap : ∀ u' ∈ cells, u'.ownBlock = none ∨ u'.ownBlock ≠ u.ownBlock) (hlen : ls.length + 1 ≤ 1000000000000) (hbase : base ≤ w0.heap.size)
    (h : ∀ v' w', OS w' base b v' (ls ++ [l]) (cells ++ [u]) → (w0.alloc (.cells #[u] 22)).grownBy w' v.ownBlock → (v'.ownBlock = v.ownBlock ∨ v'.ownBlock = some (w0.heap.size + 1)) → wpList Try.prog ops Q rest (a.put o.dst v') w') :
    wpList Try.prog ops Q (o :: rest) a (w0.alloc (.cells #[u] 22)) := by
  refine wpAppF hgd s x 42 22 ho 1 24 (.slice none 0 0) Try.underlying42 Try.infoInts rfl (by omega) (by omega) (by decide) base b v ls.length (rows ls) [.inr l] cells [u] ⟨w0.heap.size, 0, none⟩ 1 hs hx
    (OF.alloc hown _) rfl (new_cells w0 [u] _) (FRs.one_ (OI.alloc hu _)) (Dist.one u) ?_ hlen (by simp; omega) fun v' w' h2 h3 h5 => h v' w' ?_ h3 (by simpa using h5)
  · intro u' hu' u'' hu''
    simp at hu''
    subst hu''
    exact hap u' hu'
  · unfold OS
    rw [rows_append, List.length_append]
    exact h2

theorem grown_step {w wr w' : World} {row row' : Option Nat} (h : w.grownBy wr row) (h2 : wr.grownBy w' row') (hr : row' = row ∨ ∀ k, row' = some k → w.heap.size ≤ k) : w.grownBy w' row :=
  ⟨h2.os.trans h.os, h2.tape.trans h.tape, h2.output.trans h.output, Nat.le_trans h.size h2.size, fun k hk hne => (h2.block k (Nat.lt_of_lt_of_le hk h.size) (fun e => by
    rcases hr with hr | hr
    · exact hne (e.trans hr)
    · have := hr k e.symm; omega)).trans (h.block k hk hne)⟩
theorem grown_below {w wr w' : World} {row : Option Nat} (h : w.grownBy wr row) (h2 : Below wr.heap.size wr w') : w.grownBy w' row :=
  grown_step h (row' := none) ⟨h2.os, h2.tape, h2.output, h2.size, fun k hk _ => h2.block k hk⟩ (.inr fun k h => by cases h)
theorem grown_drewN {w wr : World} {row : Option Nat} (h : w.grownBy wr row) (n : Nat) : w.grownBy (wr.drewN n) row := ⟨h.os, h.tape, h.output, h.size, h.block⟩
theorem grown_alloc {w wr : World} {row : Option Nat} (h : w.grownBy wr row) (o : Obj) : w.grownBy (wr.alloc o) row := grown_below h ((Below.refl _ _).alloc (Nat.le_refl _) o)
/-- Where a slice lies that began as v0 in the world w. -/
def From (w : World) (v0 v : Value) : Prop := v.ownBlock = v0.ownBlock ∨ ∀ k, v.ownBlock = some k → w.heap.size ≤ k
theorem From.refl (w : World) (v : Value) : From w v v := .inl rfl
theorem From.next {w wr : World} {v0 v v' : Value} (h : From w v0 v) (hs : w.heap.size ≤ wr.heap.size) (h2 : v'.ownBlock = v.ownBlock ∨ ∀ k, v'.ownBlock = some k → wr.heap.size ≤ k) : From w v0 v' := by
  rcases h2 with h2 | h2
  · unfold From; rw [h2]; exact h
  · exact .inr fun k hk => Nat.le_trans hs (h2 k hk)
theorem From.app {w : World} {v0 v v' : Value} {n : Nat} (h : From w v0 v) (hs : w.heap.size ≤ n) (h2 : v'.ownBlock = v.ownBlock ∨ v'.ownBlock = some n) : From w v0 v' := by
  rcases h2 with h2 | h2
  · unfold From; rw [h2]; exact h
  · exact .inr fun k hk => by rw [h2] at hk; injection hk with hk; omega
/-- What was made from block H on lies apart from cells that lie below H. -/
theorem apart_new {w w' : World} {b H : Nat} {fs : List (Int ⊕ List Int)} {cells : List Value} {u : Value} {l : List Int} (h : FRs w b fs cells) (hs : w.heap.size ≤ H) (hu : OI w' H u l) : ∀ u' ∈ cells, u'.ownBlock = none ∨ u'.ownBlock ≠ u.ownBlock :=
  fun u' hu' => FRs.apart h (FRs.one_ (x := .inr l) hu) hs u' hu' u (by simp)

/-- An owned row is kept where another row is written. -/
theorem OF.kept {w w' : World} {base b size n : Nat} {e : TypeId} {v : Value} {fs : List (Int ⊕ List Int)} {cells : List Value} {row : Option Nat} (h : OF w base b e size v n fs cells) (hg : w.grownBy w' row)
    (hne : v.ownBlock = none ∨ v.ownBlock ≠ row) (hrow : ∀ g, row = some g → ∃ cs e m, w.heap[g]? = some (.cells cs e m) ∧ e ≠ 3) : OF w' base b e size v n fs cells :=
  ⟨World.ownsRow.kept h.1 hg hne, h.2.1.kept_type hg hrow, h.2.2⟩
theorem OF.apart {wa wb : World} {base base' b b' size size' n n' : Nat} {e e' : TypeId} {v v' : Value} {fs fs' : List (Int ⊕ List Int)} {cells cells' : List Value}
    (h1 : OF wa base b e size v n fs cells) (h2 : OF wb base' b' e' size' v' n' fs' cells') (h : wa.heap.size ≤ base') : v'.ownBlock = none ∨ v'.ownBlock ≠ v.ownBlock := by
  rcases h' : v'.ownBlock with _ | k
  · exact .inl rfl
  · refine .inr fun e => ?_
    have := (h2.lt k h').1
    have := (h1.lt k e.symm).2
    omega
theorem OS.lit (w : World) (base b : Nat) (ls : List (List Int)) (cells : List Value) (hb : base ≤ w.heap.size) (hf : FRs w b (rows ls) cells) (hd : Dist cells) (hl : ls.length ≤ 1000000000000) (n : Nat) (hn : n = ls.length) :
    OS (w.alloc (.cells cells.toArray 22)) base b (.slice (some ⟨w.heap.size, 0, none⟩) n n) ls cells := by
  subst hn
  have e : cells.length = ls.length := by rw [hf.1, rows_len]
  refine ⟨?_, hf.below ((Below.refl _ _).alloc (Nat.le_refl _) _), hd⟩
  have := World.ownsRow_lit (e := 22) (size := 1) (base := base) w cells.toArray ls.length hb (by simp only [maxLen]; omega) (by simp [e])
  simpa using this
/-- What a function leaves that returns a new slice of slices. -/
def MakesS (w : World) (ls : List (List Int)) : Ending → World → Prop := fun e w' =>
  ∃ A n c cells, e = .returned (.slice A n c) ∧ OS w' w.heap.size w.heap.size (.slice A n c) ls cells ∧ ls.length = n ∧ (n ≤ c ∧ c ≤ 9223372036854775807) ∧ Below w.heap.size w w'
theorem MakesS.of {w w' : World} {v : Value} {ls : List (List Int)} {cells : List Value} (h : OS w' w.heap.size w.heap.size v ls cells) (hb : Below w.heap.size w w') : MakesS w ls (.returned v) w' := by
  obtain ⟨A, n, c, rfl, h1, h2, h3⟩ := h.form
  exact ⟨A, n, c, cells, rfl, h, h1, ⟨h2, h3⟩, hb⟩
theorem map_take_succ {ls : List (List Int)} {f : List Int → List Int} {j : Nat} (h : j < ls.length) : (ls.take (j + 1)).map f = (ls.take j).map f ++ [f (nthL ls j)] := by
  rw [nthL_lt h, List.take_succ_eq_append_getElem h, List.map_append]; rfl

/-- An owned row is kept where only blocks below its own are written. -/
theorem OI.kept_low {w w' : World} {base : Nat} {v : Value} {l : List Int} {row : Option Nat} (h : OI w base v l) (hg : w.grownBy w' row) (hr : ∀ g, row = some g → g < base) : OI w' base v l := by
  refine h.kept hg ?_
  rcases h' : v.ownBlock with _ | k
  · exact .inl rfl
  · refine .inr fun e => ?_
    have := (h.lt k h').1
    have := hr k e.symm
    omega
theorem FR.kept_low {w w' : World} {b : Nat} {x : Int ⊕ List Int} {u : Value} {row : Option Nat} (h : FR w b x u) (hg : w.grownBy w' row) (hr : ∀ g, row = some g → g < b) : FR w' b x u := by
  cases x with
  | inl n => exact h
  | inr l => exact OI.kept_low h hg hr
theorem OF.kept_low {w w' : World} {base b size n : Nat} {e : TypeId} {v : Value} {fs : List (Int ⊕ List Int)} {cells : List Value} {row : Option Nat} (h : OF w base b e size v n fs cells) (hg : w.grownBy w' row)
    (hr : ∀ g, row = some g → g < base ∧ g < b) : OF w' base b e size v n fs cells := by
  refine ⟨World.ownsRow.kept h.1 hg ?_, ⟨h.2.1.1, fun j x u h1 h2 => (h.2.1.2 j x u h1 h2).kept_low hg fun g e => (hr g e).2⟩, h.2.2⟩
  rcases h' : v.ownBlock with _ | k
  · exact .inl rfl
  · refine .inr fun e => ?_
    have := (h.lt k h').1
    have := (hr k e.symm).1
    omega
end Go.Proofs.Ytgbojgmmingfdaa

/- Words for memory, more: what is written lies between two block numbers; a field of an owned row is written. -/
namespace Go.Proofs.Ytgbojgmmingfdaa
open Go.RowKit

theorem slice_inj {A A' : Option Addr} {n n' c c' : Nat} (h : Value.slice A n c = Value.slice A' n' c') : A = A' ∧ n = n' ∧ c = c' := by
  injection h with h1 h2 h3
  exact ⟨h1, h2, h3⟩
theorem own_same {w w' : World} {base n size : Nat} {e : TypeId} {v : Value} {xs : List Value} (h : w.ownsRow base e size v n xs) (hs : ∀ k, v.ownBlock = some k → w'.heap[k]? = w.heap[k]?) : w'.ownsRow base e size v n xs := by
  refine ⟨h.1, ?_⟩
  rcases h.2 with hn | ⟨g, cap, cur, rfl, hb, hgg, rest⟩
  · exact .inl hn
  · exact .inr ⟨g, cap, cur, rfl, hb, (hs g rfl).trans hgg, rest⟩
theorem OI.same {w w' : World} {base : Nat} {v : Value} {l : List Int} (h : OI w base v l) (hs : ∀ k, v.ownBlock = some k → w'.heap[k]? = w.heap[k]?) : OI w' base v l := own_same h hs
theorem FR.same {w w' : World} {b : Nat} {x : Int ⊕ List Int} {u : Value} (h : FR w b x u) (hs : ∀ k, u.ownBlock = some k → w'.heap[k]? = w.heap[k]?) : FR w' b x u := by
  cases x with
  | inl n => exact h
  | inr l => exact OI.same h hs
theorem FRs.same {w w' : World} {b : Nat} {fs : List (Int ⊕ List Int)} {cells : List Value} (h : FRs w b fs cells) (hs : ∀ u ∈ cells, ∀ k, u.ownBlock = some k → w'.heap[k]? = w.heap[k]?) : FRs w' b fs cells :=
  ⟨h.1, fun j x u h1 h2 => (h.2 j x u h1 h2).same (hs u (List.mem_of_getElem? h2))⟩

/-- Nothing but blocks from lo to hi has turned. -/
structure Within (lo hi : Nat) (w w' : World) : Prop where
  os : w'.os = w.os
  tape : w'.tape = w.tape
  output : w'.output = w.output
  size : w.heap.size ≤ w'.heap.size
  block : ∀ k, k < w.heap.size → k < lo ∨ hi ≤ k → w'.heap[k]? = w.heap[k]?
section
variable {lo hi lo' hi' : Nat} {a b c w w' : World}
theorem Within.refl (lo hi : Nat) (w : World) : Within lo hi w w := ⟨rfl, rfl, rfl, Nat.le_refl _, fun _ _ _ => rfl⟩
theorem Within.trans (h : Within lo hi a b) (k : Within lo hi b c) : Within lo hi a c :=
  ⟨k.os.trans h.os, k.tape.trans h.tape, k.output.trans h.output, Nat.le_trans h.size k.size, fun i hi he => (k.block i (Nat.lt_of_lt_of_le hi h.size) he).trans (h.block i hi he)⟩
theorem Within.wide (h : Within lo hi a b) (h1 : lo' ≤ lo) (h2 : hi ≤ hi') : Within lo' hi' a b := ⟨h.os, h.tape, h.output, h.size, fun k hk he => h.block k hk (by omega)⟩
theorem Within.grown {row : Option Nat} (h : Within lo hi a b) (hg : b.grownBy c row) (hr : ∀ g, row = some g → lo ≤ g ∧ g < hi) : Within lo hi a c :=
  h.trans ⟨hg.os, hg.tape, hg.output, hg.size, fun k hk he => hg.block k hk (fun e => by have := hr k e.symm; omega)⟩
theorem Within.quiet (h : Within lo hi a b) (hq : Quiet b c) : Within lo hi a c := by
  obtain ⟨n, rfl⟩ := hq
  exact ⟨h.os, h.tape, h.output, h.size, h.block⟩
theorem Within.setCell (h : Within lo hi a b) {p : Addr} (hp : lo ≤ p.block ∧ p.block < hi) (u : Value) : Within lo hi a (b.setCell p u) :=
  h.trans ⟨rfl, rfl, rfl, by simp [World.setCell], fun k hk he => Below.heap_setCell _ _ _ _ (by omega)⟩
theorem below_within {B : Nat} (h : Below B a b) (hw : Within lo hi b c) (hB : B ≤ lo) (hs : B ≤ b.heap.size) : Below B a c :=
  h.trans ⟨hw.os, hw.tape, hw.output, hw.size, fun k hk => hw.block k (by omega) (.inl (by omega))⟩
theorem OI.within {base : Nat} {v : Value} {l : List Int} (h : OI w base v l) (hw : Within lo hi w w') (hs : ∀ k, v.ownBlock = some k → k < lo ∨ hi ≤ k) : OI w' base v l :=
  h.same fun k hk => hw.block k (h.lt k hk).2 (hs k hk)
end

/-- All blocks of a value and of its cells lie from lo to hi. -/
def In (lo hi : Nat) (v : Value) (cells : List Value) : Prop := (∀ k, v.ownBlock = some k → lo ≤ k ∧ k < hi) ∧ ∀ u ∈ cells, ∀ k, u.ownBlock = some k → lo ≤ k ∧ k < hi
section
variable {w w' : World} {base b size n lo hi lo' hi' : Nat} {e : TypeId} {v : Value} {fs : List (Int ⊕ List Int)} {cells : List Value}
theorem FRs.in_ (h : FRs w b fs cells) : ∀ u ∈ cells, ∀ k, u.ownBlock = some k → b ≤ k ∧ k < w.heap.size := by
  intro u hu k hk
  obtain ⟨j, hj, e⟩ := List.getElem_of_mem hu
  have hx : fs[j]? = some (fs[j]'(by rw [← h.1]; exact hj)) := List.getElem?_eq_getElem _
  exact (h.2 j _ u hx (by rw [List.getElem?_eq_getElem hj, e])).lt k hk
theorem OF.in_ (h : OF w base b e size v n fs cells) (hb : base ≤ b) : In base w.heap.size v cells :=
  ⟨h.lt, fun u hu k hk => by have := h.2.1.in_ u hu k hk; omega⟩
theorem OF.same (h : OF w base b e size v n fs cells) (hs : ∀ k, v.ownBlock = some k → w'.heap[k]? = w.heap[k]?) (hs2 : ∀ u ∈ cells, ∀ k, u.ownBlock = some k → w'.heap[k]? = w.heap[k]?) : OF w' base b e size v n fs cells :=
  ⟨own_same h.1 hs, h.2.1.same hs2, h.2.2⟩
theorem OF.within (h : OF w base b e size v n fs cells) (hi_ : In lo' hi' v cells) (hw : Within lo hi w w') (hs : hi' ≤ lo ∨ hi ≤ lo') : OF w' base b e size v n fs cells :=
  h.same (fun k hk => hw.block k (h.lt k hk).2 (by have := hi_.1 k hk; omega)) (fun u hu k hk => hw.block k (h.2.1.in_ u hu k hk).2 (by have := hi_.2 u hu k hk; omega))
theorem FRs.within (h : FRs w b fs cells) (hi_ : ∀ u ∈ cells, ∀ k, u.ownBlock = some k → lo' ≤ k ∧ k < hi') (hw : Within lo hi w w') (hs : hi' ≤ lo ∨ hi ≤ lo') : FRs w' b fs cells :=
  h.same (fun u hu k hk => hw.block k (h.in_ u hu k hk).2 (by have := hi_ u hu k hk; omega))
end

theorem OI.le {w : World} {b : Nat} {A : Option Addr} {n c : Nat} {l : List Int} (h : OI w b (.slice A n c) l) : n ≤ 9223372036854775807 ∧ n ≤ c := by
  obtain ⟨A', n', c', hv, _, h1, h2, _⟩ := h.form
  obtain ⟨_, rfl, rfl⟩ := slice_inj hv
  omega
theorem OI.typed {w : World} {b : Nat} {u : Value} {l : List Int} (h : OI w b u l) : ∀ k, u.ownBlock = some k → ∃ cs m, w.heap[k]? = some (.cells cs 3 m) := by
  intro k hk
  rcases h.2 with ⟨rfl, _⟩ | ⟨g, cap, cur, rfl, _, hh, _⟩
  · simp [Value.ownBlock] at hk
  · simp [Value.ownBlock] at hk
    subst hk
    exact ⟨_, _, hh⟩

section
variable {w w' : World} {base b size n m : Nat} {e : TypeId} {v u : Value} {fs : List (Int ⊕ List Int)} {cells : List Value} {l l' : List Int}
/-- One slice among fields was written. -/
theorem FRs.setInner (h : FRs w b fs cells) (hd : Dist cells) (hm : fs[m]? = some (.inr l)) (hu : cells[m]? = some u) (hg : w.grownBy w' u.ownBlock) (ho : OI w' b u l') : FRs w' b (fs.set m (.inr l')) cells := by
  refine ⟨by rw [List.length_set, h.1], fun j x a hx ha => ?_⟩
  by_cases hj : m = j
  · subst hj
    rw [List.getElem?_set_self (by exact (List.getElem?_eq_some_iff.1 hm).1)] at hx
    rw [hu] at ha
    injection hx with hx
    injection ha with ha
    subst hx ha
    exact ho
  · rw [List.getElem?_set_ne hj] at hx
    refine (h.2 j x a hx ha).same fun k hk => hg.block k ((h.2 j x a hx ha).lt k hk).2 (fun e => ?_)
    rcases Nat.lt_or_gt_of_ne hj with h1 | h1
    · rcases hd m j u a h1 hu ha with h2 | h2
      · rw [h2] at e; cases e
      · exact h2 (by rw [← e, hk])
    · rcases hd j m a u h1 ha hu with h2 | h2
      · rw [h2] at hk; cases hk
      · exact h2 (by rw [← e, hk])
theorem OF.setInner (h : OF w base b e size v n fs cells) (he : e ≠ 3) (hm : fs[m]? = some (.inr l)) (hu : cells[m]? = some u) (hg : w.grownBy w' u.ownBlock) (ho : OI w' b u l') : OF w' base b e size v n (fs.set m (.inr l')) cells := by
  refine ⟨own_same h.1 fun k hk => hg.block k (h.lt k hk).2 fun e' => ?_, h.2.1.setInner h.2.2 hm hu hg ho, h.2.2⟩
  obtain ⟨cs, m1, h1⟩ := h.typed k hk
  have hf : OI w b u l := h.2.1.2 m _ u hm hu
  obtain ⟨cs', m2, h2⟩ := hf.typed k e'.symm
  rw [h1] at h2
  injection h2 with h2
  injection h2 with _ h3
  exact he h3
/-- One number among fields was written. -/
theorem FRs.setInt (h : FRs w b fs cells) {x : Int} (hm : fs[m]? = some (.inl x)) (y : Int) : FRs w b (fs.set m (.inl y)) (cells.set m (.int .i64 y)) := by
  refine ⟨by simp [h.1], fun j x' a hx ha => ?_⟩
  by_cases hj : m = j
  · subst hj
    have hl := (List.getElem?_eq_some_iff.1 hm).1
    rw [List.getElem?_set_self hl] at hx
    rw [List.getElem?_set_self (by rw [h.1]; exact hl)] at ha
    injection hx with hx
    injection ha with ha
    subst hx ha
    rfl
  · rw [List.getElem?_set_ne hj] at hx ha
    exact h.2 j x' a hx ha
theorem Dist.setInt (h : Dist cells) (y : Int) : Dist (cells.set m (.int .i64 y)) := by
  intro i j a a' hij h1 h2
  by_cases hi : m = i
  · subst hi
    rw [List.getElem?_set] at h1
    simp only [if_true] at h1
    split at h1
    · injection h1 with h1; subst h1; exact .inl rfl
    · cases h1
  · rw [List.getElem?_set_ne hi] at h1
    by_cases hj : m = j
    · subst hj
      rw [List.getElem?_set] at h2
      simp only [if_true] at h2
      split at h2
      · injection h2 with h2; subst h2
        rcases hk : a.ownBlock with _ | k
        · exact .inl rfl
        · exact .inr (by simp [Value.ownBlock])
      · cases h2
    · rw [List.getElem?_set_ne hj] at h2
      exact h i j a a' hij h1 h2
theorem OF.setInt {g c : Nat} (h : OF w base b e size (.slice (some ⟨g, 0, none⟩) n c) n fs cells) (he : e ≠ 3) {x : Int} (hm : fs[m]? = some (.inl x)) (y : Int) :
    OF (w.setCell ⟨g, m, none⟩ (.int .i64 y)) base b e size (.slice (some ⟨g, 0, none⟩) n c) n (fs.set m (.inl y)) (cells.set m (.int .i64 y)) ∧ w.grownBy (w.setCell ⟨g, m, none⟩ (.int .i64 y)) (some g) := by
  obtain ⟨h1, h2⟩ := h.1.stored m (.int .i64 y)
  exact ⟨⟨h1, (h.2.1.kept_type h2 (fun g' e' => by
    injection e' with e'; subst e'
    exact h.typed' he g rfl)).setInt hm y, h.2.2.setInt y⟩, h2⟩
theorem OF.cellF {g c : Nat} (h : OF w base b e size (.slice (some ⟨g, 0, none⟩) n c) n fs cells) (hm : m < n * size) : w.cell? ⟨g, m, none⟩ = cells[m]? := h.1.cellAt m hm
theorem OF.frozenF {g c : Nat} (h : OF w base b e size (.slice (some ⟨g, 0, none⟩) n c) n fs cells) (m : Nat) : w.frozen? ⟨g, m, none⟩ = false := h.1.frozenAt m
theorem OF.shape (h : OF w base b e size v n fs cells) (hn : 0 < n) : ∃ g c, v = .slice (some ⟨g, 0, none⟩) n c ∧ base ≤ g ∧ g < w.heap.size := by
  obtain ⟨g, c, h1, h2, h3⟩ := World.ownsRow.form h.1 hn
  exact ⟨g, c, h1, h2, h3⟩
end

/-- How many marks a field takes; the mark before field m; a field marked; fields of which the first m are marked from k0 on. -/
def wF : Int ⊕ List Int → Nat
  | .inl _ => 1
  | .inr l => l.length
def getF (fs : List (Int ⊕ List Int)) (j : Nat) : Int ⊕ List Int := fs.getD j (.inl 0)
def kF (fs : List (Int ⊕ List Int)) (k0 : Int) : Nat → Int
  | 0 => k0
  | m + 1 => kF fs k0 m + wF (getF fs m)
def mkF : Int ⊕ List Int → Int → Int ⊕ List Int
  | .inl _, k => .inl k
  | .inr l, k => .inr (upFrom k l.length)
def markedF (fs : List (Int ⊕ List Int)) (k0 : Int) (m : Nat) : List (Int ⊕ List Int) :=
  (List.range fs.length).map fun j => if j < m then mkF (getF fs j) (kF fs k0 j) else getF fs j
theorem getF_at {fs : List (Int ⊕ List Int)} {j : Nat} {x : Int ⊕ List Int} (h : fs[j]? = some x) : getF fs j = x := by simp [getF, List.getD, h]
theorem getF_lt {fs : List (Int ⊕ List Int)} {j : Nat} (h : j < fs.length) : fs[j]? = some (getF fs j) := by simp [getF, List.getD, h]
theorem markedF_len (fs : List (Int ⊕ List Int)) (k0 : Int) (m : Nat) : (markedF fs k0 m).length = fs.length := by simp [markedF]
theorem markedF_zero (fs : List (Int ⊕ List Int)) (k0 : Int) : markedF fs k0 0 = fs := by
  apply List.ext_getElem (by simp [markedF])
  intro i h1 h2
  simp [markedF, getF, List.getD, h2]
theorem markedF_at {fs : List (Int ⊕ List Int)} {k0 : Int} {m j : Nat} (h : j < fs.length) : (markedF fs k0 m)[j]? = some (if j < m then mkF (getF fs j) (kF fs k0 j) else getF fs j) := by
  simp [markedF, h]
theorem markedF_new {fs : List (Int ⊕ List Int)} {k0 : Int} {m : Nat} {x : Int ⊕ List Int} (h : fs[m]? = some x) : (markedF fs k0 m)[m]? = some x := by
  rw [markedF_at (List.getElem?_eq_some_iff.1 h).1, if_neg (by omega), getF_at h]
theorem markedF_old {fs : List (Int ⊕ List Int)} {k0 : Int} {m j : Nat} {x : Int ⊕ List Int} (h : fs[j]? = some x) (hj : j < m) : (markedF fs k0 m)[j]? = some (mkF x (kF fs k0 j)) := by
  rw [markedF_at (List.getElem?_eq_some_iff.1 h).1, if_pos hj, getF_at h]
theorem markedF_step {fs : List (Int ⊕ List Int)} {k0 : Int} {m : Nat} {x : Int ⊕ List Int} (h : fs[m]? = some x) : (markedF fs k0 m).set m (mkF x (kF fs k0 m)) = markedF fs k0 (m + 1) := by
  apply List.ext_getElem?
  intro j
  rcases Nat.lt_or_ge j fs.length with hj | hj
  · rw [markedF_at (m := m + 1) hj]
    by_cases e : m = j
    · subst e
      rw [List.getElem?_set_self (by rw [markedF_len]; exact hj), if_pos (by omega), getF_at h]
    · rw [List.getElem?_set_ne e, markedF_at hj]
      by_cases h1 : j < m
      · rw [if_pos h1, if_pos (by omega)]
      · rw [if_neg h1, if_neg (by omega)]
  · rw [List.getElem?_eq_none (by rw [List.length_set, markedF_len]; exact hj), List.getElem?_eq_none (by rw [markedF_len]; exact hj)]
theorem kF_step {fs : List (Int ⊕ List Int)} {k0 : Int} {m : Nat} {x : Int ⊕ List Int} (h : fs[m]? = some x) : kF fs k0 (m + 1) = kF fs k0 m + wF x := by rw [kF, getF_at h]
theorem kF_bound {fs : List (Int ⊕ List Int)} {k0 : Int} {W : Nat} (h : ∀ x ∈ fs, wF x ≤ W) (hW : 1 ≤ W) (m : Nat) : k0 ≤ kF fs k0 m ∧ kF fs k0 m ≤ k0 + ((m * W : Nat) : Int) := by
  induction m with
  | zero => simp [kF]
  | succ m ih =>
    have hw : wF (getF fs m) ≤ W := by
      rcases Nat.lt_or_ge m fs.length with hm | hm
      · exact h _ (List.mem_of_getElem? (getF_lt hm))
      · have : getF fs m = .inl 0 := by simp [getF, List.getD, List.getElem?_eq_none hm]
        rw [this]; exact hW
    simp only [kF, Nat.succ_mul]
    omega
end Go.Proofs.Ytgbojgmmingfdaa

/- Parts: a shape and a number: comparisons and marks of slices of them. -/
namespace Go.Proofs.Ytgbojgmmingfdaa
open Go.RowKit

theorem eqPart_any {A C : Option Addr} {n m : Nat} {xs : List Int} {w : World} (c d : Nat) (p : Int) (hx : RI w A n xs) (hy : RI w C m xs) (hn : n ≤ 9223372036854775807) :
    Calls Try.prog 84 #[.agg #[.slice A n c, .int .i64 p], .agg #[.slice C m d, .int .i64 p]] w (GivesB w (.bool true)) := by
  obtain rfl : n = m := hx.1.symm.trans hy.1
  go_enter Try.func84, Try.ntmps84
  go_wp2_with fail
  refine (eqI_any true _ _ ((hx.alloc _).alloc _) ((hy.alloc _).alloc _) (by simp) hn hn).mono ?_
  rintro e w1 ⟨rfl, q, rfl⟩
  go_wp2
  go_ret
  exact ⟨rfl, below_drewN (((Below.refl _ _).alloc (Nat.le_refl _) _).alloc (by simp) _) _⟩

/-- The fields of parts. -/
def partF (ps : List (List Int × Int)) : List (Int ⊕ List Int) := ps.flatMap fun p => [.inr p.1, .inl p.2]
theorem partF_len (ps : List (List Int × Int)) : (partF ps).length = ps.length * 2 := by
  induction ps with
  | nil => rfl
  | cons p r ih => simp only [partF, List.flatMap_cons, List.length_append] at ih ⊢; simp [ih]; omega
theorem partF_at0 {ps : List (List Int × Int)} {k : Nat} (h : k < ps.length) : (partF ps)[k * 2]? = some (.inr (nthP ps k).1) := by
  induction ps generalizing k with
  | nil => simp at h
  | cons p r ih =>
    cases k with
    | zero => rfl
    | succ k =>
      have := ih (k := k) (by simpa using h)
      have e : (k + 1) * 2 = k * 2 + 1 + 1 := by omega
      rw [e]
      simpa [partF, nthP] using this
theorem partF_at1 {ps : List (List Int × Int)} {k : Nat} (h : k < ps.length) : (partF ps)[k * 2 + 1]? = some (.inl (nthP ps k).2) := by
  induction ps generalizing k with
  | nil => simp at h
  | cons p r ih =>
    cases k with
    | zero => rfl
    | succ k =>
      have := ih (k := k) (by simpa using h)
      have e : (k + 1) * 2 + 1 = k * 2 + 1 + 1 + 1 := by omega
      rw [e]
      simpa [partF, nthP] using this

theorem partF_append (a b : List (List Int × Int)) : partF (a ++ b) = partF a ++ partF b := by simp [partF]
theorem Try.infoPart : (Try.prog.info? 47).map (fun i => (i.zero, i.size, i.bytes)) = some (some (.agg #[.slice none 0 0, .int .i64 0]), 2, 32) := by kernel_rfl

/-- The value is a slice of parts that the call owns. -/
def OP (w : World) (base b : Nat) (v : Value) (ps : List (List Int × Int)) (cells : List Value) : Prop := OF w base b 47 2 v ps.length (partF ps) cells

theorem OP.below {w w' : World} {base b : Nat} {v : Value} {ps : List (List Int × Int)} {cells : List Value} (h : OP w base b v ps cells) (hb : Below w.heap.size w w') : OP w' base b v ps cells := OF.below h hb
theorem FRs.two {w : World} {b : Nat} {u : Value} {l : List Int} {y : Int} (h : OI w b u l) : FRs w b [.inr l, .inl y] [u, .int .i64 y] :=
  FRs.append (fs := [.inr l]) (fs2 := [.inl y]) (cells := [u]) (news := [.int .i64 y]) (FRs.one_ (x := .inr l) h) (FRs.one_ (x := .inl y) rfl)
theorem Dist.two (u : Value) (y : Int) : Dist [u, .int .i64 y] := by
  refine Dist.append (cells := [u]) (news := [.int .i64 y]) (Dist.one _) (Dist.one _) fun a _ a' ha' => ?_
  simp at ha'
  subst ha'
  rcases h : a.ownBlock with _ | k
  · exact .inl rfl
  · exact .inr (by simp [Value.ownBlock])

/-- 'append(out, Part{u, y})': at whatever world in which the part lies in a new block. -/
theorem run_appP {w0 : World} {base b : Nat} {v u : Value} {ps : List (List Int × Int)} {cells : List Value} {l : List Int} {y : Int} (ty : TypeId) (hown : OP w0 base b v ps cells) (hu : OI w0 b u l)
    (hap : ∀ u' ∈ cells, u'.ownBlock = none ∨ u'.ownBlock ≠ u.ownBlock) (hlen : ps.length + 1 ≤ 1000000000000) (hbase : base ≤ w0.heap.size) :
    ∃ v' w', (Builtin.append_ #[32, 32] ty #[v, .slice (some ⟨w0.heap.size, 0, none⟩) 1 1]).run Try.prog (w0.alloc (.cells #[u, .int .i64 y] 47)) = .ok v' w' ∧
      OP w' base b v' (ps ++ [(l, y)]) (cells ++ [u, .int .i64 y]) ∧ (w0.alloc (.cells #[u, .int .i64 y] 47)).grownBy w' v.ownBlock ∧ (v'.ownBlock = v.ownBlock ∨ v'.ownBlock = some (w0.heap.size + 1)) := by
  obtain ⟨v', w', hr, h2, h3, h5⟩ := run_appF (P := Try.prog) (w := w0.alloc (.cells #[u, .int .i64 y] 47)) (base := base) (b := b) (t := 32) (e := 47) (size := 2) (bytes := 32) (z := .agg #[.slice none 0 0, .int .i64 0]) (v := v)
    (n := ps.length) (fs := partF ps) (fs2 := [.inr l, .inl y]) (cells := cells) (news := [u, .int .i64 y]) ty Try.underlying32 Try.infoPart rfl (by omega) (by omega) (by decide) (OF.alloc hown _) ⟨w0.heap.size, 0, none⟩ 1 rfl
    (new_cells w0 [u, .int .i64 y] _) (FRs.two (OI.alloc hu _)) (Dist.two _ _) (fun a ha a' ha' => by
      simp at ha'
      rcases ha' with rfl | rfl
      · exact hap a ha
      · rcases h : a.ownBlock with _ | k
        · exact .inl rfl
        · exact .inr (by simp [Value.ownBlock])) hlen (by simp; omega)
  refine ⟨v', w', hr, ?_, h3, by simpa using h5⟩
  unfold OP
  rw [partF_append, List.length_append]
  exact h2

theorem wpAppP {w0 : World} {ops : Array Oper} {rest : List Oper} {o : Oper} {a : Act} {Q : Exit → Act → World → Prop} (hgd : o.guard = none) (s x : Operand)
    (ho : o.op = .call { callee := .builtin .append, args := #[s, x], argTypes := #[32, 32] })
    (base b : Nat) (v u : Value) (ps : List (List Int × Int)) (cells : List Value) (l : List Int) (y : Int) (hs : a.eval s = v) (hx : a.eval x = .slice (some ⟨w0.heap.size, 0, none⟩) 1 1)
    (hown : OP w0 base b v ps cells) (hu : OI w0 b u l) (hap : ∀ u' ∈ cells, u'.ownBlock = none ∨ u'.ownBlock ≠ u.ownBlock) (hlen : ps.length + 1 ≤ 1000000000000) (hbase : base ≤ w0.heap.size)
    (h : ∀ v' w', OP w' base b v' (ps ++ [(l, y)]) (cells ++ [u, .int .i64 y]) → (w0.alloc (.cells #[u, .int .i64 y] 47)).grownBy w' v.ownBlock → (v'.ownBlock = v.ownBlock ∨ v'.ownBlock = some (w0.heap.size + 1)) → wpList Try.prog ops Q rest (a.put o.dst v') w') :
    wpList Try.prog ops Q (o :: rest) a (w0.alloc (.cells #[u, .int .i64 y] 47)) := by
  refine wpList_plain hgd fun K hK => ?_
  obtain ⟨v', w', hr, h2, h3, h5⟩ := run_appP (y := y) o.type hown hu hap hlen hbase
  unfold Oper.wp execOp
  simp only [ho, resolve, invoke, builtin, Sem.run_bind, Sem.run_pure, Result.andThen_ok, List.map_toArray, List.map_cons, List.map_nil, hs, hx, hr]
  exact hK _ _ (h v' w' h2 h3 h5)

/-- The same at a region that draws its order. -/
theorem stepAppP {w0 : World} {ops : Array Oper} {o : Oper} {a : Act} {K : Act → World → Prop} {Q : Exit → Act → World → Prop} {E : Prop} (hgd : o.guard = none) (s x : Operand)
    (ho : o.op = .call { callee := .builtin .append, args := #[s, x], argTypes := #[32, 32] })
    (base b : Nat) (v u : Value) (ps : List (List Int × Int)) (cells : List Value) (l : List Int) (y : Int) (hs : a.eval s = v) (hx : a.eval x = .slice (some ⟨w0.heap.size, 0, none⟩) 1 1)
    (hown : OP w0 base b v ps cells) (hu : OI w0 b u l) (hap : ∀ u' ∈ cells, u'.ownBlock = none ∨ u'.ownBlock ≠ u.ownBlock) (hlen : ps.length + 1 ≤ 1000000000000) (hbase : base ≤ w0.heap.size)
    (h : ∀ v' w', OP w' base b v' (ps ++ [(l, y)]) (cells ++ [u, .int .i64 y]) → (w0.alloc (.cells #[u, .int .i64 y] 47)).grownBy w' v.ownBlock → (v'.ownBlock = v.ownBlock ∨ v'.ownBlock = some (w0.heap.size + 1)) → K (a.put o.dst v') w') :
    if Region.wanted o (yielded ops a.tmps) = true then Oper.wp Try.prog o a (w0.alloc (.cells #[u, .int .i64 y] 47)) K Q else E := by
  have hw : Region.wanted o (yielded ops a.tmps) = true := by simp [Region.wanted, hgd]
  rw [if_pos hw]
  obtain ⟨v', w', hr, h2, h3, h5⟩ := run_appP (y := y) o.type hown hu hap hlen hbase
  unfold Oper.wp execOp
  simp only [ho, resolve, invoke, builtin, Sem.run_bind, Sem.run_pure, Result.andThen_ok, List.map_toArray, List.map_cons, List.map_nil, hs, hx, hr]
  exact h v' w' h2 h3 h5

theorem OP.cell {w : World} {base b g n c k : Nat} {ps : List (List Int × Int)} {cells : List Value} (h : OP w base b (.slice (some ⟨g, 0, none⟩) n c) ps cells) (hk : k < ps.length) :
    ∃ A' n' c', w.cell? ⟨g, k * 2, none⟩ = some (.slice A' n' c') ∧ cells[k * 2]? = some (.slice A' n' c') ∧ OI w b (.slice A' n' c') (nthP ps k).1 ∧ n' ≤ c' ∧ w.cell? ⟨g, k * 2 + 1, none⟩ = some (.int .i64 (nthP ps k).2) := by
  have hn : n = ps.length := by
    obtain ⟨A, c', hv, _⟩ := OF.form h
    injection hv
  subst hn
  obtain ⟨u, hu, hf⟩ := h.2.1.at_ (partF_at0 hk)
  have hf' : OI w b u (nthP ps k).1 := hf
  obtain ⟨A', n', c', rfl, _, hcc, _⟩ := hf'.form
  obtain ⟨u', hu', hf2⟩ := h.2.1.at_ (partF_at1 hk)
  have hf2' : u' = .int .i64 (nthP ps k).2 := hf2
  subst hf2'
  exact ⟨A', n', c', by rw [OF.cellF h (by omega), hu], hu, hf', hcc, by rw [OF.cellF h (by omega), hu']⟩

set_option maxRecDepth 100000 in
theorem eqPartS_any {v v' : Value} {base b base' b' : Nat} {ps : List (List Int × Int)} {cells cells' : List Value} {w : World} (h1 : OP w base b v ps cells) (h2 : OP w base' b' v' ps cells') (hn : ps.length ≤ 1000000000) :
    Calls Try.prog 19 #[v, v'] w (GivesB w (.bool true)) := by
  obtain ⟨A, c, rfl, hc, _⟩ := OF.form h1
  obtain ⟨A', c', rfl, hc', _⟩ := OF.form h2
  obtain ⟨n, hn'⟩ : ∃ n, n = ps.length := ⟨_, rfl⟩
  rw [← hn'] at hn hc hc' ⊢
  have HN := Lib.hid hn'
  rw [← hn'] at h1 h2
  clear hn'
  go_enter Try.func19, Try.ntmps19
  go_wp2
  go_loopw [5] (fun i wr => ∃ k : Nat, k ≤ n ∧ i = .int .i64 k ∧ Below w.heap.size w wr) (fun i _ => n - (intOf i).toNat)
  case atStart => exact ⟨0, Nat.zero_le _, rfl, Below.refl _ _⟩
  case round =>
    obtain ⟨k, hk, rfl, hbl⟩ := hrel
    by_cases hlt : k < n
    · have g1 := OF.below h1 hbl
      have g2 := OF.below h2 hbl
      obtain ⟨G, cc, hG, _⟩ := OF.shape g1 (by rw [← HN.out]; omega)
      obtain ⟨G', cc', hG', _⟩ := OF.shape g2 (by rw [← HN.out]; omega)
      obtain ⟨rfl, e2, e3⟩ := slice_inj hG
      obtain ⟨rfl, e2', e3'⟩ := slice_inj hG'
      clear hG hG' e2 e3 e2' e3'
      obtain ⟨A1, n1, c1, x1, _, x2, _, x3⟩ := OP.cell g1 (k := k) (by rw [← HN.out]; exact hlt)
      obtain ⟨A2, n2, c2, y1, _, y2, _, y3⟩ := OP.cell g2 (k := k) (by rw [← HN.out]; exact hlt)
      clear g1 g2
      go_wp2_with fail
      go_still_tail 8, (by kernel_rfl)
      change wpList _ _ _ _ _ wr.drew
      obtain ⟨w2, hw2⟩ : ∃ w2, w2 = wr.drew := ⟨_, rfl⟩
      have b2 : Below wr.heap.size wr w2 := by rw [hw2]; exact (Below.refl _ _).drew
      rw [← hw2]
      clear hw2
      have b2' := bnext hbl b2 hbl.size
      go_wp2_with (go_at_call 84; refine (eqPart_any _ _ _ (x2.below b2).ri (y2.below b2).ri x2.le.1).mono ?_; rintro e w3 ⟨rfl, b3⟩)
      go_roundw
      case rel => exact ⟨k + 1, by omega, by go_num, bnext b2' b3 b2'.size⟩
      case measure => simp [intOf]; omega
    · go_wp2
      go_ret
      exact ⟨rfl, hbl⟩

set_option maxRecDepth 100000 in
theorem markPartS_any {v : Value} {base b hi : Nat} {ps : List (List Int × Int)} {cells : List Value} {w : World} (k0 : Int) (h : OP w base b v ps cells) (hin : In base hi v cells) (h0 : 0 ≤ k0) (h1 : k0 ≤ 100000000000)
    (hn : ps.length ≤ 1000000) (hw : ∀ x ∈ partF ps, wF x ≤ 100000) :
    Calls Try.prog 20 #[v, .int .i64 k0] w (fun e w' => ∃ cells', e = .returned (.int .i64 (kF (partF ps) k0 (ps.length * 2))) ∧ OF w' base b 47 2 v ps.length (markedF (partF ps) k0 (ps.length * 2)) cells' ∧ Within base hi w w') := by
  obtain ⟨A, c, rfl, hc, _⟩ := OF.form h
  obtain ⟨n, hn'⟩ : ∃ n, n = ps.length := ⟨_, rfl⟩
  have h' : OF w base b 47 2 (.slice A n c) n (partF ps) cells := by rw [hn']; exact h
  rw [← hn'] at hn hc hin ⊢
  have HN := Lib.hid hn'
  have HW := Lib.hid hw
  clear hn' hw h
  go_enter Try.func20, Try.ntmps20
  go_wp2
  go_loopw [1, 5] (fun k i wr => ∃ (q : Nat) (cs : List Value), q ≤ n ∧ k = .int .i64 (kF (partF ps) k0 (q * 2)) ∧ i = .int .i64 q ∧ OF wr base b 47 2 (.slice A n c) n (markedF (partF ps) k0 (q * 2)) cs ∧ In base hi (.slice A n c) cs ∧ Within base hi w wr) (fun _ i _ => n - (intOf i).toNat)
  case atStart => exact ⟨0, cells, Nat.zero_le _, rfl, rfl, by rw [Nat.zero_mul, markedF_zero]; exact h', hin, Within.refl _ _ _⟩
  case round =>
    clear h' hin
    obtain ⟨q, cs, hq, rfl, rfl, ho, hin, hwi⟩ := hrel
    by_cases hlt : q < n
    · obtain ⟨G, cc, hG, _⟩ := OF.shape ho (by omega)
      obtain ⟨rfl, e2, e3⟩ := slice_inj hG
      clear e2 e3
      have f0 := partF_at0 (ps := ps) (k := q) (by rw [← HN.out]; exact hlt)
      have f1 := partF_at1 (ps := ps) (k := q) (by rw [← HN.out]; exact hlt)
      have F0 := Lib.hid f0
      have F1 := Lib.hid f1
      obtain ⟨u, hu, hf⟩ := ho.2.1.at_ (markedF_new f0)
      have hf' : OI wr b u (nthP ps q).1 := hf
      obtain ⟨A1, n1, c1, rfl, hri, hcc, hnn, _⟩ := hf'.form
      obtain ⟨u', hu', hf2⟩ := ho.2.1.at_ ((markedF_at (m := q * 2) (List.getElem?_eq_some_iff.1 f1).1).trans (by rw [if_neg (by omega), getF_at f1]))
      have hf2' : u' = .int .i64 (nthP ps q).2 := hf2
      subst hf2'
      have c0 : wr.cell? ⟨G, q * 2, none⟩ = some (.slice A1 n1 c1) := by rw [OF.cellF ho (by omega), hu]
      have kb := kF_bound (k0 := k0) HW.out (by omega) (q * 2)
      have hl : n1 ≤ 100000 := by
        have := HW.out _ (List.mem_of_getElem? f0)
        rw [← hri.1]; exact this
      have kb2 : kF (partF ps) k0 (q * 2) ≤ 300000000000 := by
        have : q * 2 * 100000 ≤ 1000000 * 2 * 100000 := by omega
        omega
      have kb1 := kb.1
      obtain ⟨K, hK⟩ : ∃ K, K = kF (partF ps) k0 (q * 2) := ⟨_, rfl⟩
      have HK := Lib.hid hK
      rw [← hK] at kb1 kb2 ⊢
      have HU := Lib.hid hu
      have HU' := Lib.hid hu'
      have HI := Lib.hid hri.1
      clear f0 f1 hf kb hG hK hri hu hu'
      have HO := Lib.hid ho
      have b4 := hwi.size
      have hbk := hf'.lt
      clear ho
      go_wp2_with fail
      refine (markI_any K hf' (by omega) (by omega) (by omega)).mono ?_
      rintro e w1 ⟨rfl, o1, g1⟩
      have s1 := OF.setInner HO.out (by decide) (markedF_new F0.out) HU.out g1 o1
      have e1 : (markedF (partF ps) k0 (q * 2)).set (q * 2) (.inr (upFrom K n1)) = markedF (partF ps) k0 (q * 2 + 1) := by
        rw [← markedF_step F0.out, ← HK.out, ← HI.out]; rfl
      rw [e1] at s1
      have hm1 := markedF_new (k0 := k0) F1.out
      have c1' : w1.cell? ⟨G, q * 2 + 1, none⟩ = some (.int .i64 (nthP ps q).2) := by rw [OF.cellF s1 (by omega), HU'.out]
      have f1' := OF.frozenF s1 (q * 2 + 1)
      have ST := Lib.hid (OF.setInt s1 (by decide) hm1 (K + n1))
      have HIN := Lib.hid hin
      have HWI := Lib.hid hwi
      clear s1 e1 hm1 hin hwi hf'
      go_wp2
      have ek : kF (partF ps) k0 (q * 2 + 1) = K + n1 := by rw [kF_step F0.out, ← HK.out, ← HI.out]; rfl
      have ek2 : kF (partF ps) k0 ((q + 1) * 2) = K + n1 + 1 := by
        rw [show (q + 1) * 2 = q * 2 + 1 + 1 by omega, kF_step F1.out, ek]; rfl
      have em : (markedF (partF ps) k0 (q * 2 + 1)).set (q * 2 + 1) (.inl (K + n1)) = markedF (partF ps) k0 ((q + 1) * 2) := by
        rw [show (q + 1) * 2 = q * 2 + 1 + 1 by omega, ← markedF_step F1.out, ek]; rfl
      have hG2 := HIN.out.1 G rfl
      go_roundw
      case rel =>
        refine ⟨q + 1, cs.set (q * 2 + 1) (.int .i64 (K + n1)), by omega, by rw [ek2], by go_num, by rw [← em]; exact ST.out.1, ⟨HIN.out.1, ?_⟩, ?_⟩
        · intro u hu k hk
          rcases List.mem_or_eq_of_mem_set hu with h | rfl
          · exact HIN.out.2 u h k hk
          · simp [Value.ownBlock] at hk
        · exact (HWI.out.grown g1 (fun g e => HIN.out.2 _ (List.mem_of_getElem? HU.out) g e)).grown ST.out.2 (fun g e => by injection e with e; subst e; exact hG2)
      case measure => simp [intOf]; omega
    · obtain rfl : q = n := by omega
      have HO := Lib.hid ho
      clear ho
      go_wp2
      go_ret
      exact ⟨cs, rfl, HO.out, hwi⟩

set_option maxRecDepth 100000 in
theorem heldPartS_any {v : Value} {base b : Nat} {ps : List (List Int × Int)} {cells : List Value} {w : World} (k0 : Int) (h : OF w base b 47 2 v ps.length (markedF (partF ps) k0 (ps.length * 2)) cells) (h0 : 0 ≤ k0) (h1 : k0 ≤ 100000000000)
    (hn : ps.length ≤ 1000000) (hw : ∀ x ∈ partF ps, wF x ≤ 100000) :
    Calls Try.prog 21 #[v, .int .i64 k0] w (Gives w (.int .i64 (kF (partF ps) k0 (ps.length * 2)))) := by
  obtain ⟨A, c, rfl, hc, _⟩ := OF.form h
  obtain ⟨n, hn'⟩ : ∃ n, n = ps.length := ⟨_, rfl⟩
  rw [← hn'] at hn hc h ⊢
  have HN := Lib.hid hn'
  have HW := Lib.hid hw
  clear hn' hw
  go_enter Try.func21, Try.ntmps21
  go_wp2
  go_loopw [1, 5] (fun k i wr => ∃ (q : Nat), q ≤ n ∧ k = .int .i64 (kF (partF ps) k0 (q * 2)) ∧ i = .int .i64 q ∧ Quiet w wr) (fun _ i _ => n - (intOf i).toNat)
  case atStart => exact ⟨0, Nat.zero_le _, rfl, rfl, (by first | exact ⟨_, rfl⟩ | exact ⟨_, (World.drewN_drewN _ _ _).symm⟩ | exact Quiet.refl _ | (simp only [World.drewN_drewN]; exact ⟨_, rfl⟩))⟩
  case round =>
    obtain ⟨q, hq, rfl, rfl, ⟨qq, rfl⟩⟩ := hrel
    by_cases hlt : q < n
    · obtain ⟨G, cc, hG, _⟩ := OF.shape h (by omega)
      obtain ⟨rfl, e2, e3⟩ := slice_inj hG
      clear e2 e3 hG
      have f0 := partF_at0 (ps := ps) (k := q) (by rw [← HN.out]; exact hlt)
      have f1 := partF_at1 (ps := ps) (k := q) (by rw [← HN.out]; exact hlt)
      have F0 := Lib.hid f0
      have F1 := Lib.hid f1
      obtain ⟨u, hu, hf⟩ := h.2.1.at_ (markedF_old (k0 := k0) (m := n * 2) f0 (by omega))
      have hf' : OI w b u (upFrom (kF (partF ps) k0 (q * 2)) (nthP ps q).1.length) := hf
      obtain ⟨A1, n1, c1, rfl, hri, hcc, hnn, _⟩ := hf'.form
      obtain ⟨u', hu', hf2⟩ := h.2.1.at_ (markedF_old (k0 := k0) (m := n * 2) f1 (by omega))
      have hf2' : u' = .int .i64 (kF (partF ps) k0 (q * 2 + 1)) := hf2
      subst hf2'
      have kb := kF_bound (k0 := k0) HW.out (by omega) (q * 2)
      have hl1 : (nthP ps q).1.length = n1 := by have := hri.1; rwa [upFrom_len] at this
      rw [hl1] at hri
      have hl : n1 ≤ 100000 := by
        have := HW.out _ (List.mem_of_getElem? f0)
        rw [← hl1]; exact this
      have kb2 : kF (partF ps) k0 (q * 2) ≤ 300000000000 := by
        have : q * 2 * 100000 ≤ 1000000 * 2 * 100000 := by omega
        omega
      have kb1 := kb.1
      have ek : kF (partF ps) k0 (q * 2 + 1) = kF (partF ps) k0 (q * 2) + n1 := by rw [kF_step F0.out, ← hl1]; rfl
      have ek2 : kF (partF ps) k0 ((q + 1) * 2) = kF (partF ps) k0 (q * 2) + n1 + 1 := by
        rw [show (q + 1) * 2 = q * 2 + 1 + 1 by omega, kF_step F1.out, ek]; rfl
      rw [ek] at hu'
      have c0 : w.cell? ⟨G, q * 2, none⟩ = some (.slice A1 n1 c1) := by rw [OF.cellF h (by omega), hu]
      have c1' : w.cell? ⟨G, q * 2 + 1, none⟩ = some (.int .i64 (kF (partF ps) k0 (q * 2) + n1)) := by rw [OF.cellF h (by omega), hu']
      obtain ⟨K, hK⟩ : ∃ K, K = kF (partF ps) k0 (q * 2) := ⟨_, rfl⟩
      have HK := Lib.hid hK
      have EK2 := Lib.hid ek2
      rw [← hK] at kb1 kb2 c1' hri ⊢
      clear f0 f1 hf kb hK hu hu' ek ek2 hl1 hf' hf2
      go_wp2_with (go_at_call 68; refine (heldI_any _ K (hri.drewN _) (by omega) (by omega) (by omega)).mono ?_; rintro e w' ⟨rfl, q0, rfl⟩)
      go_roundw
      case rel => exact ⟨q + 1, by omega, by rw [EK2.out, ← HK.out], by go_num, (by first | exact ⟨_, rfl⟩ | exact ⟨_, (World.drewN_drewN _ _ _).symm⟩ | exact Quiet.refl _ | (simp only [World.drewN_drewN]; exact ⟨_, rfl⟩))⟩
      case measure => simp [intOf]; omega
    · obtain rfl : q = n := by omega
      go_wp2
      go_ret
      exact ⟨rfl, (by first | exact ⟨_, rfl⟩ | exact ⟨_, (World.drewN_drewN _ _ _).symm⟩ | exact Quiet.refl _ | (simp only [World.drewN_drewN]; exact ⟨_, rfl⟩))⟩

/-- What a function leaves that returns a new slice of parts. -/
def MakesP (w : World) (ps : List (List Int × Int)) : Ending → World → Prop := fun e w' =>
  ∃ A n c cells, e = .returned (.slice A n c) ∧ OP w' w.heap.size w.heap.size (.slice A n c) ps cells ∧ ps.length = n ∧ (n ≤ c ∧ c ≤ 9223372036854775807) ∧ Below w.heap.size w w'
theorem OP.form {w : World} {base b : Nat} {v : Value} {ps : List (List Int × Int)} {cells : List Value} (h : OP w base b v ps cells) : ∃ A n c, v = .slice A n c ∧ ps.length = n ∧ n ≤ c ∧ c ≤ 9223372036854775807 := by
  obtain ⟨A, c, hv, h1, h2, _⟩ := OF.form h
  exact ⟨A, ps.length, c, hv, rfl, h1, h2⟩
theorem MakesP.of {w w' : World} {v : Value} {ps : List (List Int × Int)} {cells : List Value} (h : OP w' w.heap.size w.heap.size v ps cells) (hb : Below w.heap.size w w') : MakesP w ps (.returned v) w' := by
  obtain ⟨A, n, c, rfl, h1, h2, h3⟩ := h.form
  exact ⟨A, n, c, cells, rfl, h, h1, ⟨h2, h3⟩, hb⟩
/-- Parts that are small enough. -/
def SmallP (ps : List (List Int × Int)) : Prop := ∀ k, k < ps.length → (nthP ps k).1.length ≤ 1000000 ∧ -1000000000000 ≤ (nthP ps k).2 ∧ (nthP ps k).2 ≤ 1000000000000
theorem OP.lit (w : World) (base b : Nat) (hb : base ≤ w.heap.size) : OP (w.alloc (.cells #[] 47)) base b (.slice (some ⟨w.heap.size, 0, none⟩) 0 0) [] [] := by
  have := World.ownsRow_lit (e := 47) (size := 2) (base := base) w #[] 0 hb (by simp only [maxLen]; omega) (by simp)
  exact ⟨by simpa using this, FRs.nil_, Dist.nil_⟩
end Go.Proofs.Ytgbojgmmingfdaa

/- Triples of labels; places of small triangles. -/
namespace Go.Proofs.Ytgbojgmmingfdaa
open Go.RowKit

def nthT (ts : List (Int × Int × Int)) (j : Nat) : Int × Int × Int := ts.getD j (0, 0, 0)
/-- The slice reads as the triples. -/
def RTr (w : World) (A : Option Addr) (n : Nat) (ts : List (Int × Int × Int)) : Prop :=
  ts.length = n ∧ ∃ g, A = some ⟨g, 0, none⟩ ∧ g < w.heap.size ∧ ∀ k, k < n → w.cell? ⟨g, k * 3, none⟩ = some (.int .i64 (nthT ts k).1) ∧ w.cell? ⟨g, k * 3 + 1, none⟩ = some (.int .i64 (nthT ts k).2.1) ∧ w.cell? ⟨g, k * 3 + 2, none⟩ = some (.int .i64 (nthT ts k).2.2)
theorem RTr.below {w w' : World} {A : Option Addr} {n : Nat} {ts : List (Int × Int × Int)} (h : RTr w A n ts) (hb : Below w.heap.size w w') : RTr w' A n ts := by
  obtain ⟨h1, g, h2, h3, h4⟩ := h
  have hs := hb.size
  refine ⟨h1, g, h2, by omega, fun k hk => ?_⟩
  obtain ⟨a, b, c⟩ := h4 k hk
  exact ⟨by rw [hb.cell h3]; exact a, by rw [hb.cell h3]; exact b, by rw [hb.cell h3]; exact c⟩
theorem hasT_at {ts : List (Int × Int × Int)} {a b c : Int} {k : Nat} (hk : k < ts.length) (h : a = (nthT ts k).1 ∧ b = (nthT ts k).2.1 ∧ c = (nthT ts k).2.2) : hasT ts a b c = true := by
  unfold hasT
  rw [List.any_eq_true]
  refine ⟨nthT ts k, ?_, ?_⟩
  · simp [nthT, List.getD, List.getElem?_eq_getElem hk]
  · simp [← h.1, ← h.2.1, ← h.2.2]
theorem hasT_none {ts : List (Int × Int × Int)} {a b c : Int} (h : ∀ k, k < ts.length → ¬(a = (nthT ts k).1 ∧ b = (nthT ts k).2.1 ∧ c = (nthT ts k).2.2)) : hasT ts a b c = false := by
  rw [← Bool.not_eq_true]
  intro h'
  unfold hasT at h'
  rw [List.any_eq_true] at h'
  obtain ⟨t, ht, he⟩ := h'
  obtain ⟨k, hk, e⟩ := List.getElem_of_mem ht
  refine h k hk ?_
  have : nthT ts k = t := by simp [nthT, List.getD, List.getElem?_eq_getElem hk, e]
  rw [this]
  simpa using he

theorem FRs.ints (w : World) (b : Nat) (xs : List Int) : FRs w b (xs.map .inl) (xs.map (.int .i64)) := by
  refine ⟨by simp, fun j x u h1 h2 => ?_⟩
  rw [List.getElem?_map] at h1 h2
  rcases h : xs[j]? with _ | y
  · rw [h] at h1; cases h1
  · rw [h] at h1 h2
    obtain rfl := Option.some.inj h1
    obtain rfl := Option.some.inj h2
    rfl
theorem Dist.ints (xs : List Int) : Dist (xs.map (.int .i64)) := by
  intro i j u u' _ h1 _
  rw [List.getElem?_map] at h1
  rcases h : xs[i]? with _ | y
  · rw [h] at h1; cases h1
  · rw [h] at h1
    obtain rfl := Option.some.inj h1
    exact .inl rfl
theorem noOwn_ints {xs : List Int} {u : Value} (h : u ∈ xs.map (.int .i64)) : u.ownBlock = none := by
  rw [List.mem_map] at h
  obtain ⟨x, _, rfl⟩ := h
  rfl
def five : List Int := [0, 0, 0, 1, 1, 1, 0, 1, 2, 1, 2, 0, 2, 0, 1]

end Go.Proofs.Ytgbojgmmingfdaa

/- One block of cells: what it holds, and how that is kept. -/
namespace Go.Proofs.Ytgbojgmmingfdaa
open Go.RowKit

/-- Block g holds these cells. -/
def BK (w : World) (g : Nat) (T : TypeId) (cs : List Value) : Prop := w.heap[g]? = some (.cells cs.toArray T (0, 0))
variable {w w' : World} {g h j : Nat} {T : TypeId} {cs : List Value} {u v : Value}
theorem BK.cell (hb : BK w g T cs) (hu : cs[j]? = some u) : w.cell? ⟨g, j, none⟩ = some u := by
  unfold BK at hb
  simp [World.cell?, hb, hu]
theorem BK.frozen (hb : BK w g T cs) : w.frozen? ⟨g, j, none⟩ = false := by
  unfold BK at hb
  simp [World.frozen?, hb]
theorem BK.lt (hb : BK w g T cs) : g < w.heap.size := by
  unfold BK at hb
  by_cases h : g < w.heap.size
  · exact h
  · rw [Array.getElem?_eq_none (by omega)] at hb; cases hb
theorem BK.below {B : Nat} (hb : BK w g T cs) (b : Below B w w') (hB : g < B) : BK w' g T cs := (b.block g hB).trans hb
theorem BK.new (w : World) (T : TypeId) (cs : List Value) : BK (w.alloc (.cells cs.toArray T)) w.heap.size T cs := heap_alloc_new w _
theorem BK.alloc (hb : BK w g T cs) (o : Obj) : BK (w.alloc o) g T cs := hb.below ((Below.refl w.heap.size w).alloc (Nat.le_refl _) o) hb.lt
theorem BK.set (hb : BK w g T cs) (j : Nat) (v : Value) : BK (w.setCell ⟨g, j, none⟩ v) g T (cs.set j v) := by
  unfold BK at hb ⊢
  simp [World.setCell, Array.getElem?_modify, hb]
theorem BK.far (hb : BK w g T cs) (hne : h ≠ g) (j : Nat) (v : Value) : BK (w.setCell ⟨h, j, none⟩ v) g T cs := by
  unfold BK at hb ⊢
  simp [World.setCell, Array.getElem?_modify, hb, hne]
theorem BK.four {a b c d : Value} (K : BK w g T [a, b, c, d]) : w.cell? ⟨g, 0, none⟩ = some a ∧ w.cell? ⟨g, 1, none⟩ = some b ∧ w.cell? ⟨g, 2, none⟩ = some c ∧ w.cell? ⟨g, 3, none⟩ = some d :=
  ⟨K.cell (j := 0) rfl, K.cell (j := 1) rfl, K.cell (j := 2) rfl, K.cell (j := 3) rfl⟩
end Go.Proofs.Ytgbojgmmingfdaa

/- What every statement's frame uses: the arguments opened. -/
namespace Go.Proofs.Ytgbojgmmingfdaa
open Go.ChangeShapes Go.WideShapes Go.ChangeAt Go.RowKit
open Go.ChangeMaps (open_string shut_string)

theorem own : ownKnob Try.prog.godebug = none := by kernel_rfl
theorem laidOut : laidOutB Try.prog = true := by kernel_rfl

theorem wfI {a : Int} (h : (Lit.int .i64 a).wf = true) : -9223372036854775808 ≤ a ∧ a ≤ 9223372036854775807 := by
  simpa [Lit.wf, IntKind.min, IntKind.max, IntKind.signed, IntKind.bits] using h

theorem open_RI {H : Type} {enc : TypeId × Value → H} {W : World} {base : Nat} {sp : Nat → Bool} {hd : Bool} {a : Option Addr} {len cap : Nat} {d : DataW H} {p : List MemPlace}
    (h : DataW.Trod enc Try.prog W base sp hd 22 (.slice a len cap) d p) : ∃ l, RI W a len l ∧ len ≤ 9223372036854775807 := by
  obtain ⟨fuel, hf⟩ := h
  rcases open_ints Try.underlying22 Try.underlying3 (by kernel_rfl) hf with ⟨hcs, _⟩ | ⟨x, l, c, zs, hcs, _, hl, hm, hz, _, hcell, hwz⟩
  · simp [Value.cells] at hcs
    obtain ⟨rfl, rfl, rfl⟩ := hcs
    exact ⟨[], RI.nil_, by omega⟩
  · simp [Value.cells] at hcs
    obtain ⟨rfl, rfl, rfl⟩ := hcs
    have hlen : len ≤ zs.length := by
      have := hz
      split at this <;> omega
    refine ⟨zs.take len, ⟨by rw [List.length_take]; omega, fun hn => ⟨x, rfl, fun j hj => ?_⟩⟩, by unfold maxLen at hm; omega⟩
    rw [hcell j (by omega), nth_take hj]
    rfl
end Go.Proofs.Ytgbojgmmingfdaa

/- The frame of puzzles: made, sized, compared, marked, held. -/
namespace Go.Proofs.Ytgbojgmmingfdaa
open Go.RowKit

/-- Three slices in blocks of their own. -/
def Three (w : World) (base : Nat) (v1 v2 v3 : Value) (L R B : List Int) : Prop :=
  OI w base v1 L ∧ OI w base v2 R ∧ OI w base v3 B ∧ (v1.ownBlock = none ∨ v1.ownBlock ≠ v2.ownBlock) ∧ (v1.ownBlock = none ∨ v1.ownBlock ≠ v3.ownBlock) ∧ (v2.ownBlock = none ∨ v2.ownBlock ≠ v3.ownBlock)

theorem OI.far {w : World} {base : Nat} {v : Value} {l : List Int} (h : OI w base v l) (g j : Nat) (u : Value) (hg : g < base) : OI (w.setCell ⟨g, j, none⟩ u) base v l := by
  refine h.kept (row := some g) ⟨rfl, rfl, rfl, by simp, fun k _ hk => ?_⟩ ?_
  · have : g ≠ k := fun e => hk (by rw [e])
    simp [World.setCell, Array.getElem?_modify, this]
  · rcases hv : v.ownBlock with _ | k
    · exact .inl rfl
    · refine .inr fun e => ?_
      have := (h.lt k hv).1
      obtain rfl := Option.some.inj e
      omega

/-- What a function leaves that returns a new puzzle. -/
def MakesPz (w : World) (S : Int) (L R B : List Int) : Ending → World → Prop := fun e w' =>
  ∃ A1 n1 c1 A2 n2 c2 A3 n3 c3, e = .returned (.agg #[.int .i64 S, .slice A1 n1 c1, .slice A2 n2 c2, .slice A3 n3 c3]) ∧ Three w' w.heap.size (.slice A1 n1 c1) (.slice A2 n2 c2) (.slice A3 n3 c3) L R B ∧
    RI w' A1 n1 L ∧ RI w' A2 n2 R ∧ RI w' A3 n3 B ∧ n1 ≤ 1000000000000 ∧ n2 ≤ 1000000000000 ∧ n3 ≤ 1000000000000 ∧ Below w.heap.size w w'

end Go.Proofs.Ytgbojgmmingfdaa

/- Slices of shapes with powers, as they come in. -/
namespace Go.Proofs.Ytgbojgmmingfdaa
open Go.ChangeShapes Go.WideShapes Go.ChangeAt Go.RowKit

abbrev QT := Int × List Int × Int
def nthQ (ps : List QT) (k : Nat) : QT := ps.getD k (0, [], 0)
/-- What element k of the slice (ad, ..) holds. -/
def QAt (w : World) (ad : Addr) (k : Nat) (x : QT) : Prop := ∃ A n c, w.cell? (ad.add (k * 3)) = some (.int .i64 x.1) ∧ w.cell? (ad.add (k * 3 + 1)) = some (.slice A n c) ∧ w.cell? (ad.add (k * 3 + 2)) = some (.int .i64 x.2.2) ∧ RI w A n x.2.1 ∧ n ≤ 9223372036854775807 ∧
  (-9223372036854775808 ≤ x.1 ∧ x.1 ≤ 9223372036854775807) ∧ (-9223372036854775808 ≤ x.2.2 ∧ x.2.2 ≤ 9223372036854775807) ∧ ∀ j, j < n → -9223372036854775808 ≤ nth x.2.1 j ∧ nth x.2.1 j ≤ 9223372036854775807
/-- The slice reads as these. -/
def RQ (w : World) (A : Option Addr) (n : Nat) (ps : List QT) : Prop := ps.length = n ∧ ∀ k, k < n → ∃ ad, A = some ad ∧ QAt w ad k (nthQ ps k)

theorem open_RI2 {H : Type} {enc : TypeId × Value → H} {W : World} {base : Nat} {sp : Nat → Bool} {hd : Bool} {a : Option Addr} {len cap : Nat} {d : DataW H} {p : List MemPlace}
    (h : DataW.Trod enc Try.prog W base sp hd 22 (.slice a len cap) d p) : ∃ l, RI W a len l ∧ len ≤ 9223372036854775807 ∧ ∀ j, j < len → -9223372036854775808 ≤ nth l j ∧ nth l j ≤ 9223372036854775807 := by
  obtain ⟨fuel, hf⟩ := h
  rcases open_ints Try.underlying22 Try.underlying3 (by kernel_rfl) hf with ⟨hcs, _⟩ | ⟨x, l, c, zs, hcs, _, hl, hm, hz, _, hcell, hwz⟩
  · simp [Value.cells] at hcs
    obtain ⟨rfl, rfl, rfl⟩ := hcs
    exact ⟨[], RI.nil_, by omega, fun j hj => by omega⟩
  · simp [Value.cells] at hcs
    obtain ⟨rfl, rfl, rfl⟩ := hcs
    have hlen : len ≤ zs.length := by
      have := hz
      split at this <;> omega
    refine ⟨zs.take len, ⟨by rw [List.length_take]; omega, fun hn => ⟨x, rfl, fun j hj => ?_⟩⟩, by unfold maxLen at hm; omega, fun j hj => ?_⟩
    · rw [hcell j (by omega), nth_take hj]
      rfl
    · rw [nth_take hj]
      have hjz : j < zs.length := by omega
      exact wfI (hwz (nth zs j) (by rw [nth_lt hjz]; exact List.getElem_mem hjz))

theorem Try.cellsI_ : Try.prog.cellsOf 3 = 1 := by kernel_rfl
theorem Try.cellsS_ : Try.prog.cellsOf 22 = 1 := by kernel_rfl
theorem QAt.below {w w' : World} {ad : Addr} {k : Nat} {x : QT} (h : QAt w ad k x) (b : Below w.heap.size w w') : QAt w' ad k x := by
  obtain ⟨A, n, c, h1, h2, h3, h4, h5⟩ := h
  exact ⟨A, n, c, one_cell b h1, one_cell b h2, one_cell b h3, h4.below b, h5⟩
theorem RQ.below {w w' : World} {A : Option Addr} {n : Nat} {ps : List QT} (h : RQ w A n ps) (b : Below w.heap.size w w') : RQ w' A n ps :=
  ⟨h.1, fun k hk => by obtain ⟨ad, e, q⟩ := h.2 k hk; exact ⟨ad, e, q.below b⟩⟩
theorem add_form (ad : Addr) (i j : Nat) (hj : 0 < j) : ad.add (i + j) = ⟨(ad.add i).block, (ad.add i).off + j, none⟩ := by
  rw [← add_of_add]
  generalize ad.add i = b
  unfold Addr.add
  rw [if_neg (by omega)]
/-- The cells as the walk spells them. -/
theorem QAt.cells {w : World} {ad : Addr} {k : Nat} {x : QT} (h : QAt w ad k x) : ∃ A n c, w.cell? (ad.add (k * 3)) = some (.int .i64 x.1) ∧ w.cell? ⟨(ad.add (k * 3)).block, (ad.add (k * 3)).off + 1, none⟩ = some (.slice A n c) ∧ w.cell? ⟨(ad.add (k * 3)).block, (ad.add (k * 3)).off + 2, none⟩ = some (.int .i64 x.2.2) ∧ RI w A n x.2.1 ∧ n ≤ 9223372036854775807 ∧
    (-9223372036854775808 ≤ x.1 ∧ x.1 ≤ 9223372036854775807) ∧ (-9223372036854775808 ≤ x.2.2 ∧ x.2.2 ≤ 9223372036854775807) ∧ ∀ j, j < n → -9223372036854775808 ≤ nth x.2.1 j ∧ nth x.2.1 j ≤ 9223372036854775807 := by
  obtain ⟨A, n, c, h1, h2, h3, h4⟩ := h
  rw [add_form _ _ _ (by omega)] at h2 h3
  exact ⟨A, n, c, h1, h2, h3, h4⟩
end Go.Proofs.Ytgbojgmmingfdaa

/- What laws with nested results use: the blocks of what was made lie in a range. -/
namespace Go.Proofs.Ytgbojgmmingfdaa
open Go.RowKit

theorem grown_within {w w' : World} {v : Value} {lo hi : Nat} (h : w.grownBy w' v.ownBlock) (hr : ∀ k, v.ownBlock = some k → lo ≤ k ∧ k < hi) : Within lo hi w w' :=
  ⟨h.os, h.tape, h.output, h.size, fun k hk ha => h.block k hk (fun e => by have := hr k e.symm; omega)⟩
theorem range_apart {v : Value} {lo hi lo' hi' : Nat} (hr : ∀ k, v.ownBlock = some k → lo' ≤ k ∧ k < hi') (hs : hi' ≤ lo ∨ hi ≤ lo') : ∀ k, v.ownBlock = some k → k < lo ∨ hi ≤ k := fun k hk => by
  have := hr k hk; omega
theorem kF_pos {fs : List (Int ⊕ List Int)} {k0 : Int} (h : ∀ x ∈ fs, wF x ≤ 100000) (hk : 0 ≤ k0) (m : Nat) : 0 ≤ kF fs k0 m := by
  have := (kF_bound (k0 := k0) h (by omega) m).1
  omega
theorem smallF_of {ps : List (List Int × Int)} (h : ∀ k, k < ps.length → (nthP ps k).1.length ≤ 100000) : ∀ x ∈ partF ps, wF x ≤ 100000 := by
  intro x hx
  simp only [partF, List.mem_flatMap] at hx
  obtain ⟨p, hp, hx⟩ := hx
  obtain ⟨k, hk, e⟩ := List.getElem_of_mem hp
  have := h k hk
  rw [nthP_lt hk, e] at this
  simp at hx
  rcases hx with rfl | rfl
  · exact this
  · simp [wF]
end Go.Proofs.Ytgbojgmmingfdaa
