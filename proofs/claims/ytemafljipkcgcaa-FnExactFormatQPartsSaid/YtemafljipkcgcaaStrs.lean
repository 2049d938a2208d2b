/- Slices of strings and of bytes. -/
import Derived.Test.YtemafljipkcgcaaNest
import Derived.Test.YtemafljipkcgcaaBasic
namespace Go.Proofs.Ytemafljipkcgcaa
open Go.RowKit

/-- Cells of 86. -/
def cellsTx (l : List ByteArray) : List Value := l.map Value.string
def OKTx (w : World) (base : Nat) (v : Value) (l : List ByteArray) : Prop := w.ownsRow base 9 1 v l.length (cellsTx l)
theorem Try.infoTx : (Try.prog.info? 9).map (fun i => (i.zero, i.size, i.bytes)) = some (some (Value.string ⟨#[]⟩), 1, 16) := by kernel_rfl
theorem run_appTx {w : World} {base : Nat} {v : Value} {l : List ByteArray} {x : ByteArray} {g c : Nat} (ty : TypeId) (hown : OKTx w base v l) (hr : w.cell? ⟨g, 0, none⟩ = some (Value.string x)) (hlen : l.length + 1 ≤ 1000000000000) (hbase : base ≤ w.heap.size) :
    ∃ v' w', (Builtin.append_ #[86, 86] ty #[v, .slice (some ⟨g, 0, none⟩) 1 c]).run Try.prog w = .ok v' w' ∧ OKTx w' base v' (l ++ [x]) ∧ w.grownBy w' v.ownBlock ∧ (v'.ownBlock = v.ownBlock ∨ v'.ownBlock = some w.heap.size) := by
  obtain ⟨i0, hi, hz, hs1, hb⟩ := info_parts Try.infoTx
  obtain ⟨v', w', hrun, h2, h3, _, h5⟩ := run_append_own_at (P := Try.prog) w base 86 ty 9 i0 (Value.string ⟨#[]⟩) 1 16 Try.underlying86 hi hz hs1 hb rfl (by decide)
    v l.length (cellsTx l) hown ⟨g, 0, none⟩ 1 c [Value.string x] (by simp) (by
      intro j u hu
      have hj : j = 0 := by
        have := (List.getElem?_eq_some_iff.1 hu).1
        simp at this
        exact this
      subst hj
      simp at hu
      subst hu
      simpa [Addr.add] using hr) (by simp [Value.oneCell']) (by simp only [maxLen]; omega) (by omega) hbase
  refine ⟨v', w', hrun, ?_, h3, h5⟩
  unfold OKTx
  have e : cellsTx (l ++ [x]) = cellsTx l ++ [Value.string x] := by simp [cellsTx]
  rw [e, List.length_append]
  exact h2
theorem wpAppTx {w : World} {ops : Array Oper} {rest : List Oper} {o : Oper} {a : Act} {Q : Exit → Act → World → Prop} (hgd : o.guard = none) (s x : Operand)
    (ho : o.op = .call { callee := .builtin .append, args := #[s, x], argTypes := #[86, 86] })
    (base : Nat) (v : Value) (l : List ByteArray) (y : ByteArray) (g c : Nat) (hs : a.eval s = v) (hx : a.eval x = .slice (some ⟨g, 0, none⟩) 1 c) (hown : OKTx w base v l) (hr : w.cell? ⟨g, 0, none⟩ = some (Value.string y)) (hlen : l.length + 1 ≤ 1000000000000) (hbase : base ≤ w.heap.size)
    (h : ∀ v' w', OKTx w' base v' (l ++ [y]) → w.grownBy w' v.ownBlock → (v'.ownBlock = v.ownBlock ∨ v'.ownBlock = some w.heap.size) → wpList Try.prog ops Q rest (a.put o.dst v') w') :
    wpList Try.prog ops Q (o :: rest) a w :=
  wpList_plain hgd fun K hK => by
    obtain ⟨v', w', hrun, h2, h3, h5⟩ := run_appTx (c := c) o.type hown hr hlen hbase
    unfold Oper.wp execOp
    simp only [ho, resolve, invoke, builtin, Sem.run_bind, Sem.run_pure, Result.andThen_ok, List.map_toArray, List.map_cons, List.map_nil, hs, hx, hrun]
    exact hK _ _ (h v' w' h2 h3 h5)
theorem OKTx.alloc {w : World} {base : Nat} {v : Value} {l : List ByteArray} (h : OKTx w base v l) (o : Obj) : OKTx (w.alloc o) base v l := World.ownsRow.alloc h o
theorem OKTx.lit (w : World) (base : Nat) (hb : base ≤ w.heap.size) : OKTx (w.alloc (.cells #[] 9)) base (.slice (some ⟨w.heap.size, 0, none⟩) 0 0) [] := by
  have := World.ownsRow_lit (e := 9) (size := 1) (base := base) w #[] 0 hb (by simp [maxLen]) (by simp)
  simpa [OKTx, cellsTx] using this
theorem OKTx.lt {w : World} {base : Nat} {v : Value} {l : List ByteArray} (h : OKTx w base v l) : ∀ k, v.ownBlock = some k → base ≤ k ∧ k < w.heap.size := World.ownsRow.lt h
theorem OKTx.below {w w' : World} {base : Nat} {v : Value} {l : List ByteArray} (h : OKTx w base v l) (hb : Below w.heap.size w w') : OKTx w' base v l :=
  World.ownsRow.kept h (row := none) ⟨hb.os, hb.tape, hb.output, hb.size, fun k hk _ => hb.block k hk⟩ (by cases hv : v.ownBlock <;> simp)

/-- Cells of 50. -/
def cellsBy (l : List Int) : List Value := l.map (Value.int .u8)
def OKBy (w : World) (base : Nat) (v : Value) (l : List Int) : Prop := w.ownsRow base 5 1 v l.length (cellsBy l)
theorem Try.infoByy : (Try.prog.info? 5).map (fun i => (i.zero, i.size, i.bytes)) = some (some (Value.int .u8 0), 1, 1) := by kernel_rfl
theorem run_appBy {w : World} {base : Nat} {v : Value} {l : List Int} {x : Int} {g c : Nat} (ty : TypeId) (hown : OKBy w base v l) (hr : w.cell? ⟨g, 0, none⟩ = some ((Value.int .u8) x)) (hlen : l.length + 1 ≤ 1000000000000) (hbase : base ≤ w.heap.size) :
    ∃ v' w', (Builtin.append_ #[50, 50] ty #[v, .slice (some ⟨g, 0, none⟩) 1 c]).run Try.prog w = .ok v' w' ∧ OKBy w' base v' (l ++ [x]) ∧ w.grownBy w' v.ownBlock ∧ (v'.ownBlock = v.ownBlock ∨ v'.ownBlock = some w.heap.size) := by
  obtain ⟨i0, hi, hz, hs1, hb⟩ := info_parts Try.infoByy
  obtain ⟨v', w', hrun, h2, h3, _, h5⟩ := run_append_own_at (P := Try.prog) w base 50 ty 5 i0 (Value.int .u8 0) 1 1 Try.underlying50 hi hz hs1 hb rfl (by decide)
    v l.length (cellsBy l) hown ⟨g, 0, none⟩ 1 c [(Value.int .u8) x] (by simp) (by
      intro j u hu
      have hj : j = 0 := by
        have := (List.getElem?_eq_some_iff.1 hu).1
        simp at this
        exact this
      subst hj
      simp at hu
      subst hu
      simpa [Addr.add] using hr) (by simp [Value.oneCell']) (by simp only [maxLen]; omega) (by omega) hbase
  refine ⟨v', w', hrun, ?_, h3, h5⟩
  unfold OKBy
  have e : cellsBy (l ++ [x]) = cellsBy l ++ [(Value.int .u8) x] := by simp [cellsBy]
  rw [e, List.length_append]
  exact h2
theorem wpAppBy {w : World} {ops : Array Oper} {rest : List Oper} {o : Oper} {a : Act} {Q : Exit → Act → World → Prop} (hgd : o.guard = none) (s x : Operand)
    (ho : o.op = .call { callee := .builtin .append, args := #[s, x], argTypes := #[50, 50] })
    (base : Nat) (v : Value) (l : List Int) (y : Int) (g c : Nat) (hs : a.eval s = v) (hx : a.eval x = .slice (some ⟨g, 0, none⟩) 1 c) (hown : OKBy w base v l) (hr : w.cell? ⟨g, 0, none⟩ = some ((Value.int .u8) y)) (hlen : l.length + 1 ≤ 1000000000000) (hbase : base ≤ w.heap.size)
    (h : ∀ v' w', OKBy w' base v' (l ++ [y]) → w.grownBy w' v.ownBlock → (v'.ownBlock = v.ownBlock ∨ v'.ownBlock = some w.heap.size) → wpList Try.prog ops Q rest (a.put o.dst v') w') :
    wpList Try.prog ops Q (o :: rest) a w :=
  wpList_plain hgd fun K hK => by
    obtain ⟨v', w', hrun, h2, h3, h5⟩ := run_appBy (c := c) o.type hown hr hlen hbase
    unfold Oper.wp execOp
    simp only [ho, resolve, invoke, builtin, Sem.run_bind, Sem.run_pure, Result.andThen_ok, List.map_toArray, List.map_cons, List.map_nil, hs, hx, hrun]
    exact hK _ _ (h v' w' h2 h3 h5)
theorem OKBy.alloc {w : World} {base : Nat} {v : Value} {l : List Int} (h : OKBy w base v l) (o : Obj) : OKBy (w.alloc o) base v l := World.ownsRow.alloc h o
theorem OKBy.lit (w : World) (base : Nat) (hb : base ≤ w.heap.size) : OKBy (w.alloc (.cells #[] 5)) base (.slice (some ⟨w.heap.size, 0, none⟩) 0 0) [] := by
  have := World.ownsRow_lit (e := 5) (size := 1) (base := base) w #[] 0 hb (by simp [maxLen]) (by simp)
  simpa [OKBy, cellsBy] using this
theorem OKBy.lt {w : World} {base : Nat} {v : Value} {l : List Int} (h : OKBy w base v l) : ∀ k, v.ownBlock = some k → base ≤ k ∧ k < w.heap.size := World.ownsRow.lt h
theorem OKBy.below {w w' : World} {base : Nat} {v : Value} {l : List Int} (h : OKBy w base v l) (hb : Below w.heap.size w w') : OKBy w' base v l :=
  World.ownsRow.kept h (row := none) ⟨hb.os, hb.tape, hb.output, hb.size, fun k hk _ => hb.block k hk⟩ (by cases hv : v.ownBlock <;> simp)
end Go.Proofs.Ytemafljipkcgcaa
