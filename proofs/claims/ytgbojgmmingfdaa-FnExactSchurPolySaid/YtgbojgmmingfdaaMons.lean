/- Slices of keys with coefficients, which the call owns. -/
import Derived.Test.YtgbojgmmingfdaaFillD
import Derived.Test.YtgbojgmmingfdaaGathK
namespace Go.Proofs.Ytgbojgmmingfdaa
open Go.RowKit

def flatK (L : List (Int × Int)) : List Int := L.flatMap fun x => [x.1, x.2]
theorem flatK_len (L : List (Int × Int)) : (flatK L).length = L.length * 2 := by
  induction L with
  | nil => rfl
  | cons x L ih =>
    have : flatK (x :: L) = x.1 :: x.2 :: flatK L := by simp [flatK]
    rw [this, List.length_cons, List.length_cons, ih, List.length_cons]; omega
theorem flatK_app (a b : List (Int × Int)) : flatK (a ++ b) = flatK a ++ flatK b := by simp [flatK]
def nthM (L : List (Int × Int)) (k : Nat) : Int × Int := L.getD k (0, 0)
theorem nthM_cons (x : Int × Int) (L : List (Int × Int)) (k : Nat) : nthM (x :: L) (k + 1) = nthM L k := by simp [nthM]
theorem nthM_lt {L : List (Int × Int)} {k : Nat} (h : k < L.length) : nthM L k = L[k] := by simp [nthM, List.getD, h]
theorem flatK_at : ∀ {L : List (Int × Int)} {k : Nat}, k < L.length → (flatK L)[k * 2]? = some (nthM L k).1 ∧ (flatK L)[k * 2 + 1]? = some (nthM L k).2
  | [], k, h => by simp at h
  | x :: L, 0, _ => by simp [flatK, nthM]
  | x :: L, k + 1, h => by
    have ih := flatK_at (L := L) (k := k) (by simpa using h)
    have e : flatK (x :: L) = x.1 :: x.2 :: flatK L := by simp [flatK]
    rw [e, nthM_cons, show (k + 1) * 2 = k * 2 + 1 + 1 by omega]
    exact ih
/-- The value is a slice of keys with coefficients that the call owns. -/
def OM (w : World) (base : Nat) (v : Value) (L : List (Int × Int)) : Prop := OF w base base 120 2 v L.length ((flatK L).map .inl) ((flatK L).map (.int .i64))
theorem Try.infoMon : (Try.prog.info? 120).map (fun i => (i.zero, i.size, i.bytes)) = some (some (.agg #[.int .i64 0, .int .i64 0]), 2, 16) := by kernel_rfl
section
variable {w w' : World} {base base' : Nat} {v : Value} {L M : List (Int × Int)}
theorem OM.nil_ (w : World) (base : Nat) : OM w base (.slice none 0 0) [] := OF.nil_ _ _ _ _ _
theorem OM.below (h : OM w base v L) (hb : Below w.heap.size w w') : OM w' base v L := OF.below h hb
theorem OM.alloc (h : OM w base v L) (o : Obj) : OM (w.alloc o) base v L := OF.alloc h o
theorem OM.mono (h : OM w base v L) (hb : base' ≤ base) : OM w base' v L := OF.mono h hb hb
theorem OM.lt (h : OM w base v L) : ∀ k, v.ownBlock = some k → base ≤ k ∧ k < w.heap.size := OF.lt h
theorem OM.form (h : OM w base v L) : ∃ A n c, v = .slice A n c ∧ L.length = n ∧ n ≤ c ∧ c ≤ 9223372036854775807 := by
  obtain ⟨A, c, hv, h1, h2, _⟩ := OF.form h
  exact ⟨A, L.length, c, hv, rfl, h1, h2⟩
theorem OM.len {A : Option Addr} {n c : Nat} (h : OM w base (.slice A n c) L) : L.length = n := by
  obtain ⟨A', n', c', e, h1, -⟩ := OM.form h
  rw [h1, (slice_inj e).2.1]
theorem OM.shape {A : Option Addr} {n c : Nat} (h : OM w base (.slice A n c) L) (hn : 0 < n) : ∃ g, A = some ⟨g, 0, none⟩ ∧ base ≤ g ∧ g < w.heap.size := by
  have hl := h.len
  obtain ⟨g, c', hv, h1, h2⟩ := OF.shape h (by omega)
  exact ⟨g, (slice_inj hv).1, h1, h2⟩
theorem OM.cell {g n c k : Nat} (h : OM w base (.slice (some ⟨g, 0, none⟩) n c) L) (hk : k < L.length) : w.cell? ⟨g, k * 2, none⟩ = some (.int .i64 (nthM L k).1) ∧ w.cell? ⟨g, k * 2 + 1, none⟩ = some (.int .i64 (nthM L k).2) := by
  have hl := h.len
  subst hl
  have h2 := flatK_at hk
  refine ⟨(OF.cellF h (by omega)).trans ?_, (OF.cellF h (by omega)).trans ?_⟩
  · rw [List.getElem?_map, h2.1]; rfl
  · rw [List.getElem?_map, h2.2]; rfl
theorem OM.frozen {g n c : Nat} (h : OM w base (.slice (some ⟨g, 0, none⟩) n c) L) (j : Nat) : w.frozen? ⟨g, j, none⟩ = false := by
  have hl := h.len
  subst hl
  exact OF.frozenF h j
theorem OM.sameB {g n c : Nat} (h : OM w base (.slice (some ⟨g, 0, none⟩) n c) L) (e : w'.heap[g]? = w.heap[g]?) : OM w' base (.slice (some ⟨g, 0, none⟩) n c) L := by
  refine OF.sameV h (fun k hk => by simp [Value.ownBlock] at hk; rw [← hk]; exact e) fun u hu k hk => ?_
  rw [noOwn_ints hu] at hk; cases hk
theorem OM.same (h : OM w base v L) (hk : ∀ k, v.ownBlock = some k → w'.heap[k]? = w.heap[k]?) : OM w' base v L := OF.sameV h hk fun u hu k hk => by rw [noOwn_ints hu] at hk; cases hk
theorem OM.lit (w : World) (base : Nat) (hb : base ≤ w.heap.size) : OM (w.alloc (.cells #[] 120)) base (.slice (some ⟨w.heap.size, 0, none⟩) 0 0) [] := by
  have := World.ownsRow_lit (e := 120) (size := 2) (base := base) w #[] 0 hb (by simp only [maxLen]; omega) (by simp)
  exact ⟨by simpa [flatK] using this, FRs.nil_, Dist.nil_⟩
theorem OM.lit1 (w : World) (base : Nat) (x y : Int) (hb : base ≤ w.heap.size) : OM (w.alloc (.cells #[.int .i64 x, .int .i64 y] 120)) base (.slice (some ⟨w.heap.size, 0, none⟩) 1 1) [(x, y)] := by
  have := World.ownsRow_lit (e := 120) (size := 2) (base := base) w #[.int .i64 x, .int .i64 y] 1 hb (by simp only [maxLen]; omega) (by simp)
  exact ⟨this, FRs.ints _ _ [x, y], Dist.ints [x, y]⟩
end
theorem one_inj {a b : List Int} : a.map (Sum.inl (β := List Int)) ++ b.map .inl = (a ++ b).map .inl := by simp
/-- append of one. -/
theorem wpAppM1 {w0 : World} {ops : Array Oper} {rest : List Oper} {o : Oper} {a : Act} {Q : Exit → Act → World → Prop} (hgd : o.guard = none) (s x : Operand)
    (ho : o.op = .call { callee := .builtin .append, args := #[s, x], argTypes := #[71, 71] })
    (base : Nat) (v : Value) (L : List (Int × Int)) (p q : Int) (hs : a.eval s = v) (hx : a.eval x = .slice (some ⟨w0.heap.size, 0, none⟩) 1 1) (hown : OM w0 base v L) (hlen : L.length + 1 ≤ 1000000000000) (hbase : base ≤ w0.heap.size)
    (h : ∀ A' n' c' w', OM w' base (.slice A' n' c') (L ++ [(p, q)]) → (w0.alloc (.cells #[.int .i64 p, .int .i64 q] 120)).grownBy w' v.ownBlock → ((Value.slice A' n' c').ownBlock = v.ownBlock ∨ (Value.slice A' n' c').ownBlock = some (w0.heap.size + 1)) → wpList Try.prog ops Q rest (a.put o.dst (.slice A' n' c')) w') :
    wpList Try.prog ops Q (o :: rest) a (w0.alloc (.cells #[.int .i64 p, .int .i64 q] 120)) := by
  refine wpAppN hgd s x 71 120 ho 2 16 (.agg #[.int .i64 0, .int .i64 0]) Try.underlying71 Try.infoMon rfl (by omega) (by omega) (by decide) base base v L.length 1 ((flatK L).map .inl) ([p, q].map .inl) ((flatK L).map (.int .i64)) ([p, q].map (.int .i64)) ⟨w0.heap.size, 0, none⟩ 1 hs hx
    (OF.alloc hown _) rfl (new_cells w0 [.int .i64 p, .int .i64 q] _) (FRs.ints _ _ _) (Dist.ints _) (fun u hu _ _ => .inl (noOwn_ints hu)) hlen (by simp; omega) fun v' w' h2 h3 h5 => ?_
  have h6 : OM w' base v' (L ++ [(p, q)]) := by
    unfold OM
    rw [flatK_app, List.length_append, List.map_append, List.map_append]
    exact h2
  obtain ⟨A', n', c', rfl, -⟩ := OM.form h6
  exact h A' n' c' w' h6 h3 (by simpa using h5)
theorem stepAppM1 {w0 : World} {ops : Array Oper} {o : Oper} {a : Act} {K : Act → World → Prop} {Q : Exit → Act → World → Prop} {E : Prop} (hgd : o.guard = none) (s x : Operand)
    (ho : o.op = .call { callee := .builtin .append, args := #[s, x], argTypes := #[71, 71] })
    (base : Nat) (v : Value) (L : List (Int × Int)) (p q : Int) (hs : a.eval s = v) (hx : a.eval x = .slice (some ⟨w0.heap.size, 0, none⟩) 1 1) (hown : OM w0 base v L) (hlen : L.length + 1 ≤ 1000000000000) (hbase : base ≤ w0.heap.size)
    (h : ∀ A' n' c' w', OM w' base (.slice A' n' c') (L ++ [(p, q)]) → (w0.alloc (.cells #[.int .i64 p, .int .i64 q] 120)).grownBy w' v.ownBlock → ((Value.slice A' n' c').ownBlock = v.ownBlock ∨ (Value.slice A' n' c').ownBlock = some (w0.heap.size + 1)) → K (a.put o.dst (.slice A' n' c')) w') :
    if Region.wanted o (yielded ops a.tmps) = true then Oper.wp Try.prog o a (w0.alloc (.cells #[.int .i64 p, .int .i64 q] 120)) K Q else E := by
  have hw : Region.wanted o (yielded ops a.tmps) = true := by simp [Region.wanted, hgd]
  rw [if_pos hw]
  obtain ⟨v', w', hr, h2, h3, h5⟩ := run_appN (P := Try.prog) (w := w0.alloc (.cells #[.int .i64 p, .int .i64 q] 120)) (base := base) (b := base) (t := 71) (e := 120) (size := 2) (bytes := 16) (z := .agg #[.int .i64 0, .int .i64 0]) (v := v) (n := L.length) (m := 1)
    (fs := (flatK L).map .inl) (fs2 := [p, q].map .inl) (cells := (flatK L).map (.int .i64)) (news := [p, q].map (.int .i64)) o.type Try.underlying71 Try.infoMon rfl (by omega) (by omega) (by decide) (OF.alloc hown _) ⟨w0.heap.size, 0, none⟩ 1 rfl
    (new_cells w0 [.int .i64 p, .int .i64 q] _) (FRs.ints _ _ _) (Dist.ints _) (fun u hu _ _ => .inl (noOwn_ints hu)) hlen (by simp; omega)
  have h6 : OM w' base v' (L ++ [(p, q)]) := by
    unfold OM
    rw [flatK_app, List.length_append, List.map_append, List.map_append]
    exact h2
  obtain ⟨A', n', c', rfl, -⟩ := OM.form h6
  unfold Oper.wp execOp
  simp only [ho, resolve, invoke, builtin, Sem.run_bind, Sem.run_pure, Result.andThen_ok, List.map_toArray, List.map_cons, List.map_nil, hs, hx, hr]
  exact h A' n' c' w' h6 h3 (by simpa using h5)
/-- append of another slice. -/
theorem wpAppM {w : World} {ops : Array Oper} {rest : List Oper} {o : Oper} {a : Act} {Q : Exit → Act → World → Prop} (hgd : o.guard = none) (s x : Operand)
    (ho : o.op = .call { callee := .builtin .append, args := #[s, x], argTypes := #[71, 71] })
    (base : Nat) (v : Value) (L M : List (Int × Int)) (ad : Addr) (n c : Nat) (hs : a.eval s = v) (hx : a.eval x = .slice (some ad) n c) (hown : OM w base v L) {b2 : Nat} (hM : OM w b2 (.slice (some ad) n c) M) (hlen : L.length + M.length ≤ 1000000000000) (hbase : base ≤ w.heap.size)
    (h : ∀ A' n' c' w', OM w' base (.slice A' n' c') (L ++ M) → w.grownBy w' v.ownBlock → ((Value.slice A' n' c').ownBlock = v.ownBlock ∨ (Value.slice A' n' c').ownBlock = some w.heap.size) → wpList Try.prog ops Q rest (a.put o.dst (.slice A' n' c')) w') :
    wpList Try.prog ops Q (o :: rest) a w := by
  have hl := hM.len
  obtain ⟨A', c', hv, -, -, h0, hcl, hfl, hcells⟩ := OF.form hM
  obtain ⟨rfl, -, -⟩ := slice_inj hv
  refine wpAppN hgd s x 71 120 ho 2 16 (.agg #[.int .i64 0, .int .i64 0]) Try.underlying71 Try.infoMon rfl (by omega) (by omega) (by decide) base base v L.length n ((flatK L).map .inl) ((flatK M).map .inl) ((flatK L).map (.int .i64)) ((flatK M).map (.int .i64)) ad c hs hx
    hown (by rw [List.length_map, flatK_len, hl]) (fun j u hu => ?_) (FRs.ints _ _ _) (Dist.ints _) (fun u hu _ _ => .inl (noOwn_ints hu)) (by omega) hbase fun v' w' h2 h3 h5 => ?_
  · by_cases hp : 0 < M.length
    · obtain ⟨ad', e, hc⟩ := hcells hp
      injection e with e
      subst e
      exact hc j u hu
    · rw [List.eq_nil_of_length_eq_zero (show M.length = 0 by omega)] at hu
      simp [flatK] at hu
  · have h6 : OM w' base v' (L ++ M) := by
      unfold OM
      rw [flatK_app, List.length_append, List.map_append, List.map_append, hl]
      exact h2
    obtain ⟨A', n', c', rfl, -⟩ := OM.form h6
    exact h A' n' c' w' h6 h3 h5
/-- 'make([]l2Mon, 0, n)'. -/
theorem wpMakeM {w : World} {ops : Array Oper} {rest : List Oper} {o : Oper} {a : Act} {Q : Exit → Act → World → Prop} (hgd : o.guard = none) (s x : Operand)
    (ho : o.op = .makeSlice 71 s x) (n : Nat) (M : Int) (hs : a.eval s = .int .i64 0) (hx : a.eval x = .int .i64 M) (hM : M = (n : Int)) (hlen : n ≤ 1000000000000)
    (h : ∀ w', OM w' w.heap.size (.slice (some ⟨w.heap.size, 0, none⟩) 0 n) [] → Below w.heap.size w w' → wpList Try.prog ops Q rest (a.put o.dst (.slice (some ⟨w.heap.size, 0, none⟩) 0 n)) w') :
    wpList Try.prog ops Q (o :: rest) a w := by
  obtain ⟨i0, hi, hz, hs1, hb⟩ := info_parts Try.infoMon
  refine wpList_make_own w hgd s x 71 ho w.heap.size 120 i0 (.agg #[.int .i64 0, .int .i64 0]) 2 Try.underlying71 hi hz hs1 .i64 .i64 M n hs hx hM (by rw [hb]; omega) (by simp only [maxLen]; omega) (Nat.le_refl _) ?_
  intro w' hown hg
  exact h w' ⟨hown, FRs.nil_, Dist.nil_⟩ ⟨hg.os, hg.tape, hg.output, hg.size, fun k hk => hg.block k hk (by simp)⟩
/-- A coefficient is written. -/
def setC (L : List (Int × Int)) (k : Nat) (y : Int) : List (Int × Int) := L.set k ((nthM L k).1, y)
theorem flatK_set : ∀ (L : List (Int × Int)) (k : Nat) (y : Int), k < L.length → (flatK L).set (k * 2 + 1) y = flatK (setC L k y)
  | [], k, y, h => by simp at h
  | x :: L, 0, y, _ => by simp [flatK, setC, nthM]
  | x :: L, k + 1, y, h => by
    have ih := flatK_set L k y (by simpa using h)
    have e : ∀ (x : Int × Int) (L : List (Int × Int)), flatK (x :: L) = x.1 :: x.2 :: flatK L := fun x L => by simp [flatK]
    rw [setC, nthM_cons, List.set_cons_succ, e, e, show (k + 1) * 2 + 1 = k * 2 + 1 + 1 + 1 by omega, List.set_cons_succ, List.set_cons_succ, ih]
    rfl
theorem OM.setCoef {w : World} {base g n c k : Nat} {L : List (Int × Int)} (h : OM w base (.slice (some ⟨g, 0, none⟩) n c) L) (hk : k < L.length) (y : Int) :
    OM (w.setCell ⟨g, k * 2 + 1, none⟩ (.int .i64 y)) base (.slice (some ⟨g, 0, none⟩) n c) (setC L k y) ∧ w.grownBy (w.setCell ⟨g, k * 2 + 1, none⟩ (.int .i64 y)) (some g) := by
  have hl := h.len
  subst hl
  obtain ⟨h1, h2⟩ := h.1.stored (k * 2 + 1) (.int .i64 y)
  refine ⟨?_, h2⟩
  unfold OM
  rw [show (setC L k y).length = L.length by simp [setC], ← flatK_set L k y hk]
  refine ⟨?_, FRs.ints _ _ _, Dist.ints _⟩
  rw [List.map_set]
  exact h1
end Go.Proofs.Ytgbojgmmingfdaa
