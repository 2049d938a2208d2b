/- Slices of keys with coefficients, which the call owns. -/
import Derived.Test.YtgbojgmmingfdaaKeep
import Derived.Test.YtgbojgmmingfdaaSchurP
namespace Go.Proofs.Ytgbojgmmingfdaa
open Go.RowKit

def flatK (L : List (Int × Int)) : List Int := L.flatMap fun x => [x.1, x.2]
theorem flatK_len (L : List (Int × Int)) : (flatK L).length = L.length * 2 := by
  induction L with
  | nil => rfl
  | cons x L ih =>
    have : flatK (x :: L) = x.1 :: x.2 :: flatK L := by simp [flatK]
    rw [this, List.length_cons, List.length_cons, ih, List.length_cons]; omega
theorem flatK_app (a b : List (Int × Int)) : flatK (a ++ b) = flatK a ++ flatK b := by simp [flatK]
def nthM (L : List (Int × Int)) (k : Nat) : Int × Int := L.getD k (0, 0)
theorem nthM_cons (x : Int × Int) (L : List (Int × Int)) (k : Nat) : nthM (x :: L) (k + 1) = nthM L k := by simp [nthM]
theorem nthM_lt {L : List (Int × Int)} {k : Nat} (h : k < L.length) : nthM L k = L[k] := by simp [nthM, List.getD, h]
theorem flatK_at : ∀ {L : List (Int × Int)} {k : Nat}, k < L.length → (flatK L)[k * 2]? = some (nthM L k).1 ∧ (flatK L)[k * 2 + 1]? = some (nthM L k).2
  | [], k, h => by simp at h
  | x :: L, 0, _ => by simp [flatK, nthM]
  | x :: L, k + 1, h => by
    have ih := flatK_at (L := L) (k := k) (by simpa using h)
    have e : flatK (x :: L) = x.1 :: x.2 :: flatK L := by simp [flatK]
    rw [e, nthM_cons, show (k + 1) * 2 = k * 2 + 1 + 1 by omega]
    exact ih
/-- The value is a slice of keys with coefficients that the call owns. -/
def OM (w : World) (base : Nat) (v : Value) (L : List (Int × Int)) : Prop := OF w base base 120 2 v L.length ((flatK L).map .inl) ((flatK L).map (.int .i64))
theorem Try.infoMon : (Try.prog.info? 120).map (fun i => (i.zero, i.size, i.bytes)) = some (some (.agg #[.int .i64 0, .int .i64 0]), 2, 16) := by kernel_rfl
section
variable {w w' : World} {base base' : Nat} {v : Value} {L M : List (Int × Int)}
theorem OM.nil_ (w : World) (base : Nat) : OM w base (.slice none 0 0) [] := OF.nil_ _ _ _ _ _
theorem OM.below (h : OM w base v L) (hb : Below w.heap.size w w') : OM w' base v L := OF.below h hb
theorem OM.alloc (h : OM w base v L) (o : Obj) : OM (w.alloc o) base v L := OF.alloc h o
theorem OM.mono (h : OM w base v L) (hb : base' ≤ base) : OM w base' v L := OF.mono h hb hb
theorem OM.lt (h : OM w base v L) : ∀ k, v.ownBlock = some k → base ≤ k ∧ k < w.heap.size := OF.lt h
theorem OM.form (h : OM w base v L) : ∃ A n c, v = .slice A n c ∧ L.length = n ∧ n ≤ c ∧ c ≤ 9223372036854775807 := by
  obtain ⟨A, c, hv, h1, h2, _⟩ := OF.form h
  exact ⟨A, L.length, c, hv, rfl, h1, h2⟩
theorem OM.len {A : Option Addr} {n c : Nat} (h : OM w base (.slice A n c) L) : L.length = n := by
  obtain ⟨A', n', c', e, h1, -⟩ := OM.form h
  rw [h1, (slice_inj e).2.1]
theorem OM.shape {A : Option Addr} {n c : Nat} (h : OM w base (.slice A n c) L) (hn : 0 < n) : ∃ g, A = some ⟨g, 0, none⟩ ∧ base ≤ g ∧ g < w.heap.size := by
  have hl := h.len
  obtain ⟨g, c', hv, h1, h2⟩ := OF.shape h (by omega)
  exact ⟨g, (slice_inj hv).1, h1, h2⟩
theorem OM.cell {g n c k : Nat} (h : OM w base (.slice (some ⟨g, 0, none⟩) n c) L) (hk : k < L.length) : w.cell? ⟨g, k * 2, none⟩ = some (.int .i64 (nthM L k).1) ∧ w.cell? ⟨g, k * 2 + 1, none⟩ = some (.int .i64 (nthM L k).2) := by
  have hl := h.len
  subst hl
  have h2 := flatK_at hk
  refine ⟨(OF.cellF h (by omega)).trans ?_, (OF.cellF h (by omega)).trans ?_⟩
  · rw [List.getElem?_map, h2.1]; rfl
  · rw [List.getElem?_map, h2.2]; rfl
theorem OM.frozen {g n c : Nat} (h : OM w base (.slice (some ⟨g, 0, none⟩) n c) L) (j : Nat) : w.frozen? ⟨g, j, none⟩ = false := by
  have hl := h.len
  subst hl
  exact OF.frozenF h j
theorem OM.sameB {g n c : Nat} (h : OM w base (.slice (some ⟨g, 0, none⟩) n c) L) (e : w'.heap[g]? = w.heap[g]?) : OM w' base (.slice (some ⟨g, 0, none⟩) n c) L := by
  refine OF.sameV h (fun k hk => by simp [Value.ownBlock] at hk; rw [← hk]; exact e) fun u hu k hk => ?_
  rw [noOwn_ints hu] at hk; cases hk
theorem OM.same (h : OM w base v L) (hk : ∀ k, v.ownBlock = some k → w'.heap[k]? = w.heap[k]?) : OM w' base v L := OF.sameV h hk fun u hu k hk => by rw [noOwn_ints hu] at hk; cases hk
theorem OM.lit (w : World) (base : Nat) (hb : base ≤ w.heap.size) : OM (w.alloc (.cells #[] 120)) base (.slice (some ⟨w.heap.size, 0, none⟩) 0 0) [] := by
  have := World.ownsRow_lit (e := 120) (size := 2) (base := base) w #[] 0 hb (by simp only [maxLen]; omega) (by simp)
  exact ⟨by simpa [flatK] using this, FRs.nil_, Dist.nil_⟩
theorem OM.lit1 (w : World) (base : Nat) (x y : Int) (hb : base ≤ w.heap.size) : OM (w.alloc (.cells #[.int .i64 x, .int .i64 y] 120)) base (.slice (some ⟨w.heap.size, 0, none⟩) 1 1) [(x, y)] := by
  have := World.ownsRow_lit (e := 120) (size := 2) (base := base) w #[.int .i64 x, .int .i64 y] 1 hb (by simp only [maxLen]; omega) (by simp)
  exact ⟨this, FRs.ints _ _ [x, y], Dist.ints [x, y]⟩
end
theorem one_inj {a b : List Int} : a.map (Sum.inl (β := List Int)) ++ b.map .inl = (a ++ b).map .inl := by simp
/-- append of one. -/
theorem wpAppM1 {w0 : World} {ops : Array Oper} {rest : List Oper} {o : Oper} {a : Act} {Q : Exit → Act → World → Prop} (hgd : o.guard = none) (s x : Operand)
    (ho : o.op = .call { callee := .builtin .append, args := #[s, x], argTypes := #[71, 71] })
    (base : Nat) (v : Value) (L : List (Int × Int)) (p q : Int) (hs : a.eval s = v) (hx : a.eval x = .slice (some ⟨w0.heap.size, 0, none⟩) 1 1) (hown : OM w0 base v L) (hlen : L.length + 1 ≤ 1000000000000) (hbase : base ≤ w0.heap.size)
    (h : ∀ A' n' c' w', OM w' base (.slice A' n' c') (L ++ [(p, q)]) → (w0.alloc (.cells #[.int .i64 p, .int .i64 q] 120)).grownBy w' v.ownBlock → ((Value.slice A' n' c').ownBlock = v.ownBlock ∨ (Value.slice A' n' c').ownBlock = some (w0.heap.size + 1)) → wpList Try.prog ops Q rest (a.put o.dst (.slice A' n' c')) w') :
    wpList Try.prog ops Q (o :: rest) a (w0.alloc (.cells #[.int .i64 p, .int .i64 q] 120)) := by
  refine wpAppN hgd s x 71 120 ho 2 16 (.agg #[.int .i64 0, .int .i64 0]) Try.underlying71 Try.infoMon rfl (by omega) (by omega) (by decide) base base v L.length 1 ((flatK L).map .inl) ([p, q].map .inl) ((flatK L).map (.int .i64)) ([p, q].map (.int .i64)) ⟨w0.heap.size, 0, none⟩ 1 hs hx
    (OF.alloc hown _) rfl (new_cells w0 [.int .i64 p, .int .i64 q] _) (FRs.ints _ _ _) (Dist.ints _) (fun u hu _ _ => .inl (noOwn_ints hu)) hlen (by simp; omega) fun v' w' h2 h3 h5 => ?_
  have h6 : OM w' base v' (L ++ [(p, q)]) := by
    unfold OM
    rw [flatK_app, List.length_append, List.map_append, List.map_append]
    exact h2
  obtain ⟨A', n', c', rfl, -⟩ := OM.form h6
  exact h A' n' c' w' h6 h3 (by simpa using h5)
theorem stepAppM1 {w0 : World} {ops : Array Oper} {o : Oper} {a : Act} {K : Act → World → Prop} {Q : Exit → Act → World → Prop} {E : Prop} (hgd : o.guard = none) (s x : Operand)
    (ho : o.op = .call { callee := .builtin .append, args := #[s, x], argTypes := #[71, 71] })
    (base : Nat) (v : Value) (L : List (Int × Int)) (p q : Int) (hs : a.eval s = v) (hx : a.eval x = .slice (some ⟨w0.heap.size, 0, none⟩) 1 1) (hown : OM w0 base v L) (hlen : L.length + 1 ≤ 1000000000000) (hbase : base ≤ w0.heap.size)
    (h : ∀ A' n' c' w', OM w' base (.slice A' n' c') (L ++ [(p, q)]) → (w0.alloc (.cells #[.int .i64 p, .int .i64 q] 120)).grownBy w' v.ownBlock → ((Value.slice A' n' c').ownBlock = v.ownBlock ∨ (Value.slice A' n' c').ownBlock = some (w0.heap.size + 1)) → K (a.put o.dst (.slice A' n' c')) w') :
    if Region.wanted o (yielded ops a.tmps) = true then Oper.wp Try.prog o a (w0.alloc (.cells #[.int .i64 p, .int .i64 q] 120)) K Q else E := by
  have hw : Region.wanted o (yielded ops a.tmps) = true := by simp [Region.wanted, hgd]
  rw [if_pos hw]
  obtain ⟨v', w', hr, h2, h3, h5⟩ := run_appN (P := Try.prog) (w := w0.alloc (.cells #[.int .i64 p, .int .i64 q] 120)) (base := base) (b := base) (t := 71) (e := 120) (size := 2) (bytes := 16) (z := .agg #[.int .i64 0, .int .i64 0]) (v := v) (n := L.length) (m := 1)
    (fs := (flatK L).map .inl) (fs2 := [p, q].map .inl) (cells := (flatK L).map (.int .i64)) (news := [p, q].map (.int .i64)) o.type Try.underlying71 Try.infoMon rfl (by omega) (by omega) (by decide) (OF.alloc hown _) ⟨w0.heap.size, 0, none⟩ 1 rfl
    (new_cells w0 [.int .i64 p, .int .i64 q] _) (FRs.ints _ _ _) (Dist.ints _) (fun u hu _ _ => .inl (noOwn_ints hu)) hlen (by simp; omega)
  have h6 : OM w' base v' (L ++ [(p, q)]) := by
    unfold OM
    rw [flatK_app, List.length_append, List.map_append, List.map_append]
    exact h2
  obtain ⟨A', n', c', rfl, -⟩ := OM.form h6
  unfold Oper.wp execOp
  simp only [ho, resolve, invoke, builtin, Sem.run_bind, Sem.run_pure, Result.andThen_ok, List.map_toArray, List.map_cons, List.map_nil, hs, hx, hr]
  exact h A' n' c' w' h6 h3 (by simpa using h5)
/-- append of another slice. -/
theorem wpAppM {w : World} {ops : Array Oper} {rest : List Oper} {o : Oper} {a : Act} {Q : Exit → Act → World → Prop} (hgd : o.guard = none) (s x : Operand)
    (ho : o.op = .call { callee := .builtin .append, args := #[s, x], argTypes := #[71, 71] })
    (base : Nat) (v : Value) (L M : List (Int × Int)) (ad : Addr) (n c : Nat) (hs : a.eval s = v) (hx : a.eval x = .slice (some ad) n c) (hown : OM w base v L) {b2 : Nat} (hM : OM w b2 (.slice (some ad) n c) M) (hlen : L.length + M.length ≤ 1000000000000) (hbase : base ≤ w.heap.size)
    (h : ∀ A' n' c' w', OM w' base (.slice A' n' c') (L ++ M) → w.grownBy w' v.ownBlock → ((Value.slice A' n' c').ownBlock = v.ownBlock ∨ (Value.slice A' n' c').ownBlock = some w.heap.size) → wpList Try.prog ops Q rest (a.put o.dst (.slice A' n' c')) w') :
    wpList Try.prog ops Q (o :: rest) a w := by
  have hl := hM.len
  obtain ⟨A', c', hv, -, -, h0, hcl, hfl, hcells⟩ := OF.form hM
  obtain ⟨rfl, -, -⟩ := slice_inj hv
  refine wpAppN hgd s x 71 120 ho 2 16 (.agg #[.int .i64 0, .int .i64 0]) Try.underlying71 Try.infoMon rfl (by omega) (by omega) (by decide) base base v L.length n ((flatK L).map .inl) ((flatK M).map .inl) ((flatK L).map (.int .i64)) ((flatK M).map (.int .i64)) ad c hs hx
    hown (by rw [List.length_map, flatK_len, hl]) (fun j u hu => ?_) (FRs.ints _ _ _) (Dist.ints _) (fun u hu _ _ => .inl (noOwn_ints hu)) (by omega) hbase fun v' w' h2 h3 h5 => ?_
  · by_cases hp : 0 < M.length
    · obtain ⟨ad', e, hc⟩ := hcells hp
      injection e with e
      subst e
      exact hc j u hu
    · rw [List.eq_nil_of_length_eq_zero (show M.length = 0 by omega)] at hu
      simp [flatK] at hu
  · have h6 : OM w' base v' (L ++ M) := by
      unfold OM
      rw [flatK_app, List.length_append, List.map_append, List.map_append, hl]
      exact h2
    obtain ⟨A', n', c', rfl, -⟩ := OM.form h6
    exact h A' n' c' w' h6 h3 h5
/-- 'make([]l2Mon, 0, n)'. -/
theorem wpMakeM {w : World} {ops : Array Oper} {rest : List Oper} {o : Oper} {a : Act} {Q : Exit → Act → World → Prop} (hgd : o.guard = none) (s x : Operand)
    (ho : o.op = .makeSlice 71 s x) (n : Nat) (M : Int) (hs : a.eval s = .int .i64 0) (hx : a.eval x = .int .i64 M) (hM : M = (n : Int)) (hlen : n ≤ 1000000000000)
    (h : ∀ w', OM w' w.heap.size (.slice (some ⟨w.heap.size, 0, none⟩) 0 n) [] → Below w.heap.size w w' → wpList Try.prog ops Q rest (a.put o.dst (.slice (some ⟨w.heap.size, 0, none⟩) 0 n)) w') :
    wpList Try.prog ops Q (o :: rest) a w := by
  obtain ⟨i0, hi, hz, hs1, hb⟩ := info_parts Try.infoMon
  refine wpList_make_own w hgd s x 71 ho w.heap.size 120 i0 (.agg #[.int .i64 0, .int .i64 0]) 2 Try.underlying71 hi hz hs1 .i64 .i64 M n hs hx hM (by rw [hb]; omega) (by simp only [maxLen]; omega) (Nat.le_refl _) ?_
  intro w' hown hg
  exact h w' ⟨hown, FRs.nil_, Dist.nil_⟩ ⟨hg.os, hg.tape, hg.output, hg.size, fun k hk => hg.block k hk (by simp)⟩
/-- A coefficient is written. -/
def setC (L : List (Int × Int)) (k : Nat) (y : Int) : List (Int × Int) := L.set k ((nthM L k).1, y)
theorem flatK_set : ∀ (L : List (Int × Int)) (k : Nat) (y : Int), k < L.length → (flatK L).set (k * 2 + 1) y = flatK (setC L k y)
  | [], k, y, h => by simp at h
  | x :: L, 0, y, _ => by simp [flatK, setC, nthM]
  | x :: L, k + 1, y, h => by
    have ih := flatK_set L k y (by simpa using h)
    have e : ∀ (x : Int × Int) (L : List (Int × Int)), flatK (x :: L) = x.1 :: x.2 :: flatK L := fun x L => by simp [flatK]
    rw [setC, nthM_cons, List.set_cons_succ, e, e, show (k + 1) * 2 + 1 = k * 2 + 1 + 1 + 1 by omega, List.set_cons_succ, List.set_cons_succ, ih]
    rfl
theorem OM.setCoef {w : World} {base g n c k : Nat} {L : List (Int × Int)} (h : OM w base (.slice (some ⟨g, 0, none⟩) n c) L) (hk : k < L.length) (y : Int) :
    OM (w.setCell ⟨g, k * 2 + 1, none⟩ (.int .i64 y)) base (.slice (some ⟨g, 0, none⟩) n c) (setC L k y) ∧ w.grownBy (w.setCell ⟨g, k * 2 + 1, none⟩ (.int .i64 y)) (some g) := by
  have hl := h.len
  subst hl
  obtain ⟨h1, h2⟩ := h.1.stored (k * 2 + 1) (.int .i64 y)
  refine ⟨?_, h2⟩
  unfold OM
  rw [show (setC L k y).length = L.length by simp [setC], ← flatK_set L k y hk]
  refine ⟨?_, FRs.ints _ _ _, Dist.ints _⟩
  rw [List.map_set]
  exact h1
end Go.Proofs.Ytgbojgmmingfdaa

/- A merge sort of keys with coefficients, in the order of the program's loops. No program is in sight here. -/
namespace Go.Proofs.Ytgbojgmmingfdaa

def keyAt (X : List (Int × Int)) (k : Nat) : Int := (nthM X k).1
def seg (X : List (Int × Int)) (a b : Nat) : List (Int × Int) := (X.drop a).take (b - a)
theorem seg_nil (X : List (Int × Int)) (a : Nat) : seg X a a = [] := by simp [seg]
theorem seg_snoc {X : List (Int × Int)} {a b : Nat} (hab : a ≤ b) (hb : b < X.length) : seg X a (b + 1) = seg X a b ++ [nthM X b] := by
  unfold seg
  rw [show b + 1 - a = b - a + 1 by omega, List.take_succ_eq_append_getElem (by rw [List.length_drop]; omega), nthM_lt hb]
  simp only [List.getElem_drop]
  congr 3
  omega
theorem seg_len {X : List (Int × Int)} {a b : Nat} (hb : b ≤ X.length) : (seg X a b).length = b - a := by
  unfold seg; rw [List.length_take, List.length_drop]; omega
theorem seg_app {X : List (Int × Int)} {a b c : Nat} (hab : a ≤ b) (hbc : b ≤ c) : seg X a b ++ seg X b c = seg X a c := by
  unfold seg
  have h : X.drop b = (X.drop a).drop (b - a) := by rw [List.drop_drop]; congr 1; omega
  rw [h, show c - a = (b - a) + (c - b) by omega, List.take_add]
theorem seg_all (X : List (Int × Int)) : seg X 0 X.length = X := by simp [seg]
theorem seg_at {X : List (Int × Int)} {a b k : Nat} (hk : k < b - a) : nthM (seg X a b) k = nthM X (a + k) := by
  unfold seg nthM
  simp [List.getD, List.getElem?_take, hk, List.getElem?_drop]
theorem nthM_left {a b : List (Int × Int)} {k : Nat} (h : k < a.length) : nthM (a ++ b) k = nthM a k := by simp [nthM, List.getD, List.getElem?_append_left h]
theorem nthM_right {a b : List (Int × Int)} {k : Nat} (h : a.length ≤ k) : nthM (a ++ b) k = nthM b (k - a.length) := by simp [nthM, List.getD, List.getElem?_append_right h]
/-- In each stretch of s places the keys descend. -/
def Chunk (s : Nat) (X : List (Int × Int)) : Prop := ∀ i j, i < j → j < X.length → i / s = j / s → keyAt X j ≤ keyAt X i
theorem chunk_one (X : List (Int × Int)) : Chunk 1 X := fun i j hij hj h => by
  rw [Nat.div_one, Nat.div_one] at h; omega
theorem chunk_all {s : Nat} {X : List (Int × Int)} (h : Chunk s X) (hs : X.length ≤ s) : X.Pairwise fun x y => y.1 ≤ x.1 := by
  rw [List.pairwise_iff_getElem]
  intro i j hi hj hij
  have := h i j hij hj (by rw [Nat.div_eq_of_lt (by omega), Nat.div_eq_of_lt (by omega)])
  unfold keyAt at this
  rwa [nthM_lt hi, nthM_lt hj] at this
/-- What has been merged of two stretches. -/
structure Mrg (X : List (Int × Int)) (at_ mid en i j : Nat) (M : List (Int × Int)) : Prop where
  b1 : at_ ≤ i
  b2 : i ≤ mid
  b3 : mid ≤ j
  b4 : j ≤ en
  b5 : en ≤ X.length
  perm : M.Perm (seg X at_ i ++ seg X mid j)
  srt : M.Pairwise fun x y => y.1 ≤ x.1
  lo1 : ∀ m ∈ M, ∀ k, i ≤ k → k < mid → keyAt X k ≤ m.1
  lo2 : ∀ m ∈ M, ∀ k, j ≤ k → k < en → keyAt X k ≤ m.1
section
variable {X M : List (Int × Int)} {at_ mid en i j : Nat}
theorem Mrg.start (h1 : at_ ≤ mid) (h2 : mid ≤ en) (h3 : en ≤ X.length) : Mrg X at_ mid en at_ mid [] :=
  ⟨Nat.le_refl _, h1, Nat.le_refl _, h2, h3, by simp [seg_nil], List.Pairwise.nil, by simp, by simp⟩
theorem Mrg.left (h : Mrg X at_ mid en i j M) (hi : i < mid) (hc : ∀ k, i < k → k < mid → keyAt X k ≤ keyAt X i) (hd : j < en → ∀ k, j ≤ k → k < en → keyAt X k ≤ keyAt X i) : Mrg X at_ mid en (i + 1) j (M ++ [nthM X i]) := by
  refine ⟨by have := h.b1; omega, hi, h.b3, h.b4, h.b5, ?_, ?_, fun m hm k h1 h2 => ?_, fun m hm k h1 h2 => ?_⟩
  · rw [seg_snoc h.b1 (by have := h.b3; have := h.b4; have := h.b5; omega)]
    refine (h.perm.append_right _).trans ?_
    rw [List.append_assoc, List.append_assoc]
    exact List.Perm.append_left _ List.perm_append_comm
  · rw [List.pairwise_append]
    refine ⟨h.srt, List.pairwise_singleton _ _, fun x hx y hy => ?_⟩
    rw [List.mem_singleton.1 hy]
    exact h.lo1 x hx i (Nat.le_refl _) hi
  · rcases List.mem_append.1 hm with hm | hm
    · exact h.lo1 m hm k (by omega) h2
    · rw [List.mem_singleton.1 hm]; exact hc k (by omega) h2
  · rcases List.mem_append.1 hm with hm | hm
    · exact h.lo2 m hm k h1 h2
    · rw [List.mem_singleton.1 hm]; exact hd (by omega) k h1 h2
theorem Mrg.right (h : Mrg X at_ mid en i j M) (hj : j < en) (hc : ∀ k, j < k → k < en → keyAt X k ≤ keyAt X j) (hd : i < mid → ∀ k, i ≤ k → k < mid → keyAt X k ≤ keyAt X j) : Mrg X at_ mid en i (j + 1) (M ++ [nthM X j]) := by
  refine ⟨h.b1, h.b2, by have := h.b3; omega, hj, h.b5, ?_, ?_, fun m hm k h1 h2 => ?_, fun m hm k h1 h2 => ?_⟩
  · rw [seg_snoc h.b3 (by have := h.b5; omega), ← List.append_assoc]
    exact h.perm.append_right _
  · rw [List.pairwise_append]
    refine ⟨h.srt, List.pairwise_singleton _ _, fun x hx y hy => ?_⟩
    rw [List.mem_singleton.1 hy]
    exact h.lo2 x hx j (Nat.le_refl _) hj
  · rcases List.mem_append.1 hm with hm | hm
    · exact h.lo1 m hm k h1 h2
    · rw [List.mem_singleton.1 hm]; exact hd (by omega) k h1 h2
  · rcases List.mem_append.1 hm with hm | hm
    · exact h.lo2 m hm k (by omega) h2
    · rw [List.mem_singleton.1 hm]; exact hc k (by omega) h2
end
/-- Whole stretches have been merged, up to a place. -/
structure Lvl (s : Nat) (X : List (Int × Int)) (a : Nat) (Y : List (Int × Int)) : Prop where
  le : a ≤ X.length
  perm : Y.Perm (seg X 0 a)
  chunk : Chunk (2 * s) Y
theorem div_next {s a i : Nat} (h : s * a ≤ i) (h2 : i < s * a + s) : i / s = a := by
  have hs : 0 < s := by
    rcases Nat.eq_zero_or_pos s with h0 | h0
    · subst h0; omega
    · exact h0
  exact Nat.div_eq_of_lt_le (by rw [Nat.mul_comm]; exact h) (by rw [Nat.mul_comm, Nat.mul_add]; omega)
theorem Lvl.next {s q mid en : Nat} {X Y M : List (Int × Int)} (hs : 0 < s) (h : Lvl s X (2 * s * q) Y) (hm : Mrg X (2 * s * q) mid en mid en M) (hen : en ≤ 2 * s * q + 2 * s) : Lvl s X en (Y ++ M) := by
  have hY : Y.length = 2 * s * q := by rw [h.perm.length_eq, seg_len h.le]; omega
  have hM : M.length = en - 2 * s * q := by
    rw [hm.perm.length_eq, seg_app hm.b1 hm.b3, seg_len hm.b5]
  have hb1 := hm.b1
  have hb3 := hm.b3
  refine ⟨hm.b5, ?_, fun i j hij hj hd => ?_⟩
  · rw [← seg_app (Nat.zero_le _) (show 2 * s * q ≤ en by omega), ← seg_app (X := X) hm.b1 hm.b3]
    exact h.perm.append hm.perm
  · rw [List.length_append] at hj
    by_cases h1 : j < Y.length
    · have := h.chunk i j hij h1 hd
      unfold keyAt at *
      rwa [nthM_left h1, nthM_left (by omega)]
    · have hj2 := div_next (s := 2 * s) (a := q) (i := j) (by omega) (by omega)
      have hi2 : 2 * s * q ≤ i := by
        rw [hj2] at hd
        have := Nat.div_mul_le_self i (2 * s)
        rw [hd, Nat.mul_comm] at this
        exact this
      have hp := h.le
      have h3 := List.pairwise_iff_getElem.1 hm.srt (i - Y.length) (j - Y.length) (by omega) (by omega) (by omega)
      unfold keyAt
      rw [nthM_right (by omega), nthM_right (by omega), nthM_lt (by omega), nthM_lt (by omega)]
      exact h3
/-! ### like keys added -/
def absK (L : List (Int × Int)) : Nat := (L.map fun x => x.2.natAbs).sum
theorem absK_app (a b : List (Int × Int)) : absK (a ++ b) = absK a + absK b := by simp [absK, List.sum_append]
theorem absK_perm {a b : List (Int × Int)} (h : a.Perm b) : absK a = absK b := by
  unfold absK
  have := h.map fun x : Int × Int => x.2.natAbs
  exact this.sum_nat
theorem absK_mem {L : List (Int × Int)} {x : Int × Int} (h : x ∈ L) : x.2.natAbs ≤ absK L := by
  induction L with
  | nil => cases h
  | cons y L ih =>
    have e : absK (y :: L) = y.2.natAbs + absK L := by simp [absK]
    rw [e]
    rcases List.mem_cons.1 h with rfl | h
    · omega
    · have := ih h; omega
/-- What the first k terms give, like keys added. -/
structure Sums (X : List (Int × Int)) (k : Nat) (S : List (Int × Int)) : Prop where
  le : k ≤ X.length
  srt : S.Pairwise fun x y => y.1 < x.1
  coef : ∀ q, coefK S q = coefK (X.take k) q
  last : 0 < k → 0 < S.length ∧ (nthM S (S.length - 1)).1 = keyAt X (k - 1)
  none : k = 0 → S = []
  abs : absK S ≤ absK (X.take k)
  len : S.length ≤ k
theorem takeK {X : List (Int × Int)} {k : Nat} (h : k < X.length) : X.take (k + 1) = X.take k ++ [nthM X k] := by rw [List.take_succ_eq_append_getElem h, nthM_lt h]
theorem last_split {S : List (Int × Int)} (h : 0 < S.length) : S = S.take (S.length - 1) ++ [nthM S (S.length - 1)] := by
  have := takeK (X := S) (k := S.length - 1) (by omega)
  rw [show S.length - 1 + 1 = S.length by omega, List.take_length] at this
  exact this
theorem setC_last {S : List (Int × Int)} (h : 0 < S.length) (y : Int) : setC S (S.length - 1) y = S.take (S.length - 1) ++ [((nthM S (S.length - 1)).1, y)] := by
  rw [setC, List.set_eq_take_append_cons_drop, if_pos (by omega), List.drop_eq_nil_of_le (by omega)]
section
variable {X S : List (Int × Int)} {k : Nat}
theorem Sums.start (X : List (Int × Int)) : Sums X 0 [] := ⟨Nat.zero_le _, List.Pairwise.nil, fun q => by simp, fun h => by omega, fun _ => rfl, by simp [absK], Nat.le_refl _⟩
theorem Sums.like (h : Sums X k S) (hk : k < X.length) (hS : 0 < S.length) (he : (nthM S (S.length - 1)).1 = keyAt X k) : Sums X (k + 1) (setC S (S.length - 1) ((nthM S (S.length - 1)).2 + (nthM X k).2)) := by
  have e1 := setC_last hS ((nthM S (S.length - 1)).2 + (nthM X k).2)
  have e0 := last_split hS
  obtain ⟨p, hp⟩ : ∃ p, p = S.take (S.length - 1) := ⟨_, rfl⟩
  obtain ⟨l, hl⟩ : ∃ l, l = nthM S (S.length - 1) := ⟨_, rfl⟩
  rw [← hp, ← hl] at e1 e0
  rw [← hl] at he
  rw [← hl, e1]
  have hsrt := h.srt
  have hc := h.coef
  have ha := h.abs
  rw [e0] at hsrt hc ha
  rw [List.pairwise_append] at hsrt
  have hlen : p.length + 1 = S.length := by rw [hp, List.length_take]; omega
  refine ⟨hk, ?_, fun q => ?_, fun _ => ?_, fun h0 => by omega, ?_, ?_⟩
  · rw [List.pairwise_append]
    exact ⟨hsrt.1, List.pairwise_singleton _ _, fun x hx y hy => by rw [List.mem_singleton.1 hy]; exact hsrt.2.2 x hx l (by simp)⟩
  · have h1 := hc q
    rw [takeK hk, coefK_append, coefK_append] at *
    rw [← h1, coefK_cons, coefK_cons, coefK_cons, coefK_nil]
    show coefK p q + ((if l.1 = q then l.2 + (nthM X k).2 else 0) + 0) = _
    have he' : l.1 = (nthM X k).1 := he
    rw [← he']
    split <;> omega
  · refine ⟨by simp, ?_⟩
    rw [List.length_append, List.length_singleton, Nat.add_sub_cancel, nthM_right (Nat.le_refl _), Nat.sub_self, Nat.add_sub_cancel, ← he]
    rfl
  · rw [takeK hk, absK_app, absK_app] at *
    simp only [absK, List.map_cons, List.map_nil, List.sum_cons, List.sum_nil] at *
    omega
  · rw [List.length_append, List.length_singleton]; have := h.len; omega
theorem Sums.other (h : Sums X k S) (hX : X.Pairwise fun x y => y.1 ≤ x.1) (hk : k < X.length) (he : 0 < S.length → (nthM S (S.length - 1)).1 ≠ keyAt X k) : Sums X (k + 1) (S ++ [nthM X k]) := by
  refine ⟨hk, ?_, fun q => ?_, fun _ => ⟨by simp, ?_⟩, fun h0 => by omega, ?_, by rw [List.length_append, List.length_singleton]; have := h.len; omega⟩
  · rw [List.pairwise_append]
    refine ⟨h.srt, List.pairwise_singleton _ _, fun x hx y hy => ?_⟩
    rw [List.mem_singleton.1 hy]
    have hS : 0 < S.length := List.length_pos_of_mem hx
    have hk0 : 0 < k := Nat.pos_of_ne_zero fun h0 => by rw [h.none h0] at hx; cases hx
    have h1 := (h.last hk0).2
    have h2 : keyAt X k ≤ keyAt X (k - 1) := by
      have := List.pairwise_iff_getElem.1 hX (k - 1) k (by omega) hk (by omega)
      unfold keyAt
      rwa [nthM_lt hk, nthM_lt (by omega)]
    have h3 := he hS
    have h4 : (nthM S (S.length - 1)).1 ≤ x.1 := by
      have hsrt := h.srt
      rw [last_split hS, List.pairwise_append] at hsrt
      have hx' := hx
      rw [last_split hS] at hx'
      rcases List.mem_append.1 hx' with hx' | hx'
      · have := hsrt.2.2 x hx' _ (List.mem_singleton.2 rfl)
        omega
      · rw [List.mem_singleton.1 hx']; exact Int.le_refl _
    show keyAt X k < x.1
    omega
  · rw [takeK hk, coefK_append, coefK_append, h.coef q]
  · rw [List.length_append, List.length_singleton, Nat.add_sub_cancel, nthM_right (Nat.le_refl _), Nat.sub_self, Nat.add_sub_cancel]
    rfl
  · rw [takeK hk, absK_app, absK_app]
    have := h.abs
    omega
end
theorem coefK_filter (S : List (Int × Int)) (q : Int) : coefK (S.filter fun x => decide (x.2 ≠ 0)) q = coefK S q := by
  induction S with
  | nil => rfl
  | cons x S ih =>
    rw [coefK_cons]
    by_cases h : x.2 = 0
    · rw [List.filter_cons_of_neg (by simpa using h), ih, h]; simp
    · rw [List.filter_cons_of_pos (by simpa using h), coefK_cons, ih]
theorem gath_end {L X S : List (Int × Int)} (hp : X.Perm L) (h : Sums X X.length S) : S.filter (fun x => decide (x.2 ≠ 0)) = gatherK L := by
  refine gatherK_is ⟨h.srt.filter _, fun x hx => ?_⟩ fun q => ?_
  · have := (List.mem_filter.1 hx).2
    simpa using this
  · rw [coefK_filter, h.coef, List.take_length, coefK_perm hp]
end Go.Proofs.Ytgbojgmmingfdaa
