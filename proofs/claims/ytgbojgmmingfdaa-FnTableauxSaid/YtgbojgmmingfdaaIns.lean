/- copy at elements of k cells; one element put into the middle of an owned row. -/
import Derived.Test.YtgbojgmmingfdaaWords
import Derived.Laws.CopyOwn
import Derived.Lib.Overlaps
import Derived.Lib.AppendZerosOnto
import Derived.Deep.RegionLaw
import Derived.Test.YtgbojgmmingfdaaDraw
namespace Go.Proofs.Ytgbojgmmingfdaa
open Go.RowKit

theorem run_copy_rowK {P : Program} (w : World) (dT sT ty elem : TypeId) (g o dLen dCap : Nat) (a : Addr) (sLen sCap : Nat) (cur : Array Value) (t : TypeId) (cs : List Value) (k m : Nat)
    (hu : P.underlying dT = some (.slice elem)) (hs : (P.info? elem).map (·.size) = some k)
    (hg : w.heap[g]? = some (.cells cur t (0, 0))) (hm : m = Nat.min sLen dLen) (hn : cs.length = m * k)
    (hsrc : ∀ j v, cs[j]? = some v → w.cell? (a.add j) = some v) (hfit : o + cs.length ≤ cur.size) (h1 : ∀ v ∈ cs, v.oneCell' = true) :
    (Builtin.copy_ #[dT, sT] ty #[.slice (some ⟨g, o, none⟩) dLen dCap, .slice (some a) sLen sCap]).run P w =
      .ok (goInt m) (w.setRow g (cur.toList.take o ++ cs ++ cur.toList.drop (o + cs.length)).toArray) := by
  have hl := run_loadCells_list (P := P) w a cs hsrc
  have hst := run_storeCells_at P g o t cs 0 cur w hg (by simpa using hfit) h1
  cases hq : P.info? elem with
  | none => simp [hq] at hs
  | some i =>
    have hi : i.size = k := by simpa [hq] using hs
    simp [Builtin.copy_, run_underlying hu, Builtin.lenOf, Builtin.firstCells, sizeOf, typeInfo, hq, hi, ← hm, ← hn, hl, hst]
theorem wpList_copyR {P : Program} {w : World} {ops : Array Oper} {rest : List Oper} {o : Oper} {a : Act} {Q : Exit → Act → World → Prop} (hgd : o.guard = none) (d s : Operand) (dT sT : TypeId)
    (ho : o.op = .call { callee := .builtin .copy, args := #[d, s], argTypes := #[dT, sT] }) (v u : Value) (hd : a.eval d = v) (hs : a.eval s = u) {v' : Value} {w' : World}
    (hr : ∀ ty, (Builtin.copy_ #[dT, sT] ty #[v, u]).run P w = .ok v' w') (h : wpList P ops Q rest (a.put o.dst v') w') : wpList P ops Q (o :: rest) a w := by
  refine wpList_plain hgd fun K hK => ?_
  unfold Oper.wp
  simp [execOp, ho, resolve, invoke, builtin, hd, hs, hr, Result.andThen]
  exact hK _ _ h
theorem step_copyR {P : Program} {w : World} {ops : Array Oper} {o : Oper} {a : Act} {K : Act → World → Prop} {Q : Exit → Act → World → Prop} {E : Prop} (hgd : o.guard = none) (d s : Operand) (dT sT : TypeId)
    (ho : o.op = .call { callee := .builtin .copy, args := #[d, s], argTypes := #[dT, sT] }) (v u : Value) (hd : a.eval d = v) (hs : a.eval s = u) {v' : Value} {w' : World}
    (hr : ∀ ty, (Builtin.copy_ #[dT, sT] ty #[v, u]).run P w = .ok v' w') (h : K (a.put o.dst v') w') :
    if Region.wanted o (yielded ops a.tmps) = true then Oper.wp P o a w K Q else E := by
  have hw : Region.wanted o (yielded ops a.tmps) = true := by simp [Region.wanted, hgd]
  rw [if_pos hw]
  unfold Oper.wp
  simp [execOp, ho, resolve, invoke, builtin, hd, hs, hr, Result.andThen]
  exact h

/-- A list put into another. -/
def putAt {α : Type} (l : List α) (i : Nat) (xs : List α) : List α := l.take i ++ xs ++ l.drop i
theorem putAt_len {α : Type} (l : List α) (i : Nat) (xs : List α) (h : i ≤ l.length) : (putAt l i xs).length = l.length + xs.length := by
  simp [putAt]; omega
theorem FRs.take {w : World} {b : Nat} {fs : List (Int ⊕ List Int)} {cells : List Value} (h : FRs w b fs cells) (i : Nat) : FRs w b (fs.take i) (cells.take i) := by
  refine ⟨by rw [List.length_take, List.length_take, h.1], fun j x u hx hu => ?_⟩
  rw [List.getElem?_take] at hx hu
  split at hx
  · rename_i hj
    rw [if_pos hj] at hu
    exact h.2 j x u hx hu
  · cases hx
theorem FRs.drop {w : World} {b : Nat} {fs : List (Int ⊕ List Int)} {cells : List Value} (h : FRs w b fs cells) (i : Nat) : FRs w b (fs.drop i) (cells.drop i) := by
  refine ⟨by rw [List.length_drop, List.length_drop, h.1], fun j x u hx hu => ?_⟩
  rw [List.getElem?_drop] at hx hu
  exact h.2 _ x u hx hu
theorem FRs.putAt {w : World} {b : Nat} {fs fs2 : List (Int ⊕ List Int)} {cells news : List Value} (h : FRs w b fs cells) (h2 : FRs w b fs2 news) (i : Nat) : FRs w b (putAt fs i fs2) (putAt cells i news) :=
  ((h.take i).append h2).append (h.drop i)
theorem Dist.take {cells : List Value} (h : Dist cells) (i : Nat) : Dist (cells.take i) := by
  intro a b u u' hab h1 h2
  rw [List.getElem?_take] at h1 h2
  split at h1
  · split at h2
    · exact h a b u u' hab h1 h2
    · cases h2
  · cases h1
theorem Dist.drop {cells : List Value} (h : Dist cells) (i : Nat) : Dist (cells.drop i) := by
  intro a b u u' hab h1 h2
  rw [List.getElem?_drop] at h1 h2
  exact h _ _ u u' (by omega) h1 h2
theorem Dist.cross {cells : List Value} (h : Dist cells) (i : Nat) {u u' : Value} (h1 : u ∈ cells.take i) (h2 : u' ∈ cells.drop i) : u.ownBlock = none ∨ u.ownBlock ≠ u'.ownBlock := by
  obtain ⟨a, ha, ea⟩ := List.getElem_of_mem h1
  obtain ⟨b, hb, eb⟩ := List.getElem_of_mem h2
  have e1 : cells[a]? = some u := by
    rw [List.length_take] at ha
    rw [List.getElem_take] at ea
    rw [List.getElem?_eq_getElem (by omega), ea]
  have e2 : cells[i + b]? = some u' := by
    rw [List.length_drop] at hb
    rw [List.getElem_drop] at eb
    rw [List.getElem?_eq_getElem (by omega), eb]
  rw [List.length_take] at ha
  exact h a (i + b) u u' (by omega) e1 e2
theorem Dist.putAt {cells news : List Value} (h : Dist cells) (h2 : Dist news) (i : Nat) (hap : ∀ u ∈ cells, ∀ u' ∈ news, u.ownBlock = none ∨ u.ownBlock ≠ u'.ownBlock) : Dist (putAt cells i news) := by
  refine Dist.append (Dist.append (h.take i) h2 fun u hu u' hu' => hap u (List.mem_of_mem_take hu) u' hu') (h.drop i) fun u hu u' hu' => ?_
  rw [List.mem_append] at hu
  rcases hu with hu | hu
  · exact h.cross i hu hu'
  · exact flip_apart (hap u' (List.mem_of_mem_drop hu') u hu)

/-- Cells of an owned row, and of what lies behind it: a row of whole size. -/
theorem row_put {α : Type} (cur xs ys news : List α) (i s : Nat) (hxs : cur.take xs.length = xs) (hl : xs.length + news.length ≤ cur.length) (hi : i ≤ xs.length) (hs : s = news.length) (hy : ys = xs.drop i) :
    (splice (splice cur (i + s) ys) i news).take (xs.length + s) = putAt xs i news ∧ (splice (splice cur (i + s) ys) i news).length = cur.length := by
  subst hs hy
  have hlen : (xs.drop i).length = xs.length - i := List.length_drop ..
  have l1 : (splice cur (i + news.length) (xs.drop i)).length = cur.length := length_splice _ _ _ (by omega)
  refine ⟨?_, by rw [length_splice _ _ _ (by omega), l1]⟩
  have e1 : (splice cur (i + news.length) (xs.drop i)).take i = xs.take i := by
    unfold splice
    rw [List.take_append_of_le_length (by rw [List.length_take]; omega), List.take_take, Nat.min_eq_left (by omega)]
    conv => rhs; rw [← hxs]
    rw [List.take_take, Nat.min_eq_left hi]
  have e2 : (splice cur (i + news.length) (xs.drop i)).drop (i + news.length) = xs.drop i ++ cur.drop (i + news.length + (xs.drop i).length) := by
    unfold splice
    rw [List.drop_append, List.drop_of_length_le (by rw [List.length_take]; omega), List.nil_append, List.length_take, Nat.min_eq_left (by omega), Nat.sub_self, List.drop_zero]
  have e3 : splice (splice cur (i + news.length) (xs.drop i)) i news = xs.take i ++ (news ++ (xs.drop i ++ cur.drop (i + news.length + (xs.drop i).length))) := by
    rw [show splice (splice cur (i + news.length) (xs.drop i)) i news = (splice cur (i + news.length) (xs.drop i)).take i ++ (news ++ (splice cur (i + news.length) (xs.drop i)).drop (i + news.length)) from rfl, e1, e2]
  rw [e3, putAt, List.append_assoc]
  have h4 : (xs.take i ++ (news ++ xs.drop i)).length = xs.length + news.length := by simp; omega
  have h5 : xs.take i ++ (news ++ (xs.drop i ++ cur.drop (i + news.length + (xs.drop i).length))) = (xs.take i ++ (news ++ xs.drop i)) ++ cur.drop (i + news.length + (xs.drop i).length) := by simp
  rw [h5, ← h4, List.take_left]
end Go.Proofs.Ytgbojgmmingfdaa

/- slices.Insert of one part into an owned slice of parts. -/
namespace Go.Proofs.Ytgbojgmmingfdaa
open Go.RowKit

/-- What Insert leaves. -/
def InsP (w : World) (base b : Nat) (v0 : Value) (ps : List (List Int × Int)) : Ending → World → Prop := fun e w' =>
  ∃ v' cells', e = .returned v' ∧ OP w' base b v' ps cells' ∧ w.grownBy w' v0.ownBlock ∧ From w v0 v'
/-- The same, and what the cells are. -/
def InsQ (w : World) (base b : Nat) (v0 : Value) (ps : List (List Int × Int)) (cells : List Value) (u : Value) : Ending → World → Prop := fun e w' =>
  ∃ v' cells', e = .returned v' ∧ OP w' base b v' ps cells' ∧ w.grownBy w' v0.ownBlock ∧ From w v0 v' ∧ ∀ x ∈ cells', x ∈ cells ∨ x = u ∨ x.ownBlock = none
theorem InsQ.p {w w' : World} {base b : Nat} {v0 u : Value} {ps : List (List Int × Int)} {cells : List Value} {e : Ending} (h : InsQ w base b v0 ps cells u e w') : InsP w base b v0 ps e w' := by
  obtain ⟨v', c', h1, h2, h3, h4, -⟩ := h
  exact ⟨v', c', h1, h2, h3, h4⟩
theorem mem_two {x u : Value} {y : Int} (h : x ∈ [u, Value.int .i64 y]) : x = u ∨ x.ownBlock = none := by
  simp at h
  rcases h with rfl | rfl
  · exact .inl rfl
  · exact .inr rfl
theorem mem_putV {x u : Value} {y : Int} {cells : List Value} {i : Nat} (h : x ∈ putAt cells i [u, Value.int .i64 y]) : x ∈ cells ∨ x = u ∨ x.ownBlock = none := by
  unfold putAt at h
  rw [List.mem_append, List.mem_append] at h
  rcases h with (h | h) | h
  · exact .inl (List.mem_of_mem_take h)
  · exact .inr (mem_two h)
  · exact .inl (List.mem_of_mem_drop h)
theorem partF_take (ps : List (List Int × Int)) (i : Nat) : (partF ps).take (i * 2) = partF (ps.take i) := by
  induction ps generalizing i with
  | nil => simp [partF]
  | cons p r ih =>
    cases i with
    | zero => simp [partF]
    | succ i =>
      have e : (i + 1) * 2 = i * 2 + 1 + 1 := by omega
      have := ih i
      simp only [partF, List.flatMap_cons, List.take_succ_cons] at this ⊢
      rw [e]
      simp [this]
theorem partF_drop (ps : List (List Int × Int)) (i : Nat) : (partF ps).drop (i * 2) = partF (ps.drop i) := by
  induction ps generalizing i with
  | nil => simp [partF]
  | cons p r ih =>
    cases i with
    | zero => simp [partF]
    | succ i =>
      have e : (i + 1) * 2 = i * 2 + 1 + 1 := by omega
      have := ih i
      simp only [partF, List.flatMap_cons, List.drop_succ_cons] at this ⊢
      rw [e]
      simp [this]
theorem partF_put (ps : List (List Int × Int)) (i : Nat) (l : List Int) (y : Int) : putAt (partF ps) (i * 2) [.inr l, .inl y] = partF (putAt ps i [(l, y)]) := by
  unfold putAt
  rw [partF_append, partF_append, partF_take, partF_drop]
  rfl
theorem Try.sizePart : (Try.prog.info? 47).map (·.size) = some 2 := by kernel_rfl
theorem ins_end {w0 : World} {base b n : Nat} {A0 : Option Addr} {u : Value} {ps : List (List Int × Int)} {cells : List Value} {l : List Int} {y : Int} (c0 : Nat) (h : OP w0 base b (.slice A0 n c0) ps cells) (hu : OI w0 b u l)
    (hap : ∀ u' ∈ cells, u'.ownBlock = none ∨ u'.ownBlock ≠ u.ownBlock) (hlen : ps.length + 1 ≤ 1000000000000) (hbase : base ≤ w0.heap.size) :
    Calls Try.prog 83 #[.slice A0 n c0, .int .i64 (n : Int), .slice (some ⟨w0.heap.size, 0, none⟩) 1 1] (w0.alloc (.cells #[u, .int .i64 y] 47))
      (InsQ (w0.alloc (.cells #[u, .int .i64 y] 47)) base b (.slice A0 n c0) (ps ++ [(l, y)]) cells u) := by
  obtain ⟨A', n', c', hv, hn0, hc, hc63⟩ := h.form
  obtain ⟨rfl, rfl, rfl⟩ := slice_inj hv
  rw [hn0] at hlen
  have HN := Lib.hid hn0
  clear hn0
  have HF : Hid (∀ (v' : Value) (w' : World), OP w' base b v' (ps ++ [(l, y)]) (cells ++ [u, .int .i64 y]) → (w0.alloc (.cells #[u, .int .i64 y] 47)).grownBy w' (Value.ownBlock (.slice A0 n c0)) → (v'.ownBlock = Value.ownBlock (.slice A0 n c0) ∨ v'.ownBlock = some (w0.heap.size + 1)) →
      InsQ (w0.alloc (.cells #[u, .int .i64 y] 47)) base b (.slice A0 n c0) (ps ++ [(l, y)]) cells u (.returned v') w') := fun v' w' h1 h2 h3 =>
    ⟨v', _, rfl, h1, h2, h3.imp id fun e k hk => by rw [e] at hk; injection hk with hk; simp; omega, fun x hx => by
      rw [List.mem_append] at hx
      exact hx.imp id mem_two⟩
  by_cases hcn : c0 = n
  · subst hcn
    go_enter Try.func83, Try.ntmps83
    go_wp2_with (at_builtin; refine wpAppP rfl _ _ rfl base b (.slice A0 c0 c0) u ps cells l y rfl rfl h hu hap (by rw [HN.out]; omega) hbase ?_; intro v' w' h1 h2 h3)
    go_ret
    exact HF.out _ _ h1 h2 h3
  · go_enter Try.func83, Try.ntmps83
    go_wp2_with (at_builtin; refine wpAppP rfl _ _ rfl base b (.slice A0 n c0) u ps cells l y rfl rfl h hu hap (by rw [HN.out]; omega) hbase ?_; intro v' w' h1 h2 h3)
    go_ret
    exact HF.out _ _ h1 h2 h3

/-- An owned row, as a block. -/
theorem OP.row {w : World} {base b n c0 : Nat} {A0 : Option Addr} {ps : List (List Int × Int)} {cells : List Value} (h : OP w base b (.slice A0 n c0) ps cells) (hn : 0 < n) :
    ∃ g, ∃ cur : List Value, A0 = some ⟨g, 0, none⟩ ∧ base ≤ g ∧ g < w.heap.size ∧ w.heap[g]? = some (.cells cur.toArray 47 (0, 0)) ∧ n ≤ c0 ∧ c0 ≤ 9223372036854775807 ∧ cur.length = c0 * 2 ∧ cur.take (n * 2) = cells ∧ cells.length = n * 2 ∧ ps.length = n := by
  obtain ⟨A', n', c', hv, hn0, hc, hc63⟩ := h.form
  obtain ⟨rfl, rfl, rfl⟩ := slice_inj hv
  rcases h.1.2 with ⟨he, h0⟩ | ⟨g, cap, cur, he, hb, hg, hnc, hcm, hs, ht⟩
  · omega
  · obtain ⟨rfl, rfl, rfl⟩ := slice_inj he
    refine ⟨g, cur.toList, rfl, hb, (h.lt g rfl).2, by simpa using hg, hnc, hc63, by simpa using hs, ?_, ?_, hn0⟩
    · rw [← hn0]; exact ht
    · rw [← hn0]; exact h.1.1
/-- The row put together again. -/
theorem OP.of_row {w w' : World} {base b g c n i : Nat} {u : Value} {l : List Int} {y : Int} {ps : List (List Int × Int)} {cells row : List Value}
    (hfr : FRs w b (partF ps) cells) (hd : Dist cells) (hu : OI w b u l) (hap : ∀ u' ∈ cells, u'.ownBlock = none ∨ u'.ownBlock ≠ u.ownBlock)
    (hb : base ≤ g) (hg : w'.heap[g]? = some (.cells row.toArray 47 (0, 0))) (hn : ps.length = n) (hc : n + 1 ≤ c) (hc63 : c ≤ 9223372036854775807) (hrow : row.length = c * 2) (ht : row.take ((n + 1) * 2) = putAt cells (i * 2) [u, .int .i64 y]) (hi : i ≤ n)
    (hk : ∀ k, k < w.heap.size → (∃ cs m, w.heap[k]? = some (.cells cs 3 m)) → w'.heap[k]? = w.heap[k]?) :
    OP w' base b (.slice (some ⟨g, 0, none⟩) (n + 1) c) (putAt ps i [(l, y)]) (putAt cells (i * 2) [u, .int .i64 y]) := by
  have hlen : (putAt ps i [(l, y)]).length = n + 1 := by rw [putAt_len _ _ _ (by omega)]; simp [hn]
  have hcl : cells.length = n * 2 := by rw [hfr.1, partF_len, hn]
  have hfr2 : FRs w b (partF (putAt ps i [(l, y)])) (putAt cells (i * 2) [u, .int .i64 y]) := by
    rw [← partF_put]
    exact hfr.putAt (FRs.two hu) (i * 2)
  refine ⟨⟨?_, .inr ⟨g, c, row.toArray, ?_, hb, hg, ?_, by simpa [maxLen] using hc63, by simpa using hrow, ?_⟩⟩, ⟨hfr2.1, fun j x v h1 h2 => ?_⟩, ?_⟩
  · rw [hlen, putAt_len _ _ _ (by omega), hcl]; simp; omega
  · rw [hlen]
  · rw [hlen]; exact hc
  · rw [hlen]; simpa using ht
  · have hf := hfr2.2 j x v h1 h2
    cases x with
    | inl n => exact hf
    | inr l' =>
      refine OI.same (w := w) hf fun k hk' => hk k ((OI.lt hf k hk').2) ?_
      exact OI.typed hf k hk'
  · refine hd.putAt (Dist.two _ _) _ fun a ha a' ha' => ?_
    simp at ha'
    rcases ha' with rfl | rfl
    · exact hap a ha
    · rcases h : a.ownBlock with _ | k
      · exact .inl rfl
      · exact .inr (by simp [Value.ownBlock])
end Go.Proofs.Ytgbojgmmingfdaa

/- slices.Insert of one part in the middle: there is room. -/
namespace Go.Proofs.Ytgbojgmmingfdaa
open Go.RowKit

theorem pair_at {u : Value} {y : Int} {j : Nat} {v : Value} (h : ([u, .int .i64 y] : List Value)[j]? = some v) : (j = 0 ∧ v = u) ∨ (j = 1 ∧ v = .int .i64 y) := by
  match j, h with
  | 0, h => exact .inl ⟨rfl, (Option.some.inj h).symm⟩
  | 1, h => exact .inr ⟨rfl, (Option.some.inj h).symm⟩
  | j + 2, h => simp at h
theorem heap_new_cell (w0 : World) (cs : List Value) (T : TypeId) (j : Nat) {v : Value} (h : cs[j]? = some v) : (w0.alloc (.cells cs.toArray T)).cell? ⟨w0.heap.size, j, none⟩ = some v := by
  have := new_cells w0 cs T j v h
  rwa [addr_off] at this
theorem row_cellAt {w : World} {g : Nat} {cur : List Value} {T : TypeId} (hg : w.heap[g]? = some (.cells cur.toArray T (0, 0))) (j : Nat) : w.cell? ⟨g, j, none⟩ = cur[j]? := by
  simp [World.cell?, hg]
theorem drew_heap (w : World) : w.drew.heap = w.heap := rfl
theorem toArray_splice (cur cs : List Value) (o : Nat) : (cur.toArray.toList.take o ++ cs ++ cur.toArray.toList.drop (o + cs.length)).toArray = (splice cur o cs).toArray := by simp [splice]

set_option maxRecDepth 100000 in
set_option maxHeartbeats 2000000 in
theorem ins_shift {w0 : World} {base b n i : Nat} {A0 : Option Addr} {u : Value} {ps : List (List Int × Int)} {cells : List Value} {l : List Int} {y : Int} (c0 : Nat) (h : OP w0 base b (.slice A0 n c0) ps cells) (hu : OI w0 b u l)
    (hap : ∀ u' ∈ cells, u'.ownBlock = none ∨ u'.ownBlock ≠ u.ownBlock) (hi : i < n) (hroom : n + 1 ≤ c0) (hlen : n ≤ 1000000000000) :
    Calls Try.prog 83 #[.slice A0 n c0, .int .i64 (i : Int), .slice (some ⟨w0.heap.size, 0, none⟩) 1 1] (w0.alloc (.cells #[u, .int .i64 y] 47))
      (InsQ (w0.alloc (.cells #[u, .int .i64 y] 47)) base b (.slice A0 n c0) (putAt ps i [(l, y)]) cells u) := by
  obtain ⟨g, cur, rfl, hb, hgl, hg0, _, hc63, hcl, hct, hxl, hpl⟩ := OP.row h (by omega)
  obtain ⟨W, hW⟩ : ∃ W, W = w0.alloc (.cells #[u, .int .i64 y] 47) := ⟨_, rfl⟩
  obtain ⟨x, hx⟩ : ∃ x, x = w0.heap.size := ⟨_, rfl⟩
  have hg : W.heap[g]? = some (.cells cur.toArray 47 (0, 0)) := by rw [hW]; exact (Below.heap_alloc w0 _ g hgl).trans hg0
  have hxb : W.heap[x]? = some (.cells #[u, .int .i64 y] 47 (0, 0)) := by rw [hW, hx]; exact heap_alloc_new w0 _
  have hxg : x ≠ g := by omega
  have huo : u.oneCell' = true := OI.one hu
  have hfr : FRs W b (partF ps) cells := by rw [hW]; exact h.2.1.below ((Below.refl _ _).alloc (Nat.le_refl _) _)
  have huW : OI W b u l := by rw [hW]; exact OI.alloc hu _
  have hone := hfr.one
  have hd := h.2.2
  rw [← hW, ← hx]
  have hnews1 : ∀ v ∈ ([u, .int .i64 y] : List Value), v.oneCell' = true := by
    intro v hv
    simp at hv
    rcases hv with rfl | rfl
    · exact huo
    · rfl
  -- the call of overlaps
  have hov : ∀ lb cb, (callFunc 148 #[.slice (some ⟨x, 0, none⟩) 1 1, .slice (some ⟨g, (i + 1) * 2, none⟩) lb cb]).run Try.prog W = .ok (.value (.bool false)) W := fun lb cb => by
    rw [run_callFunc_extern Try.func148 (by kernel_rfl) (by kernel_rfl) (by kernel_rfl) (e := Extern.SlicesOverlaps.overlaps #[32, 32] #[4]) (by kernel_rfl),
      Lib.run_overlaps_apart W 32 4 47 Try.underlying32 2 Try.sizeOf47 ⟨x, 0, none⟩ ⟨g, (i + 1) * 2, none⟩ 1 1 lb cb hxg 47 47 2 (c0 * 2) (by simp [World.shape?, hxb]) (by simp [World.shape?, hg, hcl]) (by omega) (by simp [World.frozen?, hxb]) (by simp [World.frozen?, hxb])]
    rfl
  -- the first copy
  have hcl1 : (cells.drop (i * 2)).length = (n - i) * 2 := by rw [List.length_drop, hxl]; omega
  have hsrc1 : ∀ j v, (cells.drop (i * 2))[j]? = some v → W.drew.cell? ((⟨g, i * 2, none⟩ : Addr).add j) = some v := fun j v hv => by
    rw [addr_at, row_cellAt (w := W.drew) hg]
    have hj := (List.getElem?_eq_some_iff.1 hv).1
    rw [List.getElem?_drop, ← hct, List.getElem?_take, if_pos (by rw [hcl1] at hj; omega)] at hv
    exact hv
  obtain ⟨W1, hW1⟩ : ∃ W1, W1 = W.drew.setRow g (splice cur ((i + 1) * 2) (cells.drop (i * 2))).toArray := ⟨_, rfl⟩
  have hcp1 : ∀ ty, (Builtin.copy_ #[32, 32] ty #[.slice (some ⟨g, (i + 1) * 2, none⟩) (n - i) (c0 - (i + 1)), .slice (some ⟨g, i * 2, none⟩) (n + 1 - i) (c0 - i)]).run Try.prog W.drew = .ok (goInt ((n - i : Nat) : Int)) W1 := fun ty => by
    rw [run_copy_rowK W.drew 32 32 ty 47 g ((i + 1) * 2) (n - i) (c0 - (i + 1)) ⟨g, i * 2, none⟩ (n + 1 - i) (c0 - i) cur.toArray 47 (cells.drop (i * 2)) 2 (n - i) Try.underlying32 Try.sizePart hg (by simp only [Nat.min_def]; split <;> omega) hcl1 hsrc1 (by simp only [List.size_toArray]; omega) (fun v hv => hone v (List.mem_of_mem_drop hv)), toArray_splice, hW1]
  have hg1 : W1.heap[g]? = some (.cells (splice cur ((i + 1) * 2) (cells.drop (i * 2))).toArray 47 (0, 0)) := by rw [hW1]; exact setRow_heap W.drew g _ _ _ _ hg
  have hx1 : W1.heap[x]? = some (.cells #[u, .int .i64 y] 47 (0, 0)) := by rw [hW1, setRow_other _ _ _ _ (by omega)]; exact hxb
  have hl1 : (splice cur ((i + 1) * 2) (cells.drop (i * 2))).length = c0 * 2 := by rw [length_splice _ _ _ (by omega), hcl]
  -- the second copy
  have hsrc2 : ∀ j v, ([u, .int .i64 y] : List Value)[j]? = some v → W1.cell? ((⟨x, 0, none⟩ : Addr).add j) = some v := fun j v hv => by
    rw [addr_at, row_cellAt (cur := [u, .int .i64 y]) hx1, Nat.zero_add]
    exact hv
  obtain ⟨W2, hW2⟩ : ∃ W2, W2 = W1.setRow g (splice (splice cur ((i + 1) * 2) (cells.drop (i * 2))) (i * 2) [u, .int .i64 y]).toArray := ⟨_, rfl⟩
  have hcp2 : ∀ ty, (Builtin.copy_ #[32, 32] ty #[.slice (some ⟨g, i * 2, none⟩) (n + 1 - i) (c0 - i), .slice (some ⟨x, 0, none⟩) 1 1]).run Try.prog W1 = .ok (goInt ((1 : Nat) : Int)) W2 := fun ty => by
    rw [run_copy_rowK W1 32 32 ty 47 g (i * 2) (n + 1 - i) (c0 - i) ⟨x, 0, none⟩ 1 1 _ 47 [u, .int .i64 y] 2 1 Try.underlying32 Try.sizePart hg1 (by simp only [Nat.min_def]; split <;> omega) rfl hsrc2 (by simp only [List.size_toArray, hl1, List.length_cons, List.length_nil]; omega) hnews1, toArray_splice, hW2]
  have hg2 : W2.heap[g]? = some (.cells (splice (splice cur ((i + 1) * 2) (cells.drop (i * 2))) (i * 2) [u, .int .i64 y]).toArray 47 (0, 0)) := by rw [hW2]; exact setRow_heap W1 g _ _ _ _ hg1
  have hgrow : W.grownBy W2 (some g) := by
    rw [hW2, hW1]
    refine ⟨rfl, rfl, rfl, by simp [World.setRow], fun k hk hne => ?_⟩
    have hkg : k ≠ g := fun e => hne (by rw [e])
    rw [setRow_other _ _ _ _ (by omega), setRow_other _ _ _ _ (by omega)]
    rfl
  have hput := row_put cur cells (cells.drop (i * 2)) [u, .int .i64 y] (i * 2) 2 (by rw [hxl]; exact hct) (by rw [hxl, hcl]; simp; omega) (by rw [hxl]; omega) rfl rfl
  rw [show i * 2 + 2 = (i + 1) * 2 by omega, hxl, show n * 2 + 2 = (n + 1) * 2 by omega] at hput
  have hfin : InsQ W base b (.slice (some ⟨g, 0, none⟩) n c0) (putAt ps i [(l, y)]) cells u (.returned (.slice (some ⟨g, 0, none⟩) (n + 1) c0)) W2 :=
    ⟨_, _, rfl, OP.of_row hfr hd huW hap hb hg2 hpl hroom hc63 (by rw [hput.2, hcl]) hput.1 (by omega) (fun k hk ⟨cs, m, ht⟩ => hgrow.block k hk fun e => by
      injection e with e
      subst e
      rw [hg] at ht
      injection ht with ht
      injection ht with _ ht
      exact absurd ht (by decide)), hgrow, .inl rfl, fun x hx => mem_putV hx⟩
  have HF := Lib.hid hfin
  have HC1 := Lib.hid hcp1
  have HC2 := Lib.hid hcp2
  have hw1 : IntKind.i64.wrap ((i : Int) + 1) = (i : Int) + 1 := by rw [IntKind.wrap_i64]; omega
  have hb1 : (0 : Int) ≤ (i : Int) + 1 := by omega
  have hin : i ≤ n := by omega
  have htn : ((i : Int) + 1).toNat = i + 1 := by omega
  have hne : ((i : Int) == (n : Int)) = false := by simp; omega
  have hb2 : ¬ (c0 = i + 1) := by omega
  have hb3 : (i : Int) ≤ (n : Int) + 1 := by omega
  have hb4 : ¬ (c0 = i) := by omega
  have hroom2 : ¬ (c0 : Int) < (n : Int) + 1 := by omega
  clear hW hx hfin hcp1 hcp2 hput hgrow hg2 hW2 hsrc2 hl1 hx1 hg1 hW1 hsrc1 hcl1 hnews1 hone hfr huW hxb hg hg0 hcl hct hxl hpl
  go_enter Try.func83, Try.ntmps83
  go_wp2_with (simp only [hov])
  go_region_law (refine step_copyR rfl (.tmp 73) (.tmp 76) 32 32 rfl (.slice (some ⟨g, (i + 1) * 2, none⟩) (n - i) (c0 - (i + 1))) (.slice (some ⟨g, i * 2, none⟩) (n + 1 - i) (c0 - i)) (by simp [Act.eval, Act.put]) (by simp [Act.eval, Act.put]) HC1.out ?_)
  clear hw1
  go_wp2_with (refine wpList_copyR rfl (.tmp 80) (.tmp 81) 32 32 rfl (.slice (some ⟨g, i * 2, none⟩) (n + 1 - i) (c0 - i)) (.slice (some ⟨x, 0, none⟩) 1 1) rfl rfl HC2.out ?_)
  go_ret
  exact HF.out
end Go.Proofs.Ytgbojgmmingfdaa

/- slices.Insert of one part in the middle, no room; slices.Insert of one part, whatever the place. -/
namespace Go.Proofs.Ytgbojgmmingfdaa
open Go.RowKit

theorem row_put2 {α : Type} (cur xs news : List α) (i s : Nat) (hxs : cur.take i = xs.take i) (hl : xs.length + news.length ≤ cur.length) (hi : i ≤ xs.length) (hs : s = news.length) :
    (splice (splice cur i news) (i + s) (xs.drop i)).take (xs.length + s) = putAt xs i news ∧ (splice (splice cur i news) (i + s) (xs.drop i)).length = cur.length := by
  subst hs
  have hlen : (xs.drop i).length = xs.length - i := List.length_drop ..
  have l1 : (splice cur i news).length = cur.length := length_splice _ _ _ (by omega)
  refine ⟨?_, by rw [length_splice _ _ _ (by omega), l1]⟩
  have e1 : (splice cur i news).take (i + news.length) = xs.take i ++ news := by
    unfold splice
    rw [← List.append_assoc, List.take_append_of_le_length (by simp; omega), List.take_of_length_le (by simp; omega), hxs]
  rw [show splice (splice cur i news) (i + news.length) (xs.drop i) = (splice cur i news).take (i + news.length) ++ (xs.drop i ++ (splice cur i news).drop (i + news.length + (xs.drop i).length)) from rfl, e1, putAt]
  have h4 : (xs.take i ++ news ++ xs.drop i).length = xs.length + news.length := by simp; omega
  rw [← List.append_assoc, ← h4, List.take_left]

set_option maxRecDepth 100000 in
set_option maxHeartbeats 2000000 in
theorem ins_grow {w0 : World} {base b n i : Nat} {A0 : Option Addr} {u : Value} {ps : List (List Int × Int)} {cells : List Value} {l : List Int} {y : Int} (c0 : Nat) (h : OP w0 base b (.slice A0 n c0) ps cells) (hu : OI w0 b u l)
    (hap : ∀ u' ∈ cells, u'.ownBlock = none ∨ u'.ownBlock ≠ u.ownBlock) (hi : i < n) (hroom : c0 < n + 1) (hlen : n ≤ 1000000000000) (hbase : base ≤ w0.heap.size) :
    Calls Try.prog 83 #[.slice A0 n c0, .int .i64 (i : Int), .slice (some ⟨w0.heap.size, 0, none⟩) 1 1] (w0.alloc (.cells #[u, .int .i64 y] 47))
      (InsQ (w0.alloc (.cells #[u, .int .i64 y] 47)) base b (.slice A0 n c0) (putAt ps i [(l, y)]) cells u) := by
  obtain ⟨g, cur, rfl, hb, hgl, hg0, hnc, hc63, hcl, hct, hxl, hpl⟩ := OP.row h (by omega)
  obtain ⟨W, hW⟩ : ∃ W, W = w0.alloc (.cells #[u, .int .i64 y] 47) := ⟨_, rfl⟩
  obtain ⟨x, hx⟩ : ∃ x, x = w0.heap.size := ⟨_, rfl⟩
  obtain ⟨N, hN⟩ : ∃ N, N = W.heap.size := ⟨_, rfl⟩
  have hNx : N = x + 1 := by rw [hN, hW, hx]; simp
  have hg : W.heap[g]? = some (.cells cur.toArray 47 (0, 0)) := by rw [hW]; exact (Below.heap_alloc w0 _ g hgl).trans hg0
  have hxb : W.heap[x]? = some (.cells #[u, .int .i64 y] 47 (0, 0)) := by rw [hW, hx]; exact heap_alloc_new w0 _
  have huo : u.oneCell' = true := OI.one hu
  have hfr : FRs W b (partF ps) cells := by rw [hW]; exact h.2.1.below ((Below.refl _ _).alloc (Nat.le_refl _) _)
  have huW : OI W b u l := by rw [hW]; exact OI.alloc hu _
  have hone := hfr.one
  have hd := h.2.2
  rw [← hW, ← hx]
  have hnews1 : ∀ v ∈ ([u, .int .i64 y] : List Value), v.oneCell' = true := by
    intro v hv
    simp at hv
    rcases hv with rfl | rfl
    · exact huo
    · rfl
  have hcellg : ∀ (W' : World), W'.heap[g]? = some (.cells cur.toArray 47 (0, 0)) → ∀ o j v, cells[o + j]? = some v → W'.cell? ((⟨g, o, none⟩ : Addr).add j) = some v := fun W' hW' o j v hv => by
    rw [addr_at, row_cellAt hW']
    have hj := (List.getElem?_eq_some_iff.1 hv).1
    rw [← hct, List.getElem?_take, if_pos (by omega)] at hv
    exact hv
  -- the new row
  obtain ⟨i0, hi0, hz0, hzs, hzb⟩ := info_parts Try.infoPart
  have hold : (Builtin.firstCells i0.size i (.slice (some ⟨g, 0, none⟩) i c0)).run Try.prog W.drew = .ok (cells.take (i * 2)).toArray W.drew := by
    rw [hzs]
    refine run_firstCells_some W.drew 2 i ⟨g, 0, none⟩ i c0 (cells.take (i * 2)) (by rw [List.length_take]; omega) fun j v hj => ?_
    rw [List.getElem?_take] at hj
    split at hj
    · exact hcellg W.drew hg 0 j v (by rw [Nat.zero_add]; exact hj)
    · cases hj
  obtain ⟨G, hG⟩ : ∃ G, G = grownCap W (n + 1) c0 47 := ⟨_, rfl⟩
  have hGn : n + 1 ≤ G := by rw [hG]; exact grownCap_ge W _ _ _
  have hG63 : G ≤ 9223372036854775807 := by
    have := grownCap_le_maxLen W (n + 1) c0 47 (by unfold maxLen; omega)
    rw [← hG] at this
    unfold maxLen at this
    omega
  have hik : i + (n + 1 - i) = n + 1 := by omega
  obtain ⟨ROW, hROW⟩ : ∃ ROW : Array Value, ROW = (cells.take (i * 2)).toArray ++ Builtin.zeroCells (Value.agg #[.slice none 0 0, .int .i64 0]).cells (n + 1 - i) ++ Builtin.zeroCells (Value.agg #[.slice none 0 0, .int .i64 0]).cells (G - (n + 1)) := ⟨_, rfl⟩
  have hRl : ROW.size = G * 2 := by
    rw [hROW]
    have e : (Value.agg #[.slice none 0 0, .int .i64 0]).cells.size = 2 := rfl
    simp only [Array.size_append, List.size_toArray, List.length_take, Builtin.zeroCells, Array.size_map, Array.size_range, e, hxl]
    omega
  have hRt : ROW.toList.take (i * 2) = cells.take (i * 2) := by
    have hl : (cells.take (i * 2)).length = i * 2 := by rw [List.length_take]; omega
    rw [hROW]
    simp only [Array.toList_append, List.append_assoc]
    rw [List.take_append_of_le_length (by rw [hl]; exact Nat.le_refl _), List.take_of_length_le (by rw [hl]; exact Nat.le_refl _)]
  obtain ⟨W1, hW1⟩ : ∃ W1, W1 = W.drew.alloc (.cells ROW 47) := ⟨_, rfl⟩
  have hrz : ∀ ty, (Builtin.append_ #[32, 3] ty #[.slice (some ⟨g, 0, none⟩) i c0, .int .i64 ((n : Int) + 1 - (i : Int))]).run Try.prog W = .ok (.slice (some ⟨N, 0, none⟩) (n + 1) G) W1 := fun ty => by
    have hh := Lib.run_append_grow_zeros W 32 3 ty 47 i0 _ .i64 .i64 Try.underlying32 Try.underlying3 hi0 hz0 (some ⟨g, 0, none⟩) i c0 (cells.take (i * 2)) hold (n + 1 - i) (by omega) (by omega) (by omega) (by omega) (by rw [hzb]; omega) (by rw [hzb, hik]; exact growslice_fits hroom (by omega))
    rw [hik, ← hG, ← hROW, ← hN, ← hW1] at hh
    rw [show (n : Int) + 1 - (i : Int) = ((n + 1 - i : Nat) : Int) by omega]
    exact hh
  have hgW : g < W.heap.size := by rw [hW]; simp; omega
  have hxW : x < W.heap.size := by omega
  have hgN1 : W1.heap[g]? = some (.cells cur.toArray 47 (0, 0)) := by rw [hW1]; exact (Below.heap_alloc W.drew _ g hgW).trans hg
  have hxN1 : W1.heap[x]? = some (.cells #[u, .int .i64 y] 47 (0, 0)) := by rw [hW1]; exact (Below.heap_alloc W.drew _ x hxW).trans hxb
  have hN1 : W1.heap[N]? = some (.cells ROW.toList.toArray 47 (0, 0)) := by rw [hW1, hN]; exact heap_alloc_new W.drew _
  -- the copy of the part
  obtain ⟨R1, hR1⟩ : ∃ R1, R1 = splice ROW.toList (i * 2) [u, .int .i64 y] := ⟨_, rfl⟩
  obtain ⟨W2, hW2⟩ : ∃ W2, W2 = W1.setRow N R1.toArray := ⟨_, rfl⟩
  have hR1l : R1.length = G * 2 := by rw [hR1, length_splice _ _ _ (by simp; omega)]; simpa using hRl
  have hcpA : ∀ ty, (Builtin.copy_ #[32, 32] ty #[.slice (some ⟨N, i * 2, none⟩) (n + 1 - i) (G - i), .slice (some ⟨x, 0, none⟩) 1 1]).run Try.prog W1 = .ok (goInt ((1 : Nat) : Int)) W2 := fun ty => by
    rw [run_copy_rowK W1 32 32 ty 47 N (i * 2) (n + 1 - i) (G - i) ⟨x, 0, none⟩ 1 1 _ 47 [u, .int .i64 y] 2 1 Try.underlying32 Try.sizePart hN1 (by simp only [Nat.min_def]; split <;> omega) rfl (fun j v hv => by rw [addr_at, row_cellAt (cur := [u, .int .i64 y]) hxN1, Nat.zero_add]; exact hv)
      (by simp only [List.size_toArray, List.length_cons, List.length_nil, Array.length_toList]; omega) hnews1, toArray_splice, hW2, hR1]
  have hN2 : W2.heap[N]? = some (.cells R1.toArray 47 (0, 0)) := by rw [hW2]; exact setRow_heap W1 N _ _ _ _ hN1
  have hgN2 : W2.heap[g]? = some (.cells cur.toArray 47 (0, 0)) := by rw [hW2, setRow_other _ _ _ _ (by omega)]; exact hgN1
  -- the copy of what lies behind
  have hcl1 : (cells.drop (i * 2)).length = (n - i) * 2 := by rw [List.length_drop, hxl]; omega
  obtain ⟨R2, hR2⟩ : ∃ R2, R2 = splice R1 ((i + 1) * 2) (cells.drop (i * 2)) := ⟨_, rfl⟩
  obtain ⟨W3, hW3⟩ : ∃ W3, W3 = W2.drew.setRow N R2.toArray := ⟨_, rfl⟩
  have hcpB : ∀ ty, (Builtin.copy_ #[32, 32] ty #[.slice (some ⟨N, (i + 1) * 2, none⟩) (n - i) (G - (i + 1)), .slice (some ⟨g, i * 2, none⟩) (n - i) (c0 - i)]).run Try.prog W2.drew = .ok (goInt ((n - i : Nat) : Int)) W3 := fun ty => by
    rw [run_copy_rowK W2.drew 32 32 ty 47 N ((i + 1) * 2) (n - i) (G - (i + 1)) ⟨g, i * 2, none⟩ (n - i) (c0 - i) _ 47 (cells.drop (i * 2)) 2 (n - i) Try.underlying32 Try.sizePart hN2 (by simp only [Nat.min_def]; split <;> omega) hcl1 (fun j v hv => by
        rw [List.getElem?_drop] at hv
        exact hcellg W2.drew hgN2 (i * 2) j v hv)
      (by simp only [List.size_toArray]; omega) (fun v hv => hone v (List.mem_of_mem_drop hv)), toArray_splice, hW3, hR2]
  have hN3 : W3.heap[N]? = some (.cells R2.toArray 47 (0, 0)) := by rw [hW3]; exact setRow_heap W2.drew N _ _ _ _ hN2
  have hput := row_put2 ROW.toList cells [u, .int .i64 y] (i * 2) 2 hRt (by simp only [Array.length_toList, List.length_cons, List.length_nil]; omega) (by omega) rfl
  rw [← hR1, show i * 2 + 2 = (i + 1) * 2 by omega, ← hR2, hxl, show n * 2 + 2 = (n + 1) * 2 by omega] at hput
  have hsame : ∀ k, k < W.heap.size → W3.heap[k]? = W.heap[k]? := fun k hk => by
    rw [hW3, setRow_other _ _ _ _ (by omega)]
    show W2.heap[k]? = _
    rw [hW2, setRow_other _ _ _ _ (by omega), hW1]
    exact Below.heap_alloc W.drew _ k hk
  have hgrow : W.grownBy W3 (some g) := by
    refine ⟨?_, ?_, ?_, ?_, fun k hk _ => hsame k hk⟩
    · rw [hW3, hW2, hW1]; rfl
    · rw [hW3, hW2, hW1]; rfl
    · rw [hW3, hW2, hW1]; rfl
    · rw [hW3, hW2, hW1]; simp [World.setRow]
  have hfin : InsQ W base b (.slice (some ⟨g, 0, none⟩) n c0) (putAt ps i [(l, y)]) cells u (.returned (.slice (some ⟨N, 0, none⟩) (n + 1) G)) W3 :=
    ⟨_, _, rfl, OP.of_row hfr hd huW hap (by omega) hN3 hpl hGn hG63 (by rw [hput.2]; simpa using hRl) hput.1 (by omega) (fun k hk _ => hsame k hk), hgrow, .inr fun k hk => by have hk2 : N = k := Option.some.inj hk; omega, fun x hx => mem_putV hx⟩
  have HF := Lib.hid hfin
  have HZ := Lib.hid hrz
  have HA := Lib.hid hcpA
  have HB := Lib.hid hcpB
  have hw1 : IntKind.i64.wrap ((i : Int) + 1) = (i : Int) + 1 := by rw [IntKind.wrap_i64]; omega
  have hb1 : (0 : Int) ≤ (i : Int) + 1 := by omega
  have hin : i ≤ n := by omega
  have htn : ((i : Int) + 1).toNat = i + 1 := by omega
  have hne : ((i : Int) == (n : Int)) = false := by simp; omega
  have hb2 : ¬ (G = i + 1) := by omega
  have hb3 : (i : Int) ≤ (n : Int) := by omega
  have hb4 : ¬ (c0 = i) := by omega
  have hb5 : ¬ (G = i) := by omega
  have hroom2 : (c0 : Int) < (n : Int) + 1 := by omega
  clear hW hx hN hNx hg hxb huo hfr huW hone hd hnews1 hcellg hi0 hz0 hzs hzb hold hG hik hROW hRl hRt hW1 hrz hgW hxW hgN1 hxN1 hN1 hR1 hW2 hR1l hcpA hN2 hgN2 hcl1 hR2 hW3 hcpB hN3 hput hsame hgrow hfin hg0 hcl hct hxl hpl
  go_enter Try.func83, Try.ntmps83
  go_wp2_with (first
    | (at_builtin; refine Lib.wpList_append_run _ rfl _ _ _ _ rfl _ _ rfl rfl _ _ (HZ.out _) ?_)
    | (refine wpList_copyR rfl (.tmp 43) (.tmp 44) 32 32 rfl (.slice (some ⟨N, i * 2, none⟩) (n + 1 - i) (G - i)) (.slice (some ⟨x, 0, none⟩) 1 1) rfl rfl HA.out ?_))
  go_region_law (refine step_copyR rfl (.tmp 50) (.tmp 53) 32 32 rfl (.slice (some ⟨N, (i + 1) * 2, none⟩) (n - i) (G - (i + 1))) (.slice (some ⟨g, i * 2, none⟩) (n - i) (c0 - i)) (by simp [Act.eval, Act.put]) (by simp [Act.eval, Act.put]) HB.out ?_)
  clear hw1
  go_wp2
  go_ret
  exact HF.out

theorem insertQ_any {w0 : World} {base b n i : Nat} {A0 : Option Addr} {u : Value} {ps : List (List Int × Int)} {cells : List Value} {l : List Int} {y : Int} (c0 : Nat) (h : OP w0 base b (.slice A0 n c0) ps cells) (hu : OI w0 b u l)
    (hap : ∀ u' ∈ cells, u'.ownBlock = none ∨ u'.ownBlock ≠ u.ownBlock) (hi : i ≤ n) (hlen : n + 1 ≤ 1000000000000) (hbase : base ≤ w0.heap.size) :
    Calls Try.prog 83 #[.slice A0 n c0, .int .i64 (i : Int), .slice (some ⟨w0.heap.size, 0, none⟩) 1 1] (w0.alloc (.cells #[u, .int .i64 y] 47))
      (InsQ (w0.alloc (.cells #[u, .int .i64 y] 47)) base b (.slice A0 n c0) (putAt ps i [(l, y)]) cells u) := by
  obtain ⟨A', n', c', hv, hn0, _⟩ := h.form
  obtain ⟨rfl, rfl, rfl⟩ := slice_inj hv
  rcases Nat.lt_or_ge i n with h1 | h1
  · rcases Nat.lt_or_ge c0 (n + 1) with h2 | h2
    · exact ins_grow c0 h hu hap h1 h2 (by omega) hbase
    · exact ins_shift c0 h hu hap h1 h2 (by omega)
  · obtain rfl : i = n := by omega
    have e : putAt ps i [(l, y)] = ps ++ [(l, y)] := by
      unfold putAt
      rw [List.take_of_length_le (by omega), List.drop_eq_nil_of_le (by omega)]
      simp
    rw [e]
    exact ins_end c0 h hu hap (by omega) hbase
theorem insert_any {w0 : World} {base b n i : Nat} {A0 : Option Addr} {u : Value} {ps : List (List Int × Int)} {cells : List Value} {l : List Int} {y : Int} (c0 : Nat) (h : OP w0 base b (.slice A0 n c0) ps cells) (hu : OI w0 b u l)
    (hap : ∀ u' ∈ cells, u'.ownBlock = none ∨ u'.ownBlock ≠ u.ownBlock) (hi : i ≤ n) (hlen : n + 1 ≤ 1000000000000) (hbase : base ≤ w0.heap.size) :
    Calls Try.prog 83 #[.slice A0 n c0, .int .i64 (i : Int), .slice (some ⟨w0.heap.size, 0, none⟩) 1 1] (w0.alloc (.cells #[u, .int .i64 y] 47))
      (InsP (w0.alloc (.cells #[u, .int .i64 y] 47)) base b (.slice A0 n c0) (putAt ps i [(l, y)])) := (insertQ_any c0 h hu hap hi hlen hbase).mono fun _ _ h => InsQ.p h
end Go.Proofs.Ytgbojgmmingfdaa
