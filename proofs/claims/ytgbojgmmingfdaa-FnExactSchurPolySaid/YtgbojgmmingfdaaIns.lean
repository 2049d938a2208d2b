/- copy at elements of k cells; one element put into the middle of an owned row. -/
import Derived.Test.YtgbojgmmingfdaaWords
import Derived.Laws.CopyOwn
import Derived.Lib.Overlaps
import Derived.Lib.AppendZerosOnto
import Derived.Deep.RegionLaw
namespace Go.Proofs.Ytgbojgmmingfdaa
open Go.RowKit

theorem run_copy_rowK {P : Program} (w : World) (dT sT ty elem : TypeId) (g o dLen dCap : Nat) (a : Addr) (sLen sCap : Nat) (cur : Array Value) (t : TypeId) (cs : List Value) (k m : Nat)
    (hu : P.underlying dT = some (.slice elem)) (hs : (P.info? elem).map (·.size) = some k)
    (hg : w.heap[g]? = some (.cells cur t (0, 0))) (hm : m = Nat.min sLen dLen) (hn : cs.length = m * k)
    (hsrc : ∀ j v, cs[j]? = some v → w.cell? (a.add j) = some v) (hfit : o + cs.length ≤ cur.size) (h1 : ∀ v ∈ cs, v.oneCell' = true) :
    (Builtin.copy_ #[dT, sT] ty #[.slice (some ⟨g, o, none⟩) dLen dCap, .slice (some a) sLen sCap]).run P w =
      .ok (goInt m) (w.setRow g (cur.toList.take o ++ cs ++ cur.toList.drop (o + cs.length)).toArray) := by
  have hl := run_loadCells_list (P := P) w a cs hsrc
  have hst := run_storeCells_at P g o t cs 0 cur w hg (by simpa using hfit) h1
  cases hq : P.info? elem with
  | none => simp [hq] at hs
  | some i =>
    have hi : i.size = k := by simpa [hq] using hs
    simp [Builtin.copy_, run_underlying hu, Builtin.lenOf, Builtin.firstCells, sizeOf, typeInfo, hq, hi, ← hm, ← hn, hl, hst]
theorem wpList_copyR {P : Program} {w : World} {ops : Array Oper} {rest : List Oper} {o : Oper} {a : Act} {Q : Exit → Act → World → Prop} (hgd : o.guard = none) (d s : Operand) (dT sT : TypeId)
    (ho : o.op = .call { callee := .builtin .copy, args := #[d, s], argTypes := #[dT, sT] }) (v u : Value) (hd : a.eval d = v) (hs : a.eval s = u) {v' : Value} {w' : World}
    (hr : ∀ ty, (Builtin.copy_ #[dT, sT] ty #[v, u]).run P w = .ok v' w') (h : wpList P ops Q rest (a.put o.dst v') w') : wpList P ops Q (o :: rest) a w := by
  refine wpList_plain hgd fun K hK => ?_
  unfold Oper.wp
  simp [execOp, ho, resolve, invoke, builtin, hd, hs, hr, Result.andThen]
  exact hK _ _ h
theorem step_copyR {P : Program} {w : World} {ops : Array Oper} {o : Oper} {a : Act} {K : Act → World → Prop} {Q : Exit → Act → World → Prop} {E : Prop} (hgd : o.guard = none) (d s : Operand) (dT sT : TypeId)
    (ho : o.op = .call { callee := .builtin .copy, args := #[d, s], argTypes := #[dT, sT] }) (v u : Value) (hd : a.eval d = v) (hs : a.eval s = u) {v' : Value} {w' : World}
    (hr : ∀ ty, (Builtin.copy_ #[dT, sT] ty #[v, u]).run P w = .ok v' w') (h : K (a.put o.dst v') w') :
    if Region.wanted o (yielded ops a.tmps) = true then Oper.wp P o a w K Q else E := by
  have hw : Region.wanted o (yielded ops a.tmps) = true := by simp [Region.wanted, hgd]
  rw [if_pos hw]
  unfold Oper.wp
  simp [execOp, ho, resolve, invoke, builtin, hd, hs, hr, Result.andThen]
  exact h

/-- A list put into another. -/
def putAt {α : Type} (l : List α) (i : Nat) (xs : List α) : List α := l.take i ++ xs ++ l.drop i
theorem putAt_len {α : Type} (l : List α) (i : Nat) (xs : List α) (h : i ≤ l.length) : (putAt l i xs).length = l.length + xs.length := by
  simp [putAt]; omega
theorem FRs.take {w : World} {b : Nat} {fs : List (Int ⊕ List Int)} {cells : List Value} (h : FRs w b fs cells) (i : Nat) : FRs w b (fs.take i) (cells.take i) := by
  refine ⟨by rw [List.length_take, List.length_take, h.1], fun j x u hx hu => ?_⟩
  rw [List.getElem?_take] at hx hu
  split at hx
  · rename_i hj
    rw [if_pos hj] at hu
    exact h.2 j x u hx hu
  · cases hx
theorem FRs.drop {w : World} {b : Nat} {fs : List (Int ⊕ List Int)} {cells : List Value} (h : FRs w b fs cells) (i : Nat) : FRs w b (fs.drop i) (cells.drop i) := by
  refine ⟨by rw [List.length_drop, List.length_drop, h.1], fun j x u hx hu => ?_⟩
  rw [List.getElem?_drop] at hx hu
  exact h.2 _ x u hx hu
theorem FRs.putAt {w : World} {b : Nat} {fs fs2 : List (Int ⊕ List Int)} {cells news : List Value} (h : FRs w b fs cells) (h2 : FRs w b fs2 news) (i : Nat) : FRs w b (putAt fs i fs2) (putAt cells i news) :=
  ((h.take i).append h2).append (h.drop i)
theorem Dist.take {cells : List Value} (h : Dist cells) (i : Nat) : Dist (cells.take i) := by
  intro a b u u' hab h1 h2
  rw [List.getElem?_take] at h1 h2
  split at h1
  · split at h2
    · exact h a b u u' hab h1 h2
    · cases h2
  · cases h1
theorem Dist.drop {cells : List Value} (h : Dist cells) (i : Nat) : Dist (cells.drop i) := by
  intro a b u u' hab h1 h2
  rw [List.getElem?_drop] at h1 h2
  exact h _ _ u u' (by omega) h1 h2
theorem Dist.cross {cells : List Value} (h : Dist cells) (i : Nat) {u u' : Value} (h1 : u ∈ cells.take i) (h2 : u' ∈ cells.drop i) : u.ownBlock = none ∨ u.ownBlock ≠ u'.ownBlock := by
  obtain ⟨a, ha, ea⟩ := List.getElem_of_mem h1
  obtain ⟨b, hb, eb⟩ := List.getElem_of_mem h2
  have e1 : cells[a]? = some u := by
    rw [List.length_take] at ha
    rw [List.getElem_take] at ea
    rw [List.getElem?_eq_getElem (by omega), ea]
  have e2 : cells[i + b]? = some u' := by
    rw [List.length_drop] at hb
    rw [List.getElem_drop] at eb
    rw [List.getElem?_eq_getElem (by omega), eb]
  rw [List.length_take] at ha
  exact h a (i + b) u u' (by omega) e1 e2
theorem Dist.putAt {cells news : List Value} (h : Dist cells) (h2 : Dist news) (i : Nat) (hap : ∀ u ∈ cells, ∀ u' ∈ news, u.ownBlock = none ∨ u.ownBlock ≠ u'.ownBlock) : Dist (putAt cells i news) := by
  refine Dist.append (Dist.append (h.take i) h2 fun u hu u' hu' => hap u (List.mem_of_mem_take hu) u' hu') (h.drop i) fun u hu u' hu' => ?_
  rw [List.mem_append] at hu
  rcases hu with hu | hu
  · exact h.cross i hu hu'
  · exact flip_apart (hap u' (List.mem_of_mem_drop hu') u hu)

/-- Cells of an owned row, and of what lies behind it: a row of whole size. -/
theorem row_put {α : Type} (cur xs ys news : List α) (i s : Nat) (hxs : cur.take xs.length = xs) (hl : xs.length + news.length ≤ cur.length) (hi : i ≤ xs.length) (hs : s = news.length) (hy : ys = xs.drop i) :
    (splice (splice cur (i + s) ys) i news).take (xs.length + s) = putAt xs i news ∧ (splice (splice cur (i + s) ys) i news).length = cur.length := by
  subst hs hy
  have hlen : (xs.drop i).length = xs.length - i := List.length_drop ..
  have l1 : (splice cur (i + news.length) (xs.drop i)).length = cur.length := length_splice _ _ _ (by omega)
  refine ⟨?_, by rw [length_splice _ _ _ (by omega), l1]⟩
  have e1 : (splice cur (i + news.length) (xs.drop i)).take i = xs.take i := by
    unfold splice
    rw [List.take_append_of_le_length (by rw [List.length_take]; omega), List.take_take, Nat.min_eq_left (by omega)]
    conv => rhs; rw [← hxs]
    rw [List.take_take, Nat.min_eq_left hi]
  have e2 : (splice cur (i + news.length) (xs.drop i)).drop (i + news.length) = xs.drop i ++ cur.drop (i + news.length + (xs.drop i).length) := by
    unfold splice
    rw [List.drop_append, List.drop_of_length_le (by rw [List.length_take]; omega), List.nil_append, List.length_take, Nat.min_eq_left (by omega), Nat.sub_self, List.drop_zero]
  have e3 : splice (splice cur (i + news.length) (xs.drop i)) i news = xs.take i ++ (news ++ (xs.drop i ++ cur.drop (i + news.length + (xs.drop i).length))) := by
    rw [show splice (splice cur (i + news.length) (xs.drop i)) i news = (splice cur (i + news.length) (xs.drop i)).take i ++ (news ++ (splice cur (i + news.length) (xs.drop i)).drop (i + news.length)) from rfl, e1, e2]
  rw [e3, putAt, List.append_assoc]
  have h4 : (xs.take i ++ (news ++ xs.drop i)).length = xs.length + news.length := by simp; omega
  have h5 : xs.take i ++ (news ++ (xs.drop i ++ cur.drop (i + news.length + (xs.drop i).length))) = (xs.take i ++ (news ++ xs.drop i)) ++ cur.drop (i + news.length + (xs.drop i).length) := by simp
  rw [h5, ← h4, List.take_left]
end Go.Proofs.Ytgbojgmmingfdaa
