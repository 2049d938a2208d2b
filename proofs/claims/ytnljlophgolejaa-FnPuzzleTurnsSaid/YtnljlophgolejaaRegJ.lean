/- A region that draws its order, by what holds between its operations. -/
import Derived.Test.YtnljlophgolejaaWords
import Derived.Deep.RegionHeld3
namespace Go.Proofs.Ytnljlophgolejaa
open Go.RowKit

/-- How many operations are still to come. -/
def und (L : Array Bool) : Nat := L.toList.count false
theorem und_set {L : Array Bool} {i : Nat} (h : L.getD i true = false) : und (L.setIfInBounds i true) + 1 = und L := by
  have hi : i < L.size := by
    rcases Nat.lt_or_ge i L.size with h1 | h1
    · exact h1
    · simp [Array.getD, Nat.not_lt.2 h1] at h
  have hv : L[i] = false := by simpa [Array.getD, hi] using h
  unfold und
  rw [Array.toList_setIfInBounds, List.count_set (by simpa using hi)]
  have h2 : L.toList[i]'(by simpa using hi) = false := by simpa using hv
  have h3 : 0 < L.toList.count false := List.count_pos_iff.2 (by rw [← h2]; exact List.getElem_mem _)
  rw [h2]
  show L.toList.count false - 1 + 0 + 1 = L.toList.count false
  omega
theorem und_zero {L : Array Bool} (h : und L = 0) (i : Nat) : L.getD i true = true := by
  rcases hv : L.getD i true with _ | _
  · have := und_set hv
    omega
  · rfl
section
variable {P : Program} {ops : Array Oper} {Q : Exit → Act → World → Prop} {S : World → Prop} {J : Array Bool → Act → World → Prop}
theorem wpAnyH_J (hS : ∀ L a w, J L a w → S w)
    (hstep : ∀ L a w, J L a w → ∀ i o, L.getD i true = false → ops[i]? = some o → (∀ e ∈ o.after, Region.binds .any e = true → L.getD e.on false = true) → ∀ K : Act → World → Prop, (∀ a' w', J (L.setIfInBounds i true) a' w' → K a' w') → wpOp P ops Q i K a w)
    (hdone : ∀ L a w, J L a w → Region.ready .any ops L = [] → Q .normal a w) :
    ∀ fuel L a w, und L ≤ fuel → J L a w → wpAnyH P .any ops Q S fuel L a w := by
  intro fuel
  induction fuel with
  | zero =>
    intro L a w hu hJ
    have hr : Region.ready .any ops L = [] := by
      rw [List.eq_nil_iff_forall_not_mem]
      intro i hi
      have h1 := (mem_ready.1 hi).1
      rw [und_zero (by omega) i] at h1
      cases h1
    exact ⟨hr, hdone L a w hJ hr⟩
  | succ fuel ih =>
    intro L a w hu hJ
    refine ⟨hdone L a w hJ, fun i hi => ?_⟩
    obtain ⟨h1, o, ho, h2⟩ := mem_ready.1 hi
    refine hstep L a w hJ i o h1 ho h2 _ fun a' w' hJ' => ⟨hS _ _ _ hJ', ih _ _ _ ?_ hJ'⟩
    have := und_set h1
    omega
end
/-- A call of a function that has a body is entered. -/
theorem ent_of {P : Program} {f : FuncId} {fn : Func} {c : Code} (hf : P.funcs[f]? = some fn) (hname : (fn.name == "runtime.NumGoroutine") = false) (hb : fn.body = some c) (args : Array Value) (w : World) :
    (callFunc f args).run P w = .ok (.enter f args) w := by
  have h1 : fn.name ≠ "runtime.NumGoroutine" := by simpa using hname
  simp [callFunc, hf, h1, hb]
/-- An operation that leaves a value. -/
theorem wpOp_run {P : Program} {ops : Array Oper} {Q : Exit → Act → World → Prop} {i : Nat} {o : Oper} {a : Act} {w w' : World} {v : Value} {K : Act → World → Prop} (ho : ops[i]? = some o) (hg : o.guard = none)
    (hr : (execOp a.eval o).run P w = .ok (.value v) w') (h : K (a.put o.dst v) w') : wpOp P ops Q i K a w := by
  refine wpOp_step ho fun K' hK => ?_
  have hw : Region.wanted o (yielded ops a.tmps) = true := by simp [Region.wanted, hg]
  rw [if_pos hw]
  unfold Oper.wp
  rw [hr]
  exact hK _ _ h
/-- One that leaves none. -/
theorem wpOp_skip {P : Program} {ops : Array Oper} {Q : Exit → Act → World → Prop} {i : Nat} {o : Oper} {a : Act} {w w' : World} {K : Act → World → Prop} (ho : ops[i]? = some o) (hg : o.guard = none)
    (hr : (execOp a.eval o).run P w = .ok .skip w') (h : K (a.put o.dst undef) w') : wpOp P ops Q i K a w := by
  refine wpOp_step ho fun K' hK => ?_
  have hw : Region.wanted o (yielded ops a.tmps) = true := by simp [Region.wanted, hg]
  rw [if_pos hw]
  unfold Oper.wp
  rw [hr]
  exact hK _ _ h
/-- A call. -/
theorem wpOp_call {P : Program} {ops : Array Oper} {Q : Exit → Act → World → Prop} {i : Nat} {o : Oper} {a : Act} {w : World} {K : Act → World → Prop} {f : FuncId} {args : Array Value} (ho : ops[i]? = some o) (hg : o.guard = none)
    (hr : (execOp a.eval o).run P w = .ok (.enter f args) w) (hc : Calls P f args w fun e w' => ∃ v, e = .returned v ∧ K (a.put o.dst v) w') : wpOp P ops Q i K a w := by
  refine wpOp_step ho fun K' hK => ?_
  have hw : Region.wanted o (yielded ops a.tmps) = true := by simp [Region.wanted, hg]
  rw [if_pos hw]
  unfold Oper.wp
  rw [hr]
  refine Calls.mono hc ?_
  rintro e w' ⟨v, rfl, h⟩
  exact hK _ _ h
theorem wpAnyH_takeD {P : Program} {ops : Array Oper} {Q : Exit → Act → World → Prop} {md : Region.Mode} {S : World → Prop} (i d : Nat) (v : Value) {oi : Oper} {fuel : Nat} {listed : Array Bool} {a : Act} {w : World} (hi : ops[i]? = some oi) (hd : oi.dst = some d)
    (hs : Region.noSelect ops = true) (hf : Region.free md ops listed i = true) (hr : (Region.ready md ops listed).contains i = true)
    (hQ : ∀ c a w, Q (.panic c) (a.put oi.dst v) w → Q (.panic c) a w) (hy : YieldsIf P ops S oi v a) (hS : S w)
    (h : wpAnyH P md ops Q S fuel (listed.setIfInBounds i true) (a.put (some d) v) w) : wpAnyH P md ops Q S (fuel + 1) listed a w :=
  wpAnyH_take hi hs hf hr hQ hy hS (by rw [hd]; exact h)
section
variable {P : Program} {ops : Array Oper} {S : World → Prop} {o : Oper} {a : Act} {x : Operand} {v : Value}
theorem yields_move (hg : o.guard = none) (hop : o.op = .move x) (hv : a.eval x = v) : YieldsIf P ops S o v a := by
  refine .inl ⟨by simp [Region.wanted, hg], fun w _ => ?_⟩
  subst hv
  unfold execOp
  simp [hop]
theorem yields_run (hg : o.guard = none) (h : ∀ w, S w → (execOp a.eval o).run P w = .ok (.value v) w) : YieldsIf P ops S o v a := .inl ⟨by simp [Region.wanted, hg], h⟩
end
end Go.Proofs.Ytnljlophgolejaa
