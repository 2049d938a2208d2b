/- The region of l5Fill in which the next puzzle is made. -/
import Derived.Test.YtnljlophgolejaaRegJ
import Derived.Test.YtnljlophgolejaaShapes
namespace Go.Proofs.Ytnljlophgolejaa
open Go.RowKit

def actJ (a0 : Act) (v67 v69 v70 v73 v75 v76 v79 v81 v82 v83 v19 : Value) : Act := (((((((((((a0.put (some 67) v67).put (some 69) v69).put (some 70) v70).put (some 73) v73).put (some 75) v75).put (some 76) v76).put (some 79) v79).put (some 81) v81).put (some 82) v82).put (some 83) v83).put (some 19) v19)
def lisJ (d4 d6 d7 d10 d12 d13 d16 d18 d19 d20 d21 d22 : Bool) : Array Bool := #[true, true, true, true, d4, true, d6, d7, true, true, d10, true, d12, d13, true, true, d16, true, d18, d19, d20, d21, d22]
theorem put_size (a : Act) (k : Nat) (v : Value) : (a.put (some k) v).tmps.size = a.tmps.size := by simp [Act.put]
theorem put_none (a : Act) (v : Value) : a.put none v = a := rfl
theorem put_put (a : Act) (k : Nat) (u v : Value) : (a.put (some k) u).put (some k) v = a.put (some k) v := by simp [Act.put]
theorem put_swap (x y : Nat) (h : x ≠ y) (a : Act) (v u : Value) : (a.put (some x) v).put (some y) u = (a.put (some y) u).put (some x) v := Act.put_comm a v u fun d hd hy => h (by injection hd with hd; injection hy with hy; omega)
theorem eval_ne (a : Act) {k j : Nat} (h : k ≠ j) (v : Value) : (a.put (some k) v).eval (.tmp j) = a.eval (.tmp j) := by
  by_cases hj : j < a.tmps.size
  · simp [Act.put, Act.eval, Array.getD, hj, Array.getElem_setIfInBounds, h]
  · simp [Act.put, Act.eval, Array.getD, hj]
theorem eval_eq {a : Act} {k : Nat} (h : k < a.tmps.size) (v : Value) : (a.put (some k) v).eval (.tmp k) = v := by
  simp [Act.put, Act.eval, Array.getD, h]
theorem actJ_start {a0 : Act} (h : 84 ≤ a0.tmps.size) : ∃ v67 v69 v70 v73 v75 v76 v79 v81 v82 v83 v19, a0 = actJ a0 v67 v69 v70 v73 v75 v76 v79 v81 v82 v83 v19 := by
  refine ⟨a0.tmps.getD 67 undef, a0.tmps.getD 69 undef, a0.tmps.getD 70 undef, a0.tmps.getD 73 undef, a0.tmps.getD 75 undef, a0.tmps.getD 76 undef, a0.tmps.getD 79 undef, a0.tmps.getD 81 undef, a0.tmps.getD 82 undef, a0.tmps.getD 83 undef, a0.tmps.getD 19 undef, ?_⟩
  unfold actJ
  rw [Act.put_self (by omega), Act.put_self (by omega), Act.put_self (by omega), Act.put_self (by omega), Act.put_self (by omega), Act.put_self (by omega), Act.put_self (by omega), Act.put_self (by omega), Act.put_self (by omega), Act.put_self (by omega), Act.put_self (by omega)]
theorem actJ_put67 (a0 : Act) (v67 v69 v70 v73 v75 v76 v79 v81 v82 v83 v19 v : Value) : (actJ a0 v67 v69 v70 v73 v75 v76 v79 v81 v82 v83 v19).put (some 67) v = actJ a0 v v69 v70 v73 v75 v76 v79 v81 v82 v83 v19 := by
  unfold actJ
  rw [put_swap 19 67 (by decide), put_swap 83 67 (by decide), put_swap 82 67 (by decide), put_swap 81 67 (by decide), put_swap 79 67 (by decide), put_swap 76 67 (by decide), put_swap 75 67 (by decide), put_swap 73 67 (by decide), put_swap 70 67 (by decide), put_swap 69 67 (by decide), put_put]
theorem actJ_eval67 {a0 : Act} (h : 84 ≤ a0.tmps.size) (v67 v69 v70 v73 v75 v76 v79 v81 v82 v83 v19 : Value) : (actJ a0 v67 v69 v70 v73 v75 v76 v79 v81 v82 v83 v19).eval (.tmp 67) = v67 := by
  unfold actJ
  rw [eval_ne _ (show 19 ≠ 67 by decide), eval_ne _ (show 83 ≠ 67 by decide), eval_ne _ (show 82 ≠ 67 by decide), eval_ne _ (show 81 ≠ 67 by decide), eval_ne _ (show 79 ≠ 67 by decide), eval_ne _ (show 76 ≠ 67 by decide), eval_ne _ (show 75 ≠ 67 by decide), eval_ne _ (show 73 ≠ 67 by decide), eval_ne _ (show 70 ≠ 67 by decide), eval_ne _ (show 69 ≠ 67 by decide)]
  exact eval_eq (by (try simp only [put_size]); omega) _
theorem actJ_put69 (a0 : Act) (v67 v69 v70 v73 v75 v76 v79 v81 v82 v83 v19 v : Value) : (actJ a0 v67 v69 v70 v73 v75 v76 v79 v81 v82 v83 v19).put (some 69) v = actJ a0 v67 v v70 v73 v75 v76 v79 v81 v82 v83 v19 := by
  unfold actJ
  rw [put_swap 19 69 (by decide), put_swap 83 69 (by decide), put_swap 82 69 (by decide), put_swap 81 69 (by decide), put_swap 79 69 (by decide), put_swap 76 69 (by decide), put_swap 75 69 (by decide), put_swap 73 69 (by decide), put_swap 70 69 (by decide), put_put]
theorem actJ_eval69 {a0 : Act} (h : 84 ≤ a0.tmps.size) (v67 v69 v70 v73 v75 v76 v79 v81 v82 v83 v19 : Value) : (actJ a0 v67 v69 v70 v73 v75 v76 v79 v81 v82 v83 v19).eval (.tmp 69) = v69 := by
  unfold actJ
  rw [eval_ne _ (show 19 ≠ 69 by decide), eval_ne _ (show 83 ≠ 69 by decide), eval_ne _ (show 82 ≠ 69 by decide), eval_ne _ (show 81 ≠ 69 by decide), eval_ne _ (show 79 ≠ 69 by decide), eval_ne _ (show 76 ≠ 69 by decide), eval_ne _ (show 75 ≠ 69 by decide), eval_ne _ (show 73 ≠ 69 by decide), eval_ne _ (show 70 ≠ 69 by decide)]
  exact eval_eq (by (try simp only [put_size]); omega) _
theorem actJ_put70 (a0 : Act) (v67 v69 v70 v73 v75 v76 v79 v81 v82 v83 v19 v : Value) : (actJ a0 v67 v69 v70 v73 v75 v76 v79 v81 v82 v83 v19).put (some 70) v = actJ a0 v67 v69 v v73 v75 v76 v79 v81 v82 v83 v19 := by
  unfold actJ
  rw [put_swap 19 70 (by decide), put_swap 83 70 (by decide), put_swap 82 70 (by decide), put_swap 81 70 (by decide), put_swap 79 70 (by decide), put_swap 76 70 (by decide), put_swap 75 70 (by decide), put_swap 73 70 (by decide), put_put]
theorem actJ_eval70 {a0 : Act} (h : 84 ≤ a0.tmps.size) (v67 v69 v70 v73 v75 v76 v79 v81 v82 v83 v19 : Value) : (actJ a0 v67 v69 v70 v73 v75 v76 v79 v81 v82 v83 v19).eval (.tmp 70) = v70 := by
  unfold actJ
  rw [eval_ne _ (show 19 ≠ 70 by decide), eval_ne _ (show 83 ≠ 70 by decide), eval_ne _ (show 82 ≠ 70 by decide), eval_ne _ (show 81 ≠ 70 by decide), eval_ne _ (show 79 ≠ 70 by decide), eval_ne _ (show 76 ≠ 70 by decide), eval_ne _ (show 75 ≠ 70 by decide), eval_ne _ (show 73 ≠ 70 by decide)]
  exact eval_eq (by (try simp only [put_size]); omega) _
theorem actJ_put73 (a0 : Act) (v67 v69 v70 v73 v75 v76 v79 v81 v82 v83 v19 v : Value) : (actJ a0 v67 v69 v70 v73 v75 v76 v79 v81 v82 v83 v19).put (some 73) v = actJ a0 v67 v69 v70 v v75 v76 v79 v81 v82 v83 v19 := by
  unfold actJ
  rw [put_swap 19 73 (by decide), put_swap 83 73 (by decide), put_swap 82 73 (by decide), put_swap 81 73 (by decide), put_swap 79 73 (by decide), put_swap 76 73 (by decide), put_swap 75 73 (by decide), put_put]
theorem actJ_eval73 {a0 : Act} (h : 84 ≤ a0.tmps.size) (v67 v69 v70 v73 v75 v76 v79 v81 v82 v83 v19 : Value) : (actJ a0 v67 v69 v70 v73 v75 v76 v79 v81 v82 v83 v19).eval (.tmp 73) = v73 := by
  unfold actJ
  rw [eval_ne _ (show 19 ≠ 73 by decide), eval_ne _ (show 83 ≠ 73 by decide), eval_ne _ (show 82 ≠ 73 by decide), eval_ne _ (show 81 ≠ 73 by decide), eval_ne _ (show 79 ≠ 73 by decide), eval_ne _ (show 76 ≠ 73 by decide), eval_ne _ (show 75 ≠ 73 by decide)]
  exact eval_eq (by (try simp only [put_size]); omega) _
theorem actJ_put75 (a0 : Act) (v67 v69 v70 v73 v75 v76 v79 v81 v82 v83 v19 v : Value) : (actJ a0 v67 v69 v70 v73 v75 v76 v79 v81 v82 v83 v19).put (some 75) v = actJ a0 v67 v69 v70 v73 v v76 v79 v81 v82 v83 v19 := by
  unfold actJ
  rw [put_swap 19 75 (by decide), put_swap 83 75 (by decide), put_swap 82 75 (by decide), put_swap 81 75 (by decide), put_swap 79 75 (by decide), put_swap 76 75 (by decide), put_put]
theorem actJ_eval75 {a0 : Act} (h : 84 ≤ a0.tmps.size) (v67 v69 v70 v73 v75 v76 v79 v81 v82 v83 v19 : Value) : (actJ a0 v67 v69 v70 v73 v75 v76 v79 v81 v82 v83 v19).eval (.tmp 75) = v75 := by
  unfold actJ
  rw [eval_ne _ (show 19 ≠ 75 by decide), eval_ne _ (show 83 ≠ 75 by decide), eval_ne _ (show 82 ≠ 75 by decide), eval_ne _ (show 81 ≠ 75 by decide), eval_ne _ (show 79 ≠ 75 by decide), eval_ne _ (show 76 ≠ 75 by decide)]
  exact eval_eq (by (try simp only [put_size]); omega) _
theorem actJ_put76 (a0 : Act) (v67 v69 v70 v73 v75 v76 v79 v81 v82 v83 v19 v : Value) : (actJ a0 v67 v69 v70 v73 v75 v76 v79 v81 v82 v83 v19).put (some 76) v = actJ a0 v67 v69 v70 v73 v75 v v79 v81 v82 v83 v19 := by
  unfold actJ
  rw [put_swap 19 76 (by decide), put_swap 83 76 (by decide), put_swap 82 76 (by decide), put_swap 81 76 (by decide), put_swap 79 76 (by decide), put_put]
theorem actJ_eval76 {a0 : Act} (h : 84 ≤ a0.tmps.size) (v67 v69 v70 v73 v75 v76 v79 v81 v82 v83 v19 : Value) : (actJ a0 v67 v69 v70 v73 v75 v76 v79 v81 v82 v83 v19).eval (.tmp 76) = v76 := by
  unfold actJ
  rw [eval_ne _ (show 19 ≠ 76 by decide), eval_ne _ (show 83 ≠ 76 by decide), eval_ne _ (show 82 ≠ 76 by decide), eval_ne _ (show 81 ≠ 76 by decide), eval_ne _ (show 79 ≠ 76 by decide)]
  exact eval_eq (by (try simp only [put_size]); omega) _
theorem actJ_put79 (a0 : Act) (v67 v69 v70 v73 v75 v76 v79 v81 v82 v83 v19 v : Value) : (actJ a0 v67 v69 v70 v73 v75 v76 v79 v81 v82 v83 v19).put (some 79) v = actJ a0 v67 v69 v70 v73 v75 v76 v v81 v82 v83 v19 := by
  unfold actJ
  rw [put_swap 19 79 (by decide), put_swap 83 79 (by decide), put_swap 82 79 (by decide), put_swap 81 79 (by decide), put_put]
theorem actJ_eval79 {a0 : Act} (h : 84 ≤ a0.tmps.size) (v67 v69 v70 v73 v75 v76 v79 v81 v82 v83 v19 : Value) : (actJ a0 v67 v69 v70 v73 v75 v76 v79 v81 v82 v83 v19).eval (.tmp 79) = v79 := by
  unfold actJ
  rw [eval_ne _ (show 19 ≠ 79 by decide), eval_ne _ (show 83 ≠ 79 by decide), eval_ne _ (show 82 ≠ 79 by decide), eval_ne _ (show 81 ≠ 79 by decide)]
  exact eval_eq (by (try simp only [put_size]); omega) _
theorem actJ_put81 (a0 : Act) (v67 v69 v70 v73 v75 v76 v79 v81 v82 v83 v19 v : Value) : (actJ a0 v67 v69 v70 v73 v75 v76 v79 v81 v82 v83 v19).put (some 81) v = actJ a0 v67 v69 v70 v73 v75 v76 v79 v v82 v83 v19 := by
  unfold actJ
  rw [put_swap 19 81 (by decide), put_swap 83 81 (by decide), put_swap 82 81 (by decide), put_put]
theorem actJ_eval81 {a0 : Act} (h : 84 ≤ a0.tmps.size) (v67 v69 v70 v73 v75 v76 v79 v81 v82 v83 v19 : Value) : (actJ a0 v67 v69 v70 v73 v75 v76 v79 v81 v82 v83 v19).eval (.tmp 81) = v81 := by
  unfold actJ
  rw [eval_ne _ (show 19 ≠ 81 by decide), eval_ne _ (show 83 ≠ 81 by decide), eval_ne _ (show 82 ≠ 81 by decide)]
  exact eval_eq (by (try simp only [put_size]); omega) _
theorem actJ_put82 (a0 : Act) (v67 v69 v70 v73 v75 v76 v79 v81 v82 v83 v19 v : Value) : (actJ a0 v67 v69 v70 v73 v75 v76 v79 v81 v82 v83 v19).put (some 82) v = actJ a0 v67 v69 v70 v73 v75 v76 v79 v81 v v83 v19 := by
  unfold actJ
  rw [put_swap 19 82 (by decide), put_swap 83 82 (by decide), put_put]
theorem actJ_eval82 {a0 : Act} (h : 84 ≤ a0.tmps.size) (v67 v69 v70 v73 v75 v76 v79 v81 v82 v83 v19 : Value) : (actJ a0 v67 v69 v70 v73 v75 v76 v79 v81 v82 v83 v19).eval (.tmp 82) = v82 := by
  unfold actJ
  rw [eval_ne _ (show 19 ≠ 82 by decide), eval_ne _ (show 83 ≠ 82 by decide)]
  exact eval_eq (by (try simp only [put_size]); omega) _
theorem actJ_put83 (a0 : Act) (v67 v69 v70 v73 v75 v76 v79 v81 v82 v83 v19 v : Value) : (actJ a0 v67 v69 v70 v73 v75 v76 v79 v81 v82 v83 v19).put (some 83) v = actJ a0 v67 v69 v70 v73 v75 v76 v79 v81 v82 v v19 := by
  unfold actJ
  rw [put_swap 19 83 (by decide), put_put]
theorem actJ_eval83 {a0 : Act} (h : 84 ≤ a0.tmps.size) (v67 v69 v70 v73 v75 v76 v79 v81 v82 v83 v19 : Value) : (actJ a0 v67 v69 v70 v73 v75 v76 v79 v81 v82 v83 v19).eval (.tmp 83) = v83 := by
  unfold actJ
  rw [eval_ne _ (show 19 ≠ 83 by decide)]
  exact eval_eq (by (try simp only [put_size]); omega) _
theorem actJ_put19 (a0 : Act) (v67 v69 v70 v73 v75 v76 v79 v81 v82 v83 v19 v : Value) : (actJ a0 v67 v69 v70 v73 v75 v76 v79 v81 v82 v83 v19).put (some 19) v = actJ a0 v67 v69 v70 v73 v75 v76 v79 v81 v82 v83 v := by
  unfold actJ
  rw [put_put]
theorem actJ_eval19 {a0 : Act} (h : 84 ≤ a0.tmps.size) (v67 v69 v70 v73 v75 v76 v79 v81 v82 v83 v19 : Value) : (actJ a0 v67 v69 v70 v73 v75 v76 v79 v81 v82 v83 v19).eval (.tmp 19) = v19 := by
  unfold actJ
  exact eval_eq (by (try simp only [put_size]); omega) _
theorem actJ_eval {a0 : Act} {j : Nat} (h : 67 ≠ j ∧ 69 ≠ j ∧ 70 ≠ j ∧ 73 ≠ j ∧ 75 ≠ j ∧ 76 ≠ j ∧ 79 ≠ j ∧ 81 ≠ j ∧ 82 ≠ j ∧ 83 ≠ j ∧ 19 ≠ j) (v67 v69 v70 v73 v75 v76 v79 v81 v82 v83 v19 : Value) : (actJ a0 v67 v69 v70 v73 v75 v76 v79 v81 v82 v83 v19).eval (.tmp j) = a0.eval (.tmp j) := by
  obtain ⟨h67, h69, h70, h73, h75, h76, h79, h81, h82, h83, h19⟩ := h
  unfold actJ
  rw [eval_ne _ h19, eval_ne _ h83, eval_ne _ h82, eval_ne _ h81, eval_ne _ h79, eval_ne _ h76, eval_ne _ h75, eval_ne _ h73, eval_ne _ h70, eval_ne _ h69, eval_ne _ h67]

/-- What the order allows, at each point. -/
def rdyJ (d4 d6 d7 d10 d12 d13 d16 d18 d19 d20 d21 d22 : Bool) (r : List Nat) : Bool :=
  (r.all fun i => (i == 4 && !d4) || (i == 6 && !d6) || (i == 7 && d4 && d6 && !d7) || (i == 10 && !d10) || (i == 12 && !d12) || (i == 13 && d10 && d12 && !d13) || (i == 16 && !d16) || (i == 18 && !d18) || (i == 19 && d16 && d18 && !d19) ||
    (i == 20 && d7 && d13 && d19 && !d20) || (i == 21 && !d21) || (i == 22 && d20 && d21 && !d22)) && (!r.isEmpty || (d4 && d6 && d7 && d10 && d12 && d13 && d16 && d18 && d19 && d20 && d21 && d22))
def JR (w0 : World) (n : Int) (l1 l2 l3 : List Int) (x1 x2 x3 : Int) (a0 : Act) (L : Array Bool) (a : Act) (w : World) : Prop :=
  ∃ (d4 d6 d7 d10 d12 d13 d16 d18 d19 d20 d21 d22 : Bool) (v67 v69 v70 v73 v75 v76 v79 v81 v82 v83 v19 : Value), L = lisJ d4 d6 d7 d10 d12 d13 d16 d18 d19 d20 d21 d22 ∧ a = actJ a0 v67 v69 v70 v73 v75 v76 v79 v81 v82 v83 v19 ∧ JW w0 n l1 l2 l3 x1 x2 x3 w d4 d6 d7 d10 d12 d13 d16 d18 d19 d20 d21 d22 v67 v69 v70 v73 v75 v76 v79 v81 v82 v83 v19
theorem exec_call {a : Act} {o : Oper} {f : FuncId} {xs : Array Operand} {ats : Array TypeId} (hop : o.op = .call { callee := .value (.func f), args := xs, argTypes := ats }) : execOp a.eval o = callFunc f (xs.map a.eval) := by
  have ef : a.eval (.func f) = .func (.func f) #[] #[] := rfl
  unfold execOp
  simp [hop, resolve, Deferred.ofValue, invoke, ef]

theorem next_c1 {ops : Array Oper} {Q : Exit → Act → World → Prop} {w0 : World} {n : Int} {l1 l2 l3 : List Int} {x1 x2 x3 : Int} {a0 : Act} {ty : TypeId} {po : String} {af : Array Edge} {ats : Array TypeId} {A : Option Addr} {m c : Nat}
    (ho : ops[4]? = some { dst := some 67, op := .call { callee := .value (.func 102), args := #[.tmp 66], argTypes := ats }, type := ty, pos := po, after := af, guard := none }) (hs : a0.eval (.tmp 66) = .slice A m c)
    (hc : ∀ W, Below w0.heap.size w0 W → Calls Try.prog 102 #[.slice A m c] W (Makes W l1)) {d4 d6 d7 d10 d12 d13 d16 d18 d19 d20 d21 d22 : Bool} {v67 v69 v70 v73 v75 v76 v79 v81 v82 v83 v19 : Value} {w : World} (h : JW w0 n l1 l2 l3 x1 x2 x3 w false d6 d7 d10 d12 d13 d16 d18 d19 d20 d21 d22 v67 v69 v70 v73 v75 v76 v79 v81 v82 v83 v19) {K : Act → World → Prop}
    (hK : ∀ a' w', JR w0 n l1 l2 l3 x1 x2 x3 a0 (lisJ true d6 d7 d10 d12 d13 d16 d18 d19 d20 d21 d22) a' w' → K a' w') : wpOp Try.prog ops Q 4 K (actJ a0 v67 v69 v70 v73 v75 v76 v79 v81 v82 v83 v19) w := by
  refine wpOp_call (f := 102) (args := #[.slice A m c]) ho rfl ?_ ?_
  · rw [exec_call rfl]
    have e : (#[Operand.tmp 66] : Array Operand).map (actJ a0 v67 v69 v70 v73 v75 v76 v79 v81 v82 v83 v19).eval = #[.slice A m c] := by simp [actJ_eval, hs]
    rw [e]
    exact ent_of Try.func102 (by kernel_rfl) rfl _ _
  · refine (hc w h.bel).mono ?_
    rintro e w' ⟨A', n', c', rfl, o', -, -, b'⟩
    refine ⟨_, rfl, hK _ _ ?_⟩
    obtain ⟨i1, k1, q1, hd⟩ := It.call (w := w) (vc := .slice A' n' c') ⟨(fun h => by cases h), h.i1.bb, (fun h => by cases h), h.i1.aa⟩ o' b' h.bel.size _ h.i1
    exact ⟨true, _, _, _, _, _, _, _, _, _, _, _, _, _, _, _, _, _, _, _, _, _, _, rfl, actJ_put67 _ _ _ _ _ _ _ _ _ _ _ _ _, h.move1 i1 k1 q1 hd⟩
theorem next_b1 {ops : Array Oper} {Q : Exit → Act → World → Prop} {w0 : World} {n : Int} {l1 l2 l3 : List Int} {x1 x2 x3 : Int} {a0 : Act} {ty : TypeId} {po : String} {af : Array Edge}
    (ho : ops[6]? = some { dst := some 69, op := .buildSlice 22 1 #[(0, .tmp 68)], type := ty, pos := po, after := af, guard := none }) (hs : a0.eval (.tmp 68) = .int .i64 x1)
    {d4 d6 d7 d10 d12 d13 d16 d18 d19 d20 d21 d22 : Bool} {v67 v69 v70 v73 v75 v76 v79 v81 v82 v83 v19 : Value} {w : World} (h : JW w0 n l1 l2 l3 x1 x2 x3 w d4 false d7 d10 d12 d13 d16 d18 d19 d20 d21 d22 v67 v69 v70 v73 v75 v76 v79 v81 v82 v83 v19) {K : Act → World → Prop}
    (hK : ∀ a' w', JR w0 n l1 l2 l3 x1 x2 x3 a0 (lisJ d4 true d7 d10 d12 d13 d16 d18 d19 d20 d21 d22) a' w' → K a' w') : wpOp Try.prog ops Q 6 K (actJ a0 v67 v69 v70 v73 v75 v76 v79 v81 v82 v83 v19) w := by
  have ev : (actJ a0 v67 v69 v70 v73 v75 v76 v79 v81 v82 v83 v19).eval (.tmp 68) = .int .i64 x1 := by rw [actJ_eval (by decide), hs]
  refine wpOp_run (v := .slice (some ⟨w.heap.size, 0, none⟩) 1 1) (w' := w.alloc (.cells #[.int .i64 x1] 3)) ho rfl ?_ (hK _ _ ?_)
  · generalize (actJ a0 v67 v69 v70 v73 v75 v76 v79 v81 v82 v83 v19).eval = ρ at ev ⊢
    go_simp
    done
  · obtain ⟨i1, k1, q1, hd⟩ := It.build h.i1 h.bel.size
    exact ⟨_, true, _, _, _, _, _, _, _, _, _, _, _, _, _, _, _, _, _, _, _, _, _, rfl, actJ_put69 _ _ _ _ _ _ _ _ _ _ _ _ _, h.move1 i1 k1 q1 hd⟩
theorem next_a1 {ops : Array Oper} {Q : Exit → Act → World → Prop} {w0 : World} {n : Int} {l1 l2 l3 : List Int} {x1 x2 x3 : Int} {a0 : Act} {ty : TypeId} {po : String} {af : Array Edge}
    (ho : ops[7]? = some { dst := some 70, op := .call { callee := .builtin .append, args := #[.tmp 67, .tmp 69], argTypes := #[22, 22] }, type := ty, pos := po, after := af, guard := none }) (hz : 84 ≤ a0.tmps.size) (hl : l1.length + 1 ≤ 1000000000000)
    {d4 d6 d7 d10 d12 d13 d16 d18 d19 d20 d21 d22 : Bool} {v67 v69 v70 v73 v75 v76 v79 v81 v82 v83 v19 : Value} {w : World} (h : JW w0 n l1 l2 l3 x1 x2 x3 w true true false d10 d12 d13 d16 d18 d19 d20 d21 d22 v67 v69 v70 v73 v75 v76 v79 v81 v82 v83 v19) {K : Act → World → Prop}
    (hK : ∀ a' w', JR w0 n l1 l2 l3 x1 x2 x3 a0 (lisJ true true true d10 d12 d13 d16 d18 d19 d20 d21 d22) a' w' → K a' w') : wpOp Try.prog ops Q 7 K (actJ a0 v67 v69 v70 v73 v75 v76 v79 v81 v82 v83 v19) w := by
  have e1 : (actJ a0 v67 v69 v70 v73 v75 v76 v79 v81 v82 v83 v19).eval (.tmp 67) = v67 := actJ_eval67 hz _ _ _ _ _ _ _ _ _ _ _
  have e2 : (actJ a0 v67 v69 v70 v73 v75 v76 v79 v81 v82 v83 v19).eval (.tmp 69) = v69 := actJ_eval69 hz _ _ _ _ _ _ _ _ _ _ _
  obtain ⟨v', w', hrun, i1, k1, q1⟩ := It.app ty h.i1 h.bel.size hl
  refine wpOp_run (v := v') (w' := w') ho rfl ?_ (hK _ _ ?_)
  · unfold execOp
    simp only [resolve, invoke, builtin, Sem.run_bind, Sem.run_pure, Result.andThen_ok, List.map_toArray, List.map_cons, List.map_nil, e1, e2, hrun]
  · exact ⟨true, true, true, _, _, _, _, _, _, _, _, _, _, _, _, _, _, _, _, _, _, _, _, rfl, actJ_put70 _ _ _ _ _ _ _ _ _ _ _ _ _, h.move1 i1 k1 q1 rfl⟩

theorem next_c2 {ops : Array Oper} {Q : Exit → Act → World → Prop} {w0 : World} {n : Int} {l1 l2 l3 : List Int} {x1 x2 x3 : Int} {a0 : Act} {ty : TypeId} {po : String} {af : Array Edge} {ats : Array TypeId} {A : Option Addr} {m c : Nat}
    (ho : ops[10]? = some { dst := some 73, op := .call { callee := .value (.func 102), args := #[.tmp 72], argTypes := ats }, type := ty, pos := po, after := af, guard := none }) (hs : a0.eval (.tmp 72) = .slice A m c)
    (hc : ∀ W, Below w0.heap.size w0 W → Calls Try.prog 102 #[.slice A m c] W (Makes W l2)) {d4 d6 d7 d10 d12 d13 d16 d18 d19 d20 d21 d22 : Bool} {v67 v69 v70 v73 v75 v76 v79 v81 v82 v83 v19 : Value} {w : World} (h : JW w0 n l1 l2 l3 x1 x2 x3 w d4 d6 d7 false d12 d13 d16 d18 d19 d20 d21 d22 v67 v69 v70 v73 v75 v76 v79 v81 v82 v83 v19) {K : Act → World → Prop}
    (hK : ∀ a' w', JR w0 n l1 l2 l3 x1 x2 x3 a0 (lisJ d4 d6 d7 true d12 d13 d16 d18 d19 d20 d21 d22) a' w' → K a' w') : wpOp Try.prog ops Q 10 K (actJ a0 v67 v69 v70 v73 v75 v76 v79 v81 v82 v83 v19) w := by
  refine wpOp_call (f := 102) (args := #[.slice A m c]) ho rfl ?_ ?_
  · rw [exec_call rfl]
    have e : (#[Operand.tmp 72] : Array Operand).map (actJ a0 v67 v69 v70 v73 v75 v76 v79 v81 v82 v83 v19).eval = #[.slice A m c] := by simp [actJ_eval, hs]
    rw [e]
    exact ent_of Try.func102 (by kernel_rfl) rfl _ _
  · refine (hc w h.bel).mono ?_
    rintro e w' ⟨A', n', c', rfl, o', -, -, b'⟩
    refine ⟨_, rfl, hK _ _ ?_⟩
    obtain ⟨i1, k1, q1, hd⟩ := It.call (w := w) (vc := .slice A' n' c') ⟨(fun h => by cases h), h.i2.bb, (fun h => by cases h), h.i2.aa⟩ o' b' h.bel.size _ h.i2
    exact ⟨_, _, _, true, _, _, _, _, _, _, _, _, _, _, _, _, _, _, _, _, _, _, _, rfl, actJ_put73 _ _ _ _ _ _ _ _ _ _ _ _ _, h.move2 i1 k1 q1 hd⟩
theorem next_b2 {ops : Array Oper} {Q : Exit → Act → World → Prop} {w0 : World} {n : Int} {l1 l2 l3 : List Int} {x1 x2 x3 : Int} {a0 : Act} {ty : TypeId} {po : String} {af : Array Edge}
    (ho : ops[12]? = some { dst := some 75, op := .buildSlice 22 1 #[(0, .tmp 74)], type := ty, pos := po, after := af, guard := none }) (hs : a0.eval (.tmp 74) = .int .i64 x2)
    {d4 d6 d7 d10 d12 d13 d16 d18 d19 d20 d21 d22 : Bool} {v67 v69 v70 v73 v75 v76 v79 v81 v82 v83 v19 : Value} {w : World} (h : JW w0 n l1 l2 l3 x1 x2 x3 w d4 d6 d7 d10 false d13 d16 d18 d19 d20 d21 d22 v67 v69 v70 v73 v75 v76 v79 v81 v82 v83 v19) {K : Act → World → Prop}
    (hK : ∀ a' w', JR w0 n l1 l2 l3 x1 x2 x3 a0 (lisJ d4 d6 d7 d10 true d13 d16 d18 d19 d20 d21 d22) a' w' → K a' w') : wpOp Try.prog ops Q 12 K (actJ a0 v67 v69 v70 v73 v75 v76 v79 v81 v82 v83 v19) w := by
  have ev : (actJ a0 v67 v69 v70 v73 v75 v76 v79 v81 v82 v83 v19).eval (.tmp 74) = .int .i64 x2 := by rw [actJ_eval (by decide), hs]
  refine wpOp_run (v := .slice (some ⟨w.heap.size, 0, none⟩) 1 1) (w' := w.alloc (.cells #[.int .i64 x2] 3)) ho rfl ?_ (hK _ _ ?_)
  · generalize (actJ a0 v67 v69 v70 v73 v75 v76 v79 v81 v82 v83 v19).eval = ρ at ev ⊢
    go_simp
    done
  · obtain ⟨i1, k1, q1, hd⟩ := It.build h.i2 h.bel.size
    exact ⟨_, _, _, _, true, _, _, _, _, _, _, _, _, _, _, _, _, _, _, _, _, _, _, rfl, actJ_put75 _ _ _ _ _ _ _ _ _ _ _ _ _, h.move2 i1 k1 q1 hd⟩
theorem next_a2 {ops : Array Oper} {Q : Exit → Act → World → Prop} {w0 : World} {n : Int} {l1 l2 l3 : List Int} {x1 x2 x3 : Int} {a0 : Act} {ty : TypeId} {po : String} {af : Array Edge}
    (ho : ops[13]? = some { dst := some 76, op := .call { callee := .builtin .append, args := #[.tmp 73, .tmp 75], argTypes := #[22, 22] }, type := ty, pos := po, after := af, guard := none }) (hz : 84 ≤ a0.tmps.size) (hl : l2.length + 1 ≤ 1000000000000)
    {d4 d6 d7 d10 d12 d13 d16 d18 d19 d20 d21 d22 : Bool} {v67 v69 v70 v73 v75 v76 v79 v81 v82 v83 v19 : Value} {w : World} (h : JW w0 n l1 l2 l3 x1 x2 x3 w d4 d6 d7 true true false d16 d18 d19 d20 d21 d22 v67 v69 v70 v73 v75 v76 v79 v81 v82 v83 v19) {K : Act → World → Prop}
    (hK : ∀ a' w', JR w0 n l1 l2 l3 x1 x2 x3 a0 (lisJ d4 d6 d7 true true true d16 d18 d19 d20 d21 d22) a' w' → K a' w') : wpOp Try.prog ops Q 13 K (actJ a0 v67 v69 v70 v73 v75 v76 v79 v81 v82 v83 v19) w := by
  have e1 : (actJ a0 v67 v69 v70 v73 v75 v76 v79 v81 v82 v83 v19).eval (.tmp 73) = v73 := actJ_eval73 hz _ _ _ _ _ _ _ _ _ _ _
  have e2 : (actJ a0 v67 v69 v70 v73 v75 v76 v79 v81 v82 v83 v19).eval (.tmp 75) = v75 := actJ_eval75 hz _ _ _ _ _ _ _ _ _ _ _
  obtain ⟨v', w', hrun, i1, k1, q1⟩ := It.app ty h.i2 h.bel.size hl
  refine wpOp_run (v := v') (w' := w') ho rfl ?_ (hK _ _ ?_)
  · unfold execOp
    simp only [resolve, invoke, builtin, Sem.run_bind, Sem.run_pure, Result.andThen_ok, List.map_toArray, List.map_cons, List.map_nil, e1, e2, hrun]
  · exact ⟨_, _, _, true, true, true, _, _, _, _, _, _, _, _, _, _, _, _, _, _, _, _, _, rfl, actJ_put76 _ _ _ _ _ _ _ _ _ _ _ _ _, h.move2 i1 k1 q1 rfl⟩

theorem next_c3 {ops : Array Oper} {Q : Exit → Act → World → Prop} {w0 : World} {n : Int} {l1 l2 l3 : List Int} {x1 x2 x3 : Int} {a0 : Act} {ty : TypeId} {po : String} {af : Array Edge} {ats : Array TypeId} {A : Option Addr} {m c : Nat}
    (ho : ops[16]? = some { dst := some 79, op := .call { callee := .value (.func 102), args := #[.tmp 78], argTypes := ats }, type := ty, pos := po, after := af, guard := none }) (hs : a0.eval (.tmp 78) = .slice A m c)
    (hc : ∀ W, Below w0.heap.size w0 W → Calls Try.prog 102 #[.slice A m c] W (Makes W l3)) {d4 d6 d7 d10 d12 d13 d16 d18 d19 d20 d21 d22 : Bool} {v67 v69 v70 v73 v75 v76 v79 v81 v82 v83 v19 : Value} {w : World} (h : JW w0 n l1 l2 l3 x1 x2 x3 w d4 d6 d7 d10 d12 d13 false d18 d19 d20 d21 d22 v67 v69 v70 v73 v75 v76 v79 v81 v82 v83 v19) {K : Act → World → Prop}
    (hK : ∀ a' w', JR w0 n l1 l2 l3 x1 x2 x3 a0 (lisJ d4 d6 d7 d10 d12 d13 true d18 d19 d20 d21 d22) a' w' → K a' w') : wpOp Try.prog ops Q 16 K (actJ a0 v67 v69 v70 v73 v75 v76 v79 v81 v82 v83 v19) w := by
  refine wpOp_call (f := 102) (args := #[.slice A m c]) ho rfl ?_ ?_
  · rw [exec_call rfl]
    have e : (#[Operand.tmp 78] : Array Operand).map (actJ a0 v67 v69 v70 v73 v75 v76 v79 v81 v82 v83 v19).eval = #[.slice A m c] := by simp [actJ_eval, hs]
    rw [e]
    exact ent_of Try.func102 (by kernel_rfl) rfl _ _
  · refine (hc w h.bel).mono ?_
    rintro e w' ⟨A', n', c', rfl, o', -, -, b'⟩
    refine ⟨_, rfl, hK _ _ ?_⟩
    obtain ⟨i1, k1, q1, hd⟩ := It.call (w := w) (vc := .slice A' n' c') ⟨(fun h => by cases h), h.i3.bb, (fun h => by cases h), h.i3.aa⟩ o' b' h.bel.size _ h.i3
    exact ⟨_, _, _, _, _, _, true, _, _, _, _, _, _, _, _, _, _, _, _, _, _, _, _, rfl, actJ_put79 _ _ _ _ _ _ _ _ _ _ _ _ _, h.move3 i1 k1 q1 hd⟩
theorem next_b3 {ops : Array Oper} {Q : Exit → Act → World → Prop} {w0 : World} {n : Int} {l1 l2 l3 : List Int} {x1 x2 x3 : Int} {a0 : Act} {ty : TypeId} {po : String} {af : Array Edge}
    (ho : ops[18]? = some { dst := some 81, op := .buildSlice 22 1 #[(0, .tmp 80)], type := ty, pos := po, after := af, guard := none }) (hs : a0.eval (.tmp 80) = .int .i64 x3)
    {d4 d6 d7 d10 d12 d13 d16 d18 d19 d20 d21 d22 : Bool} {v67 v69 v70 v73 v75 v76 v79 v81 v82 v83 v19 : Value} {w : World} (h : JW w0 n l1 l2 l3 x1 x2 x3 w d4 d6 d7 d10 d12 d13 d16 false d19 d20 d21 d22 v67 v69 v70 v73 v75 v76 v79 v81 v82 v83 v19) {K : Act → World → Prop}
    (hK : ∀ a' w', JR w0 n l1 l2 l3 x1 x2 x3 a0 (lisJ d4 d6 d7 d10 d12 d13 d16 true d19 d20 d21 d22) a' w' → K a' w') : wpOp Try.prog ops Q 18 K (actJ a0 v67 v69 v70 v73 v75 v76 v79 v81 v82 v83 v19) w := by
  have ev : (actJ a0 v67 v69 v70 v73 v75 v76 v79 v81 v82 v83 v19).eval (.tmp 80) = .int .i64 x3 := by rw [actJ_eval (by decide), hs]
  refine wpOp_run (v := .slice (some ⟨w.heap.size, 0, none⟩) 1 1) (w' := w.alloc (.cells #[.int .i64 x3] 3)) ho rfl ?_ (hK _ _ ?_)
  · generalize (actJ a0 v67 v69 v70 v73 v75 v76 v79 v81 v82 v83 v19).eval = ρ at ev ⊢
    go_simp
    done
  · obtain ⟨i1, k1, q1, hd⟩ := It.build h.i3 h.bel.size
    exact ⟨_, _, _, _, _, _, _, true, _, _, _, _, _, _, _, _, _, _, _, _, _, _, _, rfl, actJ_put81 _ _ _ _ _ _ _ _ _ _ _ _ _, h.move3 i1 k1 q1 hd⟩
theorem next_a3 {ops : Array Oper} {Q : Exit → Act → World → Prop} {w0 : World} {n : Int} {l1 l2 l3 : List Int} {x1 x2 x3 : Int} {a0 : Act} {ty : TypeId} {po : String} {af : Array Edge}
    (ho : ops[19]? = some { dst := some 82, op := .call { callee := .builtin .append, args := #[.tmp 79, .tmp 81], argTypes := #[22, 22] }, type := ty, pos := po, after := af, guard := none }) (hz : 84 ≤ a0.tmps.size) (hl : l3.length + 1 ≤ 1000000000000)
    {d4 d6 d7 d10 d12 d13 d16 d18 d19 d20 d21 d22 : Bool} {v67 v69 v70 v73 v75 v76 v79 v81 v82 v83 v19 : Value} {w : World} (h : JW w0 n l1 l2 l3 x1 x2 x3 w d4 d6 d7 d10 d12 d13 true true false d20 d21 d22 v67 v69 v70 v73 v75 v76 v79 v81 v82 v83 v19) {K : Act → World → Prop}
    (hK : ∀ a' w', JR w0 n l1 l2 l3 x1 x2 x3 a0 (lisJ d4 d6 d7 d10 d12 d13 true true true d20 d21 d22) a' w' → K a' w') : wpOp Try.prog ops Q 19 K (actJ a0 v67 v69 v70 v73 v75 v76 v79 v81 v82 v83 v19) w := by
  have e1 : (actJ a0 v67 v69 v70 v73 v75 v76 v79 v81 v82 v83 v19).eval (.tmp 79) = v79 := actJ_eval79 hz _ _ _ _ _ _ _ _ _ _ _
  have e2 : (actJ a0 v67 v69 v70 v73 v75 v76 v79 v81 v82 v83 v19).eval (.tmp 81) = v81 := actJ_eval81 hz _ _ _ _ _ _ _ _ _ _ _
  obtain ⟨v', w', hrun, i1, k1, q1⟩ := It.app ty h.i3 h.bel.size hl
  refine wpOp_run (v := v') (w' := w') ho rfl ?_ (hK _ _ ?_)
  · unfold execOp
    simp only [resolve, invoke, builtin, Sem.run_bind, Sem.run_pure, Result.andThen_ok, List.map_toArray, List.map_cons, List.map_nil, e1, e2, hrun]
  · exact ⟨_, _, _, _, _, _, true, true, true, _, _, _, _, _, _, _, _, _, _, _, _, _, _, rfl, actJ_put82 _ _ _ _ _ _ _ _ _ _ _ _ _, h.move3 i1 k1 q1 rfl⟩

theorem next_u {ops : Array Oper} {Q : Exit → Act → World → Prop} {w0 : World} {n : Int} {l1 l2 l3 : List Int} {x1 x2 x3 : Int} {a0 : Act} {ty : TypeId} {po : String} {af : Array Edge}
    (ho : ops[20]? = some { dst := some 83, op := .build 53 #[(0, .tmp 64), (1, .tmp 70), (2, .tmp 76), (3, .tmp 82)], type := ty, pos := po, after := af, guard := none }) (hz : 84 ≤ a0.tmps.size) (hs : a0.eval (.tmp 64) = .int .i64 n)
    {d4 d6 d7 d10 d12 d13 d16 d18 d19 d20 d21 d22 : Bool} {v67 v69 v70 v73 v75 v76 v79 v81 v82 v83 v19 : Value} {w : World} (h : JW w0 n l1 l2 l3 x1 x2 x3 w d4 d6 true d10 d12 true d16 d18 true false d21 d22 v67 v69 v70 v73 v75 v76 v79 v81 v82 v83 v19) {K : Act → World → Prop}
    (hK : ∀ a' w', JR w0 n l1 l2 l3 x1 x2 x3 a0 (lisJ d4 d6 true d10 d12 true d16 d18 true true d21 d22) a' w' → K a' w') : wpOp Try.prog ops Q 20 K (actJ a0 v67 v69 v70 v73 v75 v76 v79 v81 v82 v83 v19) w := by
  have e0 : (actJ a0 v67 v69 v70 v73 v75 v76 v79 v81 v82 v83 v19).eval (.tmp 64) = .int .i64 n := by rw [actJ_eval (by decide), hs]
  have e1 : (actJ a0 v67 v69 v70 v73 v75 v76 v79 v81 v82 v83 v19).eval (.tmp 70) = v70 := actJ_eval70 hz _ _ _ _ _ _ _ _ _ _ _
  have e2 : (actJ a0 v67 v69 v70 v73 v75 v76 v79 v81 v82 v83 v19).eval (.tmp 76) = v76 := actJ_eval76 hz _ _ _ _ _ _ _ _ _ _ _
  have e3 : (actJ a0 v67 v69 v70 v73 v75 v76 v79 v81 v82 v83 v19).eval (.tmp 82) = v82 := actJ_eval82 hz _ _ _ _ _ _ _ _ _ _ _
  obtain ⟨A1, n1, c1, f1, -⟩ := (h.i1.aa rfl).2.2.form
  obtain ⟨A2, n2, c2, f2, -⟩ := (h.i2.aa rfl).2.2.form
  obtain ⟨A3, n3, c3, f3, -⟩ := (h.i3.aa rfl).2.2.form
  refine wpOp_run (v := .agg #[.int .i64 n, v70, v76, v82]) (w' := w) ho rfl ?_ (hK _ _ ?_)
  · generalize (actJ a0 v67 v69 v70 v73 v75 v76 v79 v81 v82 v83 v19).eval = ρ at e0 e1 e2 e3 ⊢
    rw [f1] at e1
    rw [f2] at e2
    rw [f3] at e3
    rw [f1, f2, f3]
    go_simp
    done
  · exact ⟨_, _, true, _, _, true, _, _, true, true, _, _, _, _, _, _, _, _, _, _, _, _, _, rfl, actJ_put83 _ _ _ _ _ _ _ _ _ _ _ _ _, h.build⟩
theorem next_n {ops : Array Oper} {Q : Exit → Act → World → Prop} {w0 : World} {n : Int} {l1 l2 l3 : List Int} {x1 x2 x3 : Int} {a0 : Act} {ty : TypeId} {po : String} {af : Array Edge}
    (ho : ops[21]? = some { dst := some 19, op := .alloc 53, type := ty, pos := po, after := af, guard := none })
    {d4 d6 d7 d10 d12 d13 d16 d18 d19 d20 d21 d22 : Bool} {v67 v69 v70 v73 v75 v76 v79 v81 v82 v83 v19 : Value} {w : World} (h : JW w0 n l1 l2 l3 x1 x2 x3 w d4 d6 d7 d10 d12 d13 d16 d18 d19 d20 false d22 v67 v69 v70 v73 v75 v76 v79 v81 v82 v83 v19) {K : Act → World → Prop}
    (hK : ∀ a' w', JR w0 n l1 l2 l3 x1 x2 x3 a0 (lisJ d4 d6 d7 d10 d12 d13 d16 d18 d19 d20 true d22) a' w' → K a' w') : wpOp Try.prog ops Q 21 K (actJ a0 v67 v69 v70 v73 v75 v76 v79 v81 v82 v83 v19) w := by
  refine wpOp_run (v := .pointer (some ⟨w.heap.size, 0, none⟩)) (w' := w.alloc (.cells #[.int .i64 0, .slice none 0 0, .slice none 0 0, .slice none 0 0] 53)) ho rfl ?_ (hK _ _ ?_)
  · go_simp
    done
  · exact ⟨_, _, _, _, _, _, _, _, _, _, true, _, _, _, _, _, _, _, _, _, _, _, _, rfl, actJ_put19 _ _ _ _ _ _ _ _ _ _ _ _ _, h.alloc⟩

theorem next_s {ops : Array Oper} {Q : Exit → Act → World → Prop} {w0 : World} {n : Int} {l1 l2 l3 : List Int} {x1 x2 x3 : Int} {a0 : Act} {ty : TypeId} {po : String} {af : Array Edge}
    (ho : ops[22]? = some { dst := none, op := .store 53 (.tmp 19) (.tmp 83), type := ty, pos := po, after := af, guard := none }) (hz : 84 ≤ a0.tmps.size)
    {d4 d6 d7 d10 d12 d13 d16 d18 d19 d20 d21 d22 : Bool} {v67 v69 v70 v73 v75 v76 v79 v81 v82 v83 v19 : Value} {w : World} (h : JW w0 n l1 l2 l3 x1 x2 x3 w d4 d6 d7 d10 d12 d13 d16 d18 d19 true true false v67 v69 v70 v73 v75 v76 v79 v81 v82 v83 v19) {K : Act → World → Prop}
    (hK : ∀ a' w', JR w0 n l1 l2 l3 x1 x2 x3 a0 (lisJ d4 d6 d7 d10 d12 d13 d16 d18 d19 true true true) a' w' → K a' w') : wpOp Try.prog ops Q 22 K (actJ a0 v67 v69 v70 v73 v75 v76 v79 v81 v82 v83 v19) w := by
  have e1 : (actJ a0 v67 v69 v70 v73 v75 v76 v79 v81 v82 v83 v19).eval (.tmp 19) = v19 := actJ_eval19 hz _ _ _ _ _ _ _ _ _ _ _
  have e2 : (actJ a0 v67 v69 v70 v73 v75 v76 v79 v81 v82 v83 v19).eval (.tmp 83) = v83 := actJ_eval83 hz _ _ _ _ _ _ _ _ _ _ _
  obtain ⟨g, q1, q2, q3, q4, q5, q6⟩ := h.bl rfl
  obtain ⟨p1, p2, p3, p4⟩ := h.bu rfl
  rw [if_neg (by decide)] at q3
  obtain ⟨f0, f1, f2, f3⟩ := q3.four
  obtain ⟨A1, n1, c1, t1, -⟩ := (h.i1.aa p1).2.2.form
  obtain ⟨A2, n2, c2, t2, -⟩ := (h.i2.aa p2).2.2.form
  obtain ⟨A3, n3, c3, t3, -⟩ := (h.i3.aa p3).2.2.form
  have z0 := q3.frozen (j := 0)
  have k1 := q3.set 0 (.int .i64 n)
  have k2 := k1.set 1 v70
  have k3 := k2.set 2 v76
  have y1 := k1.cell (j := 1) rfl
  have y2 := k2.cell (j := 2) rfl
  have y3 := k3.cell (j := 3) rfl
  have z1 := k1.frozen (j := 1)
  have z2 := k2.frozen (j := 2)
  have z3 := k3.frozen (j := 3)
  refine wpOp_skip (w' := (((w.setCell ⟨g, 0, none⟩ (.int .i64 n)).setCell ⟨g, 1, none⟩ v70).setCell ⟨g, 2, none⟩ v76).setCell ⟨g, 3, none⟩ v82) ho rfl ?_ (hK _ _ ?_)
  · generalize (actJ a0 v67 v69 v70 v73 v75 v76 v79 v81 v82 v83 v19).eval = ρ at e1 e2 ⊢
    rw [q1] at e1
    rw [p4, t1, t2, t3] at e2
    rw [t1] at y2
    rw [t1, t2] at y3
    rw [t1] at z2
    rw [t1, t2] at z3
    rw [t1, t2, t3]
    unfold execOp
    simp only [e1, e2]
    go_simp
    done
  · exact ⟨d4, d6, d7, d10, d12, d13, d16, d18, d19, true, true, true, v67, v69, v70, v73, v75, v76, v79, v81, v82, v83, v19, rfl, put_none _ _, h.store q1⟩

theorem run_fieldP {ρ : Operand → Value} {o : Oper} {k g : Nat} {w : World} (hk : k < 4) (hop : o.op = .fieldAddr 53 (.tmp 11) k) (hv : ρ (.tmp 11) = .pointer (some ⟨g, 0, none⟩)) : (execOp ρ o).run Try.prog w = .ok (.value (.pointer (some ⟨g, k, none⟩))) w := by
  have h : k = 0 ∨ k = 1 ∨ k = 2 ∨ k = 3 := by omega
  unfold execOp
  rcases h with rfl | rfl | rfl | rfl
  all_goals
    simp only [hop, hv]
    go_simp
    done
theorem run_loadI {ρ : Operand → Value} {o : Oper} {x : Operand} {g k : Nat} {n : Int} {w : World} (hop : o.op = .load 3 x) (hv : ρ x = .pointer (some ⟨g, k, none⟩)) (hc : w.cell? ⟨g, k, none⟩ = some (.int .i64 n)) : (execOp ρ o).run Try.prog w = .ok (.value (.int .i64 n)) w := by
  unfold execOp
  simp only [hop, hv]
  go_simp
  done
theorem run_loadS {ρ : Operand → Value} {o : Oper} {x : Operand} {g k : Nat} {A : Option Addr} {n c : Nat} {w : World} (hop : o.op = .load 22 x) (hv : ρ x = .pointer (some ⟨g, k, none⟩)) (hc : w.cell? ⟨g, k, none⟩ = some (.slice A n c)) : (execOp ρ o).run Try.prog w = .ok (.value (.slice A n c)) w := by
  unfold execOp
  simp only [hop, hv]
  go_simp
  done
/-- All ways. -/
theorem next_all {ops : Array Oper} {Q : Exit → Act → World → Prop} {S : World → Prop} {w0 w1 : World} {n : Int} {l1 l2 l3 : List Int} {x1 x2 x3 : Int} {a0 : Act} {L0 : Array Bool} {fuel : Nat} {A1 A2 A3 : Option Addr} {m1 m2 m3 c1 c2 c3 : Nat}
    {y4 y6 y7 y10 y12 y13 y16 y18 y19 y20 y21 y22 : TypeId} {p4 p6 p7 p10 p12 p13 p16 p18 p19 p20 p21 p22 : String} {f4 f6 f7 f10 f12 f13 f16 f18 f19 f20 f21 f22 : Array Edge} {as4 as10 as16 : Array TypeId}
    (e4 : ops[4]? = some { dst := some 67, op := .call { callee := .value (.func 102), args := #[.tmp 66], argTypes := as4 }, type := y4, pos := p4, after := f4, guard := none })
    (e6 : ops[6]? = some { dst := some 69, op := .buildSlice 22 1 #[(0, .tmp 68)], type := y6, pos := p6, after := f6, guard := none })
    (e7 : ops[7]? = some { dst := some 70, op := .call { callee := .builtin .append, args := #[.tmp 67, .tmp 69], argTypes := #[22, 22] }, type := y7, pos := p7, after := f7, guard := none })
    (e10 : ops[10]? = some { dst := some 73, op := .call { callee := .value (.func 102), args := #[.tmp 72], argTypes := as10 }, type := y10, pos := p10, after := f10, guard := none })
    (e12 : ops[12]? = some { dst := some 75, op := .buildSlice 22 1 #[(0, .tmp 74)], type := y12, pos := p12, after := f12, guard := none })
    (e13 : ops[13]? = some { dst := some 76, op := .call { callee := .builtin .append, args := #[.tmp 73, .tmp 75], argTypes := #[22, 22] }, type := y13, pos := p13, after := f13, guard := none })
    (e16 : ops[16]? = some { dst := some 79, op := .call { callee := .value (.func 102), args := #[.tmp 78], argTypes := as16 }, type := y16, pos := p16, after := f16, guard := none })
    (e18 : ops[18]? = some { dst := some 81, op := .buildSlice 22 1 #[(0, .tmp 80)], type := y18, pos := p18, after := f18, guard := none })
    (e19 : ops[19]? = some { dst := some 82, op := .call { callee := .builtin .append, args := #[.tmp 79, .tmp 81], argTypes := #[22, 22] }, type := y19, pos := p19, after := f19, guard := none })
    (e20 : ops[20]? = some { dst := some 83, op := .build 53 #[(0, .tmp 64), (1, .tmp 70), (2, .tmp 76), (3, .tmp 82)], type := y20, pos := p20, after := f20, guard := none })
    (e21 : ops[21]? = some { dst := some 19, op := .alloc 53, type := y21, pos := p21, after := f21, guard := none })
    (e22 : ops[22]? = some { dst := none, op := .store 53 (.tmp 19) (.tmp 83), type := y22, pos := p22, after := f22, guard := none })
    (hz : 84 ≤ a0.tmps.size) (s64 : a0.eval (.tmp 64) = .int .i64 n) (s66 : a0.eval (.tmp 66) = .slice A1 m1 c1) (s72 : a0.eval (.tmp 72) = .slice A2 m2 c2) (s78 : a0.eval (.tmp 78) = .slice A3 m3 c3)
    (s68 : a0.eval (.tmp 68) = .int .i64 x1) (s74 : a0.eval (.tmp 74) = .int .i64 x2) (s80 : a0.eval (.tmp 80) = .int .i64 x3)
    (hc1 : ∀ W, Below w0.heap.size w0 W → Calls Try.prog 102 #[.slice A1 m1 c1] W (Makes W l1)) (hc2 : ∀ W, Below w0.heap.size w0 W → Calls Try.prog 102 #[.slice A2 m2 c2] W (Makes W l2)) (hc3 : ∀ W, Below w0.heap.size w0 W → Calls Try.prog 102 #[.slice A3 m3 c3] W (Makes W l3))
    (hl1 : l1.length + 1 ≤ 1000000000000) (hl2 : l2.length + 1 ≤ 1000000000000) (hl3 : l3.length + 1 ≤ 1000000000000)
    (g7a : (f7.toList.any fun e => e.on == 4 && Region.binds .any e) = true) (g7b : (f7.toList.any fun e => e.on == 6 && Region.binds .any e) = true) (g13a : (f13.toList.any fun e => e.on == 10 && Region.binds .any e) = true) (g13b : (f13.toList.any fun e => e.on == 12 && Region.binds .any e) = true) (g19a : (f19.toList.any fun e => e.on == 16 && Region.binds .any e) = true) (g19b : (f19.toList.any fun e => e.on == 18 && Region.binds .any e) = true) (g20a : (f20.toList.any fun e => e.on == 7 && Region.binds .any e) = true) (g20b : (f20.toList.any fun e => e.on == 13 && Region.binds .any e) = true) (g20c : (f20.toList.any fun e => e.on == 19 && Region.binds .any e) = true) (g22a : (f22.toList.any fun e => e.on == 20 && Region.binds .any e) = true) (g22b : (f22.toList.any fun e => e.on == 21 && Region.binds .any e) = true) (k4 : (f4.toList.all fun e => e.on == 3) = true) (k6 : (f6.toList.all fun e => e.on == 5) = true) (k7 : (f7.toList.all fun e => e.on == 4 || e.on == 6) = true) (k10 : (f10.toList.all fun e => e.on == 9 || e.on == 7) = true) (k12 : (f12.toList.all fun e => e.on == 11) = true) (k13 : (f13.toList.all fun e => e.on == 10 || e.on == 12) = true) (k16 : (f16.toList.all fun e => e.on == 15 || e.on == 13) = true) (k18 : (f18.toList.all fun e => e.on == 17) = true) (k19 : (f19.toList.all fun e => e.on == 16 || e.on == 18) = true) (k20 : (f20.toList.all fun e => e.on == 1 || e.on == 7 || e.on == 13 || e.on == 19) = true) (k21 : (f21.toList.all fun _ => false) = true) (k22 : (f22.toList.all fun e => decide (e.on < 22)) = true) (hL0 : L0 = lisJ false false false false false false false false false false false false) (hf : 12 ≤ fuel) (hb : Below w0.heap.size w0 w1) (hS : ∀ W, Below w0.heap.size w0 W → S W)
    (hdone : ∀ (v67 v69 v70 v73 v75 v76 v79 v81 v82 v83 v19 : Value) (w : World) (g : Nat), v19 = .pointer (some ⟨g, 0, none⟩) → w0.heap.size ≤ g → BK w g 53 [.int .i64 n, v70, v76, v82] → Three w w0.heap.size v70 v76 v82 (l1 ++ [x1]) (l2 ++ [x2]) (l3 ++ [x3]) → Below w0.heap.size w0 w → Q .normal (actJ a0 v67 v69 v70 v73 v75 v76 v79 v81 v82 v83 v19) w) :
    wpAnyH Try.prog .any ops Q S fuel L0 a0 w1 := by
  subst hL0
  obtain ⟨u67, u69, u70, u73, u75, u76, u79, u81, u82, u83, u19, hu⟩ := actJ_start hz
  refine wpAnyH_J (J := JR w0 n l1 l2 l3 x1 x2 x3 a0) ?_ ?_ ?_ fuel _ a0 w1 (Nat.le_trans (by decide) hf) ⟨false, false, false, false, false, false, false, false, false, false, false, false, u67, u69, u70, u73, u75, u76, u79, u81, u82, u83, u19, rfl, hu, ?_⟩
  · rintro L a w ⟨d4, d6, d7, d10, d12, d13, d16, d18, d19, d20, d21, d22, v67, v69, v70, v73, v75, v76, v79, v81, v82, v83, v19, -, -, h⟩
    exact hS w h.bel
  · rintro L a w ⟨d4, d6, d7, d10, d12, d13, d16, d18, d19, d20, d21, d22, v67, v69, v70, v73, v75, v76, v79, v81, v82, v83, v19, rfl, rfl, h⟩ i o hi ho haf K hK
    have bd : ∀ {k : Nat} {f : Array Edge}, (f.toList.any fun e => e.on == k && Region.binds .any e) = true → f = o.after → (lisJ d4 d6 d7 d10 d12 d13 d16 d18 d19 d20 d21 d22).getD k false = true := fun {k f} h1 h2 => by
      subst h2
      obtain ⟨e, he, h3⟩ := List.any_eq_true.1 h1
      rw [Bool.and_eq_true, beq_iff_eq] at h3
      rw [← h3.1]
      exact haf e (Array.mem_toList_iff.1 he) h3.2
    have hi23 : i < 23 := by
      rcases Nat.lt_or_ge i 23 with h1 | h1
      · exact h1
      · rw [Array.getD, dif_neg (by show ¬ i < 23; omega)] at hi
        cases hi
    have hc : i = 0 ∨ i = 1 ∨ i = 2 ∨ i = 3 ∨ i = 4 ∨ i = 5 ∨ i = 6 ∨ i = 7 ∨ i = 8 ∨ i = 9 ∨ i = 10 ∨ i = 11 ∨ i = 12 ∨ i = 13 ∨ i = 14 ∨ i = 15 ∨ i = 16 ∨ i = 17 ∨ i = 18 ∨ i = 19 ∨ i = 20 ∨ i = 21 ∨ i = 22 := by omega
    rcases hc with rfl | rfl | rfl | rfl | rfl | rfl | rfl | rfl | rfl | rfl | rfl | rfl | rfl | rfl | rfl | rfl | rfl | rfl | rfl | rfl | rfl | rfl | rfl
    all_goals first
      | (exact absurd (show true = false from hi) (by decide))
      | skip
    · obtain rfl : d4 = false := hi
      exact next_c1 (d4 := false) e4 s66 hc1 h hK
    · obtain rfl : d6 = false := hi
      exact next_b1 (d6 := false) e6 s68 h hK
    · obtain rfl : d7 = false := hi
      have ho2 := Option.some.inj (e7.symm.trans ho)
      obtain rfl : d4 = true := bd g7a (by rw [← ho2])
      obtain rfl : d6 = true := bd g7b (by rw [← ho2])
      exact next_a1 (d4 := true) (d6 := true) (d7 := false) e7 hz hl1 h hK
    · obtain rfl : d10 = false := hi
      exact next_c2 (d10 := false) e10 s72 hc2 h hK
    · obtain rfl : d12 = false := hi
      exact next_b2 (d12 := false) e12 s74 h hK
    · obtain rfl : d13 = false := hi
      have ho2 := Option.some.inj (e13.symm.trans ho)
      obtain rfl : d10 = true := bd g13a (by rw [← ho2])
      obtain rfl : d12 = true := bd g13b (by rw [← ho2])
      exact next_a2 (d10 := true) (d12 := true) (d13 := false) e13 hz hl2 h hK
    · obtain rfl : d16 = false := hi
      exact next_c3 (d16 := false) e16 s78 hc3 h hK
    · obtain rfl : d18 = false := hi
      exact next_b3 (d18 := false) e18 s80 h hK
    · obtain rfl : d19 = false := hi
      have ho2 := Option.some.inj (e19.symm.trans ho)
      obtain rfl : d16 = true := bd g19a (by rw [← ho2])
      obtain rfl : d18 = true := bd g19b (by rw [← ho2])
      exact next_a3 (d16 := true) (d18 := true) (d19 := false) e19 hz hl3 h hK
    · obtain rfl : d20 = false := hi
      have ho2 := Option.some.inj (e20.symm.trans ho)
      obtain rfl : d7 = true := bd g20a (by rw [← ho2])
      obtain rfl : d13 = true := bd g20b (by rw [← ho2])
      obtain rfl : d19 = true := bd g20c (by rw [← ho2])
      exact next_u (d7 := true) (d13 := true) (d19 := true) (d20 := false) e20 hz s64 h hK
    · obtain rfl : d21 = false := hi
      exact next_n (d21 := false) e21 h hK
    · obtain rfl : d22 = false := hi
      have ho2 := Option.some.inj (e22.symm.trans ho)
      obtain rfl : d20 = true := bd g22a (by rw [← ho2])
      obtain rfl : d21 = true := bd g22b (by rw [← ho2])
      exact next_s (d20 := true) (d21 := true) (d22 := false) e22 hz h hK
  · rintro L a w ⟨d4, d6, d7, d10, d12, d13, d16, d18, d19, d20, d21, d22, v67, v69, v70, v73, v75, v76, v79, v81, v82, v83, v19, rfl, rfl, h⟩ hnil
    have no : ∀ {k : Nat} {oo : Oper}, ops[k]? = some oo → (lisJ d4 d6 d7 d10 d12 d13 d16 d18 d19 d20 d21 d22).getD k true = false → (∀ e ∈ oo.after.toList, (lisJ d4 d6 d7 d10 d12 d13 d16 d18 d19 d20 d21 d22).getD e.on false = true) → False := fun {k oo} h1 h2 h3 => by
      have : k ∈ Region.ready .any ops (lisJ d4 d6 d7 d10 d12 d13 d16 d18 d19 d20 d21 d22) := mem_ready.2 ⟨h2, oo, h1, fun e he _ => h3 e (Array.mem_toList_iff.2 he)⟩
      rw [hnil] at this
      cases this
    obtain rfl : d4 = true := by
      rcases hd : d4 with _ | _
      · subst hd
        exact (no e4 rfl fun e he => by
          have hc := List.all_eq_true.1 k4 e he
          simp only [Bool.or_eq_true, beq_iff_eq] at hc
          rcases hc with hc <;> rw [hc] <;> rfl).elim
      · rfl
    obtain rfl : d6 = true := by
      rcases hd : d6 with _ | _
      · subst hd
        exact (no e6 rfl fun e he => by
          have hc := List.all_eq_true.1 k6 e he
          simp only [Bool.or_eq_true, beq_iff_eq] at hc
          rcases hc with hc <;> rw [hc] <;> rfl).elim
      · rfl
    obtain rfl : d7 = true := by
      rcases hd : d7 with _ | _
      · subst hd
        exact (no e7 rfl fun e he => by
          have hc := List.all_eq_true.1 k7 e he
          simp only [Bool.or_eq_true, beq_iff_eq] at hc
          rcases hc with hc | hc <;> rw [hc] <;> rfl).elim
      · rfl
    obtain rfl : d10 = true := by
      rcases hd : d10 with _ | _
      · subst hd
        exact (no e10 rfl fun e he => by
          have hc := List.all_eq_true.1 k10 e he
          simp only [Bool.or_eq_true, beq_iff_eq] at hc
          rcases hc with hc | hc <;> rw [hc] <;> rfl).elim
      · rfl
    obtain rfl : d12 = true := by
      rcases hd : d12 with _ | _
      · subst hd
        exact (no e12 rfl fun e he => by
          have hc := List.all_eq_true.1 k12 e he
          simp only [Bool.or_eq_true, beq_iff_eq] at hc
          rcases hc with hc <;> rw [hc] <;> rfl).elim
      · rfl
    obtain rfl : d13 = true := by
      rcases hd : d13 with _ | _
      · subst hd
        exact (no e13 rfl fun e he => by
          have hc := List.all_eq_true.1 k13 e he
          simp only [Bool.or_eq_true, beq_iff_eq] at hc
          rcases hc with hc | hc <;> rw [hc] <;> rfl).elim
      · rfl
    obtain rfl : d16 = true := by
      rcases hd : d16 with _ | _
      · subst hd
        exact (no e16 rfl fun e he => by
          have hc := List.all_eq_true.1 k16 e he
          simp only [Bool.or_eq_true, beq_iff_eq] at hc
          rcases hc with hc | hc <;> rw [hc] <;> rfl).elim
      · rfl
    obtain rfl : d18 = true := by
      rcases hd : d18 with _ | _
      · subst hd
        exact (no e18 rfl fun e he => by
          have hc := List.all_eq_true.1 k18 e he
          simp only [Bool.or_eq_true, beq_iff_eq] at hc
          rcases hc with hc <;> rw [hc] <;> rfl).elim
      · rfl
    obtain rfl : d19 = true := by
      rcases hd : d19 with _ | _
      · subst hd
        exact (no e19 rfl fun e he => by
          have hc := List.all_eq_true.1 k19 e he
          simp only [Bool.or_eq_true, beq_iff_eq] at hc
          rcases hc with hc | hc <;> rw [hc] <;> rfl).elim
      · rfl
    obtain rfl : d20 = true := by
      rcases hd : d20 with _ | _
      · subst hd
        exact (no e20 rfl fun e he => by
          have hc := List.all_eq_true.1 k20 e he
          simp only [Bool.or_eq_true, beq_iff_eq] at hc
          rcases hc with ((hc | hc) | hc) | hc <;> rw [hc] <;> rfl).elim
      · rfl
    obtain rfl : d21 = true := by
      rcases hd : d21 with _ | _
      · subst hd
        exact (no e21 rfl fun e he => by
          have := List.all_eq_true.1 k21 e he
          cases this).elim
      · rfl
    obtain rfl : d22 = true := by
      rcases hd : d22 with _ | _
      · subst hd
        exact (no e22 rfl fun e he => by
          have hlt := of_decide_eq_true (List.all_eq_true.1 k22 e he)
          have hc : e.on = 0 ∨ e.on = 1 ∨ e.on = 2 ∨ e.on = 3 ∨ e.on = 4 ∨ e.on = 5 ∨ e.on = 6 ∨ e.on = 7 ∨ e.on = 8 ∨ e.on = 9 ∨ e.on = 10 ∨ e.on = 11 ∨ e.on = 12 ∨ e.on = 13 ∨ e.on = 14 ∨ e.on = 15 ∨ e.on = 16 ∨ e.on = 17 ∨ e.on = 18 ∨ e.on = 19 ∨ e.on = 20 ∨ e.on = 21 := by omega
          rcases hc with hc | hc | hc | hc | hc | hc | hc | hc | hc | hc | hc | hc | hc | hc | hc | hc | hc | hc | hc | hc | hc | hc <;> rw [hc] <;> rfl).elim
      · rfl
    obtain ⟨g, h1, h2, h3, h4⟩ := h.done
    exact hdone v67 v69 v70 v73 v75 v76 v79 v81 v82 v83 v19 w g h1 h2 h3 h4 h.bel
  · have hno : ∀ (vc vb va : Value) k, ¬ ItO false false false vc vb va k := fun vc vb va k h => by
      rcases h with ⟨h, -⟩ | ⟨-, ⟨h, -⟩ | ⟨h, -⟩⟩ <;> cases h
    exact ⟨⟨(fun h => by cases h), (fun h => by cases h), (fun h => by cases h), (fun h => by cases h)⟩, ⟨(fun h => by cases h), (fun h => by cases h), (fun h => by cases h), (fun h => by cases h)⟩, ⟨(fun h => by cases h), (fun h => by cases h), (fun h => by cases h), (fun h => by cases h)⟩,
      (fun k h => absurd h (hno _ _ _ k)), (fun k h => absurd h (hno _ _ _ k)), (fun k h => absurd h (hno _ _ _ k)), (fun h => by cases h), (fun h => by cases h), (fun h => by cases h), hb⟩
end Go.Proofs.Ytnljlophgolejaa
