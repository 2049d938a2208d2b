/- A region that draws its order, by what holds between its operations. -/
import Derived.Test.YtnljlophgolejaaWords
import Derived.Deep.RegionHeld3
import Derived.Test.YtnljlophgolejaaTileP
namespace Go.Proofs.Ytnljlophgolejaa
open Go.RowKit

/-- How many operations are still to come. -/
def und (L : Array Bool) : Nat := L.toList.count false
theorem und_set {L : Array Bool} {i : Nat} (h : L.getD i true = false) : und (L.setIfInBounds i true) + 1 = und L := by
  have hi : i < L.size := by
    rcases Nat.lt_or_ge i L.size with h1 | h1
    · exact h1
    · simp [Array.getD, Nat.not_lt.2 h1] at h
  have hv : L[i] = false := by simpa [Array.getD, hi] using h
  unfold und
  rw [Array.toList_setIfInBounds, List.count_set (by simpa using hi)]
  have h2 : L.toList[i]'(by simpa using hi) = false := by simpa using hv
  have h3 : 0 < L.toList.count false := List.count_pos_iff.2 (by rw [← h2]; exact List.getElem_mem _)
  rw [h2]
  show L.toList.count false - 1 + 0 + 1 = L.toList.count false
  omega
theorem und_zero {L : Array Bool} (h : und L = 0) (i : Nat) : L.getD i true = true := by
  rcases hv : L.getD i true with _ | _
  · have := und_set hv
    omega
  · rfl
section
variable {P : Program} {ops : Array Oper} {Q : Exit → Act → World → Prop} {S : World → Prop} {J : Array Bool → Act → World → Prop}
theorem wpAnyH_J (hS : ∀ L a w, J L a w → S w)
    (hstep : ∀ L a w, J L a w → ∀ i o, L.getD i true = false → ops[i]? = some o → (∀ e ∈ o.after, Region.binds .any e = true → L.getD e.on false = true) → ∀ K : Act → World → Prop, (∀ a' w', J (L.setIfInBounds i true) a' w' → K a' w') → wpOp P ops Q i K a w)
    (hdone : ∀ L a w, J L a w → Region.ready .any ops L = [] → Q .normal a w) :
    ∀ fuel L a w, und L ≤ fuel → J L a w → wpAnyH P .any ops Q S fuel L a w := by
  intro fuel
  induction fuel with
  | zero =>
    intro L a w hu hJ
    have hr : Region.ready .any ops L = [] := by
      rw [List.eq_nil_iff_forall_not_mem]
      intro i hi
      have h1 := (mem_ready.1 hi).1
      rw [und_zero (by omega) i] at h1
      cases h1
    exact ⟨hr, hdone L a w hJ hr⟩
  | succ fuel ih =>
    intro L a w hu hJ
    refine ⟨hdone L a w hJ, fun i hi => ?_⟩
    obtain ⟨h1, o, ho, h2⟩ := mem_ready.1 hi
    refine hstep L a w hJ i o h1 ho h2 _ fun a' w' hJ' => ⟨hS _ _ _ hJ', ih _ _ _ ?_ hJ'⟩
    have := und_set h1
    omega
end
/-- A call of a function that has a body is entered. -/
theorem ent_of {P : Program} {f : FuncId} {fn : Func} {c : Code} (hf : P.funcs[f]? = some fn) (hname : (fn.name == "runtime.NumGoroutine") = false) (hb : fn.body = some c) (args : Array Value) (w : World) :
    (callFunc f args).run P w = .ok (.enter f args) w := by
  have h1 : fn.name ≠ "runtime.NumGoroutine" := by simpa using hname
  simp [callFunc, hf, h1, hb]
/-- An operation that leaves a value. -/
theorem wpOp_run {P : Program} {ops : Array Oper} {Q : Exit → Act → World → Prop} {i : Nat} {o : Oper} {a : Act} {w w' : World} {v : Value} {K : Act → World → Prop} (ho : ops[i]? = some o) (hg : o.guard = none)
    (hr : (execOp a.eval o).run P w = .ok (.value v) w') (h : K (a.put o.dst v) w') : wpOp P ops Q i K a w := by
  refine wpOp_step ho fun K' hK => ?_
  have hw : Region.wanted o (yielded ops a.tmps) = true := by simp [Region.wanted, hg]
  rw [if_pos hw]
  unfold Oper.wp
  rw [hr]
  exact hK _ _ h
/-- One that leaves none. -/
theorem wpOp_skip {P : Program} {ops : Array Oper} {Q : Exit → Act → World → Prop} {i : Nat} {o : Oper} {a : Act} {w w' : World} {K : Act → World → Prop} (ho : ops[i]? = some o) (hg : o.guard = none)
    (hr : (execOp a.eval o).run P w = .ok .skip w') (h : K (a.put o.dst undef) w') : wpOp P ops Q i K a w := by
  refine wpOp_step ho fun K' hK => ?_
  have hw : Region.wanted o (yielded ops a.tmps) = true := by simp [Region.wanted, hg]
  rw [if_pos hw]
  unfold Oper.wp
  rw [hr]
  exact hK _ _ h
/-- A call. -/
theorem wpOp_call {P : Program} {ops : Array Oper} {Q : Exit → Act → World → Prop} {i : Nat} {o : Oper} {a : Act} {w : World} {K : Act → World → Prop} {f : FuncId} {args : Array Value} (ho : ops[i]? = some o) (hg : o.guard = none)
    (hr : (execOp a.eval o).run P w = .ok (.enter f args) w) (hc : Calls P f args w fun e w' => ∃ v, e = .returned v ∧ K (a.put o.dst v) w') : wpOp P ops Q i K a w := by
  refine wpOp_step ho fun K' hK => ?_
  have hw : Region.wanted o (yielded ops a.tmps) = true := by simp [Region.wanted, hg]
  rw [if_pos hw]
  unfold Oper.wp
  rw [hr]
  refine Calls.mono hc ?_
  rintro e w' ⟨v, rfl, h⟩
  exact hK _ _ h
theorem wpAnyH_takeD {P : Program} {ops : Array Oper} {Q : Exit → Act → World → Prop} {md : Region.Mode} {S : World → Prop} (i d : Nat) (v : Value) {oi : Oper} {fuel : Nat} {listed : Array Bool} {a : Act} {w : World} (hi : ops[i]? = some oi) (hd : oi.dst = some d)
    (hs : Region.noSelect ops = true) (hf : Region.free md ops listed i = true) (hr : (Region.ready md ops listed).contains i = true)
    (hQ : ∀ c a w, Q (.panic c) (a.put oi.dst v) w → Q (.panic c) a w) (hy : YieldsIf P ops S oi v a) (hS : S w)
    (h : wpAnyH P md ops Q S fuel (listed.setIfInBounds i true) (a.put (some d) v) w) : wpAnyH P md ops Q S (fuel + 1) listed a w :=
  wpAnyH_take hi hs hf hr hQ hy hS (by rw [hd]; exact h)
section
variable {P : Program} {ops : Array Oper} {S : World → Prop} {o : Oper} {a : Act} {x : Operand} {v : Value}
theorem yields_move (hg : o.guard = none) (hop : o.op = .move x) (hv : a.eval x = v) : YieldsIf P ops S o v a := by
  refine .inl ⟨by simp [Region.wanted, hg], fun w _ => ?_⟩
  subst hv
  unfold execOp
  simp [hop]
theorem yields_run (hg : o.guard = none) (h : ∀ w, S w → (execOp a.eval o).run P w = .ok (.value v) w) : YieldsIf P ops S o v a := .inl ⟨by simp [Region.wanted, hg], h⟩
end
end Go.Proofs.Ytnljlophgolejaa

/- Three lists, each copied and grown by one number, and a new block, in whatever order: what holds between. -/
namespace Go.Proofs.Ytnljlophgolejaa
open Go.RowKit

theorem Act.put_self {a : Act} {k : Nat} (h : k < a.tmps.size) : a.put (some k) (a.tmps.getD k undef) = a := by
  unfold Act.put
  simp only
  have : a.tmps.setIfInBounds k (a.tmps.getD k undef) = a.tmps := by
    apply Array.ext
    · simp
    · intro i h1 h2
      rw [Array.getElem_setIfInBounds]
      split
      · next e => subst e; simp [Array.getD, h]
      · rfl
  rw [this]

/-- A list that is copied (c), a number in a block of its own (b), the longer list (a). -/
structure It (w : World) (B : Nat) (l : List Int) (x : Int) (dc db da : Bool) (vc vb va : Value) : Prop where
  cc : dc = true → da = false → OI w B vc l
  bb : db = true → da = false → ∃ g, vb = .slice (some ⟨g, 0, none⟩) 1 1 ∧ B ≤ g ∧ BK w g 3 [.int .i64 x]
  ap : dc = true → db = true → da = false → ∀ k, vc.ownBlock = some k → vb.ownBlock ≠ some k
  aa : da = true → dc = true ∧ db = true ∧ OI w B va (l ++ [x])
def ItO (dc db da : Bool) (vc vb va : Value) (k : Nat) : Prop := (da = true ∧ va.ownBlock = some k) ∨ (da = false ∧ ((dc = true ∧ vc.ownBlock = some k) ∨ (db = true ∧ vb.ownBlock = some k)))
section
variable {w w' : World} {B : Nat} {l : List Int} {x : Int} {dc db da : Bool} {vc vb va : Value}
theorem It.lt (h : It w B l x dc db da vc vb va) : ∀ k, ItO dc db da vc vb va k → B ≤ k ∧ k < w.heap.size := by
  rintro k (⟨h1, h2⟩ | ⟨h1, ⟨h2, h3⟩ | ⟨h2, h3⟩⟩)
  · exact (h.aa h1).2.2.lt k h2
  · exact (h.cc h2 h1).lt k h3
  · obtain ⟨g, rfl, h4, h5⟩ := h.bb h2 h1
    injection h3 with h3
    have h6 := h5.lt
    subst h3
    exact ⟨h4, h6⟩
theorem It.keep (h : It w B l x dc db da vc vb va) (hk : ∀ k, ItO dc db da vc vb va k → w'.heap[k]? = w.heap[k]?) (hs : w.heap.size ≤ w'.heap.size) : It w' B l x dc db da vc vb va := by
  refine ⟨fun h1 h2 => ?_, fun h1 h2 => ?_, h.ap, fun h1 => ⟨(h.aa h1).1, (h.aa h1).2.1, ?_⟩⟩
  · exact OI.same (h.cc h1 h2) fun k hk2 => hk k (.inr ⟨h2, .inl ⟨h1, hk2⟩⟩)
  · obtain ⟨g, h3, h4, h5⟩ := h.bb h1 h2
    exact ⟨g, h3, h4, h5.same (hk g (.inr ⟨h2, .inr ⟨h1, by rw [h3]; rfl⟩⟩))⟩
  · exact OI.same (h.aa h1).2.2 fun k hk2 => hk k (.inl ⟨h1, hk2⟩)
/-- It is copied. -/
theorem It.call (h : It w B l x false db da vc vb va) (ho : OI w' w.heap.size vc l) (hb : Below w.heap.size w w') (hB : B ≤ w.heap.size) (vc0 : Value) (h0 : It w B l x false db da vc0 vb va) :
    It w' B l x true db da vc vb va ∧ Kept (ItO false db da vc0 vb va) w w' ∧ (∀ k, ItO true db da vc vb va k → ItO false db da vc0 vb va k ∨ w.heap.size ≤ k) ∧ da = false := by
  have hda : da = false := by
    rcases da with _ | _
    · rfl
    · exact absurd (h.aa rfl).1 (by decide)
  subst hda
  refine ⟨⟨fun _ _ => ho.mono hB, fun h1 h2 => ?_, fun _ h2 _ k hk => ?_, fun h => by cases h⟩, Kept.of_below hb, fun k hk => ?_, rfl⟩
  · obtain ⟨g, h3, h4, h5⟩ := h.bb h1 h2
    exact ⟨g, h3, h4, h5.below hb h5.lt⟩
  · obtain ⟨g, h3, h4, h5⟩ := h.bb h2 rfl
    have := (ho.lt k hk).1
    have := h5.lt
    rw [h3]
    intro e
    injection e with e
    have e2 : g = k := e
    omega
  · rcases hk with ⟨h1, -⟩ | ⟨-, ⟨-, h2⟩ | ⟨h1, h2⟩⟩
    · cases h1
    · exact .inr (ho.lt k h2).1
    · exact .inl (.inr ⟨rfl, .inr ⟨h1, h2⟩⟩)
/-- The number is laid. -/
theorem It.build (h : It w B l x dc false da vc vb va) (hB : B ≤ w.heap.size) :
    It (w.alloc (.cells #[.int .i64 x] 3)) B l x dc true da vc (.slice (some ⟨w.heap.size, 0, none⟩) 1 1) va ∧ Kept (ItO dc false da vc vb va) w (w.alloc (.cells #[.int .i64 x] 3)) ∧
      (∀ k, ItO dc true da vc (.slice (some ⟨w.heap.size, 0, none⟩) 1 1) va k → ItO dc false da vc vb va k ∨ w.heap.size ≤ k) ∧ da = false := by
  have hda : da = false := by
    rcases da with _ | _
    · rfl
    · exact absurd (h.aa rfl).2.1 (by decide)
  subst hda
  have hb : Below w.heap.size w (w.alloc (.cells #[.int .i64 x] 3)) := (Below.refl _ _).alloc (Nat.le_refl _) _
  refine ⟨⟨fun h1 h2 => (h.cc h1 h2).below hb, fun _ _ => ⟨_, rfl, hB, BK.new w _ _⟩, fun h1 _ _ k hk => ?_, fun h => by cases h⟩, Kept.of_below hb, fun k hk => ?_, rfl⟩
  · have := ((h.cc h1 rfl).lt k hk).2
    intro e
    injection e with e
    have e2 : w.heap.size = k := e
    omega
  · rcases hk with ⟨h1, -⟩ | ⟨-, ⟨h1, h2⟩ | ⟨-, h2⟩⟩
    · cases h1
    · exact .inl (.inr ⟨rfl, .inl ⟨h1, h2⟩⟩)
    · injection h2 with h2
      have e2 : w.heap.size = k := h2
      exact .inr (by omega)
/-- The list grows. -/
theorem It.app (ty : TypeId) (h : It w B l x true true false vc vb va) (hB : B ≤ w.heap.size) (hl : l.length + 1 ≤ 1000000000000) :
    ∃ v' w', (Builtin.append_ #[22, 22] ty #[vc, vb]).run Try.prog w = .ok v' w' ∧ It w' B l x true true true vc vb v' ∧ Kept (ItO true true false vc vb va) w w' ∧
      (∀ k, ItO true true true vc vb v' k → ItO true true false vc vb va k ∨ w.heap.size ≤ k) := by
  obtain ⟨g, rfl, h1, h2⟩ := h.bb rfl rfl
  have hc := h.cc rfl rfl
  have hr : RI w (some ⟨g, 0, none⟩) 1 [x] := by
    refine ⟨rfl, fun _ => ⟨_, rfl, fun j hj => ?_⟩⟩
    obtain rfl : j = 0 := by omega
    exact h2.cell (j := 0) rfl
  obtain ⟨v', w', hrun, o1, g1, q1⟩ := run_appI (c := 1) ty hc hr hl hB
  refine ⟨v', w', hrun, ⟨fun _ h => (by cases h), fun _ h => (by cases h), fun _ _ h => (by cases h), fun _ => ⟨rfl, rfl, o1⟩⟩, ⟨g1.os, g1.tape, g1.output, g1.size, fun k hk hn => g1.block k hk fun e => hn (.inr ⟨rfl, .inl ⟨rfl, e.symm⟩⟩)⟩, fun k hk => ?_⟩
  rcases hk with ⟨-, h3⟩ | ⟨h3, -⟩
  · rcases q1 with q1 | q1
    · exact .inl (.inr ⟨rfl, .inl ⟨rfl, by rw [← q1]; exact h3⟩⟩)
    · rw [q1] at h3
      injection h3 with h3
      exact .inr (by omega)
  · cases h3
end

/-- What holds between the operations. -/
structure JW (w0 : World) (n : Int) (l1 l2 l3 : List Int) (x1 x2 x3 : Int) (w : World) (d4 d6 d7 d10 d12 d13 d16 d18 d19 d20 d21 d22 : Bool) (v67 v69 v70 v73 v75 v76 v79 v81 v82 v83 v19 : Value) : Prop where
  i1 : It w w0.heap.size l1 x1 d4 d6 d7 v67 v69 v70
  i2 : It w w0.heap.size l2 x2 d10 d12 d13 v73 v75 v76
  i3 : It w w0.heap.size l3 x3 d16 d18 d19 v79 v81 v82
  d12_ : ∀ k, ItO d4 d6 d7 v67 v69 v70 k → ¬ ItO d10 d12 d13 v73 v75 v76 k
  d13_ : ∀ k, ItO d4 d6 d7 v67 v69 v70 k → ¬ ItO d16 d18 d19 v79 v81 v82 k
  d23_ : ∀ k, ItO d10 d12 d13 v73 v75 v76 k → ¬ ItO d16 d18 d19 v79 v81 v82 k
  bl : d21 = true → ∃ g, v19 = .pointer (some ⟨g, 0, none⟩) ∧ w0.heap.size ≤ g ∧ BK w g 53 (if d22 = true then [.int .i64 n, v70, v76, v82] else [.int .i64 0, .slice none 0 0, .slice none 0 0, .slice none 0 0]) ∧
    ¬ ItO d4 d6 d7 v67 v69 v70 g ∧ ¬ ItO d10 d12 d13 v73 v75 v76 g ∧ ¬ ItO d16 d18 d19 v79 v81 v82 g
  bu : d20 = true → d7 = true ∧ d13 = true ∧ d19 = true ∧ v83 = .agg #[.int .i64 n, v70, v76, v82]
  st : d22 = true → d20 = true ∧ d21 = true
  bel : Below w0.heap.size w0 w
section
variable {w0 : World} {n : Int} {l1 l2 l3 : List Int} {x1 x2 x3 : Int} {w w' : World} {d4 d6 d7 d10 d12 d13 d16 d18 d19 d20 d21 d22 : Bool} {v67 v69 v70 v73 v75 v76 v79 v81 v82 v83 v19 : Value}
/-- Item 1 goes on. -/
theorem JW.move1 (h : JW w0 n l1 l2 l3 x1 x2 x3 w d4 d6 d7 d10 d12 d13 d16 d18 d19 d20 d21 d22 v67 v69 v70 v73 v75 v76 v79 v81 v82 v83 v19) {e1 e2 e3 : Bool} {u1 u2 u3 : Value} (hi : It w' w0.heap.size l1 x1 e1 e2 e3 u1 u2 u3) (hk : Kept (ItO d4 d6 d7 v67 v69 v70) w w')
    (ho : ∀ k, ItO e1 e2 e3 u1 u2 u3 k → ItO d4 d6 d7 v67 v69 v70 k ∨ w.heap.size ≤ k) (hd : d7 = false) : JW w0 n l1 l2 l3 x1 x2 x3 w' e1 e2 e3 d10 d12 d13 d16 d18 d19 d20 d21 d22 u1 u2 u3 v73 v75 v76 v79 v81 v82 v83 v19 := by
  have h20 : d20 = false := by
    rcases d20 with _ | _
    · rfl
    · have := (h.bu rfl).1
      rw [hd] at this
      cases this
  have h22 : d22 = false := by
    rcases d22 with _ | _
    · rfl
    · have := (h.st rfl).1
      rw [h20] at this
      cases this
  subst h20 h22
  have k2 : It w' w0.heap.size l2 x2 d10 d12 d13 v73 v75 v76 := h.i2.keep (fun k h1 => hk.block k (h.i2.lt k h1).2 (fun h2 => h.d12_ k h2 h1)) hk.size
  have n2 : ∀ k, ItO e1 e2 e3 u1 u2 u3 k → ¬ ItO d10 d12 d13 v73 v75 v76 k := fun k h1 h2 => by
    rcases ho k h1 with h3 | h3
    · exact h.d12_ k h3 h2
    · have := (h.i2.lt k h2).2; omega
  have k3 : It w' w0.heap.size l3 x3 d16 d18 d19 v79 v81 v82 := h.i3.keep (fun k h1 => hk.block k (h.i3.lt k h1).2 (fun h2 => h.d13_ k h2 h1)) hk.size
  have n3 : ∀ k, ItO e1 e2 e3 u1 u2 u3 k → ¬ ItO d16 d18 d19 v79 v81 v82 k := fun k h1 h2 => by
    rcases ho k h1 with h3 | h3
    · exact h.d13_ k h3 h2
    · have := (h.i3.lt k h2).2; omega
  refine ⟨hi, k2, k3, n2, n3, h.d23_, fun h1 => ?_, (fun h1 => by cases h1), (fun h1 => by cases h1), h.bel.trans (hk.low (fun k h1 => (h.i1.lt k h1).1) h.bel.size)⟩
  obtain ⟨g, h2, h3, hb, h4, h5, h6⟩ := h.bl h1
  exact ⟨g, h2, h3, hb.same (hk.block g hb.lt h4), (fun h1 => (ho g h1).elim h4 fun h2 => by have := hb.lt; omega), h5, h6⟩
/-- Item 2 goes on. -/
theorem JW.move2 (h : JW w0 n l1 l2 l3 x1 x2 x3 w d4 d6 d7 d10 d12 d13 d16 d18 d19 d20 d21 d22 v67 v69 v70 v73 v75 v76 v79 v81 v82 v83 v19) {e1 e2 e3 : Bool} {u1 u2 u3 : Value} (hi : It w' w0.heap.size l2 x2 e1 e2 e3 u1 u2 u3) (hk : Kept (ItO d10 d12 d13 v73 v75 v76) w w')
    (ho : ∀ k, ItO e1 e2 e3 u1 u2 u3 k → ItO d10 d12 d13 v73 v75 v76 k ∨ w.heap.size ≤ k) (hd : d13 = false) : JW w0 n l1 l2 l3 x1 x2 x3 w' d4 d6 d7 e1 e2 e3 d16 d18 d19 d20 d21 d22 v67 v69 v70 u1 u2 u3 v79 v81 v82 v83 v19 := by
  have h20 : d20 = false := by
    rcases d20 with _ | _
    · rfl
    · have := (h.bu rfl).2.1
      rw [hd] at this
      cases this
  have h22 : d22 = false := by
    rcases d22 with _ | _
    · rfl
    · have := (h.st rfl).1
      rw [h20] at this
      cases this
  subst h20 h22
  have k1 : It w' w0.heap.size l1 x1 d4 d6 d7 v67 v69 v70 := h.i1.keep (fun k h1 => hk.block k (h.i1.lt k h1).2 (fun h2 => h.d12_ k h1 h2)) hk.size
  have n1 : ∀ k, ItO e1 e2 e3 u1 u2 u3 k → ¬ ItO d4 d6 d7 v67 v69 v70 k := fun k h1 h2 => by
    rcases ho k h1 with h3 | h3
    · exact h.d12_ k h2 h3
    · have := (h.i1.lt k h2).2; omega
  have k3 : It w' w0.heap.size l3 x3 d16 d18 d19 v79 v81 v82 := h.i3.keep (fun k h1 => hk.block k (h.i3.lt k h1).2 (fun h2 => h.d23_ k h2 h1)) hk.size
  have n3 : ∀ k, ItO e1 e2 e3 u1 u2 u3 k → ¬ ItO d16 d18 d19 v79 v81 v82 k := fun k h1 h2 => by
    rcases ho k h1 with h3 | h3
    · exact h.d23_ k h3 h2
    · have := (h.i3.lt k h2).2; omega
  refine ⟨k1, hi, k3, fun k h1 h2 => n1 k h2 h1, h.d13_, n3, fun h1 => ?_, (fun h1 => by cases h1), (fun h1 => by cases h1), h.bel.trans (hk.low (fun k h1 => (h.i2.lt k h1).1) h.bel.size)⟩
  obtain ⟨g, h2, h3, hb, h4, h5, h6⟩ := h.bl h1
  exact ⟨g, h2, h3, hb.same (hk.block g hb.lt h5), h4, (fun h1 => (ho g h1).elim h5 fun h2 => by have := hb.lt; omega), h6⟩
/-- Item 3 goes on. -/
theorem JW.move3 (h : JW w0 n l1 l2 l3 x1 x2 x3 w d4 d6 d7 d10 d12 d13 d16 d18 d19 d20 d21 d22 v67 v69 v70 v73 v75 v76 v79 v81 v82 v83 v19) {e1 e2 e3 : Bool} {u1 u2 u3 : Value} (hi : It w' w0.heap.size l3 x3 e1 e2 e3 u1 u2 u3) (hk : Kept (ItO d16 d18 d19 v79 v81 v82) w w')
    (ho : ∀ k, ItO e1 e2 e3 u1 u2 u3 k → ItO d16 d18 d19 v79 v81 v82 k ∨ w.heap.size ≤ k) (hd : d19 = false) : JW w0 n l1 l2 l3 x1 x2 x3 w' d4 d6 d7 d10 d12 d13 e1 e2 e3 d20 d21 d22 v67 v69 v70 v73 v75 v76 u1 u2 u3 v83 v19 := by
  have h20 : d20 = false := by
    rcases d20 with _ | _
    · rfl
    · have := (h.bu rfl).2.2.1
      rw [hd] at this
      cases this
  have h22 : d22 = false := by
    rcases d22 with _ | _
    · rfl
    · have := (h.st rfl).1
      rw [h20] at this
      cases this
  subst h20 h22
  have k1 : It w' w0.heap.size l1 x1 d4 d6 d7 v67 v69 v70 := h.i1.keep (fun k h1 => hk.block k (h.i1.lt k h1).2 (fun h2 => h.d13_ k h1 h2)) hk.size
  have n1 : ∀ k, ItO e1 e2 e3 u1 u2 u3 k → ¬ ItO d4 d6 d7 v67 v69 v70 k := fun k h1 h2 => by
    rcases ho k h1 with h3 | h3
    · exact h.d13_ k h2 h3
    · have := (h.i1.lt k h2).2; omega
  have k2 : It w' w0.heap.size l2 x2 d10 d12 d13 v73 v75 v76 := h.i2.keep (fun k h1 => hk.block k (h.i2.lt k h1).2 (fun h2 => h.d23_ k h1 h2)) hk.size
  have n2 : ∀ k, ItO e1 e2 e3 u1 u2 u3 k → ¬ ItO d10 d12 d13 v73 v75 v76 k := fun k h1 h2 => by
    rcases ho k h1 with h3 | h3
    · exact h.d23_ k h2 h3
    · have := (h.i2.lt k h2).2; omega
  refine ⟨k1, k2, hi, h.d12_, fun k h1 h2 => n1 k h2 h1, fun k h1 h2 => n2 k h2 h1, fun h1 => ?_, (fun h1 => by cases h1), (fun h1 => by cases h1), h.bel.trans (hk.low (fun k h1 => (h.i3.lt k h1).1) h.bel.size)⟩
  obtain ⟨g, h2, h3, hb, h4, h5, h6⟩ := h.bl h1
  exact ⟨g, h2, h3, hb.same (hk.block g hb.lt h6), h4, h5, (fun h1 => (ho g h1).elim h6 fun h2 => by have := hb.lt; omega)⟩
/-- The new block. -/
theorem JW.alloc (h : JW w0 n l1 l2 l3 x1 x2 x3 w d4 d6 d7 d10 d12 d13 d16 d18 d19 d20 false d22 v67 v69 v70 v73 v75 v76 v79 v81 v82 v83 v19) : JW w0 n l1 l2 l3 x1 x2 x3 (w.alloc (.cells #[.int .i64 0, .slice none 0 0, .slice none 0 0, .slice none 0 0] 53)) d4 d6 d7 d10 d12 d13 d16 d18 d19 d20 true d22 v67 v69 v70 v73 v75 v76 v79 v81 v82 v83 (.pointer (some ⟨w.heap.size, 0, none⟩)) := by
  have h22 : d22 = false := by
    rcases d22 with _ | _
    · rfl
    · cases (h.st rfl).2
  subst h22
  have hb : Below w.heap.size w (w.alloc (.cells #[.int .i64 0, .slice none 0 0, .slice none 0 0, .slice none 0 0] 53)) := (Below.refl _ _).alloc (Nat.le_refl _) _
  refine ⟨h.i1.keep (fun k h1 => hb.block k (h.i1.lt k h1).2) hb.size, h.i2.keep (fun k h1 => hb.block k (h.i2.lt k h1).2) hb.size, h.i3.keep (fun k h1 => hb.block k (h.i3.lt k h1).2) hb.size, h.d12_, h.d13_, h.d23_,
    fun _ => ⟨_, rfl, h.bel.size, BK.new w _ _, (fun h1 => by have := (h.i1.lt _ h1).2; omega), (fun h1 => by have := (h.i2.lt _ h1).2; omega), (fun h1 => by have := (h.i3.lt _ h1).2; omega)⟩, h.bu, (fun h1 => by cases h1), h.bel.trans (hb.mono h.bel.size)⟩
/-- The puzzle is built. -/
theorem JW.build (h : JW w0 n l1 l2 l3 x1 x2 x3 w d4 d6 true d10 d12 true d16 d18 true false d21 d22 v67 v69 v70 v73 v75 v76 v79 v81 v82 v83 v19) : JW w0 n l1 l2 l3 x1 x2 x3 w d4 d6 true d10 d12 true d16 d18 true true d21 d22 v67 v69 v70 v73 v75 v76 v79 v81 v82 (.agg #[.int .i64 n, v70, v76, v82]) v19 := by
  have h22 : d22 = false := by
    rcases d22 with _ | _
    · rfl
    · cases (h.st rfl).1
  subst h22
  exact ⟨h.i1, h.i2, h.i3, h.d12_, h.d13_, h.d23_, h.bl, fun _ => ⟨rfl, rfl, rfl, rfl⟩, (fun h1 => by cases h1), h.bel⟩
/-- The puzzle is laid into the block. -/
theorem JW.store (h : JW w0 n l1 l2 l3 x1 x2 x3 w d4 d6 d7 d10 d12 d13 d16 d18 d19 true true false v67 v69 v70 v73 v75 v76 v79 v81 v82 v83 v19) {g : Nat} (hg : v19 = .pointer (some ⟨g, 0, none⟩)) :
    JW w0 n l1 l2 l3 x1 x2 x3 ((((w.setCell ⟨g, 0, none⟩ (.int .i64 n)).setCell ⟨g, 1, none⟩ v70).setCell ⟨g, 2, none⟩ v76).setCell ⟨g, 3, none⟩ v82) d4 d6 d7 d10 d12 d13 d16 d18 d19 true true true v67 v69 v70 v73 v75 v76 v79 v81 v82 v83 v19 := by
  obtain ⟨g', q1, q2, q3, q4, q5, q6⟩ := h.bl rfl
  obtain rfl : g = g' := by
    rw [hg] at q1
    injection q1 with q1
    injection q1 with q1
    injection q1
  rw [if_neg (by decide)] at q3
  have hk : Kept (fun k => k = g) w ((((w.setCell ⟨g, 0, none⟩ (.int .i64 n)).setCell ⟨g, 1, none⟩ v70).setCell ⟨g, 2, none⟩ v76).setCell ⟨g, 3, none⟩ v82) :=
    ((((Kept.refl (fun k => k = g) w).store (.inl rfl) _ _).store (.inl rfl) _ _).store (.inl rfl) _ _).store (.inl rfl) _ _
  refine ⟨h.i1.keep (fun k h1 => hk.block k (h.i1.lt k h1).2 fun e => q4 (by rw [← e]; exact h1)) hk.size, h.i2.keep (fun k h1 => hk.block k (h.i2.lt k h1).2 fun e => q5 (by rw [← e]; exact h1)) hk.size, h.i3.keep (fun k h1 => hk.block k (h.i3.lt k h1).2 fun e => q6 (by rw [← e]; exact h1)) hk.size, h.d12_, h.d13_, h.d23_,
    fun _ => ⟨g, hg, q2, ?_, q4, q5, q6⟩, h.bu, fun _ => ⟨rfl, rfl⟩, h.bel.trans (hk.low (fun k e => by omega) h.bel.size)⟩
  rw [if_pos rfl]
  exact (((q3.set 0 _).set 1 _).set 2 _).set 3 _
end

/-- The three that are laid at the end. -/
theorem JW.done {w0 : World} {n : Int} {l1 l2 l3 : List Int} {x1 x2 x3 : Int} {w : World} {v67 v69 v70 v73 v75 v76 v79 v81 v82 v83 v19 : Value} (h : JW w0 n l1 l2 l3 x1 x2 x3 w true true true true true true true true true true true true v67 v69 v70 v73 v75 v76 v79 v81 v82 v83 v19) :
    ∃ g, v19 = .pointer (some ⟨g, 0, none⟩) ∧ w0.heap.size ≤ g ∧ BK w g 53 [.int .i64 n, v70, v76, v82] ∧ Three w w0.heap.size v70 v76 v82 (l1 ++ [x1]) (l2 ++ [x2]) (l3 ++ [x3]) := by
  obtain ⟨g, h1, h2, h3, -⟩ := h.bl rfl
  have key : ∀ {u v : Value}, (∀ k, u.ownBlock = some k → ¬ v.ownBlock = some k) → u.ownBlock = none ∨ u.ownBlock ≠ v.ownBlock := fun {u v} hh => by
    rcases hu : u.ownBlock with _ | k
    · exact .inl rfl
    · exact .inr fun e => hh k hu e.symm
  exact ⟨g, h1, h2, h3, (h.i1.aa rfl).2.2, (h.i2.aa rfl).2.2, (h.i3.aa rfl).2.2, key fun k a b => h.d12_ k (.inl ⟨rfl, a⟩) (.inl ⟨rfl, b⟩), key fun k a b => h.d13_ k (.inl ⟨rfl, a⟩) (.inl ⟨rfl, b⟩), key fun k a b => h.d23_ k (.inl ⟨rfl, a⟩) (.inl ⟨rfl, b⟩)⟩
end Go.Proofs.Ytnljlophgolejaa
