/- What turns where puzzles are gathered: nothing but some blocks; what a closure that gathers is asked. -/
import Derived.Test.YtnljlophgolejaaWords
import Derived.Test.YtnljlophgolejaaTileP
namespace Go.Proofs.Ytnljlophgolejaa
open Go.RowKit

/-- Nothing but the blocks of O has turned. -/
structure Kept (O : Nat → Prop) (w w' : World) : Prop where
  os : w'.os = w.os
  tape : w'.tape = w.tape
  output : w'.output = w.output
  size : w.heap.size ≤ w'.heap.size
  block : ∀ k, k < w.heap.size → ¬ O k → w'.heap[k]? = w.heap[k]?
section
variable {O O1 : Nat → Prop} {w w1 w2 : World}
theorem Kept.refl (O : Nat → Prop) (w : World) : Kept O w w := ⟨rfl, rfl, rfl, Nat.le_refl _, fun _ _ _ => rfl⟩
theorem Kept.of_below (h : Below w.heap.size w w1) : Kept O w w1 := ⟨h.os, h.tape, h.output, h.size, fun k hk _ => h.block k hk⟩
theorem Kept.trans (h : Kept O w w1) (hO : ∀ k, O1 k → O k ∨ w.heap.size ≤ k) (h2 : Kept O1 w1 w2) : Kept O w w2 :=
  ⟨h2.os.trans h.os, h2.tape.trans h.tape, h2.output.trans h.output, Nat.le_trans h.size h2.size, fun k hk hn =>
    (h2.block k (Nat.lt_of_lt_of_le hk h.size) fun h1 => (hO k h1).elim hn fun h3 => by omega).trans (h.block k hk hn)⟩
theorem Kept.mono (h : Kept O w w1) (hO : ∀ k, O k → O1 k) : Kept O1 w w1 := ⟨h.os, h.tape, h.output, h.size, fun k hk hn => h.block k hk fun h1 => hn (hO k h1)⟩
theorem Kept.store {g : Nat} (h : Kept O w w1) (hg : O g ∨ w.heap.size ≤ g) (j : Nat) (u : Value) : Kept O w (w1.setCell ⟨g, j, none⟩ u) :=
  ⟨h.os, h.tape, h.output, by simpa [World.setCell] using h.size, fun k hk hn => (Below.heap_setCell _ _ _ _ (by
    simp only
    intro e
    subst e
    rcases hg with h1 | h1
    · exact hn h1
    · omega)).trans (h.block k hk hn)⟩
theorem Kept.drewN (h : Kept O w w1) (n : Nat) : Kept O w (w1.drewN n) := ⟨h.os, h.tape, h.output, h.size, h.block⟩
theorem Kept.low {B : Nat} (h : Kept O w w1) (hO : ∀ k, O k → B ≤ k) (hB : B ≤ w.heap.size) : Below B w w1 :=
  ⟨h.os, h.tape, h.output, h.size, fun k hk => h.block k (by omega) fun h1 => by have := hO k h1; omega⟩
end
theorem cell_same {w w' : World} {a : Addr} (e : w'.heap[a.block]? = w.heap[a.block]?) : w'.cell? a = w.cell? a := by simp only [World.cell?, e]
theorem OI.sameB {w w' : World} {base g n c : Nat} {l : List Int} (h : OI w base (.slice (some ⟨g, 0, none⟩) n c) l) (e : w'.heap[g]? = w.heap[g]?) (hs : w.heap.size ≤ w'.heap.size) : OI w' base (.slice (some ⟨g, 0, none⟩) n c) l := by
  refine ⟨h.1, ?_⟩
  rcases h.2 with ⟨h1, h2⟩ | ⟨g', cap, cur, he, hb, hg, hnc, hcm, hsz, ht⟩
  · cases h1
  · obtain ⟨e1, e2, e3⟩ := slice_inj he
    injection e1 with e1
    injection e1 with e1
    subst e1
    exact .inr ⟨g, cap, cur, he, hb, e.trans hg, hnc, hcm, hsz, ht⟩
theorem OI.lt1 {w : World} {base g n c : Nat} {l : List Int} (h : OI w base (.slice (some ⟨g, 0, none⟩) n c) l) : base ≤ g ∧ g < w.heap.size := h.lt g rfl
theorem RTr.same {w w' : World} {g n : Nat} {ts : List (Int × Int × Int)} (h : RTr w (some ⟨g, 0, none⟩) n ts) (e : w'.heap[g]? = w.heap[g]?) (hs : w.heap.size ≤ w'.heap.size) : RTr w' (some ⟨g, 0, none⟩) n ts := by
  obtain ⟨h1, g', h2, h3, h4⟩ := h
  injection h2 with h2
  injection h2 with h2
  subst h2
  refine ⟨h1, g, rfl, by omega, fun k hk => ?_⟩
  obtain ⟨a, b, c⟩ := h4 k hk
  exact ⟨(cell_same e).trans a, (cell_same e).trans b, (cell_same e).trans c⟩
theorem BK.same {w w' : World} {g : Nat} {T : TypeId} {cs : List Value} (h : BK w g T cs) (e : w'.heap[g]? = w.heap[g]?) : BK w' g T cs := e.trans h

/-- What a closure is asked that gathers whole puzzles. -/
structure Clos (P : Program) (F : FuncId) (caps : Array Value) (B0 n : Nat) (S : Type) (inv : World → S → (Nat → Prop) → Prop) (step : S → PZ → S) (go : S → PZ → Bool) (fit : S → Nat → Prop) (okp : PZ → Prop) : Prop where
  ent : ∀ (args : Array Value) (w : World), (callFunc F args).run P w = .ok (.enter F args) w
  ge : ∀ {w : World} {s : S} {O : Nat → Prop}, inv w s O → ∀ k, O k → B0 ≤ k ∧ k < w.heap.size
  keep : ∀ {w w' : World} {s : S} {O : Nat → Prop}, inv w s O → Kept (fun k => B0 ≤ k ∧ ¬ O k) w w' → inv w' s O
  next : ∀ {s : S} {p : PZ} {m : Nat}, fit s (m + 1) → go s p = true → fit (step s p) m
  less : ∀ {s : S} {m m' : Nat}, fit s m → m' ≤ m → fit s m'
  call : ∀ {w : World} {s : S} {O : Nat → Prop} {p : PZ} {m B : Nat} {A1 A2 A3 : Option Addr} {n1 n2 n3 c1 c2 c3 : Nat}, inv w s O → fit s (m + 1) → okp p → B0 ≤ B → B ≤ w.heap.size → (∀ k, O k → k < B) →
    Three w B (.slice A1 n1 c1) (.slice A2 n2 c2) (.slice A3 n3 c3) p.1 p.2.1 p.2.2 →
    Calls P F (#[.agg #[.int .i64 (n : Int), .slice A1 n1 c1, .slice A2 n2 c2, .slice A3 n3 c3]] ++ caps) w
      (fun e w' => e = .returned (.bool (go s p)) ∧ ∃ O' : Nat → Prop, inv w' (step s p) O' ∧ (∀ k, O' k → O k ∨ B ≤ k) ∧ Kept O w w')
theorem Clos.all {P : Program} {F : FuncId} {caps : Array Value} {B0 n : Nat} {S : Type} {inv : World → S → (Nat → Prop) → Prop} {step : S → PZ → S} {go : S → PZ → Bool} {fit : S → Nat → Prop} {okp : PZ → Prop} (C : Clos P F caps B0 n S inv step go fit okp) (m : Nat) :
    ∀ (l : List PZ) (s : S), fit s (l.length + m) → (seeAll step go s l).2 = true → fit (seeAll step go s l).1 m := by
  intro l
  induction l with
  | nil => intro s h _; simpa [seeAll] using h
  | cons p l ih =>
    intro s h h2
    rw [seeAll] at h2 ⊢
    by_cases hg : go s p = true
    · rw [if_pos hg] at h2 ⊢
      refine ih _ (C.next (by rw [List.length_cons] at h; rw [show l.length + m + 1 = l.length + 1 + m by omega]; exact h) hg) h2
    · rw [if_neg hg] at h2
      cases h2

/-- The arrays in which a puzzle is laid, and what else tile reads. -/
structure TS (wt : Bool) (w0 : World) (T : Nat) (gk nk gL gR gB : Nat) (O : Nat → Prop) (w : World) (L R B : List Int) : Prop where
  bel : Below w0.heap.size w0 w
  oL : OI w w0.heap.size (.slice (some ⟨gL, 0, none⟩) T T) L
  oR : OI w w0.heap.size (.slice (some ⟨gR, 0, none⟩) T T) R
  oB : OI w w0.heap.size (.slice (some ⟨gB, 0, none⟩) T T) B
  nLR : gL ≠ gR
  nLB : gL ≠ gB
  nRB : gR ≠ gB
  fL : ¬ O gL
  fR : ¬ O gR
  fB : ¬ O gB
  tr : RTr w (some ⟨gk, 0, none⟩) nk (trips wt)
  kge : w0.heap.size ≤ gk ∧ gk < w.heap.size
  kO : ¬ O gk
  kL : gk ≠ gL
  kR : gk ≠ gR
  kB : gk ≠ gB
section
variable {wt : Bool} {w0 w w' : World} {T gk nk gL gR gB : Nat} {O O' : Nat → Prop} {L R B : List Int}
theorem TS.keep (h : TS wt w0 T gk nk gL gR gB O w L R B) (b : Below w0.heap.size w0 w') (hk : Kept O w w') (hO : ∀ k, O' k → O k ∨ w.heap.size ≤ k) : TS wt w0 T gk nk gL gR gB O' w' L R B := by
  have key : ∀ g, g < w.heap.size → ¬ O g → w'.heap[g]? = w.heap[g]? ∧ ¬ O' g := fun g h1 h2 => ⟨hk.block g h1 h2, fun h3 => (hO g h3).elim h2 fun h4 => by omega⟩
  have k1 := key gL h.oL.lt1.2 h.fL
  have k2 := key gR h.oR.lt1.2 h.fR
  have k3 := key gB h.oB.lt1.2 h.fB
  have k4 := key gk h.kge.2 h.kO
  exact ⟨b, h.oL.sameB k1.1 hk.size, h.oR.sameB k2.1 hk.size, h.oB.sameB k3.1 hk.size, h.nLR, h.nLB, h.nRB, k1.2, k2.2, k3.2, h.tr.same k4.1 hk.size, ⟨h.kge.1, by have := hk.size; have := h.kge.2; omega⟩, k4.2, h.kL, h.kR, h.kB⟩
/-- The three labels of a place are laid. -/
theorem TS.lay (h : TS wt w0 T gk nk gL gR gB O w L R B) (m : Nat) (x y z : Int) :
    TS wt w0 T gk nk gL gR gB O (((w.setCell ⟨gL, m, none⟩ (.int .i64 x)).setCell ⟨gR, m, none⟩ (.int .i64 y)).setCell ⟨gB, m, none⟩ (.int .i64 z)) (L.set m x) (R.set m y) (B.set m z) := by
  have far : ∀ (w : World) (g g' : Nat) (u : Value), g' ≠ g → (w.setCell ⟨g, m, none⟩ u).heap[g']? = w.heap[g']? := fun w g g' u hne => Below.heap_setCell _ _ _ _ (by simpa using hne)
  have sz : ∀ (w : World) (g : Nat) (u : Value), w.heap.size ≤ (w.setCell ⟨g, m, none⟩ u).heap.size := fun w g u => by simp [World.setCell]
  have l1 := (h.oL.stored m x).1
  have r1 := (h.oR.sameB (far w gL gR (.int .i64 x) (Ne.symm h.nLR)) (sz _ _ _))
  have b1 := (h.oB.sameB (far w gL gB (.int .i64 x) (Ne.symm h.nLB)) (sz _ _ _))
  have l2 := l1.sameB (far _ gR gL (.int .i64 y) h.nLR) (sz _ _ _)
  have r2 := (r1.stored m y).1
  have b2 := b1.sameB (far _ gR gB (.int .i64 y) (Ne.symm h.nRB)) (sz _ _ _)
  have l3 := l2.sameB (far _ gB gL (.int .i64 z) h.nLB) (sz _ _ _)
  have r3 := r2.sameB (far _ gB gR (.int .i64 z) h.nRB) (sz _ _ _)
  have b3 := (b2.stored m z).1
  have t1 := h.tr.same (far w gL gk (.int .i64 x) h.kL) (sz _ _ _)
  have t2 := t1.same (far _ gR gk (.int .i64 y) h.kR) (sz _ _ _)
  have t3 := t2.same (far _ gB gk (.int .i64 z) h.kB) (sz _ _ _)
  exact ⟨((h.bel.setCell h.oL.lt1.1 _).setCell h.oR.lt1.1 _).setCell h.oB.lt1.1 _, l3, r3, b3, h.nLR, h.nLB, h.nRB, h.fL, h.fR, h.fB, t3, ⟨h.kge.1, by simpa [World.setCell] using h.kge.2⟩, h.kO, h.kL, h.kR, h.kB⟩
end
/-- What is laid of a puzzle. -/
def pz (L R B : List Int) (m : Nat) : PZ := (L.take m, R.take m, B.take m)
theorem take_set {l : List Int} {m : Nat} (h : m < l.length) (x : Int) : (l.set m x).take (m + 1) = l.take m ++ [x] := by
  rw [List.take_succ_eq_append_getElem (by simpa using h)]
  simp [List.take_set_of_le]
theorem pz_set {L R B : List Int} {m T : Nat} (hL : L.length = T) (hR : R.length = T) (hB : B.length = T) (h : m < T) (t : Int × Int × Int) : pz (L.set m t.1) (R.set m t.2.1) (B.set m t.2.2) (m + 1) = snoc (pz L R B m) t := by
  unfold pz snoc
  rw [take_set (by omega), take_set (by omega), take_set (by omega)]
theorem pz_same {L R B L' R' B' : List Int} {m T : Nat} (hL : L.length = T) (hR : R.length = T) (hB : B.length = T) (hL' : L'.length = T) (hR' : R'.length = T) (hB' : B'.length = T) (hm : m ≤ T)
    (h : ∀ j, j < m → nth L' j = nth L j ∧ nth R' j = nth R j ∧ nth B' j = nth B j) : pz L' R' B' m = pz L R B m := by
  have key : ∀ {a b : List Int}, a.length = T → b.length = T → (∀ j, j < m → nth a j = nth b j) → a.take m = b.take m := fun {a b} ha hb h => by
    refine ext_nth (by rw [List.length_take, List.length_take, ha, hb]) fun j hj => ?_
    rw [List.length_take] at hj
    rw [nth_take (by omega), nth_take (by omega)]
    exact h j (by omega)
  unfold pz
  rw [key hL' hL fun j hj => (h j hj).1, key hR' hR fun j hj => (h j hj).2.1, key hB' hB fun j hj => (h j hj).2.2]
/-- What tile leaves. -/
def TPost {S : Type} (inv : World → S → (Nat → Prop) → Prop) (wt : Bool) (w0 : World) (T gk nk gL gR gB : Nat) (O : Nat → Prop) (L R B : List Int) (m : Nat) (w : World) (res : S × Bool) : Ending → World → Prop := fun e w' =>
  e = .returned (.bool res.2) ∧ ∃ (O' : Nat → Prop) (L' R' B' : List Int), inv w' res.1 O' ∧ (∀ k, O' k → O k ∨ w.heap.size ≤ k) ∧ Kept (fun k => O k ∨ k = gL ∨ k = gR ∨ k = gB) w w' ∧
    TS wt w0 T gk nk gL gR gB O' w' L' R' B' ∧ ∀ j, j < m → nth L' j = nth L j ∧ nth R' j = nth R j ∧ nth B' j = nth B j
end Go.Proofs.Ytnljlophgolejaa
