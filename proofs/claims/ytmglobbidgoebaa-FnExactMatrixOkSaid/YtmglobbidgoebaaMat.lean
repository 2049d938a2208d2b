/- Matrices: made, sized, compared; MatrixOk of both sides. -/
import Derived.Test.YtmglobbidgoebaaFrame
import Derived.Test.YtmglobbidgoebaaShapes
import Derived.Lib.SmallJoins
namespace Go.Proofs.Ytmglobbidgoebaa
open Go.RowKit

/-- Block g holds these cells. -/
def BK (w : World) (g : Nat) (T : TypeId) (cs : List Value) : Prop := w.heap[g]? = some (.cells cs.toArray T (0, 0))
variable {w w' : World} {g h j : Nat} {T : TypeId} {cs : List Value} {u v : Value}
theorem BK.cell (hb : BK w g T cs) (hu : cs[j]? = some u) : w.cell? ⟨g, j, none⟩ = some u := by
  unfold BK at hb
  simp [World.cell?, hb, hu]
theorem BK.frozen (hb : BK w g T cs) : w.frozen? ⟨g, j, none⟩ = false := by
  unfold BK at hb
  simp [World.frozen?, hb]
theorem BK.lt (hb : BK w g T cs) : g < w.heap.size := by
  unfold BK at hb
  by_cases h : g < w.heap.size
  · exact h
  · rw [Array.getElem?_eq_none (by omega)] at hb; cases hb
theorem BK.below {B : Nat} (hb : BK w g T cs) (b : Below B w w') (hB : g < B) : BK w' g T cs := (b.block g hB).trans hb
theorem BK.new (w : World) (T : TypeId) (cs : List Value) : BK (w.alloc (.cells cs.toArray T)) w.heap.size T cs := heap_alloc_new w _
theorem BK.alloc (hb : BK w g T cs) (o : Obj) : BK (w.alloc o) g T cs := hb.below ((Below.refl w.heap.size w).alloc (Nat.le_refl _) o) hb.lt
theorem BK.set (hb : BK w g T cs) (j : Nat) (v : Value) : BK (w.setCell ⟨g, j, none⟩ v) g T (cs.set j v) := by
  unfold BK at hb ⊢
  simp [World.setCell, Array.getElem?_modify, hb]
theorem BK.far (hb : BK w g T cs) (hne : h ≠ g) (j : Nat) (v : Value) : BK (w.setCell ⟨h, j, none⟩ v) g T cs := by
  unfold BK at hb ⊢
  simp [World.setCell, Array.getElem?_modify, hb, hne]
theorem BK.four {a b c d : Value} (K : BK w g T [a, b, c, d]) : w.cell? ⟨g, 0, none⟩ = some a ∧ w.cell? ⟨g, 1, none⟩ = some b ∧ w.cell? ⟨g, 2, none⟩ = some c ∧ w.cell? ⟨g, 3, none⟩ = some d :=
  ⟨K.cell (j := 0) rfl, K.cell (j := 1) rfl, K.cell (j := 2) rfl, K.cell (j := 3) rfl⟩
theorem OI.far {w : World} {base : Nat} {v : Value} {l : List Int} (h : OI w base v l) (g j : Nat) (u : Value) (hg : g < base) : OI (w.setCell ⟨g, j, none⟩ u) base v l := by
  refine h.kept (row := some g) ⟨rfl, rfl, rfl, by simp, fun k _ hk => ?_⟩ ?_
  · have : g ≠ k := fun e => hk (by rw [e])
    simp [World.setCell, Array.getElem?_modify, this]
  · rcases hv : v.ownBlock with _ | k
    · exact .inl rfl
    · refine .inr fun e => ?_
      have := (h.lt k hv).1
      obtain rfl := Option.some.inj e
      omega

/-- What a function leaves that returns a new matrix. -/
def MakesM (w : World) (P Rw C : Int) (D : List Int) : Ending → World → Prop := fun e w' =>
  ∃ A n c, e = .returned (.agg #[.int .i64 P, .int .i64 Rw, .int .i64 C, .slice A n c]) ∧ RI w' A n D ∧ Below w.heap.size w w'

set_option maxHeartbeats 1000000 in
theorem toM_any {A : Option Addr} {n : Nat} {D : List Int} {w : World} (c : Nat) (P Rw C : Int) (hD : RI w A n D) (hn : n ≤ 1000000000) :
    Calls Try.prog 27 #[.agg #[.int .i64 P, .int .i64 Rw, .int .i64 C, .slice A n c]] w (MakesM w P Rw C D) := by
  go_enter Try.func27, Try.ntmps27
  go_wp2_with fail
  obtain ⟨w0, ew0⟩ : ∃ w0 : World, w0 = (((w.alloc (Obj.cells #[Value.int IntKind.i64 P, Value.int IntKind.i64 Rw, Value.int IntKind.i64 C, Value.slice A n c] 29)).alloc
          (Obj.cells #[Value.int IntKind.i64 0, Value.int IntKind.i64 0, Value.int IntKind.i64 0, Value.slice none 0 0] 32)).alloc
      (Obj.cells #[Value.int IntKind.i64 P, Value.int IntKind.i64 Rw, Value.int IntKind.i64 C, Value.slice none 0 0] 32)) := ⟨_, rfl⟩
  have b0 : Below w.heap.size w w0 := by
    subst ew0
    exact (((Below.refl _ _).alloc (Nat.le_refl _) _).alloc (by simp) _).alloc (by simp; omega) _
  have ky : BK w0 (w.heap.size + 1) 32 [Value.int IntKind.i64 0, Value.int IntKind.i64 0, Value.int IntKind.i64 0, Value.slice none 0 0] := by
    subst ew0
    have := (BK.new (w.alloc (Obj.cells #[Value.int IntKind.i64 P, Value.int IntKind.i64 Rw, Value.int IntKind.i64 C, Value.slice A n c] 29)) 32 [Value.int IntKind.i64 0, Value.int IntKind.i64 0, Value.int IntKind.i64 0, Value.slice none 0 0]).alloc (Obj.cells #[Value.int IntKind.i64 P, Value.int IntKind.i64 Rw, Value.int IntKind.i64 C, Value.slice none 0 0] 32)
    simpa using this
  have kg : BK w0 (w.heap.size + 1 + 1) 32 [Value.int IntKind.i64 P, Value.int IntKind.i64 Rw, Value.int IntKind.i64 C, Value.slice none 0 0] := by
    subst ew0
    have := BK.new ((w.alloc (Obj.cells #[Value.int IntKind.i64 P, Value.int IntKind.i64 Rw, Value.int IntKind.i64 C, Value.slice A n c] 29)).alloc (Obj.cells #[Value.int IntKind.i64 0, Value.int IntKind.i64 0, Value.int IntKind.i64 0, Value.slice none 0 0] 32)) 32 [Value.int IntKind.i64 P, Value.int IntKind.i64 Rw, Value.int IntKind.i64 C, Value.slice none 0 0]
    simpa using this
  rw [← ew0]
  clear ew0
  obtain ⟨g, hg⟩ : ∃ g, g = w.heap.size + 1 + 1 := ⟨_, rfl⟩
  obtain ⟨y, hy⟩ : ∃ g, g = w.heap.size + 1 := ⟨_, rfl⟩
  obtain ⟨bx, hbx⟩ : ∃ g, g = w.heap.size := ⟨_, rfl⟩
  have HN : Hid (g ≠ y ∧ w.heap.size ≤ g ∧ w.heap.size ≤ y) := by show g ≠ y ∧ w.heap.size ≤ g ∧ w.heap.size ≤ y; omega
  rw [← hg] at kg ⊢
  rw [← hy] at ky ⊢
  rw [← hbx]
  have hne := HN.out.1
  clear hg hy hbx
  have ky := Lib.hid ky
  have kg := Lib.hid kg
  refine (toI_any _ (hD.below b0) hn).mono ?_
  rintro e w1 ⟨B1, p1, d1, rfl, o1, r1, ⟨cp1, le1⟩, b1⟩
  have ky1 := Lib.hid (ky.out.below b1 ky.out.lt)
  have kg1 := Lib.hid (kg.out.below b1 kg.out.lt)
  have hy0 := Lib.hid ky.out.lt
  have hg0 := Lib.hid kg.out.lt
  have z0 := kg1.out.cell (j := 0) rfl
  have z1 := kg1.out.cell (j := 1) rfl
  have z2 := kg1.out.cell (j := 2) rfl
  have z3 := kg1.out.cell (j := 3) rfl
  have zf := kg1.out.frozen (j := 3)
  have y0 := ky1.out.cell (j := 0) rfl
  have y1 := ky1.out.cell (j := 1) rfl
  have y2 := ky1.out.cell (j := 2) rfl
  have y3 := ky1.out.cell (j := 3) rfl
  have f0 := ky1.out.frozen (j := 0)
  have f1 := ky1.out.frozen (j := 1)
  have f2 := ky1.out.frozen (j := 2)
  have f3 := ky1.out.frozen (j := 3)
  go_wp2_with fail
  have bb1 : Below w.heap.size w w1 := b0.trans (b1.mono b0.size)
  have bf := ((((bb1.setCell (p := ⟨g, 3, none⟩) (show _ ≤ g from HN.out.2.1) (.slice B1 p1 d1)).setCell (p := ⟨y, 0, none⟩) (show _ ≤ y from HN.out.2.2) (Value.int IntKind.i64 P)).setCell (p := ⟨y, 1, none⟩) (show _ ≤ y from HN.out.2.2) (Value.int IntKind.i64 Rw)).setCell (p := ⟨y, 2, none⟩) (show _ ≤ y from HN.out.2.2) (Value.int IntKind.i64 C)).setCell (p := ⟨y, 3, none⟩) (show _ ≤ y from HN.out.2.2) (Value.slice B1 p1 d1)
  have kf := (((((ky1.out).far HN.out.1 3 (.slice B1 p1 d1)).set 0 (Value.int IntKind.i64 P)).set 1 (Value.int IntKind.i64 Rw)).set 2 (Value.int IntKind.i64 C)).set 3 (Value.slice B1 p1 d1)
  have u1 := ((((o1.far g 3 (.slice B1 p1 d1) hg0.out).far y 0 (Value.int IntKind.i64 P) hy0.out).far y 1 (Value.int IntKind.i64 Rw) hy0.out).far y 2 (Value.int IntKind.i64 C) hy0.out).far y 3 (Value.slice B1 p1 d1) hy0.out
  obtain ⟨wf, ef⟩ : ∃ wf, wf = (((((w1.setCell { block := g, off := 3 } (Value.slice B1 p1 d1)).setCell { block := y, off := 0 } (Value.int IntKind.i64 P)).setCell { block := y, off := 1 } (Value.int IntKind.i64 Rw)).setCell
      { block := y, off := 2 } (Value.int IntKind.i64 C)).setCell { block := y, off := 3 } (Value.slice B1 p1 d1)) := ⟨_, rfl⟩
  rw [← ef] at kf u1 bf ⊢
  obtain ⟨x0, x1, x2, x3⟩ := BK.four kf
  clear z0 z1 z2 z3 zf y0 y1 y2 y3 f0 f1 f2 f3 ef
  refine bodyPost_ret (v := .agg #[.int .i64 P, .int .i64 Rw, .int .i64 C, .slice B1 p1 d1]) (by simp [results, Try.results27, go_sem, x0, x1, x2, x3]) rfl ?_
  exact ⟨B1, p1, d1, rfl, u1.ri, bf⟩

set_option maxHeartbeats 1000000 in
theorem eqM_any {A B : Option Addr} {n m : Nat} {D : List Int} {w : World} (c d : Nat) (P Rw C : Int) (h1 : RI w A n D) (h2 : RI w B m D) (hn : n ≤ 9223372036854775807) :
    Calls Try.prog 29 #[.agg #[.int .i64 P, .int .i64 Rw, .int .i64 C, .slice A n c], .agg #[.int .i64 P, .int .i64 Rw, .int .i64 C, .slice B m d]] w (GivesB w (.bool true)) := by
  obtain rfl : n = m := h1.1.symm.trans h2.1
  go_enter Try.func29, Try.ntmps29
  go_wp2_with fail
  refine (eqI_any true _ _ ((h1.alloc _).alloc _) ((h2.alloc _).alloc _) (by simp) hn hn).mono ?_
  rintro e w1 ⟨rfl, q, rfl⟩
  go_wp2
  go_ret
  exact ⟨rfl, below_drewN (((Below.refl _ _).alloc (Nat.le_refl _) _).alloc (by simp) _) _⟩

theorem szM_any {A : Option Addr} {n : Nat} {w : World} (c : Nat) (P Rw C : Int) (h1 : n ≤ 9223372036854775807) :
    Calls Try.prog 25 #[.agg #[.int .i64 P, .int .i64 Rw, .int .i64 C, .slice A n c], .int .i64 1048576] w (fun e w' => (e = .returned (.int .i64 (-1)) ∨ (e = .returned (.int .i64 (1048576 - n)) ∧ n ≤ 1048576)) ∧ Below w.heap.size w w') := by
  have bx := (Below.refl w.heap.size w).alloc (Nat.le_refl _) (.cells #[Value.int IntKind.i64 P, Value.int IntKind.i64 Rw, Value.int IntKind.i64 C, Value.slice A n c] 29)
  go_enter Try.func25, Try.ntmps25
  by_cases k1 : 1048576 < n
  · go_wp2
    go_ret
    exact ⟨.inl rfl, bx⟩
  · go_wp2
    go_ret
    exact ⟨.inr ⟨rfl, by omega⟩, bx⟩

theorem Try.cellsM : Try.prog.cellsOf 29 = 4 := by kernel_rfl
set_option maxRecDepth 100000 in
/-- A matrix among a law's arguments. -/
theorem open_M {H : Type} {enc : TypeId × Value → H} {W : World} {r : Reach} {b0 base : Nat} {sp : Nat → Bool} {hd : Bool} {v : Value} {d : DataW H} {p : List MemPlace}
    (hv : Value.okWide Try.prog W r b0 29 v) (h : DataW.Trod enc Try.prog W base sp hd 29 v d p) :
    ∃ P Rw C A n c D, v = .agg #[.int .i64 P, .int .i64 Rw, .int .i64 C, .slice A n c] ∧ RI W A n D ∧ n ≤ 9223372036854775807 := by
  obtain ⟨v0, v1, v2, v3, y0, y1, y2, y3, n, rfl, -, -, h0, h1, h2, h3⟩ := Joins.open_agg4 Try.underlying29 (by kernel_rfl) Try.cellsM hv h
  obtain ⟨P, e0, -⟩ := DataW.trod_int Try.underlying3 h0
  obtain ⟨Rw, e1, -⟩ := DataW.trod_int Try.underlying3 h1
  obtain ⟨C, e2, -⟩ := DataW.trod_int Try.underlying3 h2
  obtain ⟨A3, n3, c3, e3⟩ := Joins.slice_form Try.underlying22 h3
  obtain rfl := List.head_eq_of_cons_eq e0
  obtain rfl := List.head_eq_of_cons_eq e1
  obtain rfl := List.head_eq_of_cons_eq e2
  obtain rfl := List.head_eq_of_cons_eq e3
  obtain ⟨D, x3, z3⟩ := open_RI ⟨n, by simpa [Value.cells] using h3⟩
  exact ⟨P, Rw, C, A3, n3, c3, D, rfl, x3, z3⟩

/-- Is it a matrix? -/
def prB (P : Int) : Bool := decide (P = 2) || (decide (P = 3) || (decide (P = 5) || decide (P = 7)))
def mtB (P Rw C : Int) (D : List Int) : Bool := prB P && (inB Rw 0 7 && (inB C 1 7 && (decide ((D.length : Int) = Rw * C) && allB (fun j => inB (nth D j) 0 (P - 1)) D.length)))
theorem prB_iff {P : Int} : prB P = true ↔ P = 2 ∨ P = 3 ∨ P = 5 ∨ P = 7 := by simp [prB]
theorem mtB_no1 {P Rw C : Int} {D : List Int} (h : prB P = false) : mtB P Rw C D = false := by simp [mtB, h]
theorem mtB_no2 {P Rw C : Int} {D : List Int} (h : inB Rw 0 7 = false) : mtB P Rw C D = false := by simp [mtB, h]
theorem mtB_no3 {P Rw C : Int} {D : List Int} (h : inB C 1 7 = false) : mtB P Rw C D = false := by simp [mtB, h]
theorem mtB_no4 {P Rw C : Int} {D : List Int} {n : Nat} (hn : D.length = n) (h : ¬ (n : Int) = Rw * C) : mtB P Rw C D = false := by subst hn; simp [mtB, h]
theorem mtB_no5 {P Rw C : Int} {D : List Int} {n k : Nat} (hn : D.length = n) (hk : k < n) (h : inB (nth D k) 0 (P - 1) = false) : mtB P Rw C D = false := by
  subst hn
  simp [mtB, allB_no (p := fun j => inB (nth D j) 0 (P - 1)) hk h]
theorem mtB_yes {P Rw C : Int} {D : List Int} {n : Nat} (h1 : prB P = true) (h2 : inB Rw 0 7 = true) (h3 : inB C 1 7 = true) (hn : D.length = n) (h4 : (n : Int) = Rw * C) (h5 : ∀ j, j < n → inB (nth D j) 0 (P - 1) = true) : mtB P Rw C D = true := by
  subst hn
  simp [mtB, h1, h2, h3, h4, allB_yes (p := fun j => inB (nth D j) 0 (P - 1)) h5]
end Go.Proofs.Ytmglobbidgoebaa
