/- The frame of puzzles: made, sized, compared, marked, held. -/
import Derived.Test.YtemafljipkcgcaaCells
import Derived.Test.YtemafljipkcgcaaFrame
import Derived.Lib.SmallJoins
namespace Go.Proofs.Ytemafljipkcgcaa
open Go.RowKit

/-- Three slices in blocks of their own. -/
def Three (w : World) (base : Nat) (v1 v2 v3 : Value) (L R B : List Int) : Prop :=
  OI w base v1 L ∧ OI w base v2 R ∧ OI w base v3 B ∧ (v1.ownBlock = none ∨ v1.ownBlock ≠ v2.ownBlock) ∧ (v1.ownBlock = none ∨ v1.ownBlock ≠ v3.ownBlock) ∧ (v2.ownBlock = none ∨ v2.ownBlock ≠ v3.ownBlock)

theorem OI.far {w : World} {base : Nat} {v : Value} {l : List Int} (h : OI w base v l) (g j : Nat) (u : Value) (hg : g < base) : OI (w.setCell ⟨g, j, none⟩ u) base v l := by
  refine h.kept (row := some g) ⟨rfl, rfl, rfl, by simp, fun k _ hk => ?_⟩ ?_
  · have : g ≠ k := fun e => hk (by rw [e])
    simp [World.setCell, Array.getElem?_modify, this]
  · rcases hv : v.ownBlock with _ | k
    · exact .inl rfl
    · refine .inr fun e => ?_
      have := (h.lt k hv).1
      obtain rfl := Option.some.inj e
      omega

/-- What a function leaves that returns a new puzzle. -/
def MakesPz (w : World) (S : Int) (L R B : List Int) : Ending → World → Prop := fun e w' =>
  ∃ A1 n1 c1 A2 n2 c2 A3 n3 c3, e = .returned (.agg #[.int .i64 S, .slice A1 n1 c1, .slice A2 n2 c2, .slice A3 n3 c3]) ∧ Three w' w.heap.size (.slice A1 n1 c1) (.slice A2 n2 c2) (.slice A3 n3 c3) L R B ∧
    RI w' A1 n1 L ∧ RI w' A2 n2 R ∧ RI w' A3 n3 B ∧ n1 ≤ 1000000000000 ∧ n2 ≤ 1000000000000 ∧ n3 ≤ 1000000000000 ∧ Below w.heap.size w w'

set_option maxHeartbeats 1000000 in
theorem toPz_any {A1 A2 A3 : Option Addr} {n1 n2 n3 : Nat} {L R B : List Int} {w : World} (c1 c2 c3 : Nat) (S : Int) (h1 : RI w A1 n1 L) (h2 : RI w A2 n2 R) (h3 : RI w A3 n3 B)
    (m1 : n1 ≤ 1000000000) (m2 : n2 ≤ 1000000000) (m3 : n3 ≤ 1000000000) :
    Calls Try.prog 17 #[.agg #[.int .i64 S, .slice A1 n1 c1, .slice A2 n2 c2, .slice A3 n3 c3]] w (MakesPz w S L R B) := by
  go_enter Try.func17, Try.ntmps17
  go_wp2_with fail
  obtain ⟨w0, ew0⟩ : ∃ w0 : World, w0 = (((w.alloc (Obj.cells #[Value.int IntKind.i64 S, Value.slice A1 n1 c1, Value.slice A2 n2 c2, Value.slice A3 n3 c3] 24)).alloc
          (Obj.cells #[Value.int IntKind.i64 0, Value.slice none 0 0, Value.slice none 0 0, Value.slice none 0 0] 27)).alloc
      (Obj.cells #[Value.int IntKind.i64 S, Value.slice none 0 0, Value.slice none 0 0, Value.slice none 0 0] 27)) := ⟨_, rfl⟩
  have b0 : Below w.heap.size w w0 := by
    subst ew0
    exact (((Below.refl _ _).alloc (Nat.le_refl _) _).alloc (by simp) _).alloc (by simp; omega) _
  have sz0 : w0.heap.size = w.heap.size + 1 + 1 + 1 := by subst ew0; simp
  have kx : BK w0 w.heap.size 24 [Value.int IntKind.i64 S, Value.slice A1 n1 c1, Value.slice A2 n2 c2, Value.slice A3 n3 c3] := by
    subst ew0
    exact ((BK.new w _ _).alloc _).alloc _
  have ky : BK w0 (w.heap.size + 1) 27 [Value.int IntKind.i64 0, Value.slice none 0 0, Value.slice none 0 0, Value.slice none 0 0] := by
    subst ew0
    have := (BK.new (w.alloc (Obj.cells #[Value.int IntKind.i64 S, Value.slice A1 n1 c1, Value.slice A2 n2 c2, Value.slice A3 n3 c3] 24)) 27 [Value.int IntKind.i64 0, Value.slice none 0 0, Value.slice none 0 0, Value.slice none 0 0]).alloc (Obj.cells #[Value.int IntKind.i64 S, Value.slice none 0 0, Value.slice none 0 0, Value.slice none 0 0] 27)
    simpa using this
  have kg : BK w0 (w.heap.size + 1 + 1) 27 [Value.int IntKind.i64 S, Value.slice none 0 0, Value.slice none 0 0, Value.slice none 0 0] := by
    subst ew0
    have := BK.new ((w.alloc (Obj.cells #[Value.int IntKind.i64 S, Value.slice A1 n1 c1, Value.slice A2 n2 c2, Value.slice A3 n3 c3] 24)).alloc (Obj.cells #[Value.int IntKind.i64 0, Value.slice none 0 0, Value.slice none 0 0, Value.slice none 0 0] 27)) 27 [Value.int IntKind.i64 S, Value.slice none 0 0, Value.slice none 0 0, Value.slice none 0 0]
    simpa using this
  rw [← ew0]
  clear ew0
  obtain ⟨g, hg⟩ : ∃ g, g = w.heap.size + 1 + 1 := ⟨_, rfl⟩
  obtain ⟨y, hy⟩ : ∃ g, g = w.heap.size + 1 := ⟨_, rfl⟩
  obtain ⟨bx, hbx⟩ : ∃ g, g = w.heap.size := ⟨_, rfl⟩
  have HN : Hid (g ≠ bx ∧ g ≠ y ∧ y ≠ bx ∧ bx = w.heap.size ∧ g < w0.heap.size ∧ y < w0.heap.size ∧ bx < w0.heap.size ∧ w.heap.size ≤ g ∧ w.heap.size ≤ y) := ⟨by omega, by omega, by omega, hbx, by omega, by omega, by omega, by omega, by omega⟩
  rw [← hg] at kg ⊢
  rw [← hy] at ky ⊢
  rw [← hbx] at kx ⊢
  have hne := HN.out.1
  have hne2 := HN.out.2.1
  clear sz0 hg hy hbx
  have kx := Lib.hid kx
  have ky := Lib.hid ky
  have kg := Lib.hid kg
  refine (toI_any _ (h1.below b0) m1).mono ?_
  rintro e w1 ⟨B1, p1, d1, rfl, o1, r1, ⟨cp1, le1⟩, b1⟩
  have kx1 := Lib.hid (kx.out.below b1 HN.out.2.2.2.2.2.2.1)
  have ky1 := Lib.hid (ky.out.below b1 HN.out.2.2.2.2.2.1)
  have kg1 := Lib.hid (kg.out.below b1 HN.out.2.2.2.2.1)
  have q1 := kg1.out.cell (j := 1) rfl
  have q2 := kg1.out.frozen (j := 1)
  have q3 := kx1.out.cell (j := 2) rfl
  go_wp2_with fail
  have bb1 : Below w.heap.size w w1 := b0.trans (b1.mono b0.size)
  have ss1 := b1.size
  obtain ⟨wa1, ea1⟩ : ∃ wa : World, wa = w1.setCell ⟨g, 1, none⟩ (.slice B1 p1 d1) := ⟨_, rfl⟩
  have ba1 : Below w.heap.size w wa1 := by rw [ea1]; exact (bb1).setCell (show w.heap.size ≤ g from HN.out.2.2.2.2.2.2.2.1) _
  have sa1 : wa1.heap.size = w1.heap.size := by rw [ea1]; simp
  have kxa1 := Lib.hid (show BK wa1 bx _ _ by rw [ea1]; exact kx1.out.far HN.out.1 _ _)
  have kya1 := Lib.hid (show BK wa1 y _ _ by rw [ea1]; exact ky1.out.far HN.out.2.1 _ _)
  have kga1 := Lib.hid (show BK wa1 g _ _ by rw [ea1]; exact kg1.out.set _ _)
  have oa1 : OI wa1 w0.heap.size (.slice B1 p1 d1) L := by rw [ea1]; exact o1.far g 1 _ HN.out.2.2.2.2.1
  rw [← ea1]
  clear ea1 q1 q2 q3
  refine (toI_any _ (h2.below ba1) m2).mono ?_
  rintro e w2 ⟨B2, p2, d2, rfl, o2, r2, ⟨cp2, le2⟩, b2⟩
  have hgs1 : g < wa1.heap.size := kga1.out.lt
  have kx2 := Lib.hid (kxa1.out.below b2 kxa1.out.lt)
  have ky2 := Lib.hid (kya1.out.below b2 kya1.out.lt)
  have kg2 := Lib.hid (kga1.out.below b2 kga1.out.lt)
  have q1 := kg2.out.cell (j := 2) rfl
  have q2 := kg2.out.frozen (j := 2)
  have q3 := kx2.out.cell (j := 3) rfl
  clear hgs1
  have HS1 := Lib.hid sa1
  clear sa1
  go_wp2_with fail
  have ss2 := b2.size
  have bb2 : Below w.heap.size w w2 := ba1.trans (b2.mono ba1.size)
  obtain ⟨wa2, ea2⟩ : ∃ wa : World, wa = w2.setCell ⟨g, 2, none⟩ (.slice B2 p2 d2) := ⟨_, rfl⟩
  have ba2 : Below w.heap.size w wa2 := by rw [ea2]; exact (bb2).setCell (show w.heap.size ≤ g from HN.out.2.2.2.2.2.2.2.1) _
  have sa2 : wa2.heap.size = w2.heap.size := by rw [ea2]; simp
  have kxa2 := Lib.hid (show BK wa2 bx _ _ by rw [ea2]; exact kx2.out.far HN.out.1 _ _)
  have kya2 := Lib.hid (show BK wa2 y _ _ by rw [ea2]; exact ky2.out.far HN.out.2.1 _ _)
  have kga2 := Lib.hid (show BK wa2 g _ _ by rw [ea2]; exact kg2.out.set _ _)
  have oa12 : OI wa2 w0.heap.size (.slice B1 p1 d1) L := by rw [ea2]; exact (oa1.below b2).far g 2 _ HN.out.2.2.2.2.1
  have oa2 : OI wa2 wa1.heap.size (.slice B2 p2 d2) R := by rw [ea2]; exact o2.far g 2 _ kga1.out.lt
  rw [← ea2]
  clear ea2 q1 q2 q3
  refine (toI_any _ (h3.below ba2) m3).mono ?_
  rintro e w3 ⟨B3, p3, d3, rfl, o3, r3, ⟨cp3, le3⟩, b3⟩
  have ky3 := Lib.hid (kya2.out.below b3 kya2.out.lt)
  have kg3 := Lib.hid (kga2.out.below b3 kga2.out.lt)
  have q1 := kg3.out.cell (j := 3) rfl
  have q2 := kg3.out.frozen (j := 3)
  have q4 := kg3.out.cell (j := 0) rfl
  have q5 := kg3.out.cell (j := 1) rfl
  have q6 := kg3.out.cell (j := 2) rfl
  have q7 := ky3.out.cell (j := 0) rfl
  have q8 := ky3.out.cell (j := 1) rfl
  have q9 := ky3.out.cell (j := 2) rfl
  have q10 := ky3.out.cell (j := 3) rfl
  have f7 := ky3.out.frozen (j := 0)
  have f8 := ky3.out.frozen (j := 1)
  have f9 := ky3.out.frozen (j := 2)
  have f10 := ky3.out.frozen (j := 3)
  have HS2 := Lib.hid sa2
  have HSS2 := Lib.hid ss2
  have HSS1 := Lib.hid ss1
  clear sa2 ss1 ss2
  go_wp2_with fail
  have bb3 : Below w.heap.size w w3 := ba2.trans (b3.mono ba2.size)
  have l0 := b0.size
  obtain ⟨x1, x2, x3, x4, x5, x6, x7, x8, x9⟩ := HN.out
  have t1 := HS1.out
  have t2 := HS2.out
  have t3 := HSS2.out
  have t4 := HSS1.out
  have far : ∀ (base : Nat) (v : Value) (l : List Int), w0.heap.size ≤ base → OI w3 base v l → OI (((((w3.setCell { block := g, off := 3 } (Value.slice B3 p3 d3)).setCell { block := y, off := 0 } (Value.int IntKind.i64 S)).setCell { block := y, off := 1 } (Value.slice B1 p1 d1)).setCell
      { block := y, off := 2 } (Value.slice B2 p2 d2)).setCell { block := y, off := 3 } (Value.slice B3 p3 d3)) base v l := fun base v l hb o =>
    ((((o.far g 3 _ (by omega)).far y 0 _ (by omega)).far y 1 _ (by omega)).far y 2 _ (by omega)).far y 3 _ (by omega)
  have u1 := far _ _ _ (Nat.le_refl _) (oa12.below b3)
  have u2 := far _ _ _ (by omega) (oa2.below b3)
  have u3 := far _ _ _ (by omega) o3
  have bf := ((((bb3.setCell (p := ⟨g, 3, none⟩) (show _ ≤ g from x8) (.slice B3 p3 d3)).setCell (p := ⟨y, 0, none⟩) (show _ ≤ y from x9) (Value.int IntKind.i64 S)).setCell (p := ⟨y, 1, none⟩) (show _ ≤ y from x9) (Value.slice B1 p1 d1)).setCell (p := ⟨y, 2, none⟩) (show _ ≤ y from x9) (Value.slice B2 p2 d2)).setCell (p := ⟨y, 3, none⟩) (show _ ≤ y from x9) (Value.slice B3 p3 d3)
  have kf := (((((ky3.out).far x2 3 (.slice B3 p3 d3)).set 0 (Value.int IntKind.i64 S)).set 1 (Value.slice B1 p1 d1)).set 2 (Value.slice B2 p2 d2)).set 3 (Value.slice B3 p3 d3)
  obtain ⟨wf, ef⟩ : ∃ wf, wf = (((((w3.setCell { block := g, off := 3 } (Value.slice B3 p3 d3)).setCell { block := y, off := 0 } (Value.int IntKind.i64 S)).setCell { block := y, off := 1 } (Value.slice B1 p1 d1)).setCell
      { block := y, off := 2 } (Value.slice B2 p2 d2)).setCell { block := y, off := 3 } (Value.slice B3 p3 d3)) := ⟨_, rfl⟩
  rw [← ef] at kf u1 u2 u3 bf ⊢
  have z0 := kf.cell (j := 0) rfl
  have z1 := kf.cell (j := 1) rfl
  have z2 := kf.cell (j := 2) rfl
  have z3 := kf.cell (j := 3) rfl
  clear far q1 q2 q4 q5 q6 q7 q8 q9 q10 f7 f8 f9 f10 ef
  refine bodyPost_ret (v := .agg #[.int .i64 S, .slice B1 p1 d1, .slice B2 p2 d2, .slice B3 p3 d3]) (by simp [results, Try.results17, go_sem, z0, z1, z2, z3]) rfl ?_
  exact ⟨B1, p1, d1, B2, p2, d2, B3, p3, d3, rfl, ⟨u1.mono l0, u2.mono (by omega), u3.mono (by omega), apart oa1 u2 (by omega), apart oa12 u3 (by omega), apart oa2 u3 (by omega)⟩, u1.ri, u2.ri, u3.ri, le1, le2, le3, bf⟩

theorem szPz_any {A1 A2 A3 : Option Addr} {n1 n2 n3 : Nat} {w : World} (c1 c2 c3 : Nat) (S : Int) (h1 : n1 ≤ 9223372036854775807) (h2 : n2 ≤ 9223372036854775807) (h3 : n3 ≤ 9223372036854775807) :
    Calls Try.prog 15 #[.agg #[.int .i64 S, .slice A1 n1 c1, .slice A2 n2 c2, .slice A3 n3 c3], .int .i64 1048576] w (fun e w' => (e = .returned (.int .i64 (-1)) ∨ (e = .returned (.int .i64 (1048576 - n1 - n2 - n3)) ∧ n1 + n2 + n3 ≤ 1048576)) ∧ Below w.heap.size w w') := by
  have bx := (Below.refl w.heap.size w).alloc (Nat.le_refl _) (.cells #[Value.int IntKind.i64 S, Value.slice A1 n1 c1, Value.slice A2 n2 c2, Value.slice A3 n3 c3] 24)
  go_enter Try.func15, Try.ntmps15
  by_cases k1 : 1048576 < n1
  · go_wp2
    go_ret
    exact ⟨.inl rfl, bx⟩
  by_cases k2 : 1048576 < n1 + n2
  · go_wp2
    go_ret
    exact ⟨.inl rfl, bx⟩
  by_cases k3 : 1048576 < n1 + n2 + n3
  · go_wp2
    go_ret
    exact ⟨.inl rfl, bx⟩
  · go_wp2
    go_ret
    exact ⟨.inr ⟨rfl, by omega⟩, bx⟩

set_option maxHeartbeats 1000000 in
theorem eqPz_any {A1 A2 A3 C1 C2 C3 : Option Addr} {n1 n2 n3 m1 m2 m3 : Nat} {L R B : List Int} {w : World} (c1 c2 c3 d1 d2 d3 : Nat) (S : Int) (h1 : RI w A1 n1 L) (h2 : RI w A2 n2 R) (h3 : RI w A3 n3 B)
    (k1 : RI w C1 m1 L) (k2 : RI w C2 m2 R) (k3 : RI w C3 m3 B) (b1 : n1 ≤ 9223372036854775807) (b2 : n2 ≤ 9223372036854775807) (b3 : n3 ≤ 9223372036854775807) :
    Calls Try.prog 19 #[.agg #[.int .i64 S, .slice A1 n1 c1, .slice A2 n2 c2, .slice A3 n3 c3], .agg #[.int .i64 S, .slice C1 m1 d1, .slice C2 m2 d2, .slice C3 m3 d3]] w (GivesB w (.bool true)) := by
  obtain rfl : n1 = m1 := h1.1.symm.trans k1.1
  obtain rfl : n2 = m2 := h2.1.symm.trans k2.1
  obtain rfl : n3 = m3 := h3.1.symm.trans k3.1
  go_enter Try.func19, Try.ntmps19
  go_wp2_with fail
  refine (eqI_any true _ _ ((h1.alloc _).alloc _) ((k1.alloc _).alloc _) (by simp) b1 b1).mono ?_
  rintro e w1 ⟨rfl, q, rfl⟩
  go_wp2_with fail
  refine (eqI_any true _ _ (((h2.alloc _).alloc _).drewN _) (((k2.alloc _).alloc _).drewN _) (by simp) b2 b2).mono ?_
  rintro e w1 ⟨rfl, q, rfl⟩
  go_wp2_with fail
  refine (eqI_any true _ _ (((h3.alloc _).alloc _).drewN _) (((k3.alloc _).alloc _).drewN _) (by simp) b3 b3).mono ?_
  rintro e w1 ⟨rfl, q, rfl⟩
  go_wp2
  go_ret
  exact ⟨rfl, by first | exact below_drewN (((Below.refl _ _).alloc (Nat.le_refl _) _).alloc (by simp) _) _ | (simp only [World.drewN_drewN]; exact below_drewN (((Below.refl _ _).alloc (Nat.le_refl _) _).alloc (by simp) _) _)⟩

theorem Try.cellsPz : Try.prog.cellsOf 24 = 4 := by kernel_rfl
set_option maxRecDepth 100000 in
/-- A puzzle among a law's arguments. -/
theorem open_Pz {H : Type} {enc : TypeId × Value → H} {W : World} {r : Reach} {b0 base : Nat} {sp : Nat → Bool} {hd : Bool} {v : Value} {d : DataW H} {p : List MemPlace}
    (hv : Value.okWide Try.prog W r b0 24 v) (h : DataW.Trod enc Try.prog W base sp hd 24 v d p) :
    ∃ S A1 n1 c1 A2 n2 c2 A3 n3 c3 L R B, v = .agg #[.int .i64 S, .slice A1 n1 c1, .slice A2 n2 c2, .slice A3 n3 c3] ∧ RI W A1 n1 L ∧ RI W A2 n2 R ∧ RI W A3 n3 B ∧ n1 ≤ 9223372036854775807 ∧ n2 ≤ 9223372036854775807 ∧ n3 ≤ 9223372036854775807 := by
  obtain ⟨v0, v1, v2, v3, y0, y1, y2, y3, n, rfl, -, -, h0, h1, h2, h3⟩ := Joins.open_agg4 Try.underlying24 (by kernel_rfl) Try.cellsPz hv h
  obtain ⟨A1, n1, c1, e1⟩ := Joins.slice_form Try.underlying22 h1
  obtain ⟨A2, n2, c2, e2⟩ := Joins.slice_form Try.underlying22 h2
  obtain ⟨A3, n3, c3, e3⟩ := Joins.slice_form Try.underlying22 h3
  obtain rfl := List.head_eq_of_cons_eq e1
  obtain rfl := List.head_eq_of_cons_eq e2
  obtain rfl := List.head_eq_of_cons_eq e3
  obtain ⟨L, x1, z1⟩ := open_RI ⟨n, by simpa [Value.cells] using h1⟩
  obtain ⟨R, x2, z2⟩ := open_RI ⟨n, by simpa [Value.cells] using h2⟩
  obtain ⟨B, x3, z3⟩ := open_RI ⟨n, by simpa [Value.cells] using h3⟩
  obtain ⟨S, e0, -⟩ := DataW.trod_int Try.underlying3 h0
  obtain rfl := List.head_eq_of_cons_eq e0
  exact ⟨S, A1, n1, c1, A2, n2, c2, A3, n3, c3, L, R, B, rfl, x1, x2, x3, z1, z2, z3⟩
end Go.Proofs.Ytemafljipkcgcaa
