/- Shapes with powers made. -/
import Derived.Test.YtemafljipkcgcaaQFrm
namespace Go.Proofs.Ytemafljipkcgcaa
open Go.RowKit

theorem BK.three {w : World} {g : Nat} {T : TypeId} {a b c : Value} (K : BK w g T [a, b, c]) : w.cell? ⟨g, 0, none⟩ = some a ∧ w.cell? ⟨g, 1, none⟩ = some b ∧ w.cell? ⟨g, 2, none⟩ = some c :=
  ⟨K.cell (j := 0) rfl, K.cell (j := 1) rfl, K.cell (j := 2) rfl⟩
def MakesQ (w : World) (p : Int) (l : List Int) (q : Int) : Ending → World → Prop := fun e w' =>
  ∃ A n c, e = .returned (.agg #[.int .i64 p, .slice A n c, .int .i64 q]) ∧ OI w' w.heap.size (.slice A n c) l ∧ Below w.heap.size w w'

set_option maxHeartbeats 1000000 in
theorem toQ1_any {A : Option Addr} {n : Nat} {l : List Int} {w : World} (c : Nat) (p q : Int) (hD : RI w A n l) (hn : n ≤ 1000000000) :
    Calls Try.prog 87 #[.agg #[.int .i64 p, .slice A n c, .int .i64 q]] w (MakesQ w p l q) := by
  go_enter Try.func87, Try.ntmps87
  go_wp2_with fail
  obtain ⟨w0, ew0⟩ : ∃ w0 : World, w0 = (((w.alloc (Obj.cells #[Value.int IntKind.i64 p, Value.slice A n c, Value.int IntKind.i64 q] 88)).alloc (Obj.cells #[Value.int IntKind.i64 0, Value.slice none 0 0, Value.int IntKind.i64 0] 70)).alloc (Obj.cells #[Value.int IntKind.i64 p, Value.slice none 0 0, Value.int IntKind.i64 0] 70)) := ⟨_, rfl⟩
  have b0 : Below w.heap.size w w0 := by
    subst ew0
    exact (((Below.refl _ _).alloc (Nat.le_refl _) _).alloc (by simp) _).alloc (by simp; omega) _
  have kx : BK w0 w.heap.size 88 [Value.int IntKind.i64 p, Value.slice A n c, Value.int IntKind.i64 q] := by
    subst ew0
    exact ((BK.new w _ _).alloc _).alloc _
  have ky : BK w0 (w.heap.size + 1) 70 [Value.int IntKind.i64 0, Value.slice none 0 0, Value.int IntKind.i64 0] := by
    subst ew0
    have := (BK.new (w.alloc (Obj.cells #[Value.int IntKind.i64 p, Value.slice A n c, Value.int IntKind.i64 q] 88)) 70 [Value.int IntKind.i64 0, Value.slice none 0 0, Value.int IntKind.i64 0]).alloc (Obj.cells #[Value.int IntKind.i64 p, Value.slice none 0 0, Value.int IntKind.i64 0] 70)
    simpa using this
  have kg : BK w0 (w.heap.size + 1 + 1) 70 [Value.int IntKind.i64 p, Value.slice none 0 0, Value.int IntKind.i64 0] := by
    subst ew0
    have := BK.new ((w.alloc (Obj.cells #[Value.int IntKind.i64 p, Value.slice A n c, Value.int IntKind.i64 q] 88)).alloc (Obj.cells #[Value.int IntKind.i64 0, Value.slice none 0 0, Value.int IntKind.i64 0] 70)) 70 [Value.int IntKind.i64 p, Value.slice none 0 0, Value.int IntKind.i64 0]
    simpa using this
  rw [← ew0]
  clear ew0
  obtain ⟨g, hg⟩ : ∃ g, g = w.heap.size + 1 + 1 := ⟨_, rfl⟩
  obtain ⟨y, hy⟩ : ∃ g, g = w.heap.size + 1 := ⟨_, rfl⟩
  obtain ⟨bx, hbx⟩ : ∃ g, g = w.heap.size := ⟨_, rfl⟩
  have HN : Hid (g ≠ y ∧ g ≠ bx ∧ w.heap.size ≤ g ∧ w.heap.size ≤ y) := by show g ≠ y ∧ g ≠ bx ∧ w.heap.size ≤ g ∧ w.heap.size ≤ y; omega
  rw [← hg] at kg ⊢
  rw [← hy] at ky ⊢
  rw [← hbx] at kx ⊢
  have hne := HN.out.1
  have hne2 := HN.out.2.1
  clear hg hy hbx
  have kx := Lib.hid kx
  have ky := Lib.hid ky
  have kg := Lib.hid kg
  refine (toI_any _ (hD.below b0) hn).mono ?_
  rintro e w1 ⟨B1, p1, d1, rfl, o1, r1, ⟨cp1, le1⟩, b1⟩
  have kx1 := Lib.hid (kx.out.below b1 kx.out.lt)
  have ky1 := Lib.hid (ky.out.below b1 ky.out.lt)
  have kg1 := Lib.hid (kg.out.below b1 kg.out.lt)
  have hy0 := Lib.hid ky.out.lt
  have hg0 := Lib.hid kg.out.lt
  obtain ⟨z0, z1, z2⟩ := kg1.out.three
  obtain ⟨-, -, x2⟩ := kx1.out.three
  have zf := kg1.out.frozen (j := 1)
  have zf2 := kg1.out.frozen (j := 2)
  obtain ⟨y0, y1, y2⟩ := ky1.out.three
  have f0 := ky1.out.frozen (j := 0)
  have f1 := ky1.out.frozen (j := 1)
  have f2 := ky1.out.frozen (j := 2)
  go_wp2_with fail
  have bb1 : Below w.heap.size w w1 := b0.trans (b1.mono b0.size)
  have bf := ((((bb1.setCell (p := ⟨g, 1, none⟩) (show _ ≤ g from HN.out.2.2.1) (Value.slice B1 p1 d1)).setCell (p := ⟨g, 2, none⟩) (show _ ≤ g from HN.out.2.2.1) (Value.int IntKind.i64 q)).setCell (p := ⟨y, 0, none⟩) (show _ ≤ y from HN.out.2.2.2) (Value.int IntKind.i64 p)).setCell (p := ⟨y, 1, none⟩) (show _ ≤ y from HN.out.2.2.2) (Value.slice B1 p1 d1)).setCell (p := ⟨y, 2, none⟩) (show _ ≤ y from HN.out.2.2.2) (Value.int IntKind.i64 q)
  have kf := ((((ky1.out.far HN.out.1 1 (Value.slice B1 p1 d1)).far HN.out.1 2 (Value.int IntKind.i64 q)).set 0 (Value.int IntKind.i64 p)).set 1 (Value.slice B1 p1 d1)).set 2 (Value.int IntKind.i64 q)
  have u1 := ((((o1.far g 1 (Value.slice B1 p1 d1) hg0.out).far g 2 (Value.int IntKind.i64 q) hg0.out).far y 0 (Value.int IntKind.i64 p) hy0.out).far y 1 (Value.slice B1 p1 d1) hy0.out).far y 2 (Value.int IntKind.i64 q) hy0.out
  obtain ⟨wf, ef⟩ : ∃ wf, wf = (((((w1.setCell ⟨g, 1, none⟩ (Value.slice B1 p1 d1)).setCell ⟨g, 2, none⟩ (Value.int IntKind.i64 q)).setCell ⟨y, 0, none⟩ (Value.int IntKind.i64 p)).setCell ⟨y, 1, none⟩ (Value.slice B1 p1 d1)).setCell ⟨y, 2, none⟩ (Value.int IntKind.i64 q)) := ⟨_, rfl⟩
  rw [← ef] at kf u1 bf ⊢
  obtain ⟨k0, k1, k2⟩ := BK.three kf
  clear z0 z1 z2 zf zf2 y0 y1 y2 f0 f1 f2 x2 ef
  refine bodyPost_ret (v := .agg #[.int .i64 p, .slice B1 p1 d1, .int .i64 q]) (by simp [results, Try.results87, go_sem, k0, k1, k2]) rfl ?_
  exact ⟨B1, p1, d1, rfl, u1.mono b0.size, bf⟩

/-- Element j of the cells. -/
def QC (w : World) (g : Nat) (cs : List Value) (j : Nat) (x : QT) : Prop := ∃ A n c, cs[j * 3]? = some (.int .i64 x.1) ∧ cs[j * 3 + 1]? = some (.slice A n c) ∧ cs[j * 3 + 2]? = some (.int .i64 x.2.2) ∧ OI w (g + 1) (.slice A n c) x.2.1
theorem QC.below {w w' : World} {g j : Nat} {cs : List Value} {x : QT} (h : QC w g cs j x) (b : Below w.heap.size w w') : QC w' g cs j x := by
  obtain ⟨A, n, c, h1, h2, h3, h4⟩ := h
  exact ⟨A, n, c, h1, h2, h3, h4.below b⟩
theorem QC.store {w : World} {g j i : Nat} {cs : List Value} {x : QT} {u : Value} (h : QC w g cs j x) (h0 : i ≠ j * 3) (h1 : i ≠ j * 3 + 1) (h2 : i ≠ j * 3 + 2) : QC (w.setCell ⟨g, i, none⟩ u) g (cs.set i u) j x := by
  obtain ⟨A, n, c, e1, e2, e3, e4⟩ := h
  exact ⟨A, n, c, by rw [List.getElem?_set_ne h0, e1], by rw [List.getElem?_set_ne h1, e2], by rw [List.getElem?_set_ne h2, e3], e4.far g i u (by omega)⟩
theorem Try.infoQ : (Try.prog.info? 70).map (fun i => (i.zero, i.size, i.bytes)) = some (some (.agg #[.int .i64 0, .slice none 0 0, .int .i64 0]), 3, 40) := by kernel_rfl
/-- What a function leaves that returns a new slice of these, to be read. -/
def MakesQs (w : World) (ps : List QT) : Ending → World → Prop := fun e w' => ∃ g cs, e = .returned (.slice (some ⟨g, 0, none⟩) ps.length ps.length) ∧ w.heap.size ≤ g ∧ BK w' g 70 cs ∧ cs.length = ps.length * 3 ∧ (∀ j, j < ps.length → QC w' g cs j (nthQ ps j)) ∧ Below w.heap.size w w'

set_option maxHeartbeats 2000000 in
theorem toQ_any {A : Option Addr} {n : Nat} {ps : List QT} {w : World} (c : Nat) (hx : RQ w A n ps) (hn : n ≤ 1048576) (hs : ∀ k, k < n → (nthQ ps k).2.1.length ≤ 1048576) :
    Calls Try.prog 40 #[.slice A n c] w (MakesQs w ps) := by
  obtain ⟨i0, hi, hz, hs1, hb⟩ := info_parts Try.infoQ
  have HL := Lib.hid hx.1
  go_enter Try.func40, Try.ntmps40
  go_wp2_with (at_make; refine wpList_make_full w rfl _ _ 46 rfl w.heap.size 70 i0 _ 3 Try.underlying46 hi hz hs1 _ _ _ _ n rfl rfl rfl rfl (by rw [hb]; omega) (by simp only [maxLen]; omega) (Nat.le_refl _) ?_; intro w1 hown hgr)
  obtain ⟨cs0, hk0, hl0⟩ : ∃ cs0, BK w1 w.heap.size 70 cs0 ∧ cs0.length = n * 3 := by
    rcases hown.2 with ⟨he, _⟩ | ⟨g, cap, cur, he, _, hh, _, _, hsz, _⟩
    · cases he
    · simp only [Value.slice.injEq, Option.some.injEq, Addr.mk.injEq, and_true, true_and] at he
      obtain ⟨rfl, rfl⟩ := he
      exact ⟨cur.toList, hh, by rw [Array.length_toList]; exact hsz⟩
  have hb1 : Below w.heap.size w w1 := (Below.refl _ _).grown hgr (Nat.le_refl _) (fun k hk => by cases hk)
  have HK0 := Lib.hid hk0
  have HB1 := Lib.hid hb1
  obtain ⟨g, hg⟩ : ∃ g, g = w.heap.size := ⟨_, rfl⟩
  have HG := Lib.hid hg
  rw [← hg] at HK0 ⊢
  clear hown hgr hk0 hb1 hg hi hz hs1 hb
  go_loopw [4] (fun i wr => ∃ (k : Nat) (cs : List Value), k ≤ n ∧ i = .int .i64 (k : Int) ∧ Hid (BK wr g 70 cs) ∧ cs.length = n * 3 ∧ Hid (∀ j, j < k → QC wr g cs j (nthQ ps j)) ∧ Hid (Below w.heap.size w wr)) (fun i _ => n - (intOf i).toNat)
  case atStart => exact ⟨0, cs0, Nat.zero_le _, rfl, HK0, hl0, fun j h => by omega, HB1⟩
  case round =>
    obtain ⟨k, cs, hk, rfl, HK, hl, HT, HB⟩ := hrel
    by_cases hlt : k < n
    · obtain ⟨ad, hA, hq⟩ := (hx.below HB.out).2 k hlt
      subst hA
      obtain ⟨As, ns, cs', c1, c2, c3, hr, hns, -, -, -⟩ := QAt.cells hq
      have hls := hs k hlt
      rw [hr.1] at hls
      go_wp2_with fail
      refine (toQ1_any _ _ _ hr (by omega)).mono ?_
      rintro e w2 ⟨A2, n2, d2, rfl, o2, b2⟩
      have K2 := Lib.hid (HK.out.below b2 HK.out.lt)
      have hgl := HK.out.lt
      obtain ⟨u0, hu0⟩ : ∃ u, cs[k * 3]? = some u := ⟨_, List.getElem?_eq_getElem (by omega)⟩
      obtain ⟨u1, hu1⟩ : ∃ u, cs[k * 3 + 1]? = some u := ⟨_, List.getElem?_eq_getElem (by omega)⟩
      obtain ⟨u2, hu2⟩ : ∃ u, cs[k * 3 + 2]? = some u := ⟨_, List.getElem?_eq_getElem (by omega)⟩
      have z0 := K2.out.cell hu0
      have z1 := K2.out.cell hu1
      have z2 := K2.out.cell hu2
      have f0 := K2.out.frozen (j := k * 3)
      have f1 := K2.out.frozen (j := k * 3 + 1)
      have f2 := K2.out.frozen (j := k * 3 + 2)
      have HO := Lib.hid (o2.mono (base' := g + 1) (by omega))
      have HQ : Hid (∀ j, j < k → QC w2 g cs j (nthQ ps j)) := fun j hj => (HT.out j hj).below b2
      have HB2 := Lib.hid (bnext HB.out b2 HB.out.size)
      have hl0' : k * 3 < cs.length := by omega
      clear hu0 hu1 hu2 o2 hq c1 c2 c3 hr b2 hgl
      go_wp2_with fail
      go_roundw
      case rel =>
        refine ⟨k + 1, ((cs.set (k * 3) (.int .i64 (nthQ ps k).1)).set (k * 3 + 1) (.slice A2 n2 d2)).set (k * 3 + 2) (.int .i64 (nthQ ps k).2.2), by omega, by go_num, ((K2.out.set _ _).set _ _).set _ _, by simp [hl], ?_, (((HB2.out.setCell (show _ ≤ g from Nat.le_of_eq HG.out.symm) _).setCell (show _ ≤ g from Nat.le_of_eq HG.out.symm) _).setCell (show _ ≤ g from Nat.le_of_eq HG.out.symm) _)⟩
        intro j hj
        by_cases hjk : j < k
        · exact (((HQ.out j hjk).store (by omega) (by omega) (by omega)).store (by omega) (by omega) (by omega)).store (by omega) (by omega) (by omega)
        · obtain rfl : j = k := by omega
          refine ⟨A2, n2, d2, ?_, ?_, ?_, ((HO.out.far g _ _ (Nat.lt_succ_self _)).far g _ _ (Nat.lt_succ_self _)).far g _ _ (Nat.lt_succ_self _)⟩
          · rw [List.getElem?_set_ne (by omega), List.getElem?_set_ne (by omega), List.getElem?_set_self (by omega)]
          · rw [List.getElem?_set_ne (by omega), List.getElem?_set_self (by simp; omega)]
          · rw [List.getElem?_set_self (by simp; omega)]
      case measure => simp [intOf]; omega
    · obtain rfl : k = n := by omega
      have e1 := HL.out
      subst e1
      go_wp2
      go_ret
      exact ⟨g, cs, rfl, Nat.le_of_eq HG.out.symm, HK.out, hl, HT.out, HB.out⟩
end Go.Proofs.Ytemafljipkcgcaa
