/- 'inserted' of the program, for reduced words. -/
import Derived.Test.YtgbojgmmingfdaaEgP
import Derived.Test.YtgbojgmmingfdaaShapes
import Derived.BigRegion
namespace Go.Proofs.Ytgbojgmmingfdaa
open Go.RowKit

theorem OS.outer {w w1 : World} {base b G n c r : Nat} {u : Value} {ls : List (List Int)} {cells : List Value} (h : OS w base b (.slice (some ⟨G, 0, none⟩) n c) ls cells) (hr : r < ls.length) (hu : cells[r]? = some u) (hg : w.grownBy w1 u.ownBlock) :
    w1.cell? ⟨G, r, none⟩ = some u ∧ w1.frozen? ⟨G, r, none⟩ = false := by
  have hU : OI w b u (nthL ls r) := h.2.1.2 r _ u (rows_at hr) hu
  have hne : (Value.slice (some ⟨G, 0, none⟩) n c).ownBlock = none ∨ (Value.slice (some ⟨G, 0, none⟩) n c).ownBlock ≠ u.ownBlock := by
    refine .inr fun e => ?_
    obtain ⟨csG, mG, htG⟩ := OF.typed h G rfl
    obtain ⟨cs2, m2, h2⟩ := OI.typed hU G e.symm
    rw [htG] at h2
    injection h2 with h2
    injection h2 with _ h3
    exact absurd h3 (by decide)
  have h1 := World.ownsRow.kept h.1 hg hne
  have hln := OS.lenS h
  rw [hln] at h1
  exact ⟨(h1.cellAt r (by omega)).trans hu, h1.frozenAt r⟩
theorem OF.low {w w' : World} {base b size n : Nat} {e : TypeId} {v : Value} {fs : List (Int ⊕ List Int)} {cells : List Value} (h : OF w base b e size v n fs cells) {X : Nat} (hg : w.grownBy w' (some X)) (h1 : X < base) (h2 : X < b) : OF w' base b e size v n fs cells :=
  OF.kept_low h hg fun g e => by injection e with e; omega
/-- Small tableaux. -/
def Fine (t : List (List Int)) (x : Int) : Prop := t.length ≤ 1000 ∧ (∀ r ∈ t, r.length ≤ 1000 ∧ ∀ y ∈ r, 0 ≤ y ∧ y ≤ 1000) ∧ 0 ≤ x ∧ x ≤ 1000
/-- What is left at a row. -/
structure EgS (w wr : World) (G n c : Nat) (t : List (List Int)) (x y : Int) (pre post : List (List Int)) (cells : List Value) : Prop where
  o : OS wr (w.heap.size + 1) (w.heap.size + 1) (.slice (some ⟨G, 0, none⟩) n c) (pre ++ post) cells
  b : OI wr w.heap.size (.slice (some ⟨w.heap.size, 0, none⟩) 1 1) [y]
  e : egI t x = (pre ++ (egI post y).1, pre.length + (egI post y).2)
  p : Fine post y
  l : pre.length + post.length = n
  bel : Below w.heap.size w wr
section
variable {w w1 w2 : World} {G n c : Nat} {t : List (List Int)} {x y : Int} {pre post : List (List Int)} {cells : List Value}
theorem EgS.below (h : EgS w w1 G n c t x y pre post cells) (b : Below w1.heap.size w1 w2) : EgS w w2 G n c t x y pre post cells :=
  ⟨OF.below h.o b, h.b.below b, h.e, h.p, h.l, h.bel.trans (b.mono h.bel.size)⟩
theorem EgS.cx (h : EgS w w1 G n c t x y pre post cells) : w1.cell? ⟨w.heap.size, 0, none⟩ = some (.int .i64 y) := h.b.cellAt (j := 0) (by omega)
theorem EgS.fx (h : EgS w w1 G n c t x y pre post cells) : w1.frozen? ⟨w.heap.size, 0, none⟩ = false := h.b.frozenAt 0
theorem Fine.rest {row : List Int} {rest : List (List Int)} {z : Int} (h : Fine (row :: rest) y) (hz : 0 ≤ z ∧ z ≤ 1000) : Fine rest z :=
  ⟨by have := h.1; simp only [List.length_cons] at this; omega, fun r hr => h.2.1 r (List.mem_cons_of_mem _ hr), hz⟩
theorem set_mid {α : Type} (pre rest : List α) (a b : α) : (pre ++ a :: rest).set pre.length b = (pre ++ [b]) ++ rest := by simp
theorem EgS.bump {g n2 c2 : Nat} {row : List Int} {rest : List (List Int)} {a : Nat} {z : Int} (h : EgS w w1 G n c t x y pre (row :: rest) cells) (hu : cells[pre.length]? = some (.slice (some ⟨g, 0, none⟩) n2 c2)) (ho : OI w1 (w.heap.size + 1) (.slice (some ⟨g, 0, none⟩) n2 c2) row)
    (ha : a = gtAt row y) (hz : z = nth row a) (hlt : a < row.length) (hno : ¬ (z = y + 1 ∧ hasB row y = true)) :
    EgS w ((w1.setCell ⟨g, a, none⟩ (.int .i64 y)).setCell ⟨w.heap.size, 0, none⟩ (.int .i64 z)) G n c t x z (pre ++ [row.set a y]) rest cells := by
  obtain ⟨s1, s2⟩ := ho.stored a y
  have hg := ho.lt g rfl
  have h1 := OS.rowTurn h.o (r := pre.length) (by simp) hu s2 s1
  rw [set_mid] at h1
  have hb1 : OI (w1.setCell ⟨g, a, none⟩ (.int .i64 y)) w.heap.size (.slice (some ⟨w.heap.size, 0, none⟩) 1 1) [y] := h.b.kept s2 (.inr (by simp [Value.ownBlock]; omega))
  obtain ⟨s3, s4⟩ := hb1.stored 0 z
  refine ⟨OF.low h1 s4 (by omega) (by omega), s3, ?_, h.p.rest ?_, ?_, ?_⟩
  · rw [h.e, egI_bump (by rw [← ha]; exact hlt) (by rw [← ha, ← hz]; exact hno), ← ha, ← hz]
    simp [Nat.add_assoc, Nat.add_comm]
  · rw [hz]
    exact (h.p.2.1 row (by simp)).2 _ (nth_mem hlt)
  · have := h.l
    simp only [List.length_cons, List.length_append, List.length_nil] at this ⊢
    omega
  · exact (h.bel.grown s2 h.bel.size fun k hk => by injection hk; omega).grown s4 (Nat.le_trans h.bel.size s2.size) fun k hk => by injection hk; omega
theorem EgS.skip {row : List Int} {rest : List (List Int)} (h : EgS w w1 G n c t x y pre (row :: rest) cells) (hlt : gtAt row y < row.length) (hz : nth row (gtAt row y) = y + 1) (hb : hasB row y = true) :
    EgS w (w1.setCell ⟨w.heap.size, 0, none⟩ (.int .i64 (y + 1))) G n c t x (y + 1) (pre ++ [row]) rest cells := by
  obtain ⟨s3, s4⟩ := h.b.stored 0 (y + 1)
  have h1 := h.o
  rw [show pre ++ row :: rest = (pre ++ [row]) ++ rest by simp] at h1
  refine ⟨OF.low h1 s4 (by omega) (by omega), s3, ?_, h.p.rest ?_, ?_, ?_⟩
  · rw [h.e, egI_skip hlt hz hb]
    simp [Nat.add_assoc, Nat.add_comm]
  · rw [← hz]
    exact (h.p.2.1 row (by simp)).2 _ (nth_mem hlt)
  · have := h.l
    simp only [List.length_cons, List.length_append, List.length_nil] at this ⊢
    omega
  · exact h.bel.grown s4 h.bel.size fun k hk => by injection hk; omega
end
/-- A tableau and a row. -/
def MakesSn (w : World) (ls : List (List Int)) (k : Nat) : Ending → World → Prop := fun e w' =>
  ∃ A n c cells, e = .returned (.tuple #[.slice A n c, .int .i64 (k : Int)]) ∧ OS w' w.heap.size w.heap.size (.slice A n c) ls cells ∧ ls.length = n ∧ (n ≤ c ∧ c ≤ 9223372036854775807) ∧ Below w.heap.size w w'
theorem MakesSn.of {w w' : World} {v : Value} {ls : List (List Int)} {cells : List Value} {k : Nat} {base b : Nat} (h : OS w' base b v ls cells) (hb : Below w.heap.size w w') (h1 : w.heap.size ≤ base) (h2 : w.heap.size ≤ b) : MakesSn w ls k (.returned (.tuple #[v, .int .i64 (k : Int)])) w' := by
  obtain ⟨A, n, c, rfl, h3, h4, h5⟩ := OS.form h
  exact ⟨A, n, c, cells, rfl, OF.mono h h1 h2, h3, ⟨h4, h5⟩, hb⟩
set_option maxRecDepth 100000 in
set_option maxHeartbeats 4000000 in
theorem inserted_any {A : Option Addr} {m : Nat} {t : List (List Int)} {w : World} (c : Nat) (x : Int) (hx : RS w A m t) (hf : Fine t x) :
    Calls Try.prog 155 #[.slice A m c, .int .i64 x, .bool true] w (MakesSn w (egI t x).1 (egI t x).2) := by
  have HL : Hid (t.length = m) := hx.1
  have hm : m ≤ 1000 := by rw [← HL.out]; exact hf.1
  have HF := Lib.hid hf
  have HCR : Hid (∀ W, Below w.heap.size w W → Calls Try.prog 111 #[.slice A m c] W (MakesS W t)) := fun W bW => copyRows_any c (hx.below bW) (by omega) fun k hk => by
    have h1 := hf.2.1 (nthL t k) (by rw [nthL_lt (by rw [HL.out]; exact hk)]; exact List.getElem_mem _)
    omega
  obtain ⟨w0, e0⟩ : ∃ W, W = w.alloc (.cells #[.int .i64 x] 3) := ⟨_, rfl⟩
  have HB0 : Hid (Below w.heap.size w w0 ∧ w0.heap.size = w.heap.size + 1 ∧ OI w0 w.heap.size (.slice (some ⟨w.heap.size, 0, none⟩) 1 1) [x]) := by
    rw [e0]
    exact ⟨(Below.refl _ _).alloc (Nat.le_refl _) _, by simp, OI.lit w w.heap.size [x] 1 rfl (Nat.le_refl _) (by simp)⟩
  have E0 := Lib.hid e0
  clear hx hf e0
  go_enter Try.func155, Try.ntmps155
  go_upto_region 1 with fail
  rw [← E0.out]
  go_upto_region 2 with (first | (go_at_call 111; refine (HCR.out _ HB0.out.1).mono ?_; rintro e w1 ⟨A1, n1, c1, cs1, rfl, o1, l1, q1, b1⟩) | fail)
  have HN1 : Hid (n1 = m) := l1.symm.trans HL.out
  have hn1 : n1 ≤ 1000 := by rw [HN1.out]; exact hm
  rcases A1 with _ | G0
  · have h0 : t = [] := by
      rcases o1.1.2 with ⟨hv, h2⟩ | ⟨g, cap, cur, hv, -⟩
      · exact List.eq_nil_of_length_eq_zero h2
      · obtain ⟨h3, -⟩ := slice_inj hv; cases h3
    have HT0 := Lib.hid h0
    have hn0 : n1 = 0 := by rw [HN1.out, ← HL.out, HT0.out]; rfl
    subst hn0
    have hb01 : Hid (Below w.heap.size w w1) := bnext HB0.out.1 b1 HB0.out.1.size
    have hsz1 : Hid (w.heap.size + 1 ≤ w1.heap.size) := by have := b1.size; have := HB0.out.2.1; show _ ≤ _; omega
    have cx := OI.cellAt (HB0.out.2.2.below b1) (j := 0) (by omega)
    have cx' : w1.cell? ⟨w.heap.size, 0, none⟩ = some (.int .i64 x) := cx
    have hb1 : Hid (Below w1.heap.size w1 (w1.alloc (.cells #[.int .i64 x] 3))) := (Below.refl _ _).alloc (Nat.le_refl _) _
    have HO1 : Hid (OS (w1.alloc (.cells #[.int .i64 x] 3)) w0.heap.size w0.heap.size (.slice none 0 c1) [] cs1) := by
      rw [h0] at o1
      exact OF.below o1 hb1.out
    have HNL : Hid (OI (w1.alloc (.cells #[.int .i64 x] 3)) w0.heap.size (.slice (some ⟨w1.heap.size, 0, none⟩) 1 1) [x]) := by
      have h := OI.lit w1 w1.heap.size [x] 1 rfl (Nat.le_refl _) (by simp)
      exact OI.mono h b1.size
    have HAP : Hid (∀ u' ∈ cs1, u'.ownBlock = none ∨ u'.ownBlock ≠ (Value.slice (some ⟨w1.heap.size, 0, none⟩) 1 1).ownBlock) := fun u' hu' => by
      have h := HO1.out.2.1.1
      rw [List.eq_nil_of_length_eq_zero h] at hu'
      cases hu'
    have HSZ2 : Hid (w0.heap.size ≤ (w1.alloc (.cells #[.int .i64 x] 3)).heap.size) := by show _ ≤ _; have := b1.size; simp; omega
    have HBL : Hid (Below w.heap.size w (w1.alloc (.cells #[.int .i64 x] 3))) := hb01.out.trans (hb1.out.mono hb01.out.size)
    have HE : Hid ((egI t x).1 = [] ++ [[x]] ∧ (egI t x).2 = 0) := by
      show _ ∧ _
      rw [h0, egI]
      exact ⟨rfl, rfl⟩
    clear h0 o1 l1 q1 b1 cx
    go_wp2_with fail
    refine wp_loop_rounds 1 ?_
    simp only [Code.rounds]
    go_wp2_with (first
      | (at_builtin; rw [show w1.heap.size + 1 = (w1.alloc (.cells #[.int .i64 x] 3)).heap.size from (by simp)]; refine wpAppS rfl _ _ rfl w0.heap.size w0.heap.size (.slice none 0 c1) [] cs1 (.slice (some ⟨w1.heap.size, 0, none⟩) 1 1) [x] rfl rfl HO1.out HNL.out HAP.out (by simp) HSZ2.out ?_; intro v7 w7 o7 g7 k7)
      | fail)
    go_ret2
    rw [HE.out.1, HE.out.2]
    have hb2 := HBL.out.alloc HBL.out.size (.cells #[.slice (some ⟨w1.heap.size, 0, none⟩) 1 1] 22)
    have hs := HB0.out.2.1
    exact MakesSn.of o7 (hb2.grown g7 hb2.size fun k hk => by have := (OF.lt HO1.out k hk).1; omega) (by omega) (by omega)
  obtain ⟨G, rfl⟩ : ∃ G, G0 = ⟨G, 0, none⟩ := by
    rcases o1.1.2 with ⟨hv, h2⟩ | ⟨g, cap, cur, hv, -⟩
    · obtain ⟨h3, -⟩ := slice_inj hv; cases h3
    · exact ⟨g, Option.some.inj (slice_inj hv).1⟩
  have S1 : Hid (EgS w w1 G n1 c1 t x x [] t cs1) := by
    have hs := HB0.out.2.1
    refine ⟨?_, ?_, by simp, HF.out, by simpa using l1, bnext HB0.out.1 b1 HB0.out.1.size⟩
    · rw [hs] at o1; exact o1
    · exact HB0.out.2.2.below b1
  clear o1 l1 q1 b1
  go_wp2_with fail
  go_loopw [16] (fun i wr => ∃ (r : Nat) (y : Int) (pre post : List (List Int)) (cells : List Value), i = .int .i64 (r : Int) ∧ r ≤ n1 ∧ Hid (pre.length = r) ∧ Hid (EgS w wr G n1 c1 t x y pre post cells)) (fun i _ => n1 - (intOf i).toNat)
  case atStart => exact ⟨0, x, [], t, cs1, rfl, Nat.zero_le _, rfl, S1.out⟩
  case round =>
    clear S1
    obtain ⟨r, y, pre, post, cells, rfl, hr, HR, HY⟩ := hrel
    cases post with
    | nil =>
      have hrn : r = n1 := by have h1 := HY.out.l; have h2 := HR.out; simp only [List.length_nil] at h1; omega
      have HRN := Lib.hid hrn
      have hlt' : ¬ r < n1 := by omega
      have hlt2 : ¬ (r : Int) < (n1 : Int) := by omega
      have cx := HY.out.cx
      have hb1 : Hid (Below wr.heap.size wr (wr.alloc (.cells #[.int .i64 y] 3))) := (Below.refl _ _).alloc (Nat.le_refl _) _
      have HOP : Hid (OS (wr.alloc (.cells #[.int .i64 y] 3)) (w.heap.size + 1) (w.heap.size + 1) (.slice (some ⟨G, 0, none⟩) n1 c1) pre cells) := by
        have h := HY.out.o
        rw [List.append_nil] at h
        exact OF.below h hb1.out
      have HSZ : Hid (w.heap.size + 1 ≤ wr.heap.size) := by have := OF.lt HY.out.o G rfl; show _ ≤ _; omega
      have HNW : Hid (OI (wr.alloc (.cells #[.int .i64 y] 3)) wr.heap.size (.slice (some ⟨wr.heap.size, 0, none⟩) 1 1) [y]) := by
        have h := OI.lit wr wr.heap.size [y] 1 rfl (Nat.le_refl _) (by simp)
        exact h
      have HNL : Hid (OI (wr.alloc (.cells #[.int .i64 y] 3)) (w.heap.size + 1) (.slice (some ⟨wr.heap.size, 0, none⟩) 1 1) [y]) := HNW.out.mono HSZ.out
      have HAP : Hid (∀ u' ∈ cells, u'.ownBlock = none ∨ u'.ownBlock ≠ (Value.slice (some ⟨wr.heap.size, 0, none⟩) 1 1).ownBlock) := apart_new (H := wr.heap.size) HY.out.o.2.1 (Nat.le_refl _) HNW.out
      have HPL : Hid (pre.length + 1 ≤ 1000000000000) := by show _ ≤ _; rw [HR.out]; omega
      have HSZ2 : Hid (w.heap.size + 1 ≤ (wr.alloc (.cells #[.int .i64 y] 3)).heap.size) := by show _ ≤ _; have := HSZ.out; simp; omega
      have HBL : Hid (Below w.heap.size w (wr.alloc (.cells #[.int .i64 y] 3))) := HY.out.bel.trans (hb1.out.mono HY.out.bel.size)
      have HE : Hid ((egI t x).1 = pre ++ [[y]] ∧ (egI t x).2 = r) := by
        have h := HY.out.e
        show _ ∧ _
        rw [h, ← HR.out]
        simp [egI]
      clear hrn
      go_wp2_with (first
        | (at_builtin; rw [show wr.heap.size + 1 = (wr.alloc (.cells #[.int .i64 y] 3)).heap.size from (by simp)]; refine wpAppS rfl _ _ rfl (w.heap.size + 1) (w.heap.size + 1) (.slice (some ⟨G, 0, none⟩) n1 c1) pre cells (.slice (some ⟨wr.heap.size, 0, none⟩) 1 1) [y] rfl rfl HOP.out HNL.out HAP.out HPL.out HSZ2.out ?_; intro v7 w7 o7 g7 k7)
        | fail)
      go_ret2
      rw [HE.out.1, HE.out.2, HRN.out]
      have hb2 := HBL.out.alloc HBL.out.size (.cells #[.slice (some ⟨wr.heap.size, 0, none⟩) 1 1] 22)
      exact MakesSn.of o7 (hb2.grown g7 hb2.size fun k hk => by have := (OF.lt HY.out.o k hk).1; omega) (by omega) (by omega)
    | cons row rest =>
      have hlt : r < n1 := by have h1 := HY.out.l; have h2 := HR.out; simp only [List.length_cons] at h1; omega
      obtain ⟨A2, n2, c2, z0, zc, o2, -⟩ := OS.cellG HY.out.o hlt
      have hrow : nthL (pre ++ row :: rest) r = row := by rw [← HR.out]; simp [nthL]
      rw [hrow] at o2
      have hfr := HY.out.p.2.1 row (by simp)
      have hyb := HY.out.p.2.2
      have HO2 := Lib.hid o2
      have HZC := Lib.hid zc
      have cx := HY.out.cx
      have fx := HY.out.fx
      have hl2 : row.length = n2 := o2.ri.1
      have hn2 : n2 ≤ 1000 := by rw [← hl2]; exact hfr.1
      have HROW : Hid (row.length = n2) := hl2
      have HFR := Lib.hid hfr
      have HIF : Hid (Calls Try.prog 189 #[.slice A2 n2 c2, .func (.func 190) #[] #[.pointer (some ⟨w.heap.size, 0, none⟩)]] wr (Gives wr (.int .i64 (idxR row y)))) := idxF_any c2 w.heap.size y o2.ri cx (by omega)
      clear hrow zc o2 hl2 hfr
      by_cases hgt : gtAt row y < n2
      · obtain ⟨a, ha⟩ : ∃ a, a = gtAt row y := ⟨_, rfl⟩
        have HA := Lib.hid ha
        have hIR : idxR row y = (a : Int) := by rw [idxR, if_pos (by rw [HROW.out]; exact hgt), ha]
        rw [hIR] at HIF
        rw [← ha] at hgt
        clear hIR ha
        go_upto_region 9 with (first | (go_at_call 189; refine HIF.out.mono ?_; rintro e w2 ⟨rfl, q2, rfl⟩) | fail)
        obtain ⟨w3, e3⟩ : ∃ W, W = wr.drewN q2 := ⟨_, rfl⟩
        rw [← e3]
        have HY3 : Hid (EgS w w3 G n1 c1 t x y pre (row :: rest) cells) := by rw [e3]; exact HY.out.below (below_drewN (Below.refl _ _) _)
        have O3 : Hid (OI w3 (w.heap.size + 1) (.slice A2 n2 c2) row) := by rw [e3]; exact HO2.out.below (below_drewN (Below.refl _ _) _)
        clear e3 z0 cx fx HO2
        obtain ⟨g, rfl⟩ := OI.gsm O3.out (by omega)
        obtain ⟨z, hz⟩ : ∃ z, z = nth row a := ⟨_, rfl⟩
        have zr := O3.out.cellAt hgt
        rw [← hz] at zr
        have cx := HY3.out.cx
        have hzb : 0 ≤ z ∧ z ≤ 1000 := by rw [hz]; exact HFR.out.2 _ (nth_mem (by rw [HROW.out]; exact hgt))
        have HZ := Lib.hid hz
        have hw1 : IntKind.i64.wrap (y + 1) = y + 1 := IntWalk.i64_in _ (by omega)
        have ha0 : (a : Int) < (n2 : Int) := by omega
        have HCO : Hid (∀ q, Calls Try.prog 105 #[.slice (some ⟨g, 0, none⟩) n2 c2, .int .i64 y] (w3.drewN q) (Gives (w3.drewN q) (.bool (hasB row y)))) := fun q => contains_any c2 y (O3.out.ri.drewN q) (by omega)
        clear hz
        rcases hzy : (z == y + 1) with _ | _
        · have HNO : Hid (¬ (z = y + 1 ∧ hasB row y = true)) := fun h => by
            rw [h.1] at hzy
            simp at hzy
          clear HCO
          go_quiet (fail)
          obtain ⟨w4, e4⟩ : ∃ W, W = w3.drewN nq := ⟨_, rfl⟩
          rw [← e4]
          have HY4 : Hid (EgS w w4 G n1 c1 t x y pre (row :: rest) cells) := by rw [e4]; exact HY3.out.below (below_drewN (Below.refl _ _) _)
          have O4 : Hid (OI w4 (w.heap.size + 1) (.slice (some ⟨g, 0, none⟩) n2 c2) row) := by rw [e4]; exact O3.out.below (below_drewN (Below.refl _ _) _)
          have HB5 : Hid (EgS w ((w4.setCell ⟨g, a, none⟩ (.int .i64 y)).setCell ⟨w.heap.size, 0, none⟩ (.int .i64 z)) G n1 c1 t x z (pre ++ [row.set a y]) rest cells) := HY4.out.bump (by rw [HR.out]; exact HZC.out) O4.out HA.out HZ.out (by rw [HROW.out]; exact hgt) HNO.out
          clear e4 zr cx
          have z4 := O4.out.cellAt hgt
          rw [← HZ.out] at z4
          have f4 := O4.out.frozenAt a
          have cx4 := HY4.out.cx
          have fx4 := HY4.out.fx
          have hgX : g ≠ w.heap.size := by have := (O4.out.lt g rfl).1; omega
          have hXg : w.heap.size ≠ g := fun e => hgX e.symm
          go_wp2_with fail
          go_region
          go_wp2_with fail
          go_roundw
          case rel => exact ⟨r + 1, z, _, rest, cells, by go_num, by omega, by show _ = _; rw [List.length_append, HR.out]; rfl, HB5.out.below ((Below.refl _ _).drew)⟩
          case measure => simp [intOf]; omega
        · rcases hhb : hasB row y with _ | _
          · have HNO : Hid (¬ (z = y + 1 ∧ hasB row y = true)) := fun h => by rw [hhb] at h; cases h.2
            rw [hhb] at HCO
            clear hhb
            go_quiet (first | (go_at_call 105; first | (with_reducible exact qcall (HCO.out _)) | (with_reducible exact qcall_add (HCO.out _))))
            obtain ⟨w4, e4⟩ : ∃ W, W = w3.drewN nq := ⟨_, rfl⟩
            rw [← e4]
            have HY4 : Hid (EgS w w4 G n1 c1 t x y pre (row :: rest) cells) := by rw [e4]; exact HY3.out.below (below_drewN (Below.refl _ _) _)
            have O4 : Hid (OI w4 (w.heap.size + 1) (.slice (some ⟨g, 0, none⟩) n2 c2) row) := by rw [e4]; exact O3.out.below (below_drewN (Below.refl _ _) _)
            have HB5 : Hid (EgS w ((w4.setCell ⟨g, a, none⟩ (.int .i64 y)).setCell ⟨w.heap.size, 0, none⟩ (.int .i64 z)) G n1 c1 t x z (pre ++ [row.set a y]) rest cells) := HY4.out.bump (by rw [HR.out]; exact HZC.out) O4.out HA.out HZ.out (by rw [HROW.out]; exact hgt) HNO.out
            clear e4 zr cx
            have z4 := O4.out.cellAt hgt
            rw [← HZ.out] at z4
            have f4 := O4.out.frozenAt a
            have cx4 := HY4.out.cx
            have fx4 := HY4.out.fx
            have hgX : g ≠ w.heap.size := by have := (O4.out.lt g rfl).1; omega
            have hXg : w.heap.size ≠ g := fun e => hgX e.symm
            go_wp2_with fail
            go_region
            go_wp2_with fail
            go_roundw
            case rel => exact ⟨r + 1, z, _, rest, cells, by go_num, by omega, by show _ = _; rw [List.length_append, HR.out]; rfl, HB5.out.below ((Below.refl _ _).drew)⟩
            case measure => simp [intOf]; omega
          · have HSK : Hid (∀ W, EgS w W G n1 c1 t x y pre (row :: rest) cells → EgS w (W.setCell ⟨w.heap.size, 0, none⟩ (.int .i64 (y + 1))) G n1 c1 t x (y + 1) (pre ++ [row]) rest cells) := fun W h => h.skip (by rw [HROW.out, ← HA.out]; exact hgt) (by rw [← HA.out, ← HZ.out]; exact beq_iff_eq.1 hzy) hhb
            rw [hhb] at HCO
            clear hhb
            go_quiet (first | (go_at_call 105; first | (with_reducible exact qcall (HCO.out _)) | (with_reducible exact qcall_add (HCO.out _))))
            obtain ⟨w4, e4⟩ : ∃ W, W = w3.drewN nq := ⟨_, rfl⟩
            rw [← e4]
            have HY4 : Hid (EgS w w4 G n1 c1 t x y pre (row :: rest) cells) := by rw [e4]; exact HY3.out.below (below_drewN (Below.refl _ _) _)
            clear e4 zr cx
            have cx4 := HY4.out.cx
            have fx4 := HY4.out.fx
            have HB5 := Lib.hid (HSK.out _ HY4.out)
            go_wp2_with fail
            go_roundw
            case rel => exact ⟨r + 1, y + 1, _, rest, cells, by go_num, by omega, by show _ = _; rw [List.length_append, HR.out]; rfl, HB5.out⟩
            case measure => simp [intOf]; omega
      · have hge : gtAt row y = row.length := by have := gtAt_le row y; have := HROW.out; omega
        have hIR : idxR row y = -1 := by rw [idxR, if_neg (by omega)]
        have HE : Hid ((egI t x).1 = (pre ++ row :: rest).set r (row ++ [y]) ∧ (egI t x).2 = r) := by
          have h := HY.out.e
          rw [egI_grow hge] at h
          show _ ∧ _
          rw [h, ← HR.out, set_mid]
          simp
        rw [hIR] at HIF
        clear hIR hge hgt
        go_upto_region 7 with (first | (go_at_call 189; refine HIF.out.mono ?_; rintro e w2 ⟨rfl, q2, rfl⟩) | fail)
        obtain ⟨w3, e3⟩ : ∃ W, W = wr.drewN q2 := ⟨_, rfl⟩
        rw [← e3]
        have HY3 : Hid (EgS w w3 G n1 c1 t x y pre (row :: rest) cells) := by rw [e3]; exact HY.out.below (below_drewN (Below.refl _ _) _)
        have O3 : Hid (OI w3 (w.heap.size + 1) (.slice A2 n2 c2) row) := by rw [e3]; exact HO2.out.below (below_drewN (Below.refl _ _) _)
        have HSZ : Hid (w.heap.size + 1 ≤ w3.heap.size) := by have := OF.lt HY3.out.o G rfl; show _ ≤ _; omega
        have HLR : Hid (row.length + 1 ≤ 1000000000000) := by show _ ≤ _; rw [HROW.out]; omega
        have HRL : Hid (r < (pre ++ row :: rest).length) := by show _ < _; rw [← HR.out]; simp
        clear e3 z0 cx fx HO2
        have cx := HY3.out.cx
        have hr0 : (r : Int) < (n1 : Int) := by omega
        go_wp2_with (first
          | (at_builtin; refine wpApp1 rfl _ _ rfl (w.heap.size + 1) (.slice A2 n2 c2) row y rfl O3.out rfl HLR.out HSZ.out ?_; intro v6 w6 o6 g6 k6; obtain ⟨A6, n6, c6, rfl, -⟩ := o6.form; have z6 := OS.outer HY3.out.o HRL.out HZC.out g6; obtain ⟨z6, f6⟩ := z6)
          | fail)
        go_ret2
        have hp := OS.rowPut HY3.out.o HRL.out HZC.out g6 o6 (k6.imp id fun h k e => by rw [h] at e; injection e with e; omega)
        have hb6 : Below w.heap.size w w6 := HY3.out.bel.grown g6 HY3.out.bel.size fun k hk => by have := (O3.out.lt k hk).1; omega
        have hb7 := hb6.grown hp.2 hb6.size fun k hk => by injection hk with hk; have := (OF.lt HY3.out.o G rfl).1; omega
        rw [HE.out.1, HE.out.2]
        exact MakesSn.of hp.1 hb7 (by omega) (by omega)
end Go.Proofs.Ytgbojgmmingfdaa

/- l4Copy, l4Flat, l4Shape, l4Edelman of the reference. -/
namespace Go.Proofs.Ytgbojgmmingfdaa
open Go.RowKit

set_option maxRecDepth 100000 in
set_option maxHeartbeats 1000000 in
theorem l4Copy_any {A : Option Addr} {n : Nat} {ls : List (List Int)} {w : World} (c : Nat) (hx : RS w A n ls) (hn : n ≤ 1000000) (hs : ∀ k, k < n → (nthL ls k).length ≤ 1000000) :
    Calls Try.prog 141 #[.slice A n c] w (MakesS w ls) := by
  have HX := Lib.hid hx
  have HSS := Lib.hid hs
  have HL : Hid (ls.length = n) := hx.1
  have HLIT : Hid (OS (w.alloc (.cells #[] 22)) w.heap.size w.heap.size (.slice (some ⟨w.heap.size, 0, none⟩) 0 0) [] [] ∧ Below w.heap.size w (w.alloc (.cells #[] 22))) := by
    refine ⟨?_, (Below.refl _ _).alloc (Nat.le_refl _) _⟩
    have h := OS.lit w w.heap.size w.heap.size [] [] (Nat.le_refl _) FRs.nil_ Dist.nil_ (by simp) 0 rfl
    simpa using h
  clear hx hs
  go_enter Try.func141, Try.ntmps141
  go_wp2_with fail
  go_loopw [3, 4] (fun ov i wr => ∃ (k : Nat) (D : Option Addr) (dn dd : Nat) (cells : List Value), k ≤ n ∧ i = .int .i64 (k : Int) ∧ ov = .slice D dn dd ∧ Hid (OS wr w.heap.size w.heap.size (.slice D dn dd) (ls.take k) cells ∧ Below w.heap.size w wr)) (fun _ i _ => n - (intOf i).toNat)
  case atStart => exact ⟨0, _, _, _, _, Nat.zero_le _, rfl, rfl, by rw [List.take_zero]; exact HLIT.out⟩
  case round =>
    obtain ⟨k, D, dn, dd, cells, hk, rfl, rfl, HY⟩ := hrel
    by_cases hlt : k < n
    · obtain ⟨ad, A', n', c', rfl, z0, r0, -⟩ := (HX.out.below HY.out.2).2 k hlt
      obtain ⟨l0, hl0⟩ : ∃ x, x = nthL ls k := ⟨_, rfl⟩
      have hlen := HSS.out k hlt
      rw [← hl0] at r0 hlen
      have HT : Hid (ls.take (k + 1) = ls.take k ++ [l0]) := by show _ = _; rw [hl0, nthL_lt (by rw [HL.out]; exact hlt), List.take_succ_eq_append_getElem]
      have HCL : Hid (Calls Try.prog 117 #[.slice A' n' c'] wr (Makes wr l0)) := l1Ints_any c' r0 (by rw [← r0.1]; omega)
      have HLE : Hid ((ls.take k).length + 1 ≤ 1000000000000) := by show _ ≤ _; rw [List.length_take]; omega
      have HSZ : Hid (w.heap.size ≤ wr.heap.size) := HY.out.2.size
      have HFR := Lib.hid HY.out.1.2.1
      clear hl0 hlen r0
      go_wp2_with (first
        | (go_at_call 117; refine HCL.out.mono ?_; rintro e w4 ⟨A4, n4, c4, rfl, o4, r4, -, b4⟩)
        | (at_builtin; refine wpAppS rfl _ _ rfl w.heap.size w.heap.size (.slice D dn dd) (ls.take k) cells (.slice A4 n4 c4) l0 rfl rfl (OF.below HY.out.1 b4) (OI.mono o4 HSZ.out) (apart_new (H := wr.heap.size) HFR.out (Nat.le_refl _) o4) HLE.out (Nat.le_trans HSZ.out b4.size) ?_; intro v7 w7 o7 g7 k7)
        | fail)
      obtain ⟨D7, dn7, dd7, rfl, -⟩ := OS.form o7
      have HF : Hid (OS w7 w.heap.size w.heap.size (.slice D7 dn7 dd7) (ls.take (k + 1)) (cells ++ [.slice A4 n4 c4]) ∧ Below w.heap.size w w7) := by
        refine ⟨by rw [HT.out]; exact o7, ?_⟩
        have hb := (HY.out.2.trans (b4.mono HSZ.out)).alloc (Nat.le_trans HSZ.out b4.size) (.cells #[.slice A4 n4 c4] 22)
        exact hb.grown g7 hb.size fun k hk => (OF.lt HY.out.1 k hk).1
      clear o4 r4 b4 o7 g7 k7
      go_roundw
      case rel => exact ⟨k + 1, _, _, _, _, by omega, by go_num, rfl, HF.out⟩
      case measure => simp [intOf]; omega
    · obtain rfl : k = n := by omega
      go_wp2_with fail
      go_ret
      have e : ls.take k = ls := List.take_of_length_le (by rw [HL.out]; omega)
      have h1 := HY.out.1
      rw [e] at h1
      exact MakesS.of h1 HY.out.2
/-- A tableau as one list. -/
def flatT (T : List (List Int)) : List Int := T.flatMap fun r => r ++ [-1]
theorem flatT_snoc {T : List (List Int)} {k : Nat} (h : k < T.length) : flatT (T.take (k + 1)) = flatT (T.take k) ++ nthL T k ++ [-1] := by
  unfold flatT
  rw [nthL_lt h, List.take_succ_eq_append_getElem h, List.flatMap_append, List.flatMap_cons, List.flatMap_nil, List.append_nil, List.append_assoc]
theorem flatT_len {M : Nat} : ∀ {T : List (List Int)}, (∀ r ∈ T, r.length ≤ M) → (flatT T).length ≤ T.length * (M + 1)
  | [], _ => by simp [flatT]
  | r :: T, h => by
    have e : flatT (r :: T) = r ++ [-1] ++ flatT T := rfl
    have h1 := h r (by simp)
    have h2 := flatT_len (T := T) fun x hx => h x (List.mem_cons_of_mem _ hx)
    rw [e, List.length_append, List.length_append, List.length_singleton, List.length_cons, Nat.add_mul]
    omega
set_option maxRecDepth 100000 in
set_option maxHeartbeats 1000000 in
theorem l4Flat_any {A : Option Addr} {n : Nat} {T : List (List Int)} {w : World} (c : Nat) (hx : RS w A n T) (hn : n ≤ 1000) (hs : ∀ r ∈ T, r.length ≤ 1000) :
    Calls Try.prog 72 #[.slice A n c] w (Makes w (flatT T)) := by
  have HX := Lib.hid hx
  have HSS := Lib.hid hs
  have HL : Hid (T.length = n) := hx.1
  have HLIT : Hid (OI (w.alloc (.cells #[] 3)) w.heap.size (.slice (some ⟨w.heap.size, 0, none⟩) 0 0) [] ∧ Below w.heap.size w (w.alloc (.cells #[] 3))) := by
    refine ⟨?_, (Below.refl _ _).alloc (Nat.le_refl _) _⟩
    have h := OI.lit w w.heap.size [] 0 rfl (Nat.le_refl _) (by simp)
    exact h
  have HBD : Hid (∀ k, k ≤ n → (flatT (T.take k)).length ≤ 1001000) := fun k hk => by
    have h := flatT_len (M := 1000) (T := T.take k) fun r hr => HSS.out r (List.mem_of_mem_take hr)
    rw [List.length_take] at h
    have h2 : min k T.length * 1001 ≤ 1000 * 1001 := Nat.mul_le_mul_right _ (by omega)
    omega
  clear hx hs
  go_enter Try.func72, Try.ntmps72
  go_wp2_with fail
  go_loopw [3, 4] (fun ov i wr => ∃ (k : Nat) (D : Option Addr) (dn dd : Nat), k ≤ n ∧ i = .int .i64 (k : Int) ∧ ov = .slice D dn dd ∧ Hid (OI wr w.heap.size (.slice D dn dd) (flatT (T.take k)) ∧ Below w.heap.size w wr)) (fun _ i _ => n - (intOf i).toNat)
  case atStart => exact ⟨0, _, _, _, Nat.zero_le _, rfl, rfl, by rw [List.take_zero]; exact HLIT.out⟩
  case round =>
    obtain ⟨k, D, dn, dd, hk, rfl, rfl, HY⟩ := hrel
    by_cases hlt : k < n
    · obtain ⟨ad, A', n', c', rfl, z0, r0, -⟩ := (HX.out.below HY.out.2).2 k hlt
      have hkl : k < T.length := by rw [HL.out]; exact hlt
      obtain ⟨l0, hl0⟩ : ∃ x, x = nthL T k := ⟨_, rfl⟩
      have HT : Hid (flatT (T.take (k + 1)) = flatT (T.take k) ++ l0 ++ [-1]) := by show _ = _; rw [flatT_snoc hkl, hl0]
      have hlen := HSS.out (nthL T k) (by rw [nthL_lt hkl]; exact List.getElem_mem _)
      rw [r0.1] at hlen
      rw [← hl0] at r0
      have HR0 := Lib.hid r0
      have HLE : Hid ((flatT (T.take k)).length + n' ≤ 1000000000000) := by have := HBD.out k hk; show _ ≤ _; omega
      have HLE2 : Hid ((flatT (T.take k) ++ l0).length + 1 ≤ 1000000000000) := by have := HBD.out k hk; have := HR0.out.1; show _ ≤ _; rw [List.length_append]; omega
      have HSZ : Hid (w.heap.size ≤ wr.heap.size) := HY.out.2.size
      clear hl0 hlen r0 hkl
      go_upto_region 6 with (at_builtin; refine wpAppI rfl _ _ rfl w.heap.size (.slice D dn dd) (flatT (T.take k)) l0 A' n' c' rfl rfl HY.out.1 HR0.out HLE.out HSZ.out ?_; intro v6 w6 o6 g6 k6)
      obtain ⟨D6, dn6, dd6, rfl, -⟩ := o6.form
      have HF6 : Hid (OI w6 w.heap.size (.slice D6 dn6 dd6) (flatT (T.take k) ++ l0) ∧ Below w.heap.size w w6) := ⟨o6, HY.out.2.grown g6 HSZ.out fun q hq => (HY.out.1.lt q hq).1⟩
      have HSZ6 : Hid (w.heap.size ≤ w6.heap.size) := HF6.out.2.size
      clear o6 g6 k6
      go_wp2_with (first
        | (at_builtin; refine wpApp1 rfl _ _ rfl w.heap.size (.slice D6 dn6 dd6) (flatT (T.take k) ++ l0) (-1) rfl HF6.out.1 rfl HLE2.out HSZ6.out ?_; intro v7 w7 o7 g7 k7)
        | fail)
      obtain ⟨D7, dn7, dd7, rfl, -⟩ := o7.form
      have HF7 : Hid (OI w7 w.heap.size (.slice D7 dn7 dd7) (flatT (T.take (k + 1))) ∧ Below w.heap.size w w7) := ⟨by rw [HT.out]; exact o7, HF6.out.2.grown g7 HSZ6.out fun q hq => (HF6.out.1.lt q hq).1⟩
      clear o7 g7 k7
      go_roundw
      case rel => exact ⟨k + 1, _, _, _, by omega, by go_num, rfl, HF7.out⟩
      case measure => simp [intOf]; omega
    · obtain rfl : k = n := by omega
      go_wp2_with fail
      go_ret
      have e : T.take k = T := List.take_of_length_le (by rw [HL.out]; omega)
      have h1 := HY.out.1
      have h2 := HBD.out k (Nat.le_refl _)
      rw [e] at h1 h2
      exact Makes.of h1 HY.out.2 (by omega)
def shapeT (T : List (List Int)) : List Int := T.map fun r => (r.length : Int)
theorem shapeT_len (T : List (List Int)) : (shapeT T).length = T.length := List.length_map ..
theorem nth_shapeT {T : List (List Int)} {k : Nat} (h : k < T.length) : nth (shapeT T) k = ((nthL T k).length : Int) := by
  rw [nth_lt (by rw [shapeT_len]; exact h), nthL_lt h]
  simp [shapeT]
set_option maxRecDepth 100000 in
set_option maxHeartbeats 1000000 in
theorem l4Shape_any {A : Option Addr} {n : Nat} {T : List (List Int)} {w : World} (c : Nat) (hx : RS w A n T) (hn : n ≤ 1000) :
    Calls Try.prog 74 #[.slice A n c] w (Makes w (shapeT T)) := by
  have HX := Lib.hid hx
  have HL : Hid (T.length = n) := hx.1
  have HLIT : Hid (OI (w.alloc (.cells #[] 3)) w.heap.size (.slice (some ⟨w.heap.size, 0, none⟩) 0 0) [] ∧ Below w.heap.size w (w.alloc (.cells #[] 3))) := by
    refine ⟨?_, (Below.refl _ _).alloc (Nat.le_refl _) _⟩
    have h := OI.lit w w.heap.size [] 0 rfl (Nat.le_refl _) (by simp)
    exact h
  clear hx
  go_enter Try.func74, Try.ntmps74
  go_wp2_with fail
  go_loopw [3, 4] (fun ov i wr => ∃ (k : Nat) (D : Option Addr) (dn dd : Nat), k ≤ n ∧ i = .int .i64 (k : Int) ∧ ov = .slice D dn dd ∧ Hid (OI wr w.heap.size (.slice D dn dd) ((shapeT T).take k) ∧ Below w.heap.size w wr)) (fun _ i _ => n - (intOf i).toNat)
  case atStart => exact ⟨0, _, _, _, Nat.zero_le _, rfl, rfl, by rw [List.take_zero]; exact HLIT.out⟩
  case round =>
    obtain ⟨k, D, dn, dd, hk, rfl, rfl, HY⟩ := hrel
    by_cases hlt : k < n
    · obtain ⟨ad, A', n', c', rfl, z0, r0, -⟩ := (HX.out.below HY.out.2).2 k hlt
      have hkl : k < (shapeT T).length := by rw [shapeT_len, HL.out]; exact hlt
      have HT : Hid ((shapeT T).take (k + 1) = (shapeT T).take k ++ [(n' : Int)]) := by show _ = _; rw [take_succ_nth hkl, nth_shapeT (by rw [HL.out]; exact hlt), r0.1]
      have HLE : Hid (((shapeT T).take k).length + 1 ≤ 1000000000000) := by show _ ≤ _; rw [List.length_take]; omega
      have HSZ : Hid (w.heap.size ≤ wr.heap.size) := HY.out.2.size
      clear r0 hkl
      go_wp2_with (first
        | (at_builtin; refine wpApp1 rfl _ _ rfl w.heap.size (.slice D dn dd) ((shapeT T).take k) (n' : Int) rfl (by exact HY.out.1) rfl HLE.out HSZ.out ?_; intro v7 w7 o7 g7 k7)
        | fail)
      obtain ⟨D7, dn7, dd7, rfl, -⟩ := o7.form
      have HF7 : Hid (OI w7 w.heap.size (.slice D7 dn7 dd7) ((shapeT T).take (k + 1)) ∧ Below w.heap.size w w7) := ⟨by rw [HT.out]; exact o7, HY.out.2.grown g7 HSZ.out fun q hq => (HY.out.1.lt q hq).1⟩
      clear o7 g7 k7
      go_roundw
      case rel => exact ⟨k + 1, _, _, _, by omega, by go_num, rfl, HF7.out⟩
      case measure => simp [intOf]; omega
    · obtain rfl : k = n := by omega
      go_wp2_with fail
      go_ret
      have e : (shapeT T).take k = shapeT T := List.take_of_length_le (by rw [shapeT_len, HL.out]; omega)
      have h1 := HY.out.1
      rw [e] at h1
      exact Makes.of h1 HY.out.2 (by rw [shapeT_len, HL.out]; omega)
end Go.Proofs.Ytgbojgmmingfdaa
