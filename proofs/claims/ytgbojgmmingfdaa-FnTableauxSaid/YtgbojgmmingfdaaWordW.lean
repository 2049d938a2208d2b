/- 'inserted' of the program, for reduced words. -/
import Derived.Test.YtgbojgmmingfdaaEgP
import Derived.Test.YtgbojgmmingfdaaShapes
import Derived.BigRegion
import Derived.Test.YtgbojgmmingfdaaBegW
namespace Go.Proofs.Ytgbojgmmingfdaa
open Go.RowKit

theorem OS.outer {w w1 : World} {base b G n c r : Nat} {u : Value} {ls : List (List Int)} {cells : List Value} (h : OS w base b (.slice (some ⟨G, 0, none⟩) n c) ls cells) (hr : r < ls.length) (hu : cells[r]? = some u) (hg : w.grownBy w1 u.ownBlock) :
    w1.cell? ⟨G, r, none⟩ = some u ∧ w1.frozen? ⟨G, r, none⟩ = false := by
  have hU : OI w b u (nthL ls r) := h.2.1.2 r _ u (rows_at hr) hu
  have hne : (Value.slice (some ⟨G, 0, none⟩) n c).ownBlock = none ∨ (Value.slice (some ⟨G, 0, none⟩) n c).ownBlock ≠ u.ownBlock := by
    refine .inr fun e => ?_
    obtain ⟨csG, mG, htG⟩ := OF.typed h G rfl
    obtain ⟨cs2, m2, h2⟩ := OI.typed hU G e.symm
    rw [htG] at h2
    injection h2 with h2
    injection h2 with _ h3
    exact absurd h3 (by decide)
  have h1 := World.ownsRow.kept h.1 hg hne
  have hln := OS.lenS h
  rw [hln] at h1
  exact ⟨(h1.cellAt r (by omega)).trans hu, h1.frozenAt r⟩
theorem OF.low {w w' : World} {base b size n : Nat} {e : TypeId} {v : Value} {fs : List (Int ⊕ List Int)} {cells : List Value} (h : OF w base b e size v n fs cells) {X : Nat} (hg : w.grownBy w' (some X)) (h1 : X < base) (h2 : X < b) : OF w' base b e size v n fs cells :=
  OF.kept_low h hg fun g e => by injection e with e; omega
/-- Small tableaux. -/
def Fine (t : List (List Int)) (x : Int) : Prop := t.length ≤ 1000 ∧ (∀ r ∈ t, r.length ≤ 1000 ∧ ∀ y ∈ r, 0 ≤ y ∧ y ≤ 1000) ∧ 0 ≤ x ∧ x ≤ 1000
/-- What is left at a row. -/
structure EgS (w wr : World) (G n c : Nat) (t : List (List Int)) (x y : Int) (pre post : List (List Int)) (cells : List Value) : Prop where
  o : OS wr (w.heap.size + 1) (w.heap.size + 1) (.slice (some ⟨G, 0, none⟩) n c) (pre ++ post) cells
  b : OI wr w.heap.size (.slice (some ⟨w.heap.size, 0, none⟩) 1 1) [y]
  e : egI t x = (pre ++ (egI post y).1, pre.length + (egI post y).2)
  p : Fine post y
  l : pre.length + post.length = n
  bel : Below w.heap.size w wr
section
variable {w w1 w2 : World} {G n c : Nat} {t : List (List Int)} {x y : Int} {pre post : List (List Int)} {cells : List Value}
theorem EgS.below (h : EgS w w1 G n c t x y pre post cells) (b : Below w1.heap.size w1 w2) : EgS w w2 G n c t x y pre post cells :=
  ⟨OF.below h.o b, h.b.below b, h.e, h.p, h.l, h.bel.trans (b.mono h.bel.size)⟩
theorem EgS.cx (h : EgS w w1 G n c t x y pre post cells) : w1.cell? ⟨w.heap.size, 0, none⟩ = some (.int .i64 y) := h.b.cellAt (j := 0) (by omega)
theorem EgS.fx (h : EgS w w1 G n c t x y pre post cells) : w1.frozen? ⟨w.heap.size, 0, none⟩ = false := h.b.frozenAt 0
theorem Fine.rest {row : List Int} {rest : List (List Int)} {z : Int} (h : Fine (row :: rest) y) (hz : 0 ≤ z ∧ z ≤ 1000) : Fine rest z :=
  ⟨by have := h.1; simp only [List.length_cons] at this; omega, fun r hr => h.2.1 r (List.mem_cons_of_mem _ hr), hz⟩
theorem set_mid {α : Type} (pre rest : List α) (a b : α) : (pre ++ a :: rest).set pre.length b = (pre ++ [b]) ++ rest := by simp
theorem EgS.bump {g n2 c2 : Nat} {row : List Int} {rest : List (List Int)} {a : Nat} {z : Int} (h : EgS w w1 G n c t x y pre (row :: rest) cells) (hu : cells[pre.length]? = some (.slice (some ⟨g, 0, none⟩) n2 c2)) (ho : OI w1 (w.heap.size + 1) (.slice (some ⟨g, 0, none⟩) n2 c2) row)
    (ha : a = gtAt row y) (hz : z = nth row a) (hlt : a < row.length) (hno : ¬ (z = y + 1 ∧ hasB row y = true)) :
    EgS w ((w1.setCell ⟨g, a, none⟩ (.int .i64 y)).setCell ⟨w.heap.size, 0, none⟩ (.int .i64 z)) G n c t x z (pre ++ [row.set a y]) rest cells := by
  obtain ⟨s1, s2⟩ := ho.stored a y
  have hg := ho.lt g rfl
  have h1 := OS.rowTurn h.o (r := pre.length) (by simp) hu s2 s1
  rw [set_mid] at h1
  have hb1 : OI (w1.setCell ⟨g, a, none⟩ (.int .i64 y)) w.heap.size (.slice (some ⟨w.heap.size, 0, none⟩) 1 1) [y] := h.b.kept s2 (.inr (by simp [Value.ownBlock]; omega))
  obtain ⟨s3, s4⟩ := hb1.stored 0 z
  refine ⟨OF.low h1 s4 (by omega) (by omega), s3, ?_, h.p.rest ?_, ?_, ?_⟩
  · rw [h.e, egI_bump (by rw [← ha]; exact hlt) (by rw [← ha, ← hz]; exact hno), ← ha, ← hz]
    simp [Nat.add_assoc, Nat.add_comm]
  · rw [hz]
    exact (h.p.2.1 row (by simp)).2 _ (nth_mem hlt)
  · have := h.l
    simp only [List.length_cons, List.length_append, List.length_nil] at this ⊢
    omega
  · exact (h.bel.grown s2 h.bel.size fun k hk => by injection hk; omega).grown s4 (Nat.le_trans h.bel.size s2.size) fun k hk => by injection hk; omega
theorem EgS.skip {row : List Int} {rest : List (List Int)} (h : EgS w w1 G n c t x y pre (row :: rest) cells) (hlt : gtAt row y < row.length) (hz : nth row (gtAt row y) = y + 1) (hb : hasB row y = true) :
    EgS w (w1.setCell ⟨w.heap.size, 0, none⟩ (.int .i64 (y + 1))) G n c t x (y + 1) (pre ++ [row]) rest cells := by
  obtain ⟨s3, s4⟩ := h.b.stored 0 (y + 1)
  have h1 := h.o
  rw [show pre ++ row :: rest = (pre ++ [row]) ++ rest by simp] at h1
  refine ⟨OF.low h1 s4 (by omega) (by omega), s3, ?_, h.p.rest ?_, ?_, ?_⟩
  · rw [h.e, egI_skip hlt hz hb]
    simp [Nat.add_assoc, Nat.add_comm]
  · rw [← hz]
    exact (h.p.2.1 row (by simp)).2 _ (nth_mem hlt)
  · have := h.l
    simp only [List.length_cons, List.length_append, List.length_nil] at this ⊢
    omega
  · exact h.bel.grown s4 h.bel.size fun k hk => by injection hk; omega
end
/-- A tableau and a row. -/
def MakesSn (w : World) (ls : List (List Int)) (k : Nat) : Ending → World → Prop := fun e w' =>
  ∃ A n c cells, e = .returned (.tuple #[.slice A n c, .int .i64 (k : Int)]) ∧ OS w' w.heap.size w.heap.size (.slice A n c) ls cells ∧ ls.length = n ∧ (n ≤ c ∧ c ≤ 9223372036854775807) ∧ Below w.heap.size w w'
theorem MakesSn.of {w w' : World} {v : Value} {ls : List (List Int)} {cells : List Value} {k : Nat} {base b : Nat} (h : OS w' base b v ls cells) (hb : Below w.heap.size w w') (h1 : w.heap.size ≤ base) (h2 : w.heap.size ≤ b) : MakesSn w ls k (.returned (.tuple #[v, .int .i64 (k : Int)])) w' := by
  obtain ⟨A, n, c, rfl, h3, h4, h5⟩ := OS.form h
  exact ⟨A, n, c, cells, rfl, OF.mono h h1 h2, h3, ⟨h4, h5⟩, hb⟩
set_option maxRecDepth 100000 in
set_option maxHeartbeats 4000000 in
theorem inserted_any {A : Option Addr} {m : Nat} {t : List (List Int)} {w : World} (c : Nat) (x : Int) (hx : RS w A m t) (hf : Fine t x) :
    Calls Try.prog 155 #[.slice A m c, .int .i64 x, .bool true] w (MakesSn w (egI t x).1 (egI t x).2) := by
  have HL : Hid (t.length = m) := hx.1
  have hm : m ≤ 1000 := by rw [← HL.out]; exact hf.1
  have HF := Lib.hid hf
  have HCR : Hid (∀ W, Below w.heap.size w W → Calls Try.prog 111 #[.slice A m c] W (MakesS W t)) := fun W bW => copyRows_any c (hx.below bW) (by omega) fun k hk => by
    have h1 := hf.2.1 (nthL t k) (by rw [nthL_lt (by rw [HL.out]; exact hk)]; exact List.getElem_mem _)
    omega
  obtain ⟨w0, e0⟩ : ∃ W, W = w.alloc (.cells #[.int .i64 x] 3) := ⟨_, rfl⟩
  have HB0 : Hid (Below w.heap.size w w0 ∧ w0.heap.size = w.heap.size + 1 ∧ OI w0 w.heap.size (.slice (some ⟨w.heap.size, 0, none⟩) 1 1) [x]) := by
    rw [e0]
    exact ⟨(Below.refl _ _).alloc (Nat.le_refl _) _, by simp, OI.lit w w.heap.size [x] 1 rfl (Nat.le_refl _) (by simp)⟩
  have E0 := Lib.hid e0
  clear hx hf e0
  go_enter Try.func155, Try.ntmps155
  go_upto_region 1 with fail
  rw [← E0.out]
  go_upto_region 2 with (first | (go_at_call 111; refine (HCR.out _ HB0.out.1).mono ?_; rintro e w1 ⟨A1, n1, c1, cs1, rfl, o1, l1, q1, b1⟩) | fail)
  have HN1 : Hid (n1 = m) := l1.symm.trans HL.out
  have hn1 : n1 ≤ 1000 := by rw [HN1.out]; exact hm
  rcases A1 with _ | G0
  · have h0 : t = [] := by
      rcases o1.1.2 with ⟨hv, h2⟩ | ⟨g, cap, cur, hv, -⟩
      · exact List.eq_nil_of_length_eq_zero h2
      · obtain ⟨h3, -⟩ := slice_inj hv; cases h3
    have HT0 := Lib.hid h0
    have hn0 : n1 = 0 := by rw [HN1.out, ← HL.out, HT0.out]; rfl
    subst hn0
    have hb01 : Hid (Below w.heap.size w w1) := bnext HB0.out.1 b1 HB0.out.1.size
    have hsz1 : Hid (w.heap.size + 1 ≤ w1.heap.size) := by have := b1.size; have := HB0.out.2.1; show _ ≤ _; omega
    have cx := OI.cellAt (HB0.out.2.2.below b1) (j := 0) (by omega)
    have cx' : w1.cell? ⟨w.heap.size, 0, none⟩ = some (.int .i64 x) := cx
    have hb1 : Hid (Below w1.heap.size w1 (w1.alloc (.cells #[.int .i64 x] 3))) := (Below.refl _ _).alloc (Nat.le_refl _) _
    have HO1 : Hid (OS (w1.alloc (.cells #[.int .i64 x] 3)) w0.heap.size w0.heap.size (.slice none 0 c1) [] cs1) := by
      rw [h0] at o1
      exact OF.below o1 hb1.out
    have HNL : Hid (OI (w1.alloc (.cells #[.int .i64 x] 3)) w0.heap.size (.slice (some ⟨w1.heap.size, 0, none⟩) 1 1) [x]) := by
      have h := OI.lit w1 w1.heap.size [x] 1 rfl (Nat.le_refl _) (by simp)
      exact OI.mono h b1.size
    have HAP : Hid (∀ u' ∈ cs1, u'.ownBlock = none ∨ u'.ownBlock ≠ (Value.slice (some ⟨w1.heap.size, 0, none⟩) 1 1).ownBlock) := fun u' hu' => by
      have h := HO1.out.2.1.1
      rw [List.eq_nil_of_length_eq_zero h] at hu'
      cases hu'
    have HSZ2 : Hid (w0.heap.size ≤ (w1.alloc (.cells #[.int .i64 x] 3)).heap.size) := by show _ ≤ _; have := b1.size; simp; omega
    have HBL : Hid (Below w.heap.size w (w1.alloc (.cells #[.int .i64 x] 3))) := hb01.out.trans (hb1.out.mono hb01.out.size)
    have HE : Hid ((egI t x).1 = [] ++ [[x]] ∧ (egI t x).2 = 0) := by
      show _ ∧ _
      rw [h0, egI]
      exact ⟨rfl, rfl⟩
    clear h0 o1 l1 q1 b1 cx
    go_wp2_with fail
    refine wp_loop_rounds 1 ?_
    simp only [Code.rounds]
    go_wp2_with (first
      | (at_builtin; rw [show w1.heap.size + 1 = (w1.alloc (.cells #[.int .i64 x] 3)).heap.size from (by simp)]; refine wpAppS rfl _ _ rfl w0.heap.size w0.heap.size (.slice none 0 c1) [] cs1 (.slice (some ⟨w1.heap.size, 0, none⟩) 1 1) [x] rfl rfl HO1.out HNL.out HAP.out (by simp) HSZ2.out ?_; intro v7 w7 o7 g7 k7)
      | fail)
    go_ret2
    rw [HE.out.1, HE.out.2]
    have hb2 := HBL.out.alloc HBL.out.size (.cells #[.slice (some ⟨w1.heap.size, 0, none⟩) 1 1] 22)
    have hs := HB0.out.2.1
    exact MakesSn.of o7 (hb2.grown g7 hb2.size fun k hk => by have := (OF.lt HO1.out k hk).1; omega) (by omega) (by omega)
  obtain ⟨G, rfl⟩ : ∃ G, G0 = ⟨G, 0, none⟩ := by
    rcases o1.1.2 with ⟨hv, h2⟩ | ⟨g, cap, cur, hv, -⟩
    · obtain ⟨h3, -⟩ := slice_inj hv; cases h3
    · exact ⟨g, Option.some.inj (slice_inj hv).1⟩
  have S1 : Hid (EgS w w1 G n1 c1 t x x [] t cs1) := by
    have hs := HB0.out.2.1
    refine ⟨?_, ?_, by simp, HF.out, by simpa using l1, bnext HB0.out.1 b1 HB0.out.1.size⟩
    · rw [hs] at o1; exact o1
    · exact HB0.out.2.2.below b1
  clear o1 l1 q1 b1
  go_wp2_with fail
  go_loopw [16] (fun i wr => ∃ (r : Nat) (y : Int) (pre post : List (List Int)) (cells : List Value), i = .int .i64 (r : Int) ∧ r ≤ n1 ∧ Hid (pre.length = r) ∧ Hid (EgS w wr G n1 c1 t x y pre post cells)) (fun i _ => n1 - (intOf i).toNat)
  case atStart => exact ⟨0, x, [], t, cs1, rfl, Nat.zero_le _, rfl, S1.out⟩
  case round =>
    clear S1
    obtain ⟨r, y, pre, post, cells, rfl, hr, HR, HY⟩ := hrel
    cases post with
    | nil =>
      have hrn : r = n1 := by have h1 := HY.out.l; have h2 := HR.out; simp only [List.length_nil] at h1; omega
      have HRN := Lib.hid hrn
      have hlt' : ¬ r < n1 := by omega
      have hlt2 : ¬ (r : Int) < (n1 : Int) := by omega
      have cx := HY.out.cx
      have hb1 : Hid (Below wr.heap.size wr (wr.alloc (.cells #[.int .i64 y] 3))) := (Below.refl _ _).alloc (Nat.le_refl _) _
      have HOP : Hid (OS (wr.alloc (.cells #[.int .i64 y] 3)) (w.heap.size + 1) (w.heap.size + 1) (.slice (some ⟨G, 0, none⟩) n1 c1) pre cells) := by
        have h := HY.out.o
        rw [List.append_nil] at h
        exact OF.below h hb1.out
      have HSZ : Hid (w.heap.size + 1 ≤ wr.heap.size) := by have := OF.lt HY.out.o G rfl; show _ ≤ _; omega
      have HNW : Hid (OI (wr.alloc (.cells #[.int .i64 y] 3)) wr.heap.size (.slice (some ⟨wr.heap.size, 0, none⟩) 1 1) [y]) := by
        have h := OI.lit wr wr.heap.size [y] 1 rfl (Nat.le_refl _) (by simp)
        exact h
      have HNL : Hid (OI (wr.alloc (.cells #[.int .i64 y] 3)) (w.heap.size + 1) (.slice (some ⟨wr.heap.size, 0, none⟩) 1 1) [y]) := HNW.out.mono HSZ.out
      have HAP : Hid (∀ u' ∈ cells, u'.ownBlock = none ∨ u'.ownBlock ≠ (Value.slice (some ⟨wr.heap.size, 0, none⟩) 1 1).ownBlock) := apart_new (H := wr.heap.size) HY.out.o.2.1 (Nat.le_refl _) HNW.out
      have HPL : Hid (pre.length + 1 ≤ 1000000000000) := by show _ ≤ _; rw [HR.out]; omega
      have HSZ2 : Hid (w.heap.size + 1 ≤ (wr.alloc (.cells #[.int .i64 y] 3)).heap.size) := by show _ ≤ _; have := HSZ.out; simp; omega
      have HBL : Hid (Below w.heap.size w (wr.alloc (.cells #[.int .i64 y] 3))) := HY.out.bel.trans (hb1.out.mono HY.out.bel.size)
      have HE : Hid ((egI t x).1 = pre ++ [[y]] ∧ (egI t x).2 = r) := by
        have h := HY.out.e
        show _ ∧ _
        rw [h, ← HR.out]
        simp [egI]
      clear hrn
      go_wp2_with (first
        | (at_builtin; rw [show wr.heap.size + 1 = (wr.alloc (.cells #[.int .i64 y] 3)).heap.size from (by simp)]; refine wpAppS rfl _ _ rfl (w.heap.size + 1) (w.heap.size + 1) (.slice (some ⟨G, 0, none⟩) n1 c1) pre cells (.slice (some ⟨wr.heap.size, 0, none⟩) 1 1) [y] rfl rfl HOP.out HNL.out HAP.out HPL.out HSZ2.out ?_; intro v7 w7 o7 g7 k7)
        | fail)
      go_ret2
      rw [HE.out.1, HE.out.2, HRN.out]
      have hb2 := HBL.out.alloc HBL.out.size (.cells #[.slice (some ⟨wr.heap.size, 0, none⟩) 1 1] 22)
      exact MakesSn.of o7 (hb2.grown g7 hb2.size fun k hk => by have := (OF.lt HY.out.o k hk).1; omega) (by omega) (by omega)
    | cons row rest =>
      have hlt : r < n1 := by have h1 := HY.out.l; have h2 := HR.out; simp only [List.length_cons] at h1; omega
      obtain ⟨A2, n2, c2, z0, zc, o2, -⟩ := OS.cellG HY.out.o hlt
      have hrow : nthL (pre ++ row :: rest) r = row := by rw [← HR.out]; simp [nthL]
      rw [hrow] at o2
      have hfr := HY.out.p.2.1 row (by simp)
      have hyb := HY.out.p.2.2
      have HO2 := Lib.hid o2
      have HZC := Lib.hid zc
      have cx := HY.out.cx
      have fx := HY.out.fx
      have hl2 : row.length = n2 := o2.ri.1
      have hn2 : n2 ≤ 1000 := by rw [← hl2]; exact hfr.1
      have HROW : Hid (row.length = n2) := hl2
      have HFR := Lib.hid hfr
      have HIF : Hid (Calls Try.prog 189 #[.slice A2 n2 c2, .func (.func 190) #[] #[.pointer (some ⟨w.heap.size, 0, none⟩)]] wr (Gives wr (.int .i64 (idxR row y)))) := idxF_any c2 w.heap.size y o2.ri cx (by omega)
      clear hrow zc o2 hl2 hfr
      by_cases hgt : gtAt row y < n2
      · obtain ⟨a, ha⟩ : ∃ a, a = gtAt row y := ⟨_, rfl⟩
        have HA := Lib.hid ha
        have hIR : idxR row y = (a : Int) := by rw [idxR, if_pos (by rw [HROW.out]; exact hgt), ha]
        rw [hIR] at HIF
        rw [← ha] at hgt
        clear hIR ha
        go_upto_region 9 with (first | (go_at_call 189; refine HIF.out.mono ?_; rintro e w2 ⟨rfl, q2, rfl⟩) | fail)
        obtain ⟨w3, e3⟩ : ∃ W, W = wr.drewN q2 := ⟨_, rfl⟩
        rw [← e3]
        have HY3 : Hid (EgS w w3 G n1 c1 t x y pre (row :: rest) cells) := by rw [e3]; exact HY.out.below (below_drewN (Below.refl _ _) _)
        have O3 : Hid (OI w3 (w.heap.size + 1) (.slice A2 n2 c2) row) := by rw [e3]; exact HO2.out.below (below_drewN (Below.refl _ _) _)
        clear e3 z0 cx fx HO2
        obtain ⟨g, rfl⟩ := OI.gsm O3.out (by omega)
        obtain ⟨z, hz⟩ : ∃ z, z = nth row a := ⟨_, rfl⟩
        have zr := O3.out.cellAt hgt
        rw [← hz] at zr
        have cx := HY3.out.cx
        have hzb : 0 ≤ z ∧ z ≤ 1000 := by rw [hz]; exact HFR.out.2 _ (nth_mem (by rw [HROW.out]; exact hgt))
        have HZ := Lib.hid hz
        have hw1 : IntKind.i64.wrap (y + 1) = y + 1 := IntWalk.i64_in _ (by omega)
        have ha0 : (a : Int) < (n2 : Int) := by omega
        have HCO : Hid (∀ q, Calls Try.prog 105 #[.slice (some ⟨g, 0, none⟩) n2 c2, .int .i64 y] (w3.drewN q) (Gives (w3.drewN q) (.bool (hasB row y)))) := fun q => contains_any c2 y (O3.out.ri.drewN q) (by omega)
        clear hz
        rcases hzy : (z == y + 1) with _ | _
        · have HNO : Hid (¬ (z = y + 1 ∧ hasB row y = true)) := fun h => by
            rw [h.1] at hzy
            simp at hzy
          clear HCO
          go_quiet (fail)
          obtain ⟨w4, e4⟩ : ∃ W, W = w3.drewN nq := ⟨_, rfl⟩
          rw [← e4]
          have HY4 : Hid (EgS w w4 G n1 c1 t x y pre (row :: rest) cells) := by rw [e4]; exact HY3.out.below (below_drewN (Below.refl _ _) _)
          have O4 : Hid (OI w4 (w.heap.size + 1) (.slice (some ⟨g, 0, none⟩) n2 c2) row) := by rw [e4]; exact O3.out.below (below_drewN (Below.refl _ _) _)
          have HB5 : Hid (EgS w ((w4.setCell ⟨g, a, none⟩ (.int .i64 y)).setCell ⟨w.heap.size, 0, none⟩ (.int .i64 z)) G n1 c1 t x z (pre ++ [row.set a y]) rest cells) := HY4.out.bump (by rw [HR.out]; exact HZC.out) O4.out HA.out HZ.out (by rw [HROW.out]; exact hgt) HNO.out
          clear e4 zr cx
          have z4 := O4.out.cellAt hgt
          rw [← HZ.out] at z4
          have f4 := O4.out.frozenAt a
          have cx4 := HY4.out.cx
          have fx4 := HY4.out.fx
          have hgX : g ≠ w.heap.size := by have := (O4.out.lt g rfl).1; omega
          have hXg : w.heap.size ≠ g := fun e => hgX e.symm
          go_wp2_with fail
          go_region
          go_wp2_with fail
          go_roundw
          case rel => exact ⟨r + 1, z, _, rest, cells, by go_num, by omega, by show _ = _; rw [List.length_append, HR.out]; rfl, HB5.out.below ((Below.refl _ _).drew)⟩
          case measure => simp [intOf]; omega
        · rcases hhb : hasB row y with _ | _
          · have HNO : Hid (¬ (z = y + 1 ∧ hasB row y = true)) := fun h => by rw [hhb] at h; cases h.2
            rw [hhb] at HCO
            clear hhb
            go_quiet (first | (go_at_call 105; first | (with_reducible exact qcall (HCO.out _)) | (with_reducible exact qcall_add (HCO.out _))))
            obtain ⟨w4, e4⟩ : ∃ W, W = w3.drewN nq := ⟨_, rfl⟩
            rw [← e4]
            have HY4 : Hid (EgS w w4 G n1 c1 t x y pre (row :: rest) cells) := by rw [e4]; exact HY3.out.below (below_drewN (Below.refl _ _) _)
            have O4 : Hid (OI w4 (w.heap.size + 1) (.slice (some ⟨g, 0, none⟩) n2 c2) row) := by rw [e4]; exact O3.out.below (below_drewN (Below.refl _ _) _)
            have HB5 : Hid (EgS w ((w4.setCell ⟨g, a, none⟩ (.int .i64 y)).setCell ⟨w.heap.size, 0, none⟩ (.int .i64 z)) G n1 c1 t x z (pre ++ [row.set a y]) rest cells) := HY4.out.bump (by rw [HR.out]; exact HZC.out) O4.out HA.out HZ.out (by rw [HROW.out]; exact hgt) HNO.out
            clear e4 zr cx
            have z4 := O4.out.cellAt hgt
            rw [← HZ.out] at z4
            have f4 := O4.out.frozenAt a
            have cx4 := HY4.out.cx
            have fx4 := HY4.out.fx
            have hgX : g ≠ w.heap.size := by have := (O4.out.lt g rfl).1; omega
            have hXg : w.heap.size ≠ g := fun e => hgX e.symm
            go_wp2_with fail
            go_region
            go_wp2_with fail
            go_roundw
            case rel => exact ⟨r + 1, z, _, rest, cells, by go_num, by omega, by show _ = _; rw [List.length_append, HR.out]; rfl, HB5.out.below ((Below.refl _ _).drew)⟩
            case measure => simp [intOf]; omega
          · have HSK : Hid (∀ W, EgS w W G n1 c1 t x y pre (row :: rest) cells → EgS w (W.setCell ⟨w.heap.size, 0, none⟩ (.int .i64 (y + 1))) G n1 c1 t x (y + 1) (pre ++ [row]) rest cells) := fun W h => h.skip (by rw [HROW.out, ← HA.out]; exact hgt) (by rw [← HA.out, ← HZ.out]; exact beq_iff_eq.1 hzy) hhb
            rw [hhb] at HCO
            clear hhb
            go_quiet (first | (go_at_call 105; first | (with_reducible exact qcall (HCO.out _)) | (with_reducible exact qcall_add (HCO.out _))))
            obtain ⟨w4, e4⟩ : ∃ W, W = w3.drewN nq := ⟨_, rfl⟩
            rw [← e4]
            have HY4 : Hid (EgS w w4 G n1 c1 t x y pre (row :: rest) cells) := by rw [e4]; exact HY3.out.below (below_drewN (Below.refl _ _) _)
            clear e4 zr cx
            have cx4 := HY4.out.cx
            have fx4 := HY4.out.fx
            have HB5 := Lib.hid (HSK.out _ HY4.out)
            go_wp2_with fail
            go_roundw
            case rel => exact ⟨r + 1, y + 1, _, rest, cells, by go_num, by omega, by show _ = _; rw [List.length_append, HR.out]; rfl, HB5.out⟩
            case measure => simp [intOf]; omega
      · have hge : gtAt row y = row.length := by have := gtAt_le row y; have := HROW.out; omega
        have hIR : idxR row y = -1 := by rw [idxR, if_neg (by omega)]
        have HE : Hid ((egI t x).1 = (pre ++ row :: rest).set r (row ++ [y]) ∧ (egI t x).2 = r) := by
          have h := HY.out.e
          rw [egI_grow hge] at h
          show _ ∧ _
          rw [h, ← HR.out, set_mid]
          simp
        rw [hIR] at HIF
        clear hIR hge hgt
        go_upto_region 7 with (first | (go_at_call 189; refine HIF.out.mono ?_; rintro e w2 ⟨rfl, q2, rfl⟩) | fail)
        obtain ⟨w3, e3⟩ : ∃ W, W = wr.drewN q2 := ⟨_, rfl⟩
        rw [← e3]
        have HY3 : Hid (EgS w w3 G n1 c1 t x y pre (row :: rest) cells) := by rw [e3]; exact HY.out.below (below_drewN (Below.refl _ _) _)
        have O3 : Hid (OI w3 (w.heap.size + 1) (.slice A2 n2 c2) row) := by rw [e3]; exact HO2.out.below (below_drewN (Below.refl _ _) _)
        have HSZ : Hid (w.heap.size + 1 ≤ w3.heap.size) := by have := OF.lt HY3.out.o G rfl; show _ ≤ _; omega
        have HLR : Hid (row.length + 1 ≤ 1000000000000) := by show _ ≤ _; rw [HROW.out]; omega
        have HRL : Hid (r < (pre ++ row :: rest).length) := by show _ < _; rw [← HR.out]; simp
        clear e3 z0 cx fx HO2
        have cx := HY3.out.cx
        have hr0 : (r : Int) < (n1 : Int) := by omega
        go_wp2_with (first
          | (at_builtin; refine wpApp1 rfl _ _ rfl (w.heap.size + 1) (.slice A2 n2 c2) row y rfl O3.out rfl HLR.out HSZ.out ?_; intro v6 w6 o6 g6 k6; obtain ⟨A6, n6, c6, rfl, -⟩ := o6.form; have z6 := OS.outer HY3.out.o HRL.out HZC.out g6; obtain ⟨z6, f6⟩ := z6)
          | fail)
        go_ret2
        have hp := OS.rowPut HY3.out.o HRL.out HZC.out g6 o6 (k6.imp id fun h k e => by rw [h] at e; injection e with e; omega)
        have hb6 : Below w.heap.size w w6 := HY3.out.bel.grown g6 HY3.out.bel.size fun k hk => by have := (O3.out.lt k hk).1; omega
        have hb7 := hb6.grown hp.2 hb6.size fun k hk => by injection hk with hk; have := (OF.lt HY3.out.o G rfl).1; omega
        rw [HE.out.1, HE.out.2]
        exact MakesSn.of hp.1 hb7 (by omega) (by omega)
end Go.Proofs.Ytgbojgmmingfdaa

/- Words of the program: IdentityPerm, isWord, WordPerm, isReduced at words that are right. -/
namespace Go.Proofs.Ytgbojgmmingfdaa
open Go.RowKit

/-- The identity. -/
def idn (n : Nat) : List Int := gen (fun i => (i : Int)) n
theorem idn_len (n : Nat) : (idn n).length = n := gen_len _ _
theorem nth_idn {n j : Nat} (h : j < n) : nth (idn n) j = j := nth_gen h
set_option maxHeartbeats 1000000 in
theorem iIdent_any {w : World} (n : Nat) (hn : 1 ≤ n ∧ n ≤ 7) : Calls Try.prog 98 #[.int .i64 (n : Int)] w (Makes w (idn n)) := by
  have hlo : decide (1 ≤ (n : Int)) = true := decide_eq_true (by omega)
  have hhi : decide ((n : Int) ≤ 7) = true := decide_eq_true (by omega)
  have HSI : Hid (∀ W, Calls Try.prog 159 #[.int .i64 (n : Int)] W (Gives W (.bool true))) := fun W => by
    go_enter Try.func159, Try.ntmps159
    go_wp2
    go_ret
    exact ⟨rfl, (by first | exact ⟨_, rfl⟩ | exact ⟨_, (World.drewN_drewN _ _ _).symm⟩ | exact Quiet.refl _ | (simp only [World.drewN_drewN]; exact ⟨_, rfl⟩))⟩
  go_enter Try.func98, Try.ntmps98
  go_wp2_with (first
    | (go_at_call 159; refine (HSI.out _).mono ?_; rintro e w1 ⟨rfl, q0, rfl⟩)
    | (at_make; refine wpMake rfl _ _ rfl n _ _ rfl rfl rfl rfl (by omega) ?_; intro w2 o2 b2 s2)
    | fail)
  have g2 : Below w.heap.size w w2 := by
    have h : Below w.heap.size w (w.drewN q0) := below_drewN (Below.refl _ _) _
    exact bnext h b2 h.size
  have o2' : OI w2 w.heap.size (.slice (some ⟨w.heap.size, 0, none⟩) n n) (List.replicate n 0) := by simpa using o2
  have O2 : Hid (OI w2 w.heap.size (.slice (some ⟨w.heap.size, 0, none⟩) n n) (List.replicate n 0) ∧ Below w.heap.size w w2) := ⟨o2', g2⟩
  clear o2 o2' b2 s2 g2
  go_wp2_with fail
  go_loopw [4, 12] (fun _ i wr => ∃ (k : Nat) (o : List Int), k ≤ n ∧ i = .int .i64 (k : Int) ∧ Hid (OI wr w.heap.size (.slice (some ⟨w.heap.size, 0, none⟩) n n) o ∧ Below w.heap.size w wr ∧ ∀ j, j < k → nth o j = j)) (fun _ i _ => n - (intOf i).toNat)
  case atStart => exact ⟨0, _, Nat.zero_le _, rfl, O2.out.1, O2.out.2, fun j hj => by omega⟩
  case round =>
    clear O2
    obtain ⟨k, o, hk, rfl, HY⟩ := hrel
    by_cases hlt : k < n
    · have hoc := HY.out.1.cellAt hlt
      have hof := HY.out.1.frozenAt k
      have HS : Hid (OI (wr.setCell ⟨w.heap.size, k, none⟩ (.int .i64 (k : Int))) w.heap.size (.slice (some ⟨w.heap.size, 0, none⟩) n n) (o.set k k) ∧ Below w.heap.size w (wr.setCell ⟨w.heap.size, k, none⟩ (.int .i64 (k : Int))) ∧ ∀ j, j < k + 1 → nth (o.set k (k : Int)) j = j) := by
        refine ⟨(HY.out.1.stored k k).1, HY.out.2.1.setCell (Nat.le_refl _) _, fun j hj => ?_⟩
        by_cases h : j = k
        · subst h
          rw [nth_set_eq]
          have := HY.out.1.len
          omega
        · rw [nth_set_ne (by omega), HY.out.2.2 j (by omega)]
      go_wp2
      go_roundw
      case rel => exact ⟨k + 1, _, by omega, by go_num, HS.out⟩
      case measure => simp [intOf]; omega
    · obtain rfl : k = n := by omega
      go_wp2
      go_ret
      have e : o = idn k := by
        have hol := HY.out.1.len
        refine ext_nth (by rw [idn_len, hol]) fun j hj => ?_
        rw [hol] at hj
        rw [nth_idn hj, HY.out.2.2 j hj]
      rw [← e]
      exact Makes.of HY.out.1 HY.out.2.1 (by rw [HY.out.1.len]; omega)
/-- A word for n. -/
def WordOk (n : Nat) (v : List Int) : Prop := v.length ≤ 60 ∧ ∀ j, j < v.length → 0 ≤ nth v j ∧ nth v j + 1 < n
set_option maxHeartbeats 1000000 in
theorem isWord_any {A : Option Addr} {m : Nat} {v : List Int} {w : World} (c n : Nat) (hn : 1 ≤ n ∧ n ≤ 7) (hx : RI w A m v) (hv : WordOk n v) :
    Calls Try.prog 97 #[.int .i64 (n : Int), .slice A m c] w (Gives w (.bool true)) := by
  have HL : Hid (v.length = m) := hx.1
  have HX := Lib.hid hx
  have HV := Lib.hid hv
  have hlo : decide (1 ≤ (n : Int)) = true := decide_eq_true (by omega)
  have hhi : decide ((n : Int) ≤ 7) = true := decide_eq_true (by omega)
  have HSI : Hid (∀ W, Calls Try.prog 159 #[.int .i64 (n : Int)] W (Gives W (.bool true))) := fun W => by
    go_enter Try.func159, Try.ntmps159
    go_wp2
    go_ret
    exact ⟨rfl, (by first | exact ⟨_, rfl⟩ | exact ⟨_, (World.drewN_drewN _ _ _).symm⟩ | exact Quiet.refl _ | (simp only [World.drewN_drewN]; exact ⟨_, rfl⟩))⟩
  have hm60 : m ≤ 60 := by rw [← HL.out]; exact hv.1
  have hm60' : decide ((m : Int) ≤ 60) = true := decide_eq_true (by omega)
  have hw2 : IntKind.i64.wrap ((n : Int) - 2) = (n : Int) - 2 := IntWalk.i64_in _ (by omega)
  clear hx hv
  go_enter Try.func97, Try.ntmps97
  go_wp2
  go_loopw [6, 9] (fun _ i wr => ∃ k : Nat, k ≤ m ∧ i = .int .i64 (k : Int) ∧ Quiet w wr) (fun _ i _ => m - (intOf i).toNat)
  case atStart => exact ⟨0, Nat.zero_le _, rfl, (by first | exact ⟨_, rfl⟩ | exact ⟨_, (World.drewN_drewN _ _ _).symm⟩ | exact Quiet.refl _ | (simp only [World.drewN_drewN]; exact ⟨_, rfl⟩))⟩
  case round =>
    obtain ⟨k, hk, rfl, ⟨q, rfl⟩⟩ := hrel
    by_cases hlt : k < m
    · obtain ⟨ad, rfl, z0⟩ := HX.out.cell hlt
      have hr := HV.out.2 k (by rw [HL.out]; exact hlt)
      obtain ⟨x, hxx⟩ : ∃ x, x = nth v k := ⟨_, rfl⟩
      rw [← hxx] at z0 hr
      have d0 : decide (x < 0) = false := decide_eq_false (by omega)
      have d1 : decide ((n : Int) - 2 < x) = false := decide_eq_false (by omega)
      clear hxx
      go_wp2
      go_roundw
      case rel => exact ⟨k + 1, by omega, by go_num, (by first | exact ⟨_, rfl⟩ | exact ⟨_, (World.drewN_drewN _ _ _).symm⟩ | exact Quiet.refl _ | (simp only [World.drewN_drewN]; exact ⟨_, rfl⟩))⟩
      case measure => simp [intOf]; omega
    · go_wp2_with (first | (go_at_call 159; refine (HSI.out _).mono ?_; rintro e w1 ⟨rfl, q0, rfl⟩) | fail)
      go_ret
      exact ⟨rfl, (by first | exact ⟨_, rfl⟩ | exact ⟨_, (World.drewN_drewN _ _ _).symm⟩ | exact Quiet.refl _ | (simp only [World.drewN_drewN]; exact ⟨_, rfl⟩))⟩
theorem playL_take {u v : List Int} {k : Nat} (h : k < v.length) : playL u (v.take (k + 1)) = swN (nth v k).toNat (playL u (v.take k)) := by
  rw [take_succ_nth h, playL_snoc]
theorem playL_len (u v : List Int) : (playL u v).length = u.length := by
  unfold playL
  induction v generalizing u with
  | nil => rfl
  | cons x v ih => rw [List.foldl_cons, ih, swN_len]
set_option maxRecDepth 100000 in
set_option maxHeartbeats 1000000 in
theorem iWordPerm_any {A : Option Addr} {m : Nat} {v : List Int} {w : World} (c n : Nat) (hn : 1 ≤ n ∧ n ≤ 7) (hx : RI w A m v) (hv : WordOk n v) :
    Calls Try.prog 31 #[.int .i64 (n : Int), .slice A m c] w (Makes w (playL (idn n) v)) := by
  have HL : Hid (v.length = m) := hx.1
  have HX := Lib.hid hx
  have HV := Lib.hid hv
  have HIW : Hid (Calls Try.prog 97 #[.int .i64 (n : Int), .slice A m c] w (Gives w (.bool true))) := isWord_any c n hn hx hv
  have HID : Hid (∀ W, Calls Try.prog 98 #[.int .i64 (n : Int)] W (Makes W (idn n))) := fun W => iIdent_any n hn
  have HN := Lib.hid hn
  have hm60 : m ≤ 60 := by rw [← HL.out]; exact hv.1
  clear hx hv
  go_enter Try.func31, Try.ntmps31
  go_wp2_with (first
    | (go_at_call 97; refine HIW.out.mono ?_; rintro e w1 ⟨rfl, q1, rfl⟩)
    | (go_at_call 98; refine (HID.out _).mono ?_; rintro e w2 ⟨A2, n2, c2, rfl, o2, r2, -, b2⟩)
    | fail)
  have HB2 : Hid (Below w.heap.size w w2) := by
    have h : Below w.heap.size w (w.drewN q1) := below_drewN (Below.refl _ _) _
    exact bnext h b2 h.size
  have HO2 : Hid (OI w2 w.heap.size (.slice A2 n2 c2) (idn n)) := by
    have h : OI w2 w.heap.size (.slice A2 n2 c2) (idn n) := by simpa using o2
    exact h
  clear o2 r2 b2
  go_loopw [5, 7, 16] (fun ov _ i wr => ∃ (k : Nat) (B : Option Addr) (bn bd : Nat), k ≤ m ∧ i = .int .i64 (k : Int) ∧ ov = .slice B bn bd ∧ Hid (OI wr w.heap.size (.slice B bn bd) (playL (idn n) (v.take k)) ∧ Below w.heap.size w wr)) (fun _ _ i _ => m - (intOf i).toNat)
  case atStart => exact ⟨0, _, _, _, Nat.zero_le _, rfl, rfl, by simpa [playL] using HO2.out, HB2.out⟩
  case round =>
    obtain ⟨k, B, bn, bd, hk, rfl, rfl, HY⟩ := hrel
    by_cases hlt : k < m
    · obtain ⟨ad, rfl, z0⟩ := (HX.out.below HY.out.2).cell hlt
      have hr := HV.out.2 k (by rw [HL.out]; exact hlt)
      obtain ⟨x, hxx⟩ : ∃ x : Nat, nth v k = (x : Int) := ⟨(nth v k).toNat, by omega⟩
      rw [hxx] at z0 hr
      have hbl : (playL (idn n) (v.take k)).length = n := by rw [playL_len, idn_len]
      have hbn : Hid (bn = n) := by show _ = _; rw [← HY.out.1.ri.1]; exact hbl
      have hn7 := HN.out
      have HPL : Hid (playL (idn n) (v.take (k + 1)) = swN x (playL (idn n) (v.take k))) := by
        show _ = _
        rw [playL_take (by rw [HL.out]; exact hlt), hxx, Int.toNat_natCast]
      have HEX : Hid (Calls Try.prog 99 #[.slice B bn bd, .int .i64 (x : Int), .int .i64 ((x : Int) + 1)] wr (Makes wr (playL (idn n) (v.take (k + 1))))) := by
        have h := exchanged_any (w := wr) bd x (x + 1) HY.out.1.ri (by rw [hbn.out]; omega) (by rw [hbn.out]; omega) (by rw [hbn.out]; omega) (by omega)
        rw [swapL_swN x _ (by rw [hbl]; omega), ← HPL.out] at h
        exact h
      have hw1 : IntKind.i64.wrap ((x : Int) + 1) = (x : Int) + 1 := IntWalk.i64_in _ (by omega)
      clear hbl hxx
      go_wp2_with (first | (go_at_call 99; refine HEX.out.mono ?_; rintro e w4 ⟨A4, n4, c4, rfl, o4, r4, -, b4⟩) | fail)
      have HF : Hid (OI w4 w.heap.size (.slice A4 n4 c4) (playL (idn n) (v.take (k + 1))) ∧ Below w.heap.size w w4) := ⟨o4.mono HY.out.2.size, bnext HY.out.2 b4 HY.out.2.size⟩
      clear o4 r4 b4
      go_roundw
      case rel => exact ⟨k + 1, _, _, _, by omega, by go_num, rfl, HF.out⟩
      case measure => simp [intOf]; omega
    · obtain rfl : k = m := by omega
      go_wp2_with fail
      go_ret
      have e : v.take k = v := List.take_of_length_le (by rw [HL.out]; omega)
      have h1 := HY.out.1
      rw [e] at h1
      exact Makes.of h1 HY.out.2 (by rw [playL_len, idn_len]; have := HN.out; omega)
end Go.Proofs.Ytgbojgmmingfdaa

/- 'inserting' and EdelmanGreene of the program. -/
namespace Go.Proofs.Ytgbojgmmingfdaa
open Go.RowKit

/-- A number at the end of a row, the next row among them. -/
def egG (q : List (List Int)) (r : Nat) (k : Int) : List (List Int) := if r = q.length then q ++ [[k]] else q.set r (nthL q r ++ [k])
/-- The second tableau of a word: when each place came. -/
def egQ (v : List Int) : Nat → List (List Int)
  | 0 => []
  | k + 1 => egG (egQ v k) (egI (egT (v.take k)) (nth v k)).2 k
theorem egI_len : ∀ (t : List (List Int)) (x : Int), (egI t x).1.length = if (egI t x).2 = t.length then t.length + 1 else t.length
  | [], x => by simp [egI]
  | row :: rest, x => by
    rw [egI]
    split
    · split
      · have := egI_len rest (x + 1)
        simp only [List.length_cons] at this ⊢
        rw [this]
        split <;> split <;> omega
      · have := egI_len rest (nth row (gtAt row x))
        simp only [List.length_cons] at this ⊢
        rw [this]
        split <;> split <;> omega
    · simp
theorem egG_len (q : List (List Int)) (r : Nat) (k : Int) : (egG q r k).length = if r = q.length then q.length + 1 else q.length := by
  unfold egG
  split <;> simp
theorem egQ_len {v : List Int} : ∀ k, k ≤ v.length → (egQ v k).length = (egT (v.take k)).length
  | 0, _ => by simp [egQ, egT]
  | k + 1, hk => by
    rw [egQ, egG_len, take_succ_nth (by omega), egT_snoc, egI_len, egQ_len k (by omega)]
theorem egG_cols {q : List (List Int)} {r m : Nat} {k : Int} (h : ∀ x ∈ q, x.length ≤ m) : ∀ x ∈ egG q r k, x.length ≤ m + 1 := fun x hx => by
  unfold egG at hx
  split at hx
  · rcases List.mem_append.1 hx with hx | hx
    · have := h x hx; omega
    · rw [List.mem_singleton.1 hx]; simp
  · rcases List.mem_or_eq_of_mem_set hx with hx | rfl
    · have := h x hx; omega
    · rw [List.length_append, List.length_singleton]
      by_cases hr : r < q.length
      · have := h (nthL q r) (by rw [nthL_lt hr]; exact List.getElem_mem hr); omega
      · rw [nthL, List.getD, List.getElem?_eq_none (by omega)]
        simp
theorem egQ_cols (v : List Int) : ∀ k, ∀ x ∈ egQ v k, x.length ≤ k
  | 0, x, hx => by simp [egQ] at hx
  | k + 1, x, hx => egG_cols (egQ_cols v k) x hx
theorem OS.past2 {w w' : World} {b0 b1 : Nat} {v : Value} {ls : List (List Int)} {cells : List Value} {row : Option Nat} (h : OS w b0 b1 v ls cells) (hg : w.grownBy w' row) (h1 : ∀ g, row = some g → v.ownBlock ≠ some g) (h2 : ∀ g, row = some g → ∀ u ∈ cells, u.ownBlock ≠ some g) : OS w' b0 b1 v ls cells :=
  OF.sameW h (fun k hk => hg.block k (OF.lt h k hk).2 fun e => h1 k e.symm hk) fun u hu k hk => hg.block k (h.2.1.ltD hu k hk).2 fun e => h2 k e.symm u hu hk
/-- Two tableaux. -/
def MakesSS (w : World) (p q : List (List Int)) : Ending → World → Prop := fun e w' =>
  ∃ A n c pc B m d qc, e = .returned (.tuple #[.slice A n c, .slice B m d]) ∧ OS w' w.heap.size w.heap.size (.slice A n c) p pc ∧ OS w' w.heap.size w.heap.size (.slice B m d) q qc ∧ Below w.heap.size w w'
/-- What holds behind each number. -/
structure InsS (w wr : World) (pv qv : Value) (p q : List (List Int)) (pc qc : List Value) : Prop where
  p : OS wr w.heap.size w.heap.size pv p pc
  q : OS wr w.heap.size w.heap.size qv q qc
  bel : Below w.heap.size w wr
theorem InsS.put {w w2 w6 : World} {H G n c r : Nat} {pv u u' : Value} {p q : List (List Int)} {pc qc : List Value} {l' : List Int} (hb : Below w.heap.size w w2) (hp : OS w2 H H pv p pc) (hH : w.heap.size ≤ H) (hq : OS w2 w.heap.size w.heap.size (.slice (some ⟨G, 0, none⟩) n c) q qc) (hr : r < q.length) (hu : qc[r]? = some u)
    (hg : w2.grownBy w6 u.ownBlock) (ho : OI w6 w.heap.size u' l') (hk : u'.ownBlock = u.ownBlock ∨ u'.ownBlock = some (w2.heap.size + 1))
    (h1 : pv.ownBlock ≠ some G) (h2 : ∀ a ∈ pc, a.ownBlock ≠ some G) (h3 : ∀ g, u.ownBlock = some g → pv.ownBlock ≠ some g) (h4 : ∀ g, u.ownBlock = some g → ∀ a ∈ pc, a.ownBlock ≠ some g) :
    InsS w (w6.setCell ⟨G, r, none⟩ u') pv (.slice (some ⟨G, 0, none⟩) n c) p (q.set r l') pc (qc.set r u') := by
  have hU : OI w2 w.heap.size u (nthL q r) := hq.2.1.2 r _ u (rows_at hr) hu
  obtain ⟨a1, a2⟩ := OS.rowPut hq hr hu hg ho (hk.imp id fun h k e => by rw [h] at e; injection e with e; omega)
  have hp6 := OS.past2 hp hg h3 h4
  have hb6 := hb.grown hg hb.size fun k e => (hU.lt k e).1
  refine ⟨OF.mono (OS.past2 hp6 a2 (fun g e => by injection e with e; rw [← e]; exact h1) fun g e => by injection e with e; rw [← e]; exact h2) hH hH, a1, hb6.grown a2 hb6.size fun k e => ?_⟩
  injection e with e
  rw [← e]
  exact (OF.lt hq G rfl).1
theorem egT_fine {v : List Int} {M k : Nat} (hv : ∀ j, j < v.length → 0 ≤ nth v j ∧ nth v j ≤ M) (hl : v.length ≤ 60) (hM : M ≤ 60) (hk : k < v.length) : Fine (egT (v.take k)) (nth v k) := by
  have h := egT_ok (M := (M : Int)) (v := v) (fun x hx => by
    obtain ⟨j, hj, e⟩ := List.getElem_of_mem hx
    have := hv j hj
    rw [nth_lt hj, e] at this
    exact this) k (by omega)
  have hx := hv k hk
  exact ⟨by have := h.rows; omega, fun r hr => ⟨by have := h.cols r hr; omega, fun y hy => by have := h.bd r hr y hy; omega⟩, hx.1, by omega⟩
set_option maxRecDepth 100000 in
set_option maxHeartbeats 4000000 in
theorem inserting_any {A : Option Addr} {m : Nat} {v : List Int} {w : World} (c M : Nat) (hx : RI w A m v) (hv : ∀ j, j < v.length → 0 ≤ nth v j ∧ nth v j ≤ M) (hl : v.length ≤ 60) (hM : M ≤ 60) :
    Calls Try.prog 91 #[.slice A m c, .bool true] w (MakesSS w (egT v) (egQ v v.length)) := by
  have HL : Hid (v.length = m) := hx.1
  have HX := Lib.hid hx
  have HV := Lib.hid hv
  have hm : m ≤ 60 := by rw [← HL.out]; exact hl
  have HLV := Lib.hid hl
  have HS0 : Hid (InsS w ((w.alloc (.cells #[] 22)).alloc (.cells #[] 22)) (.slice (some ⟨w.heap.size, 0, none⟩) 0 0) (.slice (some ⟨w.heap.size + 1, 0, none⟩) 0 0) [] [] [] []) := by
    have hb2 : Below w.heap.size w (w.alloc (.cells #[] 22)) := (Below.refl _ _).alloc (Nat.le_refl _) _
    have hb3 : Below (w.alloc (.cells #[] 22)).heap.size (w.alloc (.cells #[] 22)) ((w.alloc (.cells #[] 22)).alloc (.cells #[] 22)) := (Below.refl _ _).alloc (Nat.le_refl _) _
    have h1 := OS.lit w w.heap.size w.heap.size [] [] (Nat.le_refl _) FRs.nil_ Dist.nil_ (by simp) 0 rfl
    have h2 := OS.lit (w.alloc (.cells #[] 22)) w.heap.size w.heap.size [] [] hb2.size FRs.nil_ Dist.nil_ (by simp) 0 rfl
    have h1' : OS (w.alloc (.cells #[] 22)) w.heap.size w.heap.size (.slice (some ⟨w.heap.size, 0, none⟩) 0 0) [] [] := by simpa using h1
    have h2' : OS ((w.alloc (.cells #[] 22)).alloc (.cells #[] 22)) w.heap.size w.heap.size (.slice (some ⟨w.heap.size + 1, 0, none⟩) 0 0) [] [] := by simpa using h2
    exact ⟨OF.below h1' hb3, h2', hb2.trans (hb3.mono hb2.size)⟩
  clear hx hv hl
  go_enter Try.func91, Try.ntmps91
  go_wp2_with fail
  go_loopw [6, 7, 16] (fun pv qv i wr => ∃ (k : Nat) (B D : Option Addr) (bn bd dn dd : Nat) (pc qc : List Value), k ≤ m ∧ i = .int .i64 (k : Int) ∧ pv = .slice B bn bd ∧ qv = .slice D dn dd ∧ Hid (InsS w wr (.slice B bn bd) (.slice D dn dd) (egT (v.take k)) (egQ v k) pc qc)) (fun _ _ i _ => m - (intOf i).toNat)
  case atStart => exact ⟨0, _, _, _, _, _, _, [], [], Nat.zero_le _, rfl, rfl, rfl, by
    have h : egT (v.take 0) = [] := by simp [egT]
    rw [h]; exact HS0.out⟩
  case round =>
    clear HS0
    obtain ⟨k, B, D, bn, bd, dn, dd, pc, qc, hk, rfl, rfl, rfl, HY⟩ := hrel
    by_cases hlt : k < m
    · obtain ⟨ad, rfl, z0⟩ := (HX.out.below HY.out.bel).cell hlt
      obtain ⟨x, hxx⟩ : ∃ x, x = nth v k := ⟨_, rfl⟩
      rw [← hxx] at z0
      have hkv : k < v.length := by rw [HL.out]; exact hlt
      have HIN : Hid (Calls Try.prog 155 #[.slice B bn bd, .int .i64 x, .bool true] wr (MakesSn wr (egT (v.take (k + 1))) (egI (egT (v.take k)) x).2)) := by
        have h := inserted_any (w := wr) bd x (OS.rs HY.out.p (OS.lenS HY.out.p).symm) (by rw [hxx]; exact egT_fine HV.out HLV.out hM hkv)
        rw [take_succ_nth hkv, egT_snoc, ← hxx]
        exact h
      obtain ⟨r, hr⟩ : ∃ r, r = (egI (egT (v.take k)) x).2 := ⟨_, rfl⟩
      have HQ : Hid (egQ v (k + 1) = egG (egQ v k) r k) := by show _ = _; rw [egQ, hr, hxx]
      have HDN : Hid ((egQ v k).length = dn) := OS.lenS HY.out.q
      have hrd : r ≤ dn := by
        rw [← HDN.out, egQ_len k (by omega), hr]
        exact (egI_rows _ x).2.2.1
      have hdn : dn ≤ 60 := by
        rw [← HDN.out, egQ_len k (by omega)]
        have h := egT_ok (M := (M : Int)) (v := v) (fun y hy => by
          obtain ⟨j, hj, e⟩ := List.getElem_of_mem hy
          have := HV.out j hj
          rw [nth_lt hj, e] at this
          exact this) k (by omega)
        have := h.rows
        omega
      rw [← hr] at HIN
      clear hxx hr hkv
      go_upto_region 8 with (first | (go_at_call 155; refine HIN.out.mono ?_; rintro e w2 ⟨A2, n2, c2, p2, rfl, o2, l2, -, b2⟩) | fail)
      have HO2 := Lib.hid o2
      have HB2 := Lib.hid b2
      have Q2 : Hid (OS w2 w.heap.size w.heap.size (.slice D dn dd) (egQ v k) qc) := OF.below HY.out.q b2
      have HW2 : Hid (Below w.heap.size w w2) := HY.out.bel.trans (b2.mono HY.out.bel.size)
      have QLT : Hid (∀ g, (Value.slice D dn dd).ownBlock = some g → g < wr.heap.size) := fun g e => (OF.lt HY.out.q g e).2
      have QLC : Hid (∀ u ∈ qc, ∀ g, u.ownBlock = some g → g < wr.heap.size) := fun u hu g e => (HY.out.q.2.1.ltD hu g e).2
      clear o2 b2 l2 z0
      by_cases hrn : r = dn
      · have HRN := Lib.hid hrn
        have hrn' : ((r : Int) == (dn : Int)) = true := by rw [hrn]; simp
        have HQL : Hid ((egQ v k).length + 1 ≤ 1000000000000) := by show _ ≤ _; rw [HDN.out]; omega
        have HSZ : Hid (w.heap.size ≤ w2.heap.size) := HW2.out.size
        have HNI : Hid (OI w2 w.heap.size (.slice none 0 0) []) := OI.nil_ _ _
        have HNA : Hid (∀ u' ∈ qc, u'.ownBlock = none ∨ u'.ownBlock ≠ (Value.slice none 0 0).ownBlock) := fun u' _ => by
          rcases u'.ownBlock with _ | g
          · exact .inl rfl
          · exact .inr (by simp [Value.ownBlock])
        clear hrn
        go_upto_region 10 with (at_builtin; refine wpAppS rfl _ _ rfl w.heap.size w.heap.size (.slice D dn dd) (egQ v k) qc (.slice none 0 0) [] rfl rfl Q2.out HNI.out HNA.out HQL.out HSZ.out ?_; intro v7 w7 o7 g7 k7)
        obtain ⟨D7, dn7, dd7, rfl, hd7, -⟩ := OS.form o7
        have HD7 : Hid (dn7 = dn + 1) := by show _ = _; rw [← hd7, List.length_append, HDN.out]; rfl
        have hdr : r < dn7 := by rw [HD7.out, HRN.out]; omega
        obtain ⟨G, rfl⟩ : ∃ G, D7 = some ⟨G, 0, none⟩ := by
          rcases o7.1.2 with ⟨hv, h2⟩ | ⟨g, cap, cur, hv, -⟩
          · rw [hd7] at h2; have := HD7.out; omega
          · exact ⟨g, (slice_inj hv).1⟩
        have hbA : Below w2.heap.size w2 (w2.alloc (.cells #[.slice none 0 0] 22)) := (Below.refl _ _).alloc (Nat.le_refl _) _
        have P7 : Hid (OS w7 wr.heap.size wr.heap.size (.slice A2 n2 c2) (egT (v.take (k + 1))) p2) := OS.past2 (OF.below HO2.out hbA) g7
          (fun g eg e => by have := (OF.lt HO2.out g e).1; have := QLT.out g eg; omega)
          (fun g eg a ha e => by have := (HO2.out.2.1.ltD ha g e).1; have := QLT.out g eg; omega)
        have HW7 : Hid (Below w.heap.size w w7) := by
          have h := HW2.out.trans (hbA.mono HW2.out.size)
          exact h.grown g7 h.size fun j e => (OF.lt Q2.out j e).1
        have HG7 : Hid (G < wr.heap.size ∨ w2.heap.size < G) := by
          rcases k7 with h | h
          · exact .inl (QLT.out G (by rw [← h]; rfl))
          · have h5 : some G = some (w2.heap.size + 1) := h
            injection h5 with h5
            exact .inr (by show w2.heap.size < G; omega)
        have HO7 := Lib.hid o7
        have HRL : Hid (r < (egQ v k ++ [[]]).length) := by show _ < _; rw [hd7]; exact hdr
        have hcr : (egQ v k).length = r := by rw [HDN.out, HRN.out]
        have hqc : qc.length = r := by rw [Q2.out.2.1.1, rows_len, hcr]
        have HZC : Hid ((qc ++ [Value.slice none 0 0])[r]? = some (.slice none 0 0)) := by show _ = _; rw [← hqc]; simp
        have z3 : w7.cell? ⟨G, r, none⟩ = some (.slice none 0 0) := by
          obtain ⟨A3, n3, c3, z3, zc3, -, -⟩ := OS.cellG o7 hdr
          rw [HZC.out] at zc3
          injection zc3 with zc3
          rw [zc3]; exact z3
        have HO3 : Hid (OI w7 w.heap.size (.slice none 0 0) []) := OI.nil_ _ _
        have HSZ7 : Hid (w.heap.size ≤ w7.heap.size) := HW7.out.size
        have hr0 : (r : Int) < (dn7 : Int) := by omega
        have HSET : Hid ((egQ v k ++ [[]]).set r ([] ++ [(k : Int)]) = egQ v (k + 1)) := by
          show _ = _
          rw [HQ.out, egG, if_pos hcr.symm, ← hcr]
          simp
        clear o7 g7 k7 hd7 hbA hcr hqc
        go_wp2_with (first
          | (at_builtin; refine wpApp1 rfl _ _ rfl w.heap.size (.slice none 0 0) [] (k : Int) rfl HO3.out rfl (by simp) HSZ7.out ?_; intro v6 w6 o6 g6 k6; obtain ⟨A6, n6, c6, rfl, -⟩ := o6.form; have z6 := OS.outer HO7.out HRL.out HZC.out g6; obtain ⟨z6, f6⟩ := z6)
          | fail)
        have F6 := Lib.hid (InsS.put HW7.out P7.out HY.out.bel.size HO7.out HRL.out HZC.out g6 o6 k6
          (fun e => by have h1 := OF.lt HO2.out G e; have h2 := HG7.out; omega)
          (fun a ha e => by have h1 := HO2.out.2.1.ltD ha G e; have h2 := HG7.out; omega)
          (fun g eg e => by cases eg) (fun g eg a ha e => by cases eg))
        clear o6 g6 k6
        go_roundw
        case rel => exact ⟨k + 1, _, _, _, _, _, _, p2, _, by omega, by go_num, rfl, rfl, by rw [← HSET.out]; exact F6.out⟩
        case measure => simp [intOf]; omega
      · have hrn' : ((r : Int) == (dn : Int)) = false := by simp; omega
        have hrlt : r < dn := by omega
        obtain ⟨G, rfl⟩ : ∃ G, D = some ⟨G, 0, none⟩ := by
          rcases Q2.out.1.2 with ⟨hv, h2⟩ | ⟨g, cap, cur, hv, -⟩
          · have := HDN.out; omega
          · exact ⟨g, (slice_inj hv).1⟩
        obtain ⟨A3, n3, c3, z3, zc3, o3, -⟩ := OS.cellG Q2.out hrlt
        have HZC := Lib.hid zc3
        have HO3 := Lib.hid o3
        have HRL : Hid (r < (egQ v k).length) := by show _ < _; rw [HDN.out]; exact hrlt
        have HLR : Hid ((nthL (egQ v k) r).length + 1 ≤ 1000000000000) := by
          have h := egQ_cols v k (nthL (egQ v k) r) (by rw [nthL_lt HRL.out]; exact List.getElem_mem _)
          show _ ≤ _
          omega
        have HSZ : Hid (w.heap.size ≤ w2.heap.size) := HW2.out.size
        have hr0 : (r : Int) < (dn : Int) := by omega
        clear zc3 o3
        go_wp2_with (first
          | (at_builtin; refine wpApp1 rfl _ _ rfl w.heap.size (.slice A3 n3 c3) (nthL (egQ v k) r) (k : Int) rfl HO3.out rfl HLR.out HSZ.out ?_; intro v6 w6 o6 g6 k6; obtain ⟨A6, n6, c6, rfl, -⟩ := o6.form; have z6 := OS.outer Q2.out HRL.out HZC.out g6; obtain ⟨z6, f6⟩ := z6)
          | fail)
        have F6 := Lib.hid (InsS.put HW2.out HO2.out HY.out.bel.size Q2.out HRL.out HZC.out g6 o6 k6
          (fun e => by have := (OF.lt HO2.out G e).1; have := QLT.out G rfl; omega)
          (fun a ha e => by have := (HO2.out.2.1.ltD ha G e).1; have := QLT.out G rfl; omega)
          (fun g eg e => by have := (OF.lt HO2.out g e).1; have := QLC.out _ (List.mem_of_getElem? HZC.out) g eg; omega)
          (fun g eg a ha e => by have := (HO2.out.2.1.ltD ha g e).1; have := QLC.out _ (List.mem_of_getElem? HZC.out) g eg; omega))
        have HQ2 : Hid (egQ v (k + 1) = (egQ v k).set r (nthL (egQ v k) r ++ [(k : Int)])) := by show _ = _; rw [HQ.out, egG, if_neg (by rw [HDN.out]; omega)]
        clear o6 g6 k6
        go_roundw
        case rel => exact ⟨k + 1, _, _, _, _, _, _, p2, _, by omega, by go_num, rfl, rfl, by rw [HQ2.out]; exact F6.out⟩
        case measure => simp [intOf]; omega
    · obtain rfl : k = m := by omega
      go_wp2_with fail
      go_ret2
      have e : v.take k = v := List.take_of_length_le (by rw [HL.out]; omega)
      have hp := HY.out.p
      have hq := HY.out.q
      rw [e] at hp
      rw [← HL.out] at hq ⊢
      exact ⟨_, _, _, pc, _, _, _, qc, rfl, hp, hq, HY.out.bel⟩
end Go.Proofs.Ytgbojgmmingfdaa
