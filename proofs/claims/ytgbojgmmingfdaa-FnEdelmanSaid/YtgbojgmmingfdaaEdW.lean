/- l4Edelman of the reference: insertion, for tableaux with ascending rows. -/
import Derived.Test.YtgbojgmmingfdaaEgW
namespace Go.Proofs.Ytgbojgmmingfdaa
open Go.RowKit

/-- What is left at a row. -/
structure EdR (w wr : World) (G n c : Nat) (t : List (List Int)) (x y : Int) (pre post : List (List Int)) (cells : List Value) : Prop where
  o : OS wr w.heap.size w.heap.size (.slice (some ⟨G, 0, none⟩) n c) (pre ++ post) cells
  e : egI t x = (pre ++ (egI post y).1, pre.length + (egI post y).2)
  p : Fine post y
  asc : ∀ r ∈ post, Asc r
  l : pre.length + post.length = n
  bel : Below w.heap.size w wr
section
variable {w w1 w2 : World} {G n c : Nat} {t : List (List Int)} {x y : Int} {pre post : List (List Int)} {cells : List Value}
theorem EdR.below (h : EdR w w1 G n c t x y pre post cells) (b : Below w1.heap.size w1 w2) : EdR w w2 G n c t x y pre post cells :=
  ⟨OF.below h.o b, h.e, h.p, h.asc, h.l, h.bel.trans (b.mono h.bel.size)⟩
theorem EdR.bump {g n2 c2 : Nat} {row : List Int} {rest : List (List Int)} {a : Nat} {z : Int} (h : EdR w w1 G n c t x y pre (row :: rest) cells) (hu : cells[pre.length]? = some (.slice (some ⟨g, 0, none⟩) n2 c2)) (ho : OI w1 w.heap.size (.slice (some ⟨g, 0, none⟩) n2 c2) row)
    (ha : a = gtAt row y) (hz : z = nth row a) (hlt : a < row.length) (hno : ¬ (hasB row y = true ∧ hasB row (y + 1) = true)) :
    EdR w (w1.setCell ⟨g, a, none⟩ (.int .i64 y)) G n c t x z (pre ++ [row.set a y]) rest cells := by
  obtain ⟨s1, s2⟩ := ho.stored a y
  have hg := ho.lt g rfl
  have h1 := OS.rowTurn h.o (r := pre.length) (by simp) hu s2 s1
  rw [set_mid] at h1
  have hno2 : ¬ (nth row (gtAt row y) = y + 1 ∧ hasB row y = true) := fun h2 => hno ⟨h2.2, (next_iff (h.asc row (by simp))).2 ⟨by rw [← ha]; exact hlt, h2.1⟩⟩
  refine ⟨h1, ?_, h.p.rest ?_, fun r hr => h.asc r (List.mem_cons_of_mem _ hr), ?_, h.bel.grown s2 h.bel.size fun k hk => by injection hk; omega⟩
  · rw [h.e, egI_bump (by rw [← ha]; exact hlt) hno2, ← ha, ← hz]
    simp [Nat.add_assoc, Nat.add_comm]
  · rw [hz]
    exact (h.p.2.1 row (by simp)).2 _ (nth_mem hlt)
  · have := h.l
    simp only [List.length_cons, List.length_append, List.length_nil] at this ⊢
    omega
theorem EdR.skip {row : List Int} {rest : List (List Int)} (h : EdR w w1 G n c t x y pre (row :: rest) cells) (h1 : hasB row y = true) (h2 : hasB row (y + 1) = true) : EdR w w1 G n c t x (y + 1) (pre ++ [row]) rest cells := by
  obtain ⟨hlt, hz⟩ := (next_iff (h.asc row (by simp))).1 h2
  have ho := h.o
  rw [show pre ++ row :: rest = (pre ++ [row]) ++ rest by simp] at ho
  refine ⟨ho, ?_, h.p.rest ?_, fun r hr => h.asc r (List.mem_cons_of_mem _ hr), ?_, h.bel⟩
  · rw [h.e, egI_skip hlt hz h1]
    simp [Nat.add_assoc, Nat.add_comm]
  · rw [← hz]
    exact (h.p.2.1 row (by simp)).2 _ (nth_mem hlt)
  · have := h.l
    simp only [List.length_cons, List.length_append, List.length_nil] at this ⊢
    omega
end
set_option maxRecDepth 100000 in
set_option maxHeartbeats 4000000 in
theorem l4Edel_any {A : Option Addr} {m : Nat} {t : List (List Int)} {w : World} (c : Nat) (x : Int) (hx : RS w A m t) (hf : Fine t x) (hasc : ∀ r ∈ t, Asc r) :
    Calls Try.prog 70 #[.slice A m c, .int .i64 x] w (MakesSn w (egI t x).1 (egI t x).2) := by
  have HL : Hid (t.length = m) := hx.1
  have hm : m ≤ 1000 := by rw [← HL.out]; exact hf.1
  have HF := Lib.hid hf
  have HASC := Lib.hid hasc
  have HCR : Hid (Calls Try.prog 141 #[.slice A m c] w (MakesS w t)) := l4Copy_any c hx (by omega) fun k hk => by
    have h1 := hf.2.1 (nthL t k) (by rw [nthL_lt (by rw [HL.out]; exact hk)]; exact List.getElem_mem _)
    omega
  have hxb := hf.2.2
  clear hx hf hasc
  go_enter Try.func70, Try.ntmps70
  go_upto_region 2 with (first | (go_at_call 141; refine HCR.out.mono ?_; rintro e w1 ⟨A1, n1, c1, cs1, rfl, o1, l1, q1, b1⟩) | fail)
  have HN1 : Hid (n1 = m) := l1.symm.trans HL.out
  have hn1 : n1 ≤ 1000 := by rw [HN1.out]; exact hm
  rcases A1 with _ | G0
  · have h0 : t = [] := by
      rcases o1.1.2 with ⟨hv, h2⟩ | ⟨g, cap, cur, hv, -⟩
      · exact List.eq_nil_of_length_eq_zero h2
      · obtain ⟨h3, -⟩ := slice_inj hv; cases h3
    have HT0 := Lib.hid h0
    have hn0 : n1 = 0 := by rw [HN1.out, ← HL.out, HT0.out]; rfl
    subst hn0
    have hb1 : Hid (Below w1.heap.size w1 (w1.alloc (.cells #[.int .i64 x] 3))) := (Below.refl _ _).alloc (Nat.le_refl _) _
    have HO1 : Hid (OS (w1.alloc (.cells #[.int .i64 x] 3)) w.heap.size w.heap.size (.slice none 0 c1) [] cs1) := by
      rw [h0] at o1
      exact OF.below o1 hb1.out
    have HNL : Hid (OI (w1.alloc (.cells #[.int .i64 x] 3)) w.heap.size (.slice (some ⟨w1.heap.size, 0, none⟩) 1 1) [x]) := by
      have h := OI.lit w1 w1.heap.size [x] 1 rfl (Nat.le_refl _) (by simp)
      exact OI.mono h b1.size
    have HAP : Hid (∀ u' ∈ cs1, u'.ownBlock = none ∨ u'.ownBlock ≠ (Value.slice (some ⟨w1.heap.size, 0, none⟩) 1 1).ownBlock) := fun u' hu' => by
      have h := HO1.out.2.1.1
      rw [List.eq_nil_of_length_eq_zero h] at hu'
      cases hu'
    have HSZ2 : Hid (w.heap.size ≤ (w1.alloc (.cells #[.int .i64 x] 3)).heap.size) := by show _ ≤ _; have := b1.size; simp; omega
    have HBL : Hid (Below w.heap.size w (w1.alloc (.cells #[.int .i64 x] 3))) := b1.trans (hb1.out.mono b1.size)
    have HE : Hid ((egI t x).1 = [] ++ [[x]] ∧ (egI t x).2 = 0) := by
      show _ ∧ _
      rw [h0, egI]
      exact ⟨rfl, rfl⟩
    clear h0 o1 l1 q1 b1
    go_wp2_with fail
    refine wp_loop_rounds 1 ?_
    simp only [Code.rounds]
    go_wp2_with (first
      | (at_builtin; rw [show w1.heap.size + 1 = (w1.alloc (.cells #[.int .i64 x] 3)).heap.size from (by simp)]; refine wpAppS rfl _ _ rfl w.heap.size w.heap.size (.slice none 0 c1) [] cs1 (.slice (some ⟨w1.heap.size, 0, none⟩) 1 1) [x] rfl rfl HO1.out HNL.out HAP.out (by simp) HSZ2.out ?_; intro v7 w7 o7 g7 k7)
      | fail)
    go_ret2
    rw [HE.out.1, HE.out.2]
    have hb2 := HBL.out.alloc HBL.out.size (.cells #[.slice (some ⟨w1.heap.size, 0, none⟩) 1 1] 22)
    exact MakesSn.of o7 (hb2.grown g7 hb2.size fun k hk => by have := (OF.lt HO1.out k hk).1; omega) (Nat.le_refl _) (Nat.le_refl _)
  obtain ⟨G, rfl⟩ : ∃ G, G0 = ⟨G, 0, none⟩ := by
    rcases o1.1.2 with ⟨hv, h2⟩ | ⟨g, cap, cur, hv, -⟩
    · obtain ⟨h3, -⟩ := slice_inj hv; cases h3
    · exact ⟨g, Option.some.inj (slice_inj hv).1⟩
  have S1 : Hid (EdR w w1 G n1 c1 t x x [] t cs1) := ⟨o1, by simp, HF.out, HASC.out, by simpa using l1, b1⟩
  clear o1 l1 q1 b1
  go_wp2_with fail
  go_loopw [1, 7, 8] (fun yv i _ wr => ∃ (r : Nat) (y : Int) (pre post : List (List Int)) (cells : List Value), yv = .int .i64 y ∧ 0 ≤ y ∧ y ≤ 1000 ∧ i = .int .i64 (r : Int) ∧ r ≤ n1 ∧ Hid (pre.length = r) ∧ Hid (EdR w wr G n1 c1 t x y pre post cells)) (fun _ i _ _ => n1 - (intOf i).toNat)
  case atStart => exact ⟨0, x, [], t, cs1, rfl, by omega, by omega, rfl, Nat.zero_le _, rfl, S1.out⟩
  case round =>
    clear S1
    obtain ⟨r, y, pre, post, cells, rfl, hy0, hy1, rfl, hr, HR, HY⟩ := hrel
    cases post with
    | nil =>
      have hrn : r = n1 := by have h1 := HY.out.l; have h2 := HR.out; simp only [List.length_nil] at h1; omega
      have HRN := Lib.hid hrn
      have hlt' : ¬ r < n1 := by omega
      have hlt2 : ¬ (r : Int) < (n1 : Int) := by omega
      have hb1 : Hid (Below wr.heap.size wr (wr.alloc (.cells #[.int .i64 y] 3))) := (Below.refl _ _).alloc (Nat.le_refl _) _
      have HOP : Hid (OS (wr.alloc (.cells #[.int .i64 y] 3)) w.heap.size w.heap.size (.slice (some ⟨G, 0, none⟩) n1 c1) pre cells) := by
        have h := HY.out.o
        rw [List.append_nil] at h
        exact OF.below h hb1.out
      have HSZ : Hid (w.heap.size ≤ wr.heap.size) := HY.out.bel.size
      have HNW : Hid (OI (wr.alloc (.cells #[.int .i64 y] 3)) wr.heap.size (.slice (some ⟨wr.heap.size, 0, none⟩) 1 1) [y]) := by
        have h := OI.lit wr wr.heap.size [y] 1 rfl (Nat.le_refl _) (by simp)
        exact h
      have HNL : Hid (OI (wr.alloc (.cells #[.int .i64 y] 3)) w.heap.size (.slice (some ⟨wr.heap.size, 0, none⟩) 1 1) [y]) := HNW.out.mono HSZ.out
      have HAP : Hid (∀ u' ∈ cells, u'.ownBlock = none ∨ u'.ownBlock ≠ (Value.slice (some ⟨wr.heap.size, 0, none⟩) 1 1).ownBlock) := apart_new (H := wr.heap.size) HY.out.o.2.1 (Nat.le_refl _) HNW.out
      have HPL : Hid (pre.length + 1 ≤ 1000000000000) := by show _ ≤ _; rw [HR.out]; omega
      have HSZ2 : Hid (w.heap.size ≤ (wr.alloc (.cells #[.int .i64 y] 3)).heap.size) := by show _ ≤ _; have := HSZ.out; simp; omega
      have HBL : Hid (Below w.heap.size w (wr.alloc (.cells #[.int .i64 y] 3))) := HY.out.bel.trans (hb1.out.mono HY.out.bel.size)
      have HE : Hid ((egI t x).1 = pre ++ [[y]] ∧ (egI t x).2 = r) := by
        have h := HY.out.e
        show _ ∧ _
        rw [h, ← HR.out]
        simp [egI]
      clear hrn
      go_wp2_with (first
        | (at_builtin; rw [show wr.heap.size + 1 = (wr.alloc (.cells #[.int .i64 y] 3)).heap.size from (by simp)]; refine wpAppS rfl _ _ rfl w.heap.size w.heap.size (.slice (some ⟨G, 0, none⟩) n1 c1) pre cells (.slice (some ⟨wr.heap.size, 0, none⟩) 1 1) [y] rfl rfl HOP.out HNL.out HAP.out HPL.out HSZ2.out ?_; intro v7 w7 o7 g7 k7)
        | fail)
      go_ret2
      rw [HE.out.1, HE.out.2, HRN.out]
      have hb2 := HBL.out.alloc HBL.out.size (.cells #[.slice (some ⟨wr.heap.size, 0, none⟩) 1 1] 22)
      exact MakesSn.of o7 (hb2.grown g7 hb2.size fun k hk => (OF.lt HY.out.o k hk).1) (Nat.le_refl _) (Nat.le_refl _)
    | cons row rest =>
      have hlt : r < n1 := by have h1 := HY.out.l; have h2 := HR.out; simp only [List.length_cons] at h1; omega
      obtain ⟨A2, n2, c2, z0, zc, o2, -⟩ := OS.cellG HY.out.o hlt
      have hrow : nthL (pre ++ row :: rest) r = row := by rw [← HR.out]; simp [nthL]
      rw [hrow] at o2
      have hfr := HY.out.p.2.1 row (by simp)
      have HZC := Lib.hid zc
      have hl2 : row.length = n2 := o2.ri.1
      have hn2 : n2 ≤ 1000 := by rw [← hl2]; exact hfr.1
      have HROW : Hid (row.length = n2) := hl2
      have HFR := Lib.hid hfr
      have HO2 := Lib.hid o2
      have hw1 : IntKind.i64.wrap (y + 1) = y + 1 := IntWalk.i64_in _ (by omega)
      have HH1 : Hid (∀ b, hasB row y = b → ∀ q, Calls Try.prog 142 #[.slice A2 n2 c2, .int .i64 y] (wr.drewN q) (Gives (wr.drewN q) (.bool b))) := fun b hb q => by
        rw [← hb]; exact l1Has_any c2 y (HO2.out.ri.drewN q) (by omega)
      have HH2 : Hid (∀ b, hasB row (y + 1) = b → ∀ q, Calls Try.prog 142 #[.slice A2 n2 c2, .int .i64 (y + 1)] (wr.drewN q) (Gives (wr.drewN q) (.bool b))) := fun b hb q => by
        rw [← hb]; exact l1Has_any c2 (y + 1) (HO2.out.ri.drewN q) (by omega)
      have HC0 : Hid (Calls Try.prog 142 #[.slice A2 n2 c2, .int .i64 y] wr (Gives wr (.bool (hasB row y)))) := HH1.out _ rfl 0
      clear hrow zc o2 hl2 hfr HH1
      rcases hb1 : hasB row y with _ | _
      · have HNO : Hid (¬ (hasB row y = true ∧ hasB row (y + 1) = true)) := fun h => by rw [hb1] at h; cases h.1
        rw [hb1] at HC0
        clear hb1 HH2
        go_wp2_with (first | (go_at_call 142; refine HC0.out.mono ?_; rintro e w2 ⟨rfl, q2, rfl⟩) | fail)
        obtain ⟨wo, rfl⟩ : ∃ wo : World, wo = wr := ⟨_, rfl⟩
        go_loopw [8] (fun av wl => ∃ k : Nat, k ≤ n2 ∧ av = .int .i64 (k : Int) ∧ Quiet wo wl ∧ Hid (∀ j, j < k → nth row j ≤ y)) (fun av _ => n2 - (intOf av).toNat)
        case atStart => exact ⟨0, Nat.zero_le _, rfl, (by first | exact ⟨_, rfl⟩ | exact ⟨_, (World.drewN_drewN _ _ _).symm⟩ | exact Quiet.refl _ | (simp only [World.drewN_drewN]; exact ⟨_, rfl⟩)), fun j hj => by omega⟩
        case round =>
          obtain ⟨k, hk, rfl, ⟨q3, rfl⟩, HT⟩ := hrel
          by_cases hkn : k < n2
          · obtain ⟨g, rfl⟩ := OI.gsm HO2.out (by omega)
            obtain ⟨z, hz⟩ : ∃ z, z = nth row k := ⟨_, rfl⟩
            have zr := HO2.out.cellAt hkn
            rw [← hz] at zr
            have hzb : 0 ≤ z ∧ z ≤ 1000 := by rw [hz]; exact HFR.out.2 _ (nth_mem (by rw [HROW.out]; exact hkn))
            have HZ := Lib.hid hz
            have hkn0 : (k : Int) < (n2 : Int) := by omega
            clear hz
            rcases hzy : decide (z ≤ y) with _ | _
            · have HGT : Hid (gtAt row y = k) := gtAt_is HT.out (by rw [HROW.out]; exact hkn) (by rw [← HZ.out]; have := of_decide_eq_false hzy; omega)
              have hne : ((k : Int) == (n2 : Int)) = false := by simp; omega
              obtain ⟨w4, e4⟩ : ∃ W, W = wo.drewN q3 := ⟨_, rfl⟩
              rw [← e4]
              have HY4 : Hid (EdR w w4 G n1 c1 t x y pre (row :: rest) cells) := by rw [e4]; exact HY.out.below (below_drewN (Below.refl _ _) _)
              have O4 : Hid (OI w4 w.heap.size (.slice (some ⟨g, 0, none⟩) n2 c2) row) := by rw [e4]; exact HO2.out.below (below_drewN (Below.refl _ _) _)
              have HB5 : Hid (EdR w (w4.setCell ⟨g, k, none⟩ (.int .i64 y)) G n1 c1 t x z (pre ++ [row.set k y]) rest cells) := HY4.out.bump (by rw [HR.out]; exact HZC.out) O4.out HGT.out.symm HZ.out (by rw [HROW.out]; exact hkn) HNO.out
              have z4 : w4.cell? ⟨G, r, none⟩ = some (.slice (some ⟨g, 0, none⟩) n2 c2) := by rw [e4]; exact z0
              have zr4 : w4.cell? ⟨g, k, none⟩ = some (.int .i64 z) := by rw [e4]; exact zr
              have f4 := O4.out.frozenAt k
              have HZ5 : Hid ((w4.setCell ⟨g, k, none⟩ (.int .i64 y)).cell? ⟨G, r, none⟩ = some (.slice (some ⟨g, 0, none⟩) n2 c2)) := by
                obtain ⟨s1, s2⟩ := O4.out.stored k y
                have hp := OS.outer HY4.out.o (r := r) (by rw [List.length_append, HR.out]; simp) HZC.out s2
                exact hp.1
              clear e4 zr z0 HZ5
              go_wp2_with fail
              go_roundw
              case rel => exact ⟨r + 1, z, _, rest, cells, rfl, hzb.1, hzb.2, by go_num, by omega, by show _ = _; rw [List.length_append, HR.out]; rfl, HB5.out⟩
              case measure => simp [intOf]; omega
            · have HLE := Lib.hid (of_decide_eq_true hzy)
              go_wp2_with fail
              go_roundw
              case rel => exact ⟨k + 1, by omega, by go_num, (by first | exact ⟨_, rfl⟩ | exact ⟨_, (World.drewN_drewN _ _ _).symm⟩ | exact Quiet.refl _ | (simp only [World.drewN_drewN]; exact ⟨_, rfl⟩)), fun j hj => by
                by_cases h : j = k
                · subst h; rw [← HZ.out]; exact HLE.out
                · exact HT.out j (by omega)⟩
              case measure => simp [intOf]; omega
          · obtain rfl : k = n2 := by omega
            have hge : gtAt row y = row.length := gtAt_end fun j hj => HT.out j (by rw [HROW.out] at hj; exact hj)
            have HE : Hid ((egI t x).1 = (pre ++ row :: rest).set r (row ++ [y]) ∧ (egI t x).2 = r) := by
              have h := HY.out.e
              rw [egI_grow hge] at h
              show _ ∧ _
              rw [h, ← HR.out, set_mid]
              simp
            obtain ⟨w4, e4⟩ : ∃ W, W = wo.drewN q3 := ⟨_, rfl⟩
            rw [← e4]
            have HY4 : Hid (EdR w w4 G n1 c1 t x y pre (row :: rest) cells) := by rw [e4]; exact HY.out.below (below_drewN (Below.refl _ _) _)
            have O4 : Hid (OI w4 w.heap.size (.slice A2 k c2) row) := by rw [e4]; exact HO2.out.below (below_drewN (Below.refl _ _) _)
            have z4 : w4.cell? ⟨G, r, none⟩ = some (.slice A2 k c2) := by rw [e4]; exact z0
            have HSZ : Hid (w.heap.size ≤ w4.heap.size) := HY4.out.bel.size
            have HLR : Hid (row.length + 1 ≤ 1000000000000) := by show _ ≤ _; rw [HROW.out]; omega
            have HRL : Hid (r < (pre ++ row :: rest).length) := by show _ < _; rw [← HR.out]; simp
            have hr0 : (r : Int) < (n1 : Int) := by omega
            have hkk : ¬ (k : Int) < (k : Int) := by omega
            clear e4 z0 hge
            go_wp2_with (first
              | (at_builtin; refine wpApp1 rfl _ _ rfl w.heap.size (.slice A2 k c2) row y rfl O4.out rfl HLR.out HSZ.out ?_; intro v6 w6 o6 g6 k6; obtain ⟨A6, n6, c6, rfl, -⟩ := o6.form; have z6 := OS.outer HY4.out.o HRL.out HZC.out g6; obtain ⟨z6, f6⟩ := z6)
              | fail)
            go_ret2
            have hp := OS.rowPut HY4.out.o HRL.out HZC.out g6 o6 (k6.imp id fun h k e => by rw [h] at e; injection e with e; omega)
            have hb6 : Below w.heap.size w w6 := HY4.out.bel.grown g6 HY4.out.bel.size fun q hq => (O4.out.lt q hq).1
            have hb7 := hb6.grown hp.2 hb6.size fun q hq => by injection hq with hq; have := (OF.lt HY4.out.o G rfl).1; omega
            rw [HE.out.1, HE.out.2]
            exact MakesSn.of hp.1 hb7 (Nat.le_refl _) (Nat.le_refl _)
      · rcases hb2 : hasB row (y + 1) with _ | _
        · have HNO : Hid (¬ (hasB row y = true ∧ hasB row (y + 1) = true)) := fun h => by rw [hb2] at h; cases h.2
          have HC2 := Lib.hid (HH2.out _ hb2)
          rw [hb1] at HC0
          clear hb1 hb2 HH2
          go_wp2_with (first
            | (go_at_call 142; (with_reducible refine HC0.out.mono ?_); rintro e w2 ⟨rfl, q2, rfl⟩)
            | (go_at_call 142; (with_reducible refine (HC2.out _).mono ?_); rintro e w2 ⟨rfl, q4, rfl⟩)
            | fail)
          obtain ⟨wo, rfl⟩ : ∃ wo : World, wo = wr := ⟨_, rfl⟩
          go_loopw [8] (fun av wl => ∃ k : Nat, k ≤ n2 ∧ av = .int .i64 (k : Int) ∧ Quiet wo wl ∧ Hid (∀ j, j < k → nth row j ≤ y)) (fun av _ => n2 - (intOf av).toNat)
          case atStart => exact ⟨0, Nat.zero_le _, rfl, (by first | exact ⟨_, rfl⟩ | exact ⟨_, (World.drewN_drewN _ _ _).symm⟩ | exact Quiet.refl _ | (simp only [World.drewN_drewN]; exact ⟨_, rfl⟩)), fun j hj => by omega⟩
          case round =>
            obtain ⟨k, hk, rfl, ⟨q3, rfl⟩, HT⟩ := hrel
            by_cases hkn : k < n2
            · obtain ⟨g, rfl⟩ := OI.gsm HO2.out (by omega)
              obtain ⟨z, hz⟩ : ∃ z, z = nth row k := ⟨_, rfl⟩
              have zr := HO2.out.cellAt hkn
              rw [← hz] at zr
              have hzb : 0 ≤ z ∧ z ≤ 1000 := by rw [hz]; exact HFR.out.2 _ (nth_mem (by rw [HROW.out]; exact hkn))
              have HZ := Lib.hid hz
              have hkn0 : (k : Int) < (n2 : Int) := by omega
              clear hz
              rcases hzy : decide (z ≤ y) with _ | _
              · have HGT : Hid (gtAt row y = k) := gtAt_is HT.out (by rw [HROW.out]; exact hkn) (by rw [← HZ.out]; have := of_decide_eq_false hzy; omega)
                have hne : ((k : Int) == (n2 : Int)) = false := by simp; omega
                obtain ⟨w4, e4⟩ : ∃ W, W = wo.drewN q3 := ⟨_, rfl⟩
                rw [← e4]
                have HY4 : Hid (EdR w w4 G n1 c1 t x y pre (row :: rest) cells) := by rw [e4]; exact HY.out.below (below_drewN (Below.refl _ _) _)
                have O4 : Hid (OI w4 w.heap.size (.slice (some ⟨g, 0, none⟩) n2 c2) row) := by rw [e4]; exact HO2.out.below (below_drewN (Below.refl _ _) _)
                have HB5 : Hid (EdR w (w4.setCell ⟨g, k, none⟩ (.int .i64 y)) G n1 c1 t x z (pre ++ [row.set k y]) rest cells) := HY4.out.bump (by rw [HR.out]; exact HZC.out) O4.out HGT.out.symm HZ.out (by rw [HROW.out]; exact hkn) HNO.out
                have z4 : w4.cell? ⟨G, r, none⟩ = some (.slice (some ⟨g, 0, none⟩) n2 c2) := by rw [e4]; exact z0
                have zr4 : w4.cell? ⟨g, k, none⟩ = some (.int .i64 z) := by rw [e4]; exact zr
                have f4 := O4.out.frozenAt k
                have HZ5 : Hid ((w4.setCell ⟨g, k, none⟩ (.int .i64 y)).cell? ⟨G, r, none⟩ = some (.slice (some ⟨g, 0, none⟩) n2 c2)) := by
                  obtain ⟨s1, s2⟩ := O4.out.stored k y
                  have hp := OS.outer HY4.out.o (r := r) (by rw [List.length_append, HR.out]; simp) HZC.out s2
                  exact hp.1
                clear e4 zr z0 HZ5
                go_wp2_with fail
                go_roundw
                case rel => exact ⟨r + 1, z, _, rest, cells, rfl, hzb.1, hzb.2, by go_num, by omega, by show _ = _; rw [List.length_append, HR.out]; rfl, HB5.out⟩
                case measure => simp [intOf]; omega
              · have HLE := Lib.hid (of_decide_eq_true hzy)
                go_wp2_with fail
                go_roundw
                case rel => exact ⟨k + 1, by omega, by go_num, (by first | exact ⟨_, rfl⟩ | exact ⟨_, (World.drewN_drewN _ _ _).symm⟩ | exact Quiet.refl _ | (simp only [World.drewN_drewN]; exact ⟨_, rfl⟩)), fun j hj => by
                  by_cases h : j = k
                  · subst h; rw [← HZ.out]; exact HLE.out
                  · exact HT.out j (by omega)⟩
                case measure => simp [intOf]; omega
            · obtain rfl : k = n2 := by omega
              have hge : gtAt row y = row.length := gtAt_end fun j hj => HT.out j (by rw [HROW.out] at hj; exact hj)
              have HE : Hid ((egI t x).1 = (pre ++ row :: rest).set r (row ++ [y]) ∧ (egI t x).2 = r) := by
                have h := HY.out.e
                rw [egI_grow hge] at h
                show _ ∧ _
                rw [h, ← HR.out, set_mid]
                simp
              obtain ⟨w4, e4⟩ : ∃ W, W = wo.drewN q3 := ⟨_, rfl⟩
              rw [← e4]
              have HY4 : Hid (EdR w w4 G n1 c1 t x y pre (row :: rest) cells) := by rw [e4]; exact HY.out.below (below_drewN (Below.refl _ _) _)
              have O4 : Hid (OI w4 w.heap.size (.slice A2 k c2) row) := by rw [e4]; exact HO2.out.below (below_drewN (Below.refl _ _) _)
              have z4 : w4.cell? ⟨G, r, none⟩ = some (.slice A2 k c2) := by rw [e4]; exact z0
              have HSZ : Hid (w.heap.size ≤ w4.heap.size) := HY4.out.bel.size
              have HLR : Hid (row.length + 1 ≤ 1000000000000) := by show _ ≤ _; rw [HROW.out]; omega
              have HRL : Hid (r < (pre ++ row :: rest).length) := by show _ < _; rw [← HR.out]; simp
              have hr0 : (r : Int) < (n1 : Int) := by omega
              have hkk : ¬ (k : Int) < (k : Int) := by omega
              clear e4 z0 hge
              go_wp2_with (first
                | (at_builtin; refine wpApp1 rfl _ _ rfl w.heap.size (.slice A2 k c2) row y rfl O4.out rfl HLR.out HSZ.out ?_; intro v6 w6 o6 g6 k6; obtain ⟨A6, n6, c6, rfl, -⟩ := o6.form; have z6 := OS.outer HY4.out.o HRL.out HZC.out g6; obtain ⟨z6, f6⟩ := z6)
                | fail)
              go_ret2
              have hp := OS.rowPut HY4.out.o HRL.out HZC.out g6 o6 (k6.imp id fun h k e => by rw [h] at e; injection e with e; omega)
              have hb6 : Below w.heap.size w w6 := HY4.out.bel.grown g6 HY4.out.bel.size fun q hq => (O4.out.lt q hq).1
              have hb7 := hb6.grown hp.2 hb6.size fun q hq => by injection hq with hq; have := (OF.lt HY4.out.o G rfl).1; omega
              rw [HE.out.1, HE.out.2]
              exact MakesSn.of hp.1 hb7 (Nat.le_refl _) (Nat.le_refl _)
        · have HSK : Hid (∀ W, EdR w W G n1 c1 t x y pre (row :: rest) cells → EdR w W G n1 c1 t x (y + 1) (pre ++ [row]) rest cells) := fun W h => h.skip hb1 hb2
          have hy2 : y + 1 ≤ 1000 := by
            obtain ⟨j, hj, e⟩ := hasB_at.1 hb2
            have := HFR.out.2 _ (nth_mem hj)
            omega
          have HC2 := Lib.hid (HH2.out _ hb2)
          rw [hb1] at HC0
          clear hb1 hb2 HH2
          go_wp2_with (first
            | (go_at_call 142; (with_reducible refine HC0.out.mono ?_); rintro e w2 ⟨rfl, q2, rfl⟩)
            | (go_at_call 142; (with_reducible refine (HC2.out _).mono ?_); rintro e w2 ⟨rfl, q4, rfl⟩)
            | fail)
          have HB5 := Lib.hid (HSK.out (wr.drewN (q2 + q4)) (HY.out.below (below_drewN (Below.refl _ _) _)))
          go_roundw
          case rel => exact ⟨r + 1, y + 1, _, rest, cells, rfl, by omega, hy2, by go_num, by omega, by show _ = _; rw [List.length_append, HR.out]; rfl, HB5.out⟩
          case measure => simp [intOf]; omega
end Go.Proofs.Ytgbojgmmingfdaa
