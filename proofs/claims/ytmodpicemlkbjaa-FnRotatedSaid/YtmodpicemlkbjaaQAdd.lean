/- l6Add of the reference: a shape with a power is added some times to an ascending list. -/
import Derived.Test.YtmodpicemlkbjaaQParts
import Derived.Test.YtmodpicemlkbjaaPlain
import Derived.Test.YtmodpicemlkbjaaShapes
namespace Go.Proofs.Ytmodpicemlkbjaa
open Go.RowKit

theorem three_cellsQ {w W : World} {p q r : Addr} {u u' u'' : Value} (b : Below w.heap.size w W) (x1 : w.cell? p = some u) (x2 : w.cell? q = some u') (x3 : w.cell? r = some u'') : W.cell? p = some u ∧ W.cell? q = some u' ∧ W.cell? r = some u'' := ⟨one_cell b x1, one_cell b x2, one_cell b x3⟩
theorem nthQ_dec {ps : List (List Int × Int)} {k : Nat} {q cn : Int} {t : List Int} (h : k < ps.length) (e : nthP ps k = (q :: t, cn)) : nthQ (decL ps) k = (q, t, cn) := by
  rw [nthP_lt h] at e
  simp [nthQ, decL, List.getD, h, e, decQ]

theorem l6Less_any {A C : Option Addr} {n m : Nat} {t s : List Int} {w : World} (c d : Nat) (q cn p : Int) (hx : RI w A n t) (hy : RI w C m s) (hn : n ≤ 9223372036854775807) (hm : m ≤ 9223372036854775807) :
    Calls Try.prog 122 #[.agg #[.int .i64 q, .slice A n c, .int .i64 cn], .int .i64 p, .slice C m d] w (GivesB w (.bool (lexLt (q :: t) (p :: s)))) := by
  have HL : Hid (∀ W, Below w.heap.size w W → Calls Try.prog 103 #[.slice A n c, .slice C m d] W (Gives W (.bool (lexLt t s)))) := fun W b => l1Less_any c d (hx.below b) (hy.below b) hn hm
  have bx : Below w.heap.size w (w.alloc (.cells #[.int .i64 q, .slice A n c, .int .i64 cn] 46)) := (Below.refl _ _).alloc (Nat.le_refl _) _
  have hc : (q < p) ∨ (q = p) ∨ (p < q) := by omega
  rcases hc with h | h | h
  · have HE := Lib.hid (lex_cons_lt t s h)
    have h1 : decide (q < p) = true := decide_eq_true h
    go_enter Try.func122, Try.ntmps122
    go_wp2
    go_ret
    rw [HE.out]
    exact ⟨rfl, bx⟩
  · subst h
    have HE := Lib.hid (lex_cons_eq q t s)
    have h2 : (q == q) = true := by simp
    go_enter Try.func122, Try.ntmps122
    go_wp2_with (go_at_call 103; (with_reducible refine (HL.out _ bx).mono ?_); rintro e w' ⟨rfl, q0, rfl⟩)
    go_ret
    rw [HE.out]
    exact ⟨rfl, below_drewN bx _⟩
  · have HE := Lib.hid (lex_cons_gt t s h)
    have h1 : decide (q < p) = false := decide_eq_false (by omega)
    have h2 : (q == p) = false := by simp; omega
    go_enter Try.func122, Try.ntmps122
    go_wp2
    go_ret
    rw [HE.out]
    exact ⟨rfl, bx⟩
/-- The counts and powers are small, the lists short. -/
def SmallK (ps : List (List Int × Int)) : Prop := ∀ k, k < ps.length → (nthP ps k).1.length ≤ 1000000 ∧ (-1000000000000 ≤ (nthP ps k).2 ∧ (nthP ps k).2 ≤ 1000000000000)

set_option maxRecDepth 100000 in
set_option maxHeartbeats 4000000 in
theorem l6Add_any {A : Option Addr} {n : Nat} {s : List Int} {v0 : Value} {base b : Nat} {ps : List (List Int × Int)} {cells : List Value} {w : World} (c : Nat) (p y : Int) (h : OU w base b v0 (decL ps) cells) (hkey : Keyed ps) (hx : RI w A n s)
    (hn : n ≤ 1000000) (hm : ps.length ≤ 100000000000) (hp : SmallK ps) (hy1 : -1000000000000 ≤ y) (hy2 : y ≤ 1000000000000) :
    Calls Try.prog 85 #[v0, .int .i64 p, .slice A n c, .int .i64 y] w (MakesU w (decL (addP ps (p :: s) y))) := by
  obtain ⟨A0, m, c0, rfl, hl0, hc0, _⟩ := h.form
  rw [decL_len] at hl0
  have HL := Lib.hid hl0
  have HKY := Lib.hid hkey
  have HP := Lib.hid hp
  have hm' : m ≤ 100000000000 := by omega
  clear hl0 hp hm hkey
  go_enter Try.func85, Try.ntmps85
  go_wp2
  go_loopw [9, 10, 11] (fun u d i wr => ∃ (k : Nat) (cs : List Value), k ≤ m ∧ i = .int .i64 k ∧ d = .bool (addUp ps (p :: s) y k).2 ∧ OU wr w.heap.size w.heap.size u (decL (addUp ps (p :: s) y k).1) cs ∧ Below w.heap.size w wr) (fun _ _ i _ => m - (intOf i).toNat)
  case atStart => exact ⟨0, [], Nat.zero_le _, rfl, rfl, OU.lit w _ _ (Nat.le_refl _), (Below.refl _ _).alloc (Nat.le_refl _) _⟩
  case round =>
    obtain ⟨k, cs, hk, rfl, rfl, ho, hbl⟩ := hrel
    have hsz := hbl.size
    have hlen := (addUp_len ps (p :: s) y k).1
    have hxr := hx.below hbl
    by_cases hlt : k < m
    · obtain ⟨G, cc, hG, _⟩ := OF.shape h (by rw [decL_len, HL.out]; omega)
      obtain ⟨rfl, e2, e3⟩ := slice_inj hG
      clear e2 e3 hG
      obtain ⟨q, t, cn, hqt⟩ := HKY.out.at (k := k) (by rw [HL.out]; exact hlt)
      obtain ⟨A1, n1, c1, k0, k1, _, k2, k3, k4⟩ := OU.cell h (k := k) (by rw [decL_len, HL.out]; exact hlt)
      rw [nthQ_dec (by rw [HL.out]; exact hlt) hqt] at k0 k2 k4
      simp only at k0 k2 k4
      obtain ⟨p1, p2, p3⟩ := HP.out k (by rw [HL.out]; exact hlt)
      rw [hqt] at p1 p2 p3
      simp only [List.length_cons] at p1 p2 p3
      rw [k2.ri.1] at p1
      have hr0 := k2.ri
      have K : Hid (w.cell? ⟨G, k * 3, none⟩ = some (.int .i64 q) ∧ w.cell? ⟨G, k * 3 + 1, none⟩ = some (.slice A1 n1 c1) ∧ w.cell? ⟨G, k * 3 + 2, none⟩ = some (.int .i64 cn)) := ⟨k0, k1, k4⟩
      have HQT := Lib.hid hqt
      have x0 := one_cell hbl k0
      have x1 := one_cell hbl k1
      have x4 := one_cell hbl k4
      have HLS0 : Hid (∀ W, Below wr.heap.size wr W → Calls Try.prog 122 #[.agg #[.int .i64 q, .slice A1 n1 c1, .int .i64 cn], .int .i64 p, .slice A n c] W (GivesB W (.bool (lexLt (nthP ps k).1 (p :: s))))) := fun W bW => by
        rw [HQT.out]
        exact l6Less_any c1 c q cn p ((hr0.below hbl).below bW) (hxr.below bW) (by omega) (by omega)
      have hri := hr0.below hbl
      clear k0 k1 k2 k4 hqt
      rcases hd : (addUp ps (p :: s) y k).2 with _ | _
      · have HD := Lib.hid hd
        rcases hl : lexLt (nthP ps k).1 (p :: s) with _ | _
        · have HLt := Lib.hid hl
          have HLS : Hid (∀ W, Below wr.heap.size wr W → Calls Try.prog 122 #[.agg #[.int .i64 q, .slice A1 n1 c1, .int .i64 cn], .int .i64 p, .slice A n c] W (GivesB W (.bool false))) := fun W bW => by have h := HLS0.out W bW; rw [HLt.out] at h; exact h
          clear hd hl HLS0
          by_cases hs : q = p ∧ t = s
          · obtain ⟨hs1, hs2⟩ := hs
            have HSm : Hid ((nthP ps k).1 = p :: s) := by show _ = _; rw [HQT.out, hs1, hs2]
            have HTS := Lib.hid hs2
            have hqq : (q == p) = true := by simpa using hs1
            clear hs1 hs2
            have HSM : Hid (∀ W, Below w.heap.size w W → Calls Try.prog 95 #[.slice A1 n1 c1, .slice A n c] W (Gives W (.bool true))) := fun W bW => l1Same_any true _ _ (hr0.below bW) (hx.below bW) (by rw [HTS.out]; simp) (by omega) (by omega)
            by_cases hz : cn + y = 0
            · have HZ : Hid ((nthP ps k).2 + y = 0) := by show _ = _; rw [HQT.out]; exact hz
              have hz1 : (cn + y != 0) = false := by simpa using hz
              clear hz
              go_wp2_with (first
                | (go_at_call 122; (with_reducible refine (HLS.out _ ?_).mono ?_); (exact ⟨rfl, rfl, rfl, Nat.le_refl _, fun _ _ => rfl⟩); rintro e w1 ⟨rfl, bL⟩; have hbl1 : Below w.heap.size w w1 := bnext hbl bL hbl.size; have ho1 : OU w1 w.heap.size w.heap.size u9 (decL (addUp ps (p :: s) y k).1) cs := OU.below ho bL; have hxr1 := hx.below hbl1; have hri1 := hr0.below hbl1; have cx0 := one_cell hbl1 K.out.1; have cx1 := one_cell hbl1 K.out.2.1; have cx2 := one_cell hbl1 K.out.2.2)
                | (go_at_call 95; (with_reducible refine (HSM.out _ ?_).mono ?_); exact hbl1; rintro e w' ⟨rfl, q0, rfl⟩))
              go_roundw
              case rel => exact ⟨k + 1, cs, by omega, by go_num, by rw [addUp_gone HD.out HLt.out HSm.out HZ.out], by rw [addUp_gone HD.out HLt.out HSm.out HZ.out]; exact OU.below ho1 (Quiet.below ⟨_, rfl⟩), below_drewN hbl1 _⟩
              case measure => simp [intOf]; omega
            · have HZ : Hid ((nthP ps k).2 + y ≠ 0) := by show _ ≠ _; rw [HQT.out]; exact hz
              have hz1 : (cn + y != 0) = true := by simpa using hz
              clear hz
              have hw1 : IntKind.i64.wrap (cn + y) = cn + y := IntWalk.i64_in _ (by omega)
              have HW1 := Lib.hid hw1
              clear hw1
              go_wp2_with (first
                | (go_at_call 122; (with_reducible refine (HLS.out _ ?_).mono ?_); (exact ⟨rfl, rfl, rfl, Nat.le_refl _, fun _ _ => rfl⟩); rintro e w1 ⟨rfl, bL⟩; have hbl1 : Below w.heap.size w w1 := bnext hbl bL hbl.size; have ho1 : OU w1 w.heap.size w.heap.size u9 (decL (addUp ps (p :: s) y k).1) cs := OU.below ho bL; have hxr1 := hx.below hbl1; have hri1 := hr0.below hbl1; have cx0 := one_cell hbl1 K.out.1; have cx1 := one_cell hbl1 K.out.2.1; have cx2 := one_cell hbl1 K.out.2.2)
                | (go_at_call 95; (with_reducible refine (HSM.out _ ?_).mono ?_); exact hbl1; rintro e w' ⟨rfl, q0, rfl⟩))
              have hw1 := HW1.out
              have hbq : Below w.heap.size w (w1.drewN q0) := below_drewN hbl1 _
              have hoq : OU (w1.drewN q0) w.heap.size w.heap.size u9 (decL (addUp ps (p :: s) y k).1) cs := OU.below ho1 (Quiet.below ⟨_, rfl⟩)
              have hxq : RI (w1.drewN q0) A n s := hx.below hbq
              obtain ⟨wq, hwq⟩ : ∃ wq, wq = w1.drewN q0 := ⟨_, rfl⟩
              rw [← hwq] at hbq hoq hxq ⊢
              clear hwq
              have HCX := Lib.hid (three_cellsQ hbq K.out.1 K.out.2.1 K.out.2.2)
              go_region_held3 (fun w' => w'.cell? ⟨G, k * 3, none⟩ = some (.int .i64 q) ∧ w'.cell? ⟨G, k * 3 + 1, none⟩ = some (.slice A1 n1 c1) ∧ w'.cell? ⟨G, k * 3 + 2, none⟩ = some (.int .i64 cn)) (first | exact HCX.out | exact three_cellsQ bb2 K.out.1 K.out.2.1 K.out.2.2 | exact three_cellsQ (bb2.alloc bb2.size _) K.out.1 K.out.2.1 K.out.2.2 | exact three_cellsQ bb3 K.out.1 K.out.2.1 K.out.2.2) (first
                | (go_at_call 104; refine (l1Ints_any _ (hxq.drewN _) (by omega)).mono ?_; rintro e w2 ⟨A2, n2, c2, rfl, o2, r2, cp2, b2⟩; have bb2 := bnext (below_drewN hbq _) b2 hbq.size)
                | (refine stepAppU rfl _ _ rfl w.heap.size w.heap.size u9 (.slice A2 n2 c2) (decL (addUp ps (p :: s) y k).1) cs s p (cn + y) rfl rfl (OU.below hoq (bnext (Quiet.below ⟨_, rfl⟩) b2 (Nat.le_refl _))) (o2.mono hbq.size) (apart_new hoq.2.1 (Nat.le_refl _) o2) (by rw [decL_len]; first | omega | (simp; omega)) bb2.size ?_; intro v' w' h1 h2 h3; have bb3 := (bb2.alloc bb2.size _).grown h2 (by have := bb2.size; simp; omega) (fun k hk => (OF.lt hoq k hk).1)))
              clear hw1
              go_wp2
              go_roundw
              case rel => exact ⟨k + 1, cs ++ [.int .i64 p, .slice A2 n2 c2, .int .i64 (cn + y)], by omega, by go_num, by rw [addUp_more HD.out HLt.out HSm.out HZ.out], by rw [addUp_more HD.out HLt.out HSm.out HZ.out, decL_append, HQT.out]; exact h1, bb3⟩
              case measure => simp [intOf]; omega
          · have HSm : Hid ((nthP ps k).1 ≠ p :: s) := fun e => hs (by rw [HQT.out] at e; injection e with e1 e2; exact ⟨e1, e2⟩)
            have hcase : (q == p) = false ∨ ((q == p) = true ∧ t ≠ s) := by
              by_cases h1 : q = p
              · exact .inr ⟨by simpa using h1, fun h2 => hs ⟨h1, h2⟩⟩
              · exact .inl (by simpa using h1)
            have HSM : Hid (t ≠ s → ∀ W, Below w.heap.size w W → Calls Try.prog 95 #[.slice A1 n1 c1, .slice A n c] W (Gives W (.bool false))) := fun hts W bW => l1Same_any false _ _ (hr0.below bW) (hx.below bW) (by simp [hts]) (by omega) (by omega)
            clear hs
            rcases hcase with hq1 | ⟨hq1, hts⟩
            · go_wp2_with (first
                | (go_at_call 122; (with_reducible refine (HLS.out _ ?_).mono ?_); (exact ⟨rfl, rfl, rfl, Nat.le_refl _, fun _ _ => rfl⟩); rintro e w1 ⟨rfl, bL⟩; have hbl1 : Below w.heap.size w w1 := bnext hbl bL hbl.size; have ho1 : OU w1 w.heap.size w.heap.size u9 (decL (addUp ps (p :: s) y k).1) cs := OU.below ho bL; have hxr1 := hx.below hbl1; have hri1 := hr0.below hbl1; have cx0 := one_cell hbl1 K.out.1; have cx1 := one_cell hbl1 K.out.2.1; have cx2 := one_cell hbl1 K.out.2.2)
                | (go_at_call 104; refine (l1Ints_any _ hxr1 (by omega)).mono ?_; rintro e w4 ⟨A4, n4, c4, rfl, o4, r4, cp4, b4⟩; have bb4 := bnext hbl1 b4 hbl1.size)
                | (at_builtin; refine wpAppU rfl _ _ rfl w.heap.size w.heap.size u9 (.slice A4 n4 c4) (decL (addUp ps (p :: s) y k).1) cs s p y rfl rfl (by exact OU.below ho1 b4) (by exact o4.mono hbl1.size) (by exact apart_new ho1.2.1 (Nat.le_refl _) o4) (by rw [decL_len]; omega) (by exact bb4.size) ?_; intro v5 w5 g1 g2 g3; have bb5 := (bb4.alloc bb4.size _).grown g2 (by have := bb4.size; simp; omega) (fun k hk => (OF.lt ho1 k hk).1)))
              have hr5 := hr0.below bb5
              have G1 : OU w5 w.heap.size w.heap.size v5 (decL ((addUp ps (p :: s) y k).1 ++ [(p :: s, y)])) (cs ++ [.int .i64 p, .slice A4 n4 c4, .int .i64 y]) := by rw [decL_append]; exact g1
              have HCX := Lib.hid (three_cellsQ bb5 K.out.1 K.out.2.1 K.out.2.2)
              go_region_held3 (fun w' => w'.cell? ⟨G, k * 3, none⟩ = some (.int .i64 q) ∧ w'.cell? ⟨G, k * 3 + 1, none⟩ = some (.slice A1 n1 c1) ∧ w'.cell? ⟨G, k * 3 + 2, none⟩ = some (.int .i64 cn)) (first | exact HCX.out | exact three_cellsQ bb2 K.out.1 K.out.2.1 K.out.2.2 | exact three_cellsQ (bb2.alloc bb2.size _) K.out.1 K.out.2.1 K.out.2.2 | exact three_cellsQ bb3 K.out.1 K.out.2.1 K.out.2.2) (first
                | (go_at_call 104; refine (l1Ints_any _ (hr5.drewN _) (by omega)).mono ?_; rintro e w2 ⟨A2, n2, c2, rfl, o2, r2, cp2, b2⟩; have bb2 := bnext (below_drewN bb5 _) b2 bb5.size)
                | (refine stepAppU rfl _ _ rfl w.heap.size w.heap.size v5 (.slice A2 n2 c2) (decL ((addUp ps (p :: s) y k).1 ++ [(p :: s, y)])) (cs ++ [.int .i64 p, .slice A4 n4 c4, .int .i64 y]) t q cn rfl rfl (OU.below G1 (bnext (Quiet.below ⟨_, rfl⟩) b2 (Nat.le_refl _))) (o2.mono bb5.size) (apart_new G1.2.1 (Nat.le_refl _) o2) (by rw [decL_len]; first | omega | (simp; omega)) bb2.size ?_; intro v' w' h1 h2 h3; have bb3 := (bb2.alloc bb2.size _).grown h2 (by have := bb2.size; simp; omega) (fun k hk => (OF.lt G1 k hk).1)))
              go_wp2
              go_roundw
              case rel => exact ⟨k + 1, (cs ++ [.int .i64 p, .slice A4 n4 c4, .int .i64 y]) ++ [.int .i64 q, .slice A2 n2 c2, .int .i64 cn], by omega, by go_num, by rw [addUp_new HD.out HLt.out HSm.out], by rw [addUp_new HD.out HLt.out HSm.out, decL_append, HQT.out]; exact h1, bb3⟩
              case measure => simp [intOf]; omega
            · go_wp2_with (first
                | (go_at_call 122; (with_reducible refine (HLS.out _ ?_).mono ?_); (exact ⟨rfl, rfl, rfl, Nat.le_refl _, fun _ _ => rfl⟩); rintro e w1 ⟨rfl, bL⟩; have hbl1 : Below w.heap.size w w1 := bnext hbl bL hbl.size; have ho1 : OU w1 w.heap.size w.heap.size u9 (decL (addUp ps (p :: s) y k).1) cs := OU.below ho bL; have hxr1 := hx.below hbl1; have hri1 := hr0.below hbl1; have cx0 := one_cell hbl1 K.out.1; have cx1 := one_cell hbl1 K.out.2.1; have cx2 := one_cell hbl1 K.out.2.2)
                | (go_at_call 95; (with_reducible refine (HSM.out hts _ ?_).mono ?_); exact hbl1; rintro e w' ⟨rfl, q0, rfl⟩)
                | (go_at_call 104; refine (l1Ints_any _ (hxr1.drewN _) (by omega)).mono ?_; rintro e w4 ⟨A4, n4, c4, rfl, o4, r4, cp4, b4⟩; have bb4 := bnext (below_drewN hbl1 _) b4 hbl1.size)
                | (at_builtin; refine wpAppU rfl _ _ rfl w.heap.size w.heap.size u9 (.slice A4 n4 c4) (decL (addUp ps (p :: s) y k).1) cs s p y rfl rfl (by exact OU.below ho1 (bnext (Quiet.below ⟨_, rfl⟩) b4 (Nat.le_refl _))) (by exact o4.mono hbl1.size) (by exact apart_new ho1.2.1 (Nat.le_refl _) o4) (by rw [decL_len]; omega) (by exact bb4.size) ?_; intro v5 w5 g1 g2 g3; have bb5 := (bb4.alloc bb4.size _).grown g2 (by have := bb4.size; simp; omega) (fun k hk => (OF.lt ho1 k hk).1)))
              have hr5 := hr0.below bb5
              have G1 : OU w5 w.heap.size w.heap.size v5 (decL ((addUp ps (p :: s) y k).1 ++ [(p :: s, y)])) (cs ++ [.int .i64 p, .slice A4 n4 c4, .int .i64 y]) := by rw [decL_append]; exact g1
              have HCX := Lib.hid (three_cellsQ bb5 K.out.1 K.out.2.1 K.out.2.2)
              go_region_held3 (fun w' => w'.cell? ⟨G, k * 3, none⟩ = some (.int .i64 q) ∧ w'.cell? ⟨G, k * 3 + 1, none⟩ = some (.slice A1 n1 c1) ∧ w'.cell? ⟨G, k * 3 + 2, none⟩ = some (.int .i64 cn)) (first | exact HCX.out | exact three_cellsQ bb2 K.out.1 K.out.2.1 K.out.2.2 | exact three_cellsQ (bb2.alloc bb2.size _) K.out.1 K.out.2.1 K.out.2.2 | exact three_cellsQ bb3 K.out.1 K.out.2.1 K.out.2.2) (first
                | (go_at_call 104; refine (l1Ints_any _ (hr5.drewN _) (by omega)).mono ?_; rintro e w2 ⟨A2, n2, c2, rfl, o2, r2, cp2, b2⟩; have bb2 := bnext (below_drewN bb5 _) b2 bb5.size)
                | (refine stepAppU rfl _ _ rfl w.heap.size w.heap.size v5 (.slice A2 n2 c2) (decL ((addUp ps (p :: s) y k).1 ++ [(p :: s, y)])) (cs ++ [.int .i64 p, .slice A4 n4 c4, .int .i64 y]) t q cn rfl rfl (OU.below G1 (bnext (Quiet.below ⟨_, rfl⟩) b2 (Nat.le_refl _))) (o2.mono bb5.size) (apart_new G1.2.1 (Nat.le_refl _) o2) (by rw [decL_len]; first | omega | (simp; omega)) bb2.size ?_; intro v' w' h1 h2 h3; have bb3 := (bb2.alloc bb2.size _).grown h2 (by have := bb2.size; simp; omega) (fun k hk => (OF.lt G1 k hk).1)))
              go_wp2
              go_roundw
              case rel => exact ⟨k + 1, (cs ++ [.int .i64 p, .slice A4 n4 c4, .int .i64 y]) ++ [.int .i64 q, .slice A2 n2 c2, .int .i64 cn], by omega, by go_num, by rw [addUp_new HD.out HLt.out HSm.out], by rw [addUp_new HD.out HLt.out HSm.out, decL_append, HQT.out]; exact h1, bb3⟩
              case measure => simp [intOf]; omega
        · have HLt := Lib.hid hl
          have HLS : Hid (∀ W, Below wr.heap.size wr W → Calls Try.prog 122 #[.agg #[.int .i64 q, .slice A1 n1 c1, .int .i64 cn], .int .i64 p, .slice A n c] W (GivesB W (.bool true))) := fun W bW => by have h := HLS0.out W bW; rw [HLt.out] at h; exact h
          clear hd hl HLS0
          go_wp2_with (first
            | (go_at_call 122; (with_reducible refine (HLS.out _ ?_).mono ?_); (exact ⟨rfl, rfl, rfl, Nat.le_refl _, fun _ _ => rfl⟩); rintro e w1 ⟨rfl, bL⟩; have hbl1 : Below w.heap.size w w1 := bnext hbl bL hbl.size; have ho1 : OU w1 w.heap.size w.heap.size u9 (decL (addUp ps (p :: s) y k).1) cs := OU.below ho bL; have hxr1 := hx.below hbl1; have hri1 := hr0.below hbl1; have cx0 := one_cell hbl1 K.out.1; have cx1 := one_cell hbl1 K.out.2.1; have cx2 := one_cell hbl1 K.out.2.2))
          have HCX := Lib.hid (three_cellsQ hbl1 K.out.1 K.out.2.1 K.out.2.2)
          go_region_held3 (fun w' => w'.cell? ⟨G, k * 3, none⟩ = some (.int .i64 q) ∧ w'.cell? ⟨G, k * 3 + 1, none⟩ = some (.slice A1 n1 c1) ∧ w'.cell? ⟨G, k * 3 + 2, none⟩ = some (.int .i64 cn)) (first | exact HCX.out | exact three_cellsQ bb2 K.out.1 K.out.2.1 K.out.2.2 | exact three_cellsQ (bb2.alloc bb2.size _) K.out.1 K.out.2.1 K.out.2.2 | exact three_cellsQ bb3 K.out.1 K.out.2.1 K.out.2.2) (first
            | (go_at_call 104; refine (l1Ints_any _ (hri1.drewN _) (by omega)).mono ?_; rintro e w2 ⟨A2, n2, c2, rfl, o2, r2, cp2, b2⟩; have bb2 := bnext (below_drewN hbl1 _) b2 hbl1.size)
            | (refine stepAppU rfl _ _ rfl w.heap.size w.heap.size u9 (.slice A2 n2 c2) (decL (addUp ps (p :: s) y k).1) cs t q cn rfl rfl (OU.below ho1 (bnext (Quiet.below ⟨_, rfl⟩) b2 (Nat.le_refl _))) (o2.mono hbl1.size) (apart_new ho1.2.1 (Nat.le_refl _) o2) (by rw [decL_len]; first | omega | (simp; omega)) bb2.size ?_; intro v' w' h1 h2 h3; have bb3 := (bb2.alloc bb2.size _).grown h2 (by have := bb2.size; simp; omega) (fun k hk => (OF.lt ho1 k hk).1)))
          go_wp2
          go_roundw
          case rel => exact ⟨k + 1, cs ++ [.int .i64 q, .slice A2 n2 c2, .int .i64 cn], by omega, by go_num, by rw [addUp_less HD.out HLt.out], by rw [addUp_less HD.out HLt.out, decL_append, HQT.out]; exact h1, bb3⟩
          case measure => simp [intOf]; omega
      · have HD := Lib.hid hd
        clear hd HLS0
        go_wp2
        have HCX := Lib.hid (three_cellsQ hbl K.out.1 K.out.2.1 K.out.2.2)
        go_region_held3 (fun w' => w'.cell? ⟨G, k * 3, none⟩ = some (.int .i64 q) ∧ w'.cell? ⟨G, k * 3 + 1, none⟩ = some (.slice A1 n1 c1) ∧ w'.cell? ⟨G, k * 3 + 2, none⟩ = some (.int .i64 cn)) (first | exact HCX.out | exact three_cellsQ bb2 K.out.1 K.out.2.1 K.out.2.2 | exact three_cellsQ (bb2.alloc bb2.size _) K.out.1 K.out.2.1 K.out.2.2 | exact three_cellsQ bb3 K.out.1 K.out.2.1 K.out.2.2) (first
          | (go_at_call 104; refine (l1Ints_any _ (hri.drewN _) (by omega)).mono ?_; rintro e w2 ⟨A2, n2, c2, rfl, o2, r2, cp2, b2⟩; have bb2 := bnext (below_drewN hbl _) b2 hbl.size)
          | (refine stepAppU rfl _ _ rfl w.heap.size w.heap.size u9 (.slice A2 n2 c2) (decL (addUp ps (p :: s) y k).1) cs t q cn rfl rfl (OU.below ho (bnext (Quiet.below ⟨_, rfl⟩) b2 (Nat.le_refl _))) (o2.mono hbl.size) (apart_new ho.2.1 (Nat.le_refl _) o2) (by rw [decL_len]; first | omega | (simp; omega)) bb2.size ?_; intro v' w' h1 h2 h3; have bb3 := (bb2.alloc bb2.size _).grown h2 (by have := bb2.size; simp; omega) (fun k hk => (OF.lt ho k hk).1)))
        go_wp2
        go_roundw
        case rel => exact ⟨k + 1, cs ++ [.int .i64 q, .slice A2 n2 c2, .int .i64 cn], by omega, by go_num, by rw [addUp_keep HD.out], by rw [addUp_keep HD.out, decL_append, HQT.out]; exact h1, bb3⟩
        case measure => simp [intOf]; omega
    · obtain rfl : k = m := by omega
      rcases hd : (addUp ps (p :: s) y k).2 with _ | _
      · have HD := Lib.hid (addP_last HL.out hd)
        clear hd
        go_wp2_with (first
          | (go_at_call 104; refine (l1Ints_any _ (by first | exact hxr | exact hxr.drewN _) (by omega)).mono ?_; rintro e w4 ⟨A4, n4, c4, rfl, o4, r4, cp4, b4⟩; have bb4 := bnext hbl b4 hsz)
          | (at_builtin; refine wpAppU rfl _ _ rfl w.heap.size w.heap.size u9 (.slice A4 n4 c4) (decL (addUp ps (p :: s) y k).1) cs s p y rfl rfl (by exact OU.below ho b4) (by exact o4.mono hsz) (by exact apart_new ho.2.1 (Nat.le_refl _) o4) (by rw [decL_len]; omega) (by exact bb4.size) ?_; intro v5 w5 g1 g2 g3; have bb5 := (bb4.alloc bb4.size _).grown g2 (by have := bb4.size; simp; omega) (fun k hk => (OF.lt ho k hk).1)))
        go_ret
        rw [HD.out, decL_append]
        exact MakesU.of g1 bb5
      · have HD := Lib.hid (addP_done HL.out hd)
        clear hd
        go_wp2
        go_ret
        rw [HD.out]
        exact MakesU.of ho hbl
end Go.Proofs.Ytmodpicemlkbjaa
