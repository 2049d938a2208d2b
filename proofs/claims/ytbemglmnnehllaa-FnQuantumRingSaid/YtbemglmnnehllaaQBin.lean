/- slices.BinarySearchFunc over shapes with powers. -/
import Derived.Test.YtbemglmnnehllaaQAdd
import Derived.Test.YtbemglmnnehllaaCmp
import Derived.Test.YtbemglmnnehllaaBin
namespace Go.Proofs.Ytbemglmnnehllaa
open Go.RowKit

/-- What a comparison leaves: a number of the sign that the order of the keys says. -/
def Signs (w : World) (x y : List Int) : Ending → World → Prop := fun e w' => ∃ z : Int, e = .returned (.int .i64 z) ∧ (z < 0 ↔ lexLt x y = true) ∧ (z = 0 ↔ x = y) ∧ Below w.heap.size w w'
theorem byQ_any {A C : Option Addr} {n m : Nat} {t s : List Int} {w : World} (c d : Nat) (q cn p cm : Int) (hx : RI w A n t) (hy : RI w C m s) (hn : n ≤ 1000000000000) (hm : m ≤ 1000000000000) (hq : -1000000000000 ≤ q ∧ q ≤ 1000000000000) (hp : -1000000000000 ≤ p ∧ p ≤ 1000000000000) :
    Calls Try.prog 17 #[.agg #[.int .i64 q, .slice A n c, .int .i64 cn], .agg #[.int .i64 p, .slice C m d, .int .i64 cm]] w (Signs w (q :: t) (p :: s)) := by
  have bx : Below w.heap.size w ((w.alloc (.cells #[.int .i64 q, .slice A n c, .int .i64 cn] 44)).alloc (.cells #[.int .i64 p, .slice C m d, .int .i64 cm] 44)) := ((Below.refl _ _).alloc (Nat.le_refl _) _).alloc (by simp) _
  by_cases h : q = p
  · subst h
    have HC := Lib.hid (compare_any c d ((hx.below bx)) ((hy.below bx)) (by omega) (by omega))
    have HB := Lib.hid bx
    have h2 : (q != q) = false := by simp
    clear bx
    go_enter Try.func17, Try.ntmps17
    go_wp2_with fail
    refine HC.out.mono ?_
    rintro e w1 ⟨rfl, qq, rfl⟩
    go_wp2
    go_ret
    refine ⟨_, rfl, ?_, ?_, below_drewN HB.out _⟩
    · rw [cmpB_neg, lex_cons_eq]
    · rw [cmpB_zero]; simp
  · have h2 : (q != p) = true := by simpa using h
    have hq2 : q - p ≠ 0 := by omega
    have hc : lexLt (q :: t) (p :: s) = decide (q < p) := by rw [lex_cons, if_neg h]
    have HC := Lib.hid hc
    have HB := Lib.hid bx
    obtain ⟨hq0, hq1⟩ := hq
    obtain ⟨hp0, hp1⟩ := hp
    clear bx hc
    go_enter Try.func17, Try.ntmps17
    go_wp2
    go_ret
    refine ⟨q - p, rfl, ?_, ?_, HB.out⟩
    · rw [HC.out, decide_eq_true_eq]; omega
    · constructor
      · intro h0; exact absurd h0 hq2
      · intro e; injection e with e1 _; exact absurd e1 h

set_option maxRecDepth 100000 in
set_option maxHeartbeats 4000000 in
theorem binQ_any {w : World} {base b n m : Nat} {A0 A : Option Addr} {ps : List (List Int × Int)} {cells : List Value} {s : List Int} {pw cm : Int} {p : Nat} (c0 d : Nat)
    (h : OU w base b (.slice A0 n c0) (decL ps) cells) (hky : Keyed ps) (hx : RI w A m s) (hp : Place ps (pw :: s) p) (hn : n ≤ 1000000000000) (hm : m ≤ 1000000000000) (hl : ∀ k, k < ps.length → (nthP ps k).1.length ≤ 1000000000000 ∧ ∀ q t c, nthP ps k = (q :: t, c) → -1000000000000 ≤ q ∧ q ≤ 1000000000000) (hpw : -1000000000000 ≤ pw ∧ pw ≤ 1000000000000) :
    Calls Try.prog 16 #[.slice A0 n c0, .agg #[.int .i64 pw, .slice A m d, .int .i64 cm], .func (.func 17) #[] #[]] w
      (fun e w' => e = .returned (.tuple #[.int .i64 (p : Int), .bool (fndB ps (pw :: s) p)]) ∧ Below w.heap.size w w') := by
  obtain ⟨A', n', c', hv, hn0, hc, _⟩ := h.form
  obtain ⟨rfl, rfl, rfl⟩ := slice_inj hv
  have hle := hp.le
  rw [decL_len] at hn0
  rw [hn0] at hle
  have HN := Lib.hid hn0
  have HKY := Lib.hid hky
  have HL := Lib.hid hl
  have HX := Lib.hid hx
  have HH := Lib.hid h
  have HPW := Lib.hid hpw
  clear hv hn0 hky hl hpw
  obtain ⟨gb, hgb⟩ : ∃ gb, gb = w.heap.size := ⟨_, rfl⟩
  obtain ⟨w1, hw1⟩ : ∃ w1, w1 = w.alloc (.cells #[.int .i64 pw, .slice A m d, .int .i64 cm] 44) := ⟨_, rfl⟩
  have KB : Hid (BK w1 gb 44 [.int .i64 pw, .slice A m d, .int .i64 cm]) := by rw [hw1, hgb]; exact BK.new w _ _
  have B1 : Hid (Below w.heap.size w w1) := by show Below _ _ _; rw [hw1]; exact (Below.refl _ _).alloc (Nat.le_refl _) _
  have HGB : Hid (gb < w1.heap.size) := KB.out.lt
  clear h hx
  go_enter Try.func16, Try.ntmps16
  go_wp2
  rw [← hw1, ← hgb]
  clear hw1 hgb
  go_loopw [9, 10, 11] (fun i j _ wr => ∃ a q : Nat, a ≤ p ∧ p ≤ q ∧ q ≤ n ∧ i = .int .i64 (a : Int) ∧ j = .int .i64 (q : Int) ∧ Hid (Below w1.heap.size w1 wr)) (fun i j _ _ => (intOf j).toNat - (intOf i).toNat)
  case atStart => exact ⟨0, n, Nat.zero_le _, hle, Nat.le_refl _, rfl, rfl, Below.refl _ _⟩
  case round =>
    obtain ⟨a, q, h1, h2, h3, rfl, rfl, hb⟩ := hrel
    have hbw : Below w.heap.size w wr := B1.out.trans (hb.out.mono B1.out.size)
    have kb := KB.out.below hb.out HGB.out
    have KBR := Lib.hid kb
    by_cases hlt : a < q
    · have ho := HH.out.below hbw
      obtain ⟨G, cc, hG, _⟩ := OF.shape ho (by rw [decL_len, HN.out]; omega)
      obtain ⟨rfl, e2, e3⟩ := slice_inj hG
      clear e2 e3 hG
      obtain ⟨H, hH⟩ : ∃ H, H = (a + q) / 2 := ⟨_, rfl⟩
      have hH1 : a ≤ (a + q) / 2 ∧ (a + q) / 2 < q := by omega
      obtain ⟨hH2, hH3⟩ := hH1
      have hHl : (a + q) / 2 < ps.length := by rw [HN.out]; omega
      obtain ⟨qp, t, cn, hqt⟩ := HKY.out.at hHl
      obtain ⟨A1, n1, c1, k0, k1, _, k2, _, k4⟩ := OU.cell ho (k := (a + q) / 2) (by rw [decL_len]; exact hHl)
      rw [nthQ_dec hHl hqt] at k0 k2 k4
      simp only at k0 k2 k4
      obtain ⟨hlen, hqr⟩ := HL.out _ hHl
      have hqr2 := hqr _ _ _ hqt
      rw [hqt] at hlen
      simp only [List.length_cons] at hlen
      rw [k2.ri.1] at hlen
      have hb1 := hp.below hHl
      rw [cmpB_neg, hqt] at hb1
      simp only at hb1
      have HB1 := Lib.hid hb1
      have HCL : Hid (∀ W, Below wr.heap.size wr W → Calls Try.prog 17 #[.agg #[.int .i64 qp, .slice A1 n1 c1, .int .i64 cn], .agg #[.int .i64 pw, .slice A m d, .int .i64 cm]] W (Signs W (qp :: t) (pw :: s))) := fun W bW =>
        byQ_any c1 d qp cn pw cm (k2.ri.below bW) ((HX.out.below hbw).below bW) (by omega) hm hqr2 HPW.out
      obtain ⟨x0, x1, x2⟩ : wr.cell? ⟨gb, 0, none⟩ = some (.int .i64 pw) ∧ wr.cell? ⟨gb, 1, none⟩ = some (.slice A m d) ∧ wr.cell? ⟨gb, 2, none⟩ = some (.int .i64 cm) := ⟨kb.cell (j := 0) rfl, kb.cell (j := 1) rfl, kb.cell (j := 2) rfl⟩
      have HCS : Hid ((wr.cell? ⟨G, (a + q) / 2 * 3, none⟩ = some (.int .i64 qp) ∧ wr.cell? ⟨G, (a + q) / 2 * 3 + 1, none⟩ = some (.slice A1 n1 c1) ∧ wr.cell? ⟨G, (a + q) / 2 * 3 + 2, none⟩ = some (.int .i64 cn)) ∧ wr.cell? ⟨gb, 0, none⟩ = some (.int .i64 pw) ∧ wr.cell? ⟨gb, 1, none⟩ = some (.slice A m d) ∧ wr.cell? ⟨gb, 2, none⟩ = some (.int .i64 cm)) := ⟨⟨k0, k1, k4⟩, x0, x1, x2⟩
      have hi1 : (0 : Int) ≤ ((a : Int) + q) / 2 := by omega
      have hi2 : ((a : Int) + q) / 2 < (n : Int) := by omega
      have hi3 : (((a : Int) + q) / 2).toNat = (a + q) / 2 := by omega
      clear hb1 hHl k2 ho hqt hqr hqr2 hH kb
      go_wp2_with fail
      go_region_held3 (fun w' => (w'.cell? ⟨G, (a + q) / 2 * 3, none⟩ = some (.int .i64 qp) ∧ w'.cell? ⟨G, (a + q) / 2 * 3 + 1, none⟩ = some (.slice A1 n1 c1) ∧ w'.cell? ⟨G, (a + q) / 2 * 3 + 2, none⟩ = some (.int .i64 cn)) ∧ w'.cell? ⟨gb, 0, none⟩ = some (.int .i64 pw) ∧ w'.cell? ⟨gb, 1, none⟩ = some (.slice A m d) ∧ w'.cell? ⟨gb, 2, none⟩ = some (.int .i64 cm)) (first | exact HCS.out | exact ⟨three_cellsQ b2 HCS.out.1.1 HCS.out.1.2.1 HCS.out.1.2.2, three_cellsQ b2 HCS.out.2.1 HCS.out.2.2.1 HCS.out.2.2.2⟩) (first
        | (go_at_call 17; (with_reducible refine (HCL.out _ ?_).mono ?_); (exact ⟨rfl, rfl, rfl, Nat.le_refl _, fun _ _ => rfl⟩); rintro e w2 ⟨z, rfl, hz1, hz0, b2'⟩; have HZ1 := Lib.hid hz1; have HZ0 := Lib.hid hz0; clear hz1 hz0; have b2 : Below wr.heap.size wr w2 := ⟨b2'.os, b2'.tape, b2'.output, b2'.size, b2'.block⟩))
      have g1 : Below w1.heap.size w1 w2 := hb.out.trans (b2.mono hb.out.size)
      have HG1 := Lib.hid g1
      have HZ : Hid (z < 0 ↔ (a + q) / 2 < p) := HZ1.out.trans HB1.out
      clear b2' b2 g1 k0 k1 k4 x0 x1 x2
      by_cases hlo : (a + q) / 2 < p
      · have hneg := HZ.out.2 hlo
        go_wp2
        go_roundw
        case rel => exact ⟨(a + q) / 2 + 1, q, by omega, h2, h3, by go_num, by go_num, HG1⟩
        case measure => simp [intOf]; omega
      · have hneg : ¬ z < 0 := fun hh => hlo (HZ.out.1 hh)
        go_wp2
        go_roundw
        case rel => exact ⟨a, (a + q) / 2, h1, by omega, by omega, by go_num, by go_num, HG1⟩
        case measure => simp [intOf]; omega
    · obtain rfl : a = q := by omega
      obtain rfl : a = p := by omega
      by_cases hlt : a < n
      · have ho := HH.out.below hbw
        obtain ⟨G, cc, hG, _⟩ := OF.shape ho (by rw [decL_len, HN.out]; omega)
        obtain ⟨rfl, e2, e3⟩ := slice_inj hG
        clear e2 e3 hG
        have hHl : a < ps.length := by rw [HN.out]; exact hlt
        obtain ⟨qp, t, cn, hqt⟩ := HKY.out.at hHl
        obtain ⟨A1, n1, c1, k0, k1, _, k2, _, k4⟩ := OU.cell ho (k := a) (by rw [decL_len]; exact hHl)
        rw [nthQ_dec hHl hqt] at k0 k2 k4
        simp only at k0 k2 k4
        obtain ⟨hlen, hqr⟩ := HL.out _ hHl
        have hqr2 := hqr _ _ _ hqt
        rw [hqt] at hlen
        simp only [List.length_cons] at hlen
        rw [k2.ri.1] at hlen
        have HF : Hid (fndB ps (pw :: s) a = decide (qp :: t = pw :: s)) := by
          show fndB ps (pw :: s) a = _
          unfold fndB
          rw [Bool.eq_iff_iff, decide_eq_true_eq, decide_eq_true_eq, hqt]
          exact ⟨fun h => h.2, fun h => ⟨hHl, h⟩⟩
        have HCL : Hid (∀ W, Below wr.heap.size wr W → Calls Try.prog 17 #[.agg #[.int .i64 qp, .slice A1 n1 c1, .int .i64 cn], .agg #[.int .i64 pw, .slice A m d, .int .i64 cm]] W (Signs W (qp :: t) (pw :: s))) := fun W bW =>
          byQ_any c1 d qp cn pw cm (k2.ri.below bW) ((HX.out.below hbw).below bW) (by omega) hm hqr2 HPW.out
        obtain ⟨x0, x1, x2⟩ : wr.cell? ⟨gb, 0, none⟩ = some (.int .i64 pw) ∧ wr.cell? ⟨gb, 1, none⟩ = some (.slice A m d) ∧ wr.cell? ⟨gb, 2, none⟩ = some (.int .i64 cm) := ⟨kb.cell (j := 0) rfl, kb.cell (j := 1) rfl, kb.cell (j := 2) rfl⟩
        have HCS : Hid ((wr.cell? ⟨G, a * 3, none⟩ = some (.int .i64 qp) ∧ wr.cell? ⟨G, a * 3 + 1, none⟩ = some (.slice A1 n1 c1) ∧ wr.cell? ⟨G, a * 3 + 2, none⟩ = some (.int .i64 cn)) ∧ wr.cell? ⟨gb, 0, none⟩ = some (.int .i64 pw) ∧ wr.cell? ⟨gb, 1, none⟩ = some (.slice A m d) ∧ wr.cell? ⟨gb, 2, none⟩ = some (.int .i64 cm)) := ⟨⟨k0, k1, k4⟩, x0, x1, x2⟩
        have hd1 : decide ((a : Int) < (n : Int)) = true := decide_eq_true (by omega)
        have hd2 : decide (a < n) = true := decide_eq_true hlt
        clear hHl k2 ho hqt hqr hqr2 kb
        go_wp2_with fail
        go_region_held3 (fun w' => (w'.cell? ⟨G, a * 3, none⟩ = some (.int .i64 qp) ∧ w'.cell? ⟨G, a * 3 + 1, none⟩ = some (.slice A1 n1 c1) ∧ w'.cell? ⟨G, a * 3 + 2, none⟩ = some (.int .i64 cn)) ∧ w'.cell? ⟨gb, 0, none⟩ = some (.int .i64 pw) ∧ w'.cell? ⟨gb, 1, none⟩ = some (.slice A m d) ∧ w'.cell? ⟨gb, 2, none⟩ = some (.int .i64 cm)) (first | exact HCS.out | exact ⟨three_cellsQ b2 HCS.out.1.1 HCS.out.1.2.1 HCS.out.1.2.2, three_cellsQ b2 HCS.out.2.1 HCS.out.2.2.1 HCS.out.2.2.2⟩) (first
        | (go_at_call 17; (with_reducible refine (HCL.out _ ?_).mono ?_); (exact ⟨rfl, rfl, rfl, Nat.le_refl _, fun _ _ => rfl⟩); rintro e w2 ⟨z, rfl, hz1, hz0, b2'⟩; have HZ1 := Lib.hid hz1; have HZ0 := Lib.hid hz0; clear hz1 hz0; have b2 : Below wr.heap.size wr w2 := ⟨b2'.os, b2'.tape, b2'.output, b2'.size, b2'.block⟩))
        have HG1 : Hid (Below w.heap.size w w2) := hbw.trans (b2.mono hbw.size)
        have HZ : Hid (fndB ps (pw :: s) a = (z == 0)) := by
          show _ = _
          rw [HF.out, Bool.eq_iff_iff, decide_eq_true_eq, beq_iff_eq]
          exact HZ0.out.symm
        clear b2' b2 k0 k1 k4 x0 x1 x2
        go_wp2
        go_ret2
        exact ⟨by rw [HZ.out]; rfl, HG1.out⟩
      · have HF : Hid (fndB ps (pw :: s) a = false) := by
          show fndB ps (pw :: s) a = false
          unfold fndB
          rw [HN.out]
          simp; omega
        have hd1 : decide ((a : Int) < (n : Int)) = false := decide_eq_false (by omega)
        have hd2 : decide (a < n) = false := decide_eq_false hlt
        clear kb
        go_wp2_with fail
        go_quiet (fail)
        go_wp2
        go_ret2
        exact ⟨by rw [HF.out]; rfl, below_drewN hbw _⟩
end Go.Proofs.Ytbemglmnnehllaa
