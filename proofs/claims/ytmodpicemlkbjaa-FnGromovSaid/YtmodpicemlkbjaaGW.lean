/- GromovWitten: of the reference and of the program (printed by gw_gen.py). -/
import Derived.Test.YtmodpicemlkbjaaQProI
import Derived.Test.YtmodpicemlkbjaaQProS
import Derived.Test.YtmodpicemlkbjaaCnt
import Derived.Test.YtmodpicemlkbjaaShapes
namespace Go.Proofs.Ytmodpicemlkbjaa
open Go.RowKit

def gwB (a b c : List Int) (k n d : Int) : Int := if qOk a b k n && inBoxB c k n then cntP (qpB a b k n) (d :: dualB c k n) else -1
theorem gwB_no {a b c : List Int} {k n d : Int} (h : qOk a b k n = false ∨ inBoxB c k n = false) : gwB a b c k n d = -1 := by
  rcases h with h | h <;> simp [gwB, h]
theorem gwB_yes {a b c : List Int} {k n d : Int} (h1 : qOk a b k n = true) (h2 : inBoxB c k n = true) : gwB a b c k n d = cntP (qpB a b k n) (d :: dualB c k n) := by simp [gwB, h1, h2]
theorem cntP_keys {L : List (List Int × Int)} {s : List Int} {j : Nat} {q t cn} (ht : ∀ i, i < j → (nthP L i).1 ≠ s) (e : nthP L j = (q :: t, cn)) (h : q :: t ≠ s) : ∀ i, i < j + 1 → (nthP L i).1 ≠ s := fun i hi => by
  by_cases hij : i = j
  · subst hij; rw [e]; exact h
  · exact ht i (by omega)

set_option maxRecDepth 100000 in
set_option maxHeartbeats 4000000 in
theorem sGW_any {w : World} {Aa Ab Ac : Option Addr} {na nb nc ba bb : Nat} {a b c : List Int} (ca cb cc : Nat) (k n d : Int) (ha : OI w ba (.slice Aa na ca) a) (hb : OI w bb (.slice Ab nb cb) b) (hc : RI w Ac nc c) (hna : na ≤ 1000000000) (hnb : nb ≤ 1000000000) (hnc : nc ≤ 1000000000) :
    Calls Try.prog 46 #[.slice Aa na ca, .slice Ab nb cb, .slice Ac nc cc, .int .i64 k, .int .i64 n, .int .i64 d] w (GivesB w (.int .i64 (gwB a b c k n d))) := by
  have HQP := Lib.hid (sQPro_any ca cb k n ha hb hna hnb)
  have HBX : Hid (∀ W, Below w.heap.size w W → Calls Try.prog 57 #[.slice Ac nc cc, .int .i64 k, .int .i64 n] W (Gives W (.bool (inBoxB c k n)))) := fun W bW => l4Box_any cc k n (hc.below bW) hnc
  have HDU : Hid (∀ W, Below w.heap.size w W → Calls Try.prog 61 #[.slice Ac nc cc, .int .i64 k, .int .i64 n] W (Makes W (dualB c k n))) := fun W bW => sDual_any cc k n (hc.below bW) hnc
  clear ha hb hc
  rcases h1 : qOk a b k n with _ | _
  · have HE := Lib.hid (gwB_no (c := c) (d := d) (.inl h1))
    rw [h1] at HQP
    clear h1
    go_enter Try.func46, Try.ntmps46
    go_wp2_with fail
    refine HQP.out.mono ?_
    rintro e w1 ⟨A1, n1, c1, cs1, rfl, o1, l1, -, b1⟩
    go_wp2
    go_ret
    rw [HE.out]
    exact ⟨rfl, b1⟩
  rcases h2 : inBoxB c k n with _ | _
  · have HE := Lib.hid (gwB_no (a := a) (b := b) (d := d) (.inr h2))
    rw [h1] at HQP
    rw [h2] at HBX
    clear h1 h2
    go_enter Try.func46, Try.ntmps46
    go_wp2_with fail
    refine HQP.out.mono ?_
    rintro e w1 ⟨A1, n1, c1, cs1, rfl, o1, l1, -, b1⟩
    have HBX1 := Lib.hid (fun q => HBX.out (w1.drewN q) (below_drewN b1 q))
    go_wp2_with (go_at_call 57; (with_reducible refine (HBX.out _ ?_).mono ?_); (first | exact b1 | exact below_drewN b1 _); rintro e w' ⟨rfl, q0, rfl⟩)
    go_ret
    rw [HE.out]
    exact ⟨rfl, by first | exact b1 | exact below_drewN b1 _⟩
  have HE := Lib.hid (gwB_yes (d := d) h1 h2)
  obtain ⟨hq1, hq2⟩ := qp_in h1
  have HLK := Lib.hid hq2
  rw [h1] at HQP
  rw [h2] at HBX
  obtain ⟨D, hD⟩ : ∃ D, D = dualB c k n := ⟨_, rfl⟩
  obtain ⟨L, hL⟩ : ∃ L, L = qpB a b k n := ⟨_, rfl⟩
  rw [← hD] at HDU HE
  rw [← hL] at HQP HE HLK hq1
  clear h1 h2 hD hL hq2
  go_enter Try.func46, Try.ntmps46
  go_wp2_with fail
  refine HQP.out.mono ?_
  rintro e w1 ⟨A1, n1, c1, cs1, rfl, o1, l1, -, b1⟩
  rw [decL_len] at l1
  have HL1 := Lib.hid l1
  have HO1 := Lib.hid o1
  have HB1 := Lib.hid b1
  have hs1 := b1.size
  clear o1 l1 b1
  go_wp2_with (go_at_call 57; (with_reducible refine (HBX.out _ ?_).mono ?_); (first | exact HB1.out | exact below_drewN HB1.out _); rintro e w' ⟨rfl, q0, rfl⟩)
  refine (HDU.out _ (by first | exact HB1.out | exact below_drewN HB1.out _)).mono ?_
  rintro e w2 ⟨A2, n2, c2, rfl, o2, r2, ⟨cp2, le2⟩, b2⟩
  have bq : Below w1.heap.size w1 w2 := by first | exact b2 | exact (below_drewN (Below.refl _ w1) q0).trans (by simpa using b2)
  have HO2 := Lib.hid (HO1.out.below bq)
  have HB2 := Lib.hid (HB1.out.trans (bq.mono hs1))
  have HD2 := Lib.hid o2.ri
  have hs2 : w.heap.size ≤ w2.heap.size := HB2.out.size
  clear o2 r2 b2 bq
  go_wp2
  go_loopw [16] (fun i wr => ∃ z : Nat, z ≤ n1 ∧ i = .int .i64 (z : Int) ∧ Below w2.heap.size w2 wr ∧ Hid (∀ j, j < z → (nthP L j).1 ≠ d :: D)) (fun i _ => n1 - (intOf i).toNat)
  case atStart => exact ⟨0, Nat.zero_le _, rfl, by first | exact Below.refl _ _, fun j hj => by omega⟩
  case round =>
    obtain ⟨z, hz, rfl, hb, ht⟩ := hrel
    by_cases hlt : z < n1
    · have hzl : z < L.length := by rw [HL1.out]; exact hlt
      have hok := HO2.out.below hb
      obtain ⟨G, cG, hGG, _⟩ := OF.shape hok (by rw [decL_len, HL1.out]; omega)
      obtain ⟨rfl, e2, e3⟩ := slice_inj hGG
      clear e2 e3 hGG
      obtain ⟨A4, n4, c4, k0, k1, _, k2, _, k4⟩ := OU.cell hok (k := z) (by rw [decL_len]; exact hzl)
      obtain ⟨q, t, cn, hx⟩ := Keyed.at (ps := L) (fun x hx => (HLK.out x hx).1) hzl
      have hlx := (HLK.out _ (nthP_mem hzl)).2.1
      rw [nthQ_dec hzl hx] at k0 k2 k4
      rw [hx] at hlx
      simp only [List.length_cons] at hlx
      have hri := k2.ri
      have hl4 : n4 ≤ 17 := by rw [← hri.1]; show t.length ≤ 17; omega
      have HK : Hid (RI wr A4 n4 t) := hri
      have HX := Lib.hid hx
      have HB := Lib.hid hb
      have hs := hb.size
      have k4' : ∀ W, Below wr.heap.size wr W → W.cell? ⟨G, z * 3 + 2, none⟩ = some (.int .i64 cn) := fun W b => one_cell b k4
      have HK4 := Lib.hid k4'
      clear hok k2 hri hb hlx k4'
      by_cases hqd : q = d
      · subst hqd
        rcases hd : decide (t = D) with _ | _
        · have HD := Lib.hid hd
          have HS : Hid (∀ W, Below wr.heap.size wr W → Calls Try.prog 95 #[.slice A4 n4 c4, .slice A2 n2 c2] W (Gives W (.bool false))) := fun W bW => l1Same_any false _ _ (HK.out.below bW) ((HD2.out.below HB.out).below bW) HD.out.symm (by omega) (by omega)
          clear hd
          go_wp2_with (go_at_call 95; (with_reducible refine (HS.out _ ?_).mono ?_); (first | exact Below.refl _ _ | exact ⟨rfl, rfl, rfl, Nat.le_refl _, fun _ _ => rfl⟩); rintro e w' ⟨rfl, q2, rfl⟩)
          go_roundw
          case rel => exact ⟨z + 1, by omega, by go_num, by first | exact HB.out | exact below_drewN HB.out _, cntP_keys ht.out HX.out (fun e => of_decide_eq_false HD.out (by injection e))⟩
          case measure => simp [intOf]; omega
        · have HD := Lib.hid hd
          have HS : Hid (∀ W, Below wr.heap.size wr W → Calls Try.prog 95 #[.slice A4 n4 c4, .slice A2 n2 c2] W (Gives W (.bool true))) := fun W bW => l1Same_any true _ _ (HK.out.below bW) ((HD2.out.below HB.out).below bW) HD.out.symm (by omega) (by omega)
          have HEE : Hid (gwB a b c k n q = cn) := by show _ = _; rw [HE.out, cntP_at ht.out hzl (by rw [HX.out, of_decide_eq_true hd]), HX.out]
          have k5 : ∀ o q5, ((wr.alloc o).drewN q5).cell? ⟨G, z * 3 + 2, none⟩ = some (.int .i64 cn) := fun o q5 => HK4.out _ (below_drewN ((Below.refl _ _).alloc (Nat.le_refl _) _) _)
          have k6 : ∀ q5, (wr.drewN q5).cell? ⟨G, z * 3 + 2, none⟩ = some (.int .i64 cn) := fun q5 => HK4.out _ (below_drewN (Below.refl _ _) _)
          clear hd
          go_wp2_with (go_at_call 95; (with_reducible refine (HS.out _ ?_).mono ?_); (first | exact Below.refl _ _ | exact ⟨rfl, rfl, rfl, Nat.le_refl _, fun _ _ => rfl⟩); rintro e w' ⟨rfl, q2, rfl⟩)
          go_ret
          rw [HEE.out]
          exact ⟨rfl, HB2.out.trans (Below.mono (by first | exact HB.out | exact below_drewN HB.out _) hs2)⟩
      · have hqb : (q == d) = false := by simpa using hqd
        have hqe : decide (q = d) = false := by simpa using hqd
        have HQD := Lib.hid hqd
        go_wp2
        go_roundw
        case rel => exact ⟨z + 1, by omega, by go_num, by first | exact HB.out | exact below_drewN HB.out _, cntP_keys ht.out HX.out (fun e => HQD.out (by injection e))⟩
        case measure => simp [intOf]; omega
    · obtain rfl : z = n1 := by omega
      have HN : Hid (gwB a b c k n d = 0) := by
        show _ = _
        rw [HE.out]
        exact cntP_none fun j hj => ht.out j (by rw [HL1.out] at hj; exact hj)
      go_wp2
      go_ret
      rw [HN.out]
      exact ⟨rfl, HB2.out.trans (hb.mono hs2)⟩

set_option maxRecDepth 100000 in
set_option maxHeartbeats 4000000 in
theorem iGW_any {w : World} {Aa Ab Ac : Option Addr} {na nb nc ba bb : Nat} {a b c : List Int} (ca cb cc : Nat) (k n d : Int) (ha : OI w ba (.slice Aa na ca) a) (hb : OI w bb (.slice Ab nb cb) b) (hc : RI w Ac nc c) (hna : na ≤ 1000000000) (hnb : nb ≤ 1000000000) (hnc : nc ≤ 1000000000) :
    Calls Try.prog 47 #[.slice Aa na ca, .slice Ab nb cb, .slice Ac nc cc, .int .i64 k, .int .i64 n, .int .i64 d] w (GivesB w (.int .i64 (gwB a b c k n d))) := by
  have HQP := Lib.hid (iQPro_any ca cb k n ha hb hna hnb)
  have HBX : Hid (∀ W, Below w.heap.size w W → Calls Try.prog 49 #[.slice Ac nc cc, .int .i64 k, .int .i64 n] W (Gives W (.bool (inBoxB c k n)))) := fun W bW => iIsInBox_any cc k n (hc.below bW) hnc
  have HDU : Hid (∀ W, Below w.heap.size w W → Calls Try.prog 26 #[.slice Ac nc cc, .int .i64 k, .int .i64 n] W (Makes W (dualB c k n))) := fun W bW => iDual_any cc k n (hc.below bW) hnc
  clear ha hb hc
  rcases h1 : qOk a b k n with _ | _
  · have HE := Lib.hid (gwB_no (c := c) (d := d) (.inl h1))
    rw [h1] at HQP
    clear h1
    go_enter Try.func47, Try.ntmps47
    go_wp2_with fail
    refine HQP.out.mono ?_
    rintro e w1 ⟨A1, n1, c1, cs1, rfl, o1, l1, -, b1⟩
    go_wp2
    go_ret
    rw [HE.out]
    exact ⟨rfl, b1⟩
  rcases h2 : inBoxB c k n with _ | _
  · have HE := Lib.hid (gwB_no (a := a) (b := b) (d := d) (.inr h2))
    rw [h1] at HQP
    rw [h2] at HBX
    clear h1 h2
    go_enter Try.func47, Try.ntmps47
    go_wp2_with fail
    refine HQP.out.mono ?_
    rintro e w1 ⟨A1, n1, c1, cs1, rfl, o1, l1, -, b1⟩
    have HBX1 := Lib.hid (fun q => HBX.out (w1.drewN q) (below_drewN b1 q))
    go_wp2_with (go_at_call 49; (with_reducible refine (HBX.out _ ?_).mono ?_); (first | exact b1 | exact below_drewN b1 _); rintro e w' ⟨rfl, q0, rfl⟩)
    go_ret
    rw [HE.out]
    exact ⟨rfl, by first | exact b1 | exact below_drewN b1 _⟩
  have HE := Lib.hid (gwB_yes (d := d) h1 h2)
  obtain ⟨hq1, hq2⟩ := qp_in h1
  have HLK := Lib.hid hq2
  rw [h1] at HQP
  rw [h2] at HBX
  obtain ⟨D, hD⟩ : ∃ D, D = dualB c k n := ⟨_, rfl⟩
  obtain ⟨L, hL⟩ : ∃ L, L = qpB a b k n := ⟨_, rfl⟩
  rw [← hD] at HDU HE
  rw [← hL] at HQP HE HLK hq1
  clear h1 h2 hD hL hq2
  go_enter Try.func47, Try.ntmps47
  go_wp2_with fail
  refine HQP.out.mono ?_
  rintro e w1 ⟨A1, n1, c1, cs1, rfl, o1, l1, -, b1⟩
  rw [decL_len] at l1
  have HL1 := Lib.hid l1
  have HO1 := Lib.hid o1
  have HB1 := Lib.hid b1
  have hs1 := b1.size
  clear o1 l1 b1
  go_wp2_with (go_at_call 49; (with_reducible refine (HBX.out _ ?_).mono ?_); (first | exact HB1.out | exact below_drewN HB1.out _); rintro e w' ⟨rfl, q0, rfl⟩)
  refine (HDU.out _ (by first | exact HB1.out | exact below_drewN HB1.out _)).mono ?_
  rintro e w2 ⟨A2, n2, c2, rfl, o2, r2, ⟨cp2, le2⟩, b2⟩
  have bq : Below w1.heap.size w1 w2 := by first | exact b2 | exact (below_drewN (Below.refl _ w1) q0).trans (by simpa using b2)
  have HO2 := Lib.hid (HO1.out.below bq)
  have HB2 := Lib.hid (HB1.out.trans (bq.mono hs1))
  have HD2 := Lib.hid o2.ri
  have hs2 : w.heap.size ≤ w2.heap.size := HB2.out.size
  clear o2 r2 b2 bq
  go_wp2
  go_loopw [41, 17] (fun i _ wr => ∃ z : Nat, z ≤ n1 ∧ i = .int .i64 (z : Int) ∧ Below w2.heap.size w2 wr ∧ Hid (∀ j, j < z → (nthP L j).1 ≠ d :: D)) (fun i _ _ => n1 - (intOf i).toNat)
  case atStart => exact ⟨0, Nat.zero_le _, rfl, by first | exact Below.refl _ _, fun j hj => by omega⟩
  case round =>
    obtain ⟨z, hz, rfl, hb, ht⟩ := hrel
    by_cases hlt : z < n1
    · have hzl : z < L.length := by rw [HL1.out]; exact hlt
      have hok := HO2.out.below hb
      obtain ⟨G, cG, hGG, _⟩ := OF.shape hok (by rw [decL_len, HL1.out]; omega)
      obtain ⟨rfl, e2, e3⟩ := slice_inj hGG
      clear e2 e3 hGG
      obtain ⟨A4, n4, c4, k0, k1, _, k2, _, k4⟩ := OU.cell hok (k := z) (by rw [decL_len]; exact hzl)
      obtain ⟨q, t, cn, hx⟩ := Keyed.at (ps := L) (fun x hx => (HLK.out x hx).1) hzl
      have hlx := (HLK.out _ (nthP_mem hzl)).2.1
      rw [nthQ_dec hzl hx] at k0 k2 k4
      rw [hx] at hlx
      simp only [List.length_cons] at hlx
      have hri := k2.ri
      have hl4 : n4 ≤ 17 := by rw [← hri.1]; show t.length ≤ 17; omega
      have HK : Hid (RI wr A4 n4 t) := hri
      have HX := Lib.hid hx
      have HB := Lib.hid hb
      have hs := hb.size
      have k4' : ∀ W, Below wr.heap.size wr W → W.cell? ⟨G, z * 3 + 2, none⟩ = some (.int .i64 cn) := fun W b => one_cell b k4
      have HK4 := Lib.hid k4'
      clear hok k2 hri hb hlx k4'
      by_cases hqd : q = d
      · subst hqd
        rcases hd : decide (t = D) with _ | _
        · have HD := Lib.hid hd
          have HS : Hid (∀ W, Below wr.heap.size wr W → Calls Try.prog 96 #[.slice A4 n4 c4, .slice A2 n2 c2] W (Gives W (.bool false))) := fun W bW => equal_any false _ _ (HK.out.below bW) ((HD2.out.below HB.out).below bW) HD.out.symm (by omega) (by omega)
          clear hd
          go_wp2_with (go_at_call 96; (with_reducible refine (HS.out _ ?_).mono ?_); (exact (Below.refl _ _).alloc (Nat.le_refl _) _); rintro e w' ⟨rfl, q2, rfl⟩)
          go_roundw
          case rel => exact ⟨z + 1, by omega, by go_num, by first | exact below_drewN (HB.out.alloc hs _) _ | exact HB.out.alloc hs _, cntP_keys ht.out HX.out (fun e => of_decide_eq_false HD.out (by injection e))⟩
          case measure => simp [intOf]; omega
        · have HD := Lib.hid hd
          have HS : Hid (∀ W, Below wr.heap.size wr W → Calls Try.prog 96 #[.slice A4 n4 c4, .slice A2 n2 c2] W (Gives W (.bool true))) := fun W bW => equal_any true _ _ (HK.out.below bW) ((HD2.out.below HB.out).below bW) HD.out.symm (by omega) (by omega)
          have HEE : Hid (gwB a b c k n q = cn) := by show _ = _; rw [HE.out, cntP_at ht.out hzl (by rw [HX.out, of_decide_eq_true hd]), HX.out]
          have k5 : ∀ o q5, ((wr.alloc o).drewN q5).cell? ⟨G, z * 3 + 2, none⟩ = some (.int .i64 cn) := fun o q5 => HK4.out _ (below_drewN ((Below.refl _ _).alloc (Nat.le_refl _) _) _)
          have k6 : ∀ q5, (wr.drewN q5).cell? ⟨G, z * 3 + 2, none⟩ = some (.int .i64 cn) := fun q5 => HK4.out _ (below_drewN (Below.refl _ _) _)
          clear hd
          go_wp2_with (go_at_call 96; (with_reducible refine (HS.out _ ?_).mono ?_); (exact (Below.refl _ _).alloc (Nat.le_refl _) _); rintro e w' ⟨rfl, q2, rfl⟩)
          go_ret
          rw [HEE.out]
          exact ⟨rfl, HB2.out.trans (Below.mono (by first | exact below_drewN (HB.out.alloc hs _) _ | exact HB.out.alloc hs _) hs2)⟩
      · have hqb : (q == d) = false := by simpa using hqd
        have hqe : decide (q = d) = false := by simpa using hqd
        have HQD := Lib.hid hqd
        go_wp2
        go_roundw
        case rel => exact ⟨z + 1, by omega, by go_num, by first | exact below_drewN (HB.out.alloc hs _) _ | exact HB.out.alloc hs _, cntP_keys ht.out HX.out (fun e => HQD.out (by injection e))⟩
        case measure => simp [intOf]; omega
    · obtain rfl : z = n1 := by omega
      have HN : Hid (gwB a b c k n d = 0) := by
        show _ = _
        rw [HE.out]
        exact cntP_none fun j hj => ht.out j (by rw [HL1.out] at hj; exact hj)
      go_wp2
      go_ret
      rw [HN.out]
      exact ⟨rfl, HB2.out.trans (hb.mono hs2)⟩
end Go.Proofs.Ytmodpicemlkbjaa
