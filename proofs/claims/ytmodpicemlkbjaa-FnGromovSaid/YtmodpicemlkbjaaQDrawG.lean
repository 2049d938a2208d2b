/- DrawGromovWitten (printed by gwd_gen.py). -/
import Derived.Test.YtmodpicemlkbjaaQDraw
import Derived.Test.YtmodpicemlkbjaaQFinC
import Derived.Test.YtmodpicemlkbjaaGW
namespace Go.Proofs.Ytmodpicemlkbjaa
open Go.RowKit

/-- What is drawn: three lists, the second one a shape in a box, and a power. -/
def DrawsG (w : World) : Ending → World → Prop := fun e w' =>
  ∃ A1 n1 c1 A2 n2 c2 A3 n3 c3 l1 l2 l3, ∃ K M : Nat, ∃ d : Int, e = .returned (.tuple #[.slice A1 n1 c1, .slice A2 n2 c2, .slice A3 n3 c3, .int .i64 (K : Int), .int .i64 ((K : Int) + M), .int .i64 d]) ∧
    (2 ≤ K + M ∧ K + M ≤ 5) ∧ l1.length ≤ 100 ∧ l2.length ≤ 100 ∧ l3.length ≤ 100 ∧ OI w' w.heap.size (.slice A1 n1 c1) l1 ∧ OI w' w.heap.size (.slice A2 n2 c2) l2 ∧ OI w' w.heap.size (.slice A3 n3 c3) l3 ∧ Below w.heap.size w w'

set_option maxRecDepth 100000 in
set_option maxHeartbeats 4000000 in
theorem drawGW_any {w : World} {A : Option Addr} {n : Nat} (c : Nat) (hb : RB w A n) :
    Calls Try.prog 51 #[.slice A n c] w (DrawsG w) := by
  go_enter Try.func51, Try.ntmps51
  go_wp2_with fail
  refine (l1New_any hb).mono ?_
  rintro e w1 ⟨g, rfl, hg, d1, b1⟩
  have HB1 := Lib.hid b1
  have hs1 := b1.size
  have hglt := d1.cur.lt
  clear b1
  go_wp2_with fail
  refine (dBox5_any d1).mono ?_
  rintro e w2 ⟨k, m, rfl, ⟨⟨hm1, hm2⟩, hk1, hk2⟩, hc2, hg2⟩
  have d2 := d1.next hc2 hg2
  obtain ⟨K, rfl⟩ := Int.eq_ofNat_of_zero_le hk1
  obtain ⟨M, hM⟩ := Int.eq_ofNat_of_zero_le (a := m - K) (by omega)
  obtain rfl : m = (K : Int) + M := by omega
  clear hM hk1
  have hsub : (K : Int) + M - K = M := by omega
  have HG2 := Lib.hid hg2
  have hs2 := hg2.size
  clear hg2 hc2
  go_wp2_with fail
  refine (dShape_any K M _ _ d2 rfl (by first | rfl | omega) (by omega) (by omega)).mono ?_
  rintro e w3 ⟨A3, n3, c3, l3, rfl, o3, sh3, hc3, hg3⟩
  have d3 := d2.next hc3 hg3
  have HG3 := Lib.hid (HG2.out.trans hg3)
  have hs3 := hg3.size
  clear hg3 hc3
  go_wp2_with fail
  refine (dShape_any K M _ _ d3 rfl (by first | rfl | omega) (by omega) (by omega)).mono ?_
  rintro e w4 ⟨A4, n4, c4, l4, rfl, o4, sh4, hc4, hg4⟩
  have d4 := d3.next hc4 hg4
  have o34 := o3.kept_low hg4 (fun b e => by injection e with e; omega)
  have HG4 := Lib.hid (HG3.out.trans hg4)
  have hs4 := hg4.size
  clear hg4 hc4 o3
  have hn3 : n3 ≤ 6 := by rw [← o34.ri.1]; have := sh3.len; omega
  have hn4 : n4 ≤ 6 := by rw [← o4.ri.1]; have := sh4.len; omega
  have hl3 := sh3.len
  have hl4 := sh4.len
  have HB4 : Hid (Below w.heap.size w w4) := HB1.out.grown HG4.out hs1 (fun b e => by injection e with e; omega)
  by_cases hK0 : K = 0
  · subst hK0
    have hno : qOk l3 l4 (0 : Int) (M : Int) = false := by simp [qOk]
    have hqp := sQPro_any (w := w4) c3 c4 (0 : Int) (M : Int) o34 o4 (by omega) (by omega)
    rw [hno, qpB_no hno] at hqp
    have HQP := Lib.hid hqp
    clear hno hqp
    go_wp2_with fail
    refine HQP.out.mono ?_
    rintro e w5 ⟨A5, n5, c5, cs5, rfl, o5, l5, -, b5⟩
    have d5 := d4.below b5
    have o35 := OI.below o34 b5
    have o45 := OI.below o4 b5
    have hs5 := b5.size
    have HB5 := Lib.hid (HB4.out.trans (b5.mono (by omega)))
    clear o5 l5 b5
    go_wp2_with fail
    refine (dBent_any d5 o35 (by omega) (by omega) (by omega)).mono ?_
    rintro e w7 ⟨A7, n7, c7, l7, rfl, o7, hl7, hc7, hg7⟩
    have d7 := d5.next hc7 hg7
    have o47 := (o45).kept_low hg7 (fun b e => by injection e with e; omega)
    have HG7 := Lib.hid hg7
    have hs7 := hg7.size
    clear hg7 hc7
    go_wp2_with fail
    refine (dShape_any 0 M _ _ d7 rfl (by first | rfl | omega) (by omega) (by omega)).mono ?_
    rintro e w8 ⟨A8, n8, c8, l8, rfl, o8, sh8, hc8, hg8⟩
    have d8 := d7.next hc8 hg8
    have o78 := o7.kept_low hg8 (fun b e => by injection e with e; omega)
    have o48 := o47.kept_low hg8 (fun b e => by injection e with e; omega)
    have HG8 := Lib.hid (HG7.out.trans hg8)
    have hs8 := hg8.size
    clear hg8 hc8
    go_wp2_with fail
    refine (l1Below_any 3 d8 (by omega) (by omega)).mono ?_
    rintro e w9 ⟨x, rfl, hx9, hc9, hg9⟩
    have o79 := o78.kept_low hg9 (fun b e => by injection e with e; omega)
    have o49 := o48.kept_low hg9 (fun b e => by injection e with e; omega)
    have o89 := o8.kept_low hg9 (fun b e => by injection e with e; omega)
    have HG9 := Lib.hid (HG8.out.trans hg9)
    have hs9 := hg9.size
    have hle8 := sh8.len
    clear hg9 hc9
    have hwx : IntKind.i64.wrap (x - 1) = x - 1 := IntWalk.i64_in _ (by omega)
    go_wp2
    refine bodyPost_ret (v := .tuple #[.slice A7 n7 c7, .slice A4 n4 c4, .slice A8 n8 c8, .int .i64 ((0 : Nat) : Int), .int .i64 (((0 : Nat) : Int) + M), .int .i64 (x - 1)]) (by simp [results, Try.results51, go_sem]; try rfl) rfl ?_
    exact ⟨A7, n7, c7, A4, n4, c4, A8, n8, c8, l7, l4, l8, 0, M, x - 1, rfl, ⟨by omega, by omega⟩, by omega, by omega, by omega, o79.mono (by omega), o49.mono (by omega), o89.mono (by omega), HB5.out.grown HG9.out (by omega) (fun b e => by injection e with e; omega)⟩
  have hbx3 := sh3.box (K := K) (M := M) (by omega)
  have hbx4 := sh4.box (K := K) (M := M) (by omega)
  have hKi : ¬ (K : Int) = 0 := by omega
  have hok : qOk l3 l4 K ((K : Int) + M) = true := by
    simp only [qOk, Bool.and_eq_true, Bool.not_eq_true', decide_eq_false_iff_not]
    exact ⟨hbx3, hbx4, hKi⟩
  have hqp := sQPro_any (w := w4) c3 c4 (K : Int) ((K : Int) + M) o34 o4 (by omega) (by omega)
  rw [hok] at hqp
  have HQP := Lib.hid hqp
  obtain ⟨hq1, hq2⟩ := lenQ_at (K := K) (M := M) (by omega) (by omega) sh3 sh4
  obtain ⟨Q, hQ⟩ : ∃ Q, Q = qpB l3 l4 K ((K : Int) + M) := ⟨_, rfl⟩
  have HQI := Lib.hid (qp_in hok).2
  rw [← hQ] at hq1 hq2 HQP HQI
  clear hok hqp hbx3 hbx4 hQ
  go_wp2_with fail
  refine HQP.out.mono ?_
  rintro e w5 ⟨A5, n5, c5, cs5, rfl, o5, l5, -, b5⟩
  rw [decL_len] at l5
  have d5 := d4.below b5
  have o35 := OI.below o34 b5
  have o45 := OI.below o4 b5
  have hs5 := b5.size
  have HB5 := Lib.hid (HB4.out.trans (b5.mono (by omega)))
  have hn5 : 1 ≤ n5 ∧ n5 ≤ 256 := by omega
  have HL5 := Lib.hid l5
  have HO5 := Lib.hid o5
  have hn5b : ((n5 : Int) == 0) = false := by simp; omega
  clear b5 l5 o5
  go_wp2_with fail
  refine (l1Once_any 4 d5 (by omega) (by omega)).mono ?_
  rintro e w6 ⟨b, rfl, hc6, hg6⟩
  have d6 := d5.next hc6 hg6
  have o36 := o35.kept_low hg6 (fun b e => by injection e with e; omega)
  have o46 := o45.kept_low hg6 (fun b e => by injection e with e; omega)
  have HO6 := Lib.hid (OF.kept_low HO5.out hg6 (fun b e => by injection e with e; omega))
  have hs6 := hg6.size
  have HB6 : Hid (Below w.heap.size w w6) := HB5.out.grown hg6 (by omega) (fun b e => by injection e with e; omega)
  clear hg6 hc6
  cases b
  · go_wp2_with fail
    refine (l1Below_any n5 d6 (by omega) (by omega)).mono ?_
    rintro e w7 ⟨y, rfl, hy, hc7, hg7⟩
    obtain ⟨Y, rfl⟩ := Int.eq_ofNat_of_zero_le hy.1
    have o37 := o36.kept_low hg7 (fun b e => by injection e with e; omega)
    have o47 := o46.kept_low hg7 (fun b e => by injection e with e; omega)
    have ho7 := OF.kept_low HO6.out hg7 (fun b e => by injection e with e; omega)
    have HB7 : Hid (Below w.heap.size w w7) := HB6.out.grown hg7 (by omega) (fun b e => by injection e with e; omega)
    have hs7 := hg7.size
    clear hg7 hc7
    have hYl : Y < Q.length := by rw [HL5.out]; omega
    obtain ⟨G, cG, hGG, _⟩ := OF.shape ho7 (by rw [decL_len, HL5.out]; omega)
    obtain ⟨rfl, e2, e3⟩ := slice_inj hGG
    clear e2 e3 hGG
    obtain ⟨A6, n6, c6, k0, k1, _, k2, _, k4⟩ := OU.cell ho7 (k := Y) (by rw [decL_len]; exact hYl)
    obtain ⟨q, t, cn, hxx⟩ := Keyed.at (ps := Q) (fun x hx => (HQI.out x hx).1) hYl
    have hlx := (HQI.out _ (nthP_mem hYl)).2.1
    rw [nthQ_dec hYl hxx] at k0 k2 k4
    rw [hxx] at hlx
    simp only [List.length_cons] at hlx
    have hn6 : n6 ≤ 17 := by rw [← k2.ri.1]; show t.length ≤ 17; omega
    obtain ⟨D, hD⟩ : ∃ D, D = dualB t K ((K : Int) + M) := ⟨_, rfl⟩
    have HD := Lib.hid hD
    obtain ⟨W8, hW8⟩ : ∃ W8, W8 = w7.alloc (.cells #[.int .i64 q, .slice A6 n6 c6, .int .i64 cn] 46) := ⟨_, rfl⟩
    have HW8 := Lib.hid hW8
    have kbx : BK W8 w7.heap.size 46 [.int .i64 q, .slice A6 n6 c6, .int .i64 cn] := by rw [hW8]; exact BK.new w7 _ _
    have b78 : Below w7.heap.size w7 W8 := by rw [hW8]; exact (Below.refl _ _).alloc (Nat.le_refl _) _
    have HC : Hid (∀ X, Below W8.heap.size W8 X → Calls Try.prog 61 #[.slice A6 n6 c6, .int .i64 (K : Int), .int .i64 ((K : Int) + M)] X (Makes X D)) := fun X bX => by rw [hD]; exact sDual_any c6 _ _ ((k2.ri.below b78).below bX) (by omega)
    have HX := Lib.hid (⟨kbx.cell (j := 0) rfl, kbx.cell (j := 1) rfl, kbx.cell (j := 2) rfl⟩ : _ ∧ _ ∧ _)
    have o38 := OI.below o37 b78
    have o48 := OI.below o47 b78
    have HB8 := Lib.hid (HB7.out.trans (b78.mono (by omega)))
    have hs8 := b78.size
    clear ho7 hxx k2 hD hW8 kbx b78
    go_wp2_with fail
    rw [← HW8.out]
    go_region_held3 (fun w' => w'.cell? ⟨w7.heap.size, 0, none⟩ = some (.int .i64 q) ∧ w'.cell? ⟨w7.heap.size, 1, none⟩ = some (.slice A6 n6 c6) ∧ w'.cell? ⟨w7.heap.size, 2, none⟩ = some (.int .i64 cn)) (first | exact HX.out | exact ⟨one_cell b9 HX.out.1, one_cell b9 HX.out.2.1, one_cell b9 HX.out.2.2⟩) (first
      | (go_at_call 61; (with_reducible refine (HC.out _ ?_).mono ?_); (exact ⟨rfl, rfl, rfl, Nat.le_refl _, fun _ _ => rfl⟩); rintro e w9 ⟨A9, n9, c9, rfl, o9, r9, ⟨cp9, le9⟩, b9'⟩; have b9 : Below W8.heap.size W8 w9 := ⟨b9'.os, b9'.tape, b9'.output, b9'.size, b9'.block⟩))
    have hdl : D.length ≤ 16 := by rw [HD.out]; exact dual_len t K M (by omega)
    go_wp2
    refine bodyPost_ret (v := .tuple #[.slice A3 n3 c3, .slice A4 n4 c4, .slice A9 n9 c9, .int .i64 (K : Int), .int .i64 ((K : Int) + M), .int .i64 q]) (by simp [results, Try.results51, go_sem]; try rfl) rfl ?_
    have b9q := HB8.out.trans (b9.mono (by omega))
    exact ⟨A3, n3, c3, A4, n4, c4, A9, n9, c9, l3, l4, D, K, M, q, rfl, ⟨by omega, by omega⟩, by omega, by omega, by omega, (OI.below o38 b9).mono (by omega), (OI.below o48 b9).mono (by omega), o9.mono (by simp; omega), b9q⟩
  · go_wp2_with fail
    refine (dBent_any d6 o36 (by omega) (by omega) (by omega)).mono ?_
    rintro e w7 ⟨A7, n7, c7, l7, rfl, o7, hl7, hc7, hg7⟩
    have d7 := d6.next hc7 hg7
    have o47 := (o46).kept_low hg7 (fun b e => by injection e with e; omega)
    have HG7 := Lib.hid hg7
    have hs7 := hg7.size
    clear hg7 hc7
    go_wp2_with fail
    refine (dShape_any K M _ _ d7 rfl (by first | rfl | omega) (by omega) (by omega)).mono ?_
    rintro e w8 ⟨A8, n8, c8, l8, rfl, o8, sh8, hc8, hg8⟩
    have d8 := d7.next hc8 hg8
    have o78 := o7.kept_low hg8 (fun b e => by injection e with e; omega)
    have o48 := o47.kept_low hg8 (fun b e => by injection e with e; omega)
    have HG8 := Lib.hid (HG7.out.trans hg8)
    have hs8 := hg8.size
    clear hg8 hc8
    go_wp2_with fail
    refine (l1Below_any 3 d8 (by omega) (by omega)).mono ?_
    rintro e w9 ⟨x, rfl, hx9, hc9, hg9⟩
    have o79 := o78.kept_low hg9 (fun b e => by injection e with e; omega)
    have o49 := o48.kept_low hg9 (fun b e => by injection e with e; omega)
    have o89 := o8.kept_low hg9 (fun b e => by injection e with e; omega)
    have HG9 := Lib.hid (HG8.out.trans hg9)
    have hs9 := hg9.size
    have hle8 := sh8.len
    clear hg9 hc9
    have hwx : IntKind.i64.wrap (x - 1) = x - 1 := IntWalk.i64_in _ (by omega)
    go_wp2
    refine bodyPost_ret (v := .tuple #[.slice A7 n7 c7, .slice A4 n4 c4, .slice A8 n8 c8, .int .i64 (K : Int), .int .i64 ((K : Int) + M), .int .i64 (x - 1)]) (by simp [results, Try.results51, go_sem]; try rfl) rfl ?_
    exact ⟨A7, n7, c7, A4, n4, c4, A8, n8, c8, l7, l4, l8, K, M, x - 1, rfl, ⟨by omega, by omega⟩, by omega, by omega, by omega, o79.mono (by omega), o49.mono (by omega), o89.mono (by omega), HB6.out.grown HG9.out (by omega) (fun b e => by injection e with e; omega)⟩
end Go.Proofs.Ytmodpicemlkbjaa
