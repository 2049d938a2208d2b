/- The walk of FnEdelman. -/
import Derived.Test.YtgbojgmmingfdaaEdlW
import Derived.Test.YtgbojgmmingfdaaDwoW
import Derived.Test.YtgbojgmmingfdaaVexI
import Derived.Test.YtgbojgmmingfdaaTabW
import Derived.Test.YtgbojgmmingfdaaBytes
import Derived.Test.YtgbojgmmingfdaaStanW
import Derived.Test.YtgbojgmmingfdaaWordW
import Derived.Test.YtgbojgmmingfdaaRedW
import Derived.Deep.QuietTactic
import Derived.BigQuiet
import Derived.Deep.RegionHeld3
namespace Go.Proofs.Ytgbojgmmingfdaa.lawEdelman
open Go.ChangeShapes Go.WideShapes Go.ChangeAt Go.RowKit

theorem sumS_take {ps : List (List Int × Int)} {k : Nat} (h : k < ps.length) : sumS (ps.take (k + 1)) = sumS (ps.take k) + (nthP ps k).2 * stdB (nthP ps k).1 := by
  rw [show ps.take (k + 1) = ps.take k ++ [nthP ps k] by rw [nthP_lt h]; exact (List.take_append_getElem h).symm]
  simp [sumS]
theorem sumC_take {ps : List (List Int × Int)} {k : Nat} (h : k < ps.length) : sumC (ps.take (k + 1)) = sumC (ps.take k) + (nthP ps k).2 := by
  rw [show ps.take (k + 1) = ps.take k ++ [nthP ps k] by rw [nthP_lt h]; exact (List.take_append_getElem h).symm]
  simp [sumC]
theorem sum_bounds {l v : List Int} {ps : List (List Int × Int)} (h : EdlF l v ps) : ∀ k, k ≤ ps.length → 0 ≤ sumS (ps.take k) ∧ sumS (ps.take k) ≤ 800 ∧ 0 ≤ sumC (ps.take k) ∧ sumC (ps.take k) ≤ 800 * k := by
  have key : ∀ k, k ≤ ps.length → 0 ≤ sumS (ps.take k) ∧ 0 ≤ sumC (ps.take k) ∧ sumC (ps.take k) ≤ 800 * k := by
    intro k
    induction k with
    | zero => intro _; simp [sumS, sumC]
    | succ k ih =>
      intro hk
      obtain ⟨a, b, c⟩ := ih (by omega)
      have h1 := h.cnt _ (nthP_mem (show k < ps.length by omega))
      have h2 := (h.std _ (nthP_mem (show k < ps.length by omega))).1
      rw [sumS_take (by omega), sumC_take (by omega)]
      have h3 : 0 ≤ (nthP ps k).2 * stdB (nthP ps k).1 := Int.mul_nonneg (by omega) h2
      omega
  have mono : ∀ d k, k + d = ps.length → sumS (ps.take k) ≤ 800 := by
    intro d
    induction d with
    | zero =>
      intro k hk
      rw [List.take_of_length_le (by omega), h.sum]
      have := h.few
      omega
    | succ d ih =>
      intro k hk
      have h1 := ih (k + 1) (by omega)
      rw [sumS_take (by omega)] at h1
      have h2 := h.cnt _ (nthP_mem (show k < ps.length by omega))
      have h4 := (h.std _ (nthP_mem (show k < ps.length by omega))).1
      have h3 : 0 ≤ (nthP ps k).2 * stdB (nthP ps k).1 := Int.mul_nonneg (by omega) h4
      omega
  intro k hk
  obtain ⟨a, b, c⟩ := key k hk
  exact ⟨a, mono (ps.length - k) k (by omega), b, c⟩
/-- The rows from the last one on, k of them. -/
def readN (T : List (List Int)) (k : Nat) : List Int := ((T.drop k).reverse).flatten
theorem readN_all (T : List (List Int)) : readN T T.length = [] := by simp [readN]
theorem readN_zero (T : List (List Int)) : readN T 0 = readT T := by simp [readN, readT]
theorem readN_next {T : List (List Int)} {k : Nat} (h : k < T.length) : readN T k = readN T (k + 1) ++ nthL T k := by
  unfold readN
  rw [List.drop_eq_getElem_cons h, List.reverse_cons, List.flatten_append, nthL_lt h]
  simp
theorem flatten_len {M : Nat} : ∀ {T : List (List Int)}, (∀ r ∈ T, r.length ≤ M) → T.flatten.length ≤ T.length * M
  | [], _ => by simp
  | r :: T, h => by
    have h1 := h r (by simp)
    have h2 := flatten_len (T := T) fun x hx => h x (List.mem_cons_of_mem _ hx)
    rw [List.flatten_cons, List.length_append, List.length_cons, Nat.add_mul]
    omega
theorem readN_len {T : List (List Int)} (h : tabB T = true) (k : Nat) : (readN T k).length ≤ 256 := by
  have hl := tabB_len h
  unfold readN
  have h1 := flatten_len (M := 16) (T := (T.drop k).reverse) fun r hr => by
    have hr2 := List.mem_of_mem_drop (List.mem_reverse.1 hr)
    obtain ⟨j, hj, e⟩ := List.getElem_of_mem hr2
    have := hl.2 j hj
    rw [nthL_lt hj, e] at this
    exact this
  rw [List.length_reverse, List.length_drop] at h1
  have h2 : (T.length - k) * 16 ≤ 16 * 16 := Nat.mul_le_mul_right _ (by omega)
  omega
theorem flat_size (T : List (List Int)) : (readT T).length = (T.map List.length).sum := by
  unfold readT
  rw [List.length_flatten, List.map_reverse, List.sum_reverse]
theorem word_read {l v : List Int} (h : RedOf l v) : WordOk l.length (readT (egT v)) := by
  have hk := egT_ok (M := (l.length : Int) - 2) (v := v) (fun x hx => by have := h.ok x hx; omega) v.length (Nat.le_refl _)
  rw [List.take_length] at hk
  refine ⟨?_, fun j hj => ?_⟩
  · rw [flat_size, egT_size]
    have := h.word.2
    omega
  · have hm : nth (readT (egT v)) j ∈ readT (egT v) := nth_mem hj
    unfold readT at hm
    obtain ⟨r, hr, hx⟩ := List.mem_flatten.1 hm
    have := hk.bd r (List.mem_reverse.1 hr) _ hx
    unfold readT
    omega
set_option maxRecDepth 100000 in
set_option maxHeartbeats 8000000 in
theorem walk {A : Option Addr} {n : Nat} (c : Nat) {w : World} (hx : RB w A n) : Calls Try.prog 5 #[.slice A n c] w (Law w) := by
  obtain ⟨w0, ew⟩ : ∃ w0 : World, w0 = w := ⟨_, rfl⟩
  subst ew
  rcases hbig : decide (1048576 < n) with _ | _
  case true =>
    go_enter Try.func5, Try.ntmps5
    go_wp2_with (go_at_call 22; refine (big_any _).mono ?_; rintro e w' ⟨rfl, q0, rfl⟩)
    go_ret
    exact ⟨rfl, Quiet.below ⟨_, rfl⟩⟩
  have HRB := Lib.hid hx
  go_enter Try.func5, Try.ntmps5
  go_wp2_with (go_at_call 22; refine (big_any _).mono ?_; rintro e w' ⟨rfl, q0, rfl⟩)
  clear hbig
  refine (drawWordOf_any _ (hx.below (Quiet.below ⟨_, rfl⟩))).mono ?_
  rintro e w1 ⟨B, D, F, bn, bd, dn, dd, fn, fd, l, v, rfl, o1, o1v, hp, hl2, hl5, hred, hv21, b1⟩
  have g1 : Below w0.heap.size w0 w1 := bnext (Quiet.below ⟨_, rfl⟩) b1 (by simp)
  obtain ⟨ps, hf⟩ := edl_facts hp hl2 hl5 hred hv21
  have HF := Lib.hid hf
  have R1 := Lib.hid o1.ri
  have RV := Lib.hid o1v.ri
  have HBN : Hid (l.length = bn) := o1.ri.1
  have hbn : 2 ≤ bn ∧ bn ≤ 5 := by rw [← HBN.out]; exact ⟨hl2, hl5⟩
  have G1 := Lib.hid g1
  have HP := Lib.hid hp
  clear b1 o1 o1v hx hred hv21 hf hl2 hl5 hp
  have HEG : Hid (Calls Try.prog 24 #[.int .i64 (bn : Int), .slice D dn dd] w1 (MakesSSb w1 (egT v) (egQ v v.length))) := by
    have h := iEg_any dd RV.out HF.out.red
    rw [HBN.out] at h
    exact h
  have HST : Hid (∀ W, Below w1.heap.size w1 W → Calls Try.prog 18 #[.slice B bn bd] W (MakesPb W ps true)) := fun W bW => by
    have h := iStan_any bd (R1.out.below bW) (by omega)
    rw [HF.out.st, HF.out.ok] at h
    exact h
  go_upto_region 6 with (first
    | (go_at_call 24; refine HEG.out.mono ?_; rintro e w2 ⟨A2, n2, c2, pc, A3, n3, c3, qc, rfl, o2, o3, b2⟩)
    | (go_at_call 18; (with_reducible refine (HST.out _ ?_).mono ?_); (exact b2); rintro e w3 ⟨A4, n4, c4, lc, rfl, o4, l4, q4, b3⟩)
    | fail)
  have hb13 := b2.trans (b3.mono b2.size)
  have RP : Hid (RS w3 A2 n2 (egT v)) := RS.below (OS.rs o2 (OS.lenS o2).symm) b3
  have RQ : Hid (RS w3 A3 n3 (egQ v v.length)) := RS.below (OS.rs o3 (OS.lenS o3).symm) b3
  have PL : Hid (OP w3 w2.heap.size w2.heap.size (.slice A4 n4 c4) ps lc) := o4
  have G3 : Hid (Below w0.heap.size w0 w3) := G1.out.trans (hb13.mono G1.out.size)
  have R3 : Hid (RI w3 B bn l) := R1.out.below hb13
  have HN2 : Hid ((egT v).length = n2) := RP.out.1
  have HN3 : Hid (n3 = n2) := by
    show _ = _
    have h := congrArg List.length HF.out.sh
    rw [shapeT_len, shapeT_len, RP.out.1, RQ.out.1] at h
    exact h.symm
  have HN4 : Hid (ps.length = n4) := l4
  have hn4 : n4 ≤ 800 := by rw [← HN4.out]; exact HF.out.len
  have hn2 : n2 ≤ 16 := by rw [← HN2.out]; exact (tabB_len HF.out.tp).1
  clear o2 o3 o4 l4 q4 b2 b3 hb13 HEG HST
  have HT1 : Hid (Calls Try.prog 25 #[.slice A2 n2 c2] w3 (GivesB w3 (.bool true))) := iTabOk_any c2 RP.out HF.out.tp
  have HT2 : Hid (∀ W, Below w3.heap.size w3 W → Calls Try.prog 25 #[.slice A3 n3 c3] W (GivesB W (.bool true))) := fun W b => iTabOk_any c3 (RQ.out.below b) HF.out.tq
  obtain rfl := HN3.out
  clear HN3
  go_upto_region 10 with (first
    | (go_at_call 25; first
        | ((with_reducible refine HT1.out.mono ?_); rintro e w4 ⟨rfl, b4⟩)
        | ((with_reducible refine (HT2.out _ ?_).mono ?_); (exact b4); rintro e w5 ⟨rfl, b5⟩))
    | fail)
  have B35 : Hid (Below w3.heap.size w3 w5) := b4.trans (b5.mono b4.size)
  have O5 : Hid (OI (w5.alloc (.cells #[] 3)) w5.heap.size (.slice (some ⟨w5.heap.size, 0, none⟩) 0 0) [] ∧ Below w3.heap.size w3 (w5.alloc (.cells #[] 3))) := by
    refine ⟨?_, B35.out.alloc B35.out.size _⟩
    have h := OI.lit w5 w5.heap.size [] 0 rfl (Nat.le_refl _) (by simp)
    exact h
  have HS5 := B35.out.size
  clear b4 b5 HT1 HT2
  go_loopw [11, 12] (fun ov i wr => ∃ (k : Nat) (D : Option Addr) (dn dd : Nat), k ≤ n3 ∧ i = .int .i64 (k : Int) ∧ ov = .slice D dn dd ∧ Hid (OI wr w5.heap.size (.slice D dn dd) ((shapeT (egT v)).take k) ∧ Below w3.heap.size w3 wr ∧ w5.heap.size ≤ wr.heap.size)) (fun _ i _ => n3 - (intOf i).toNat)
  case atStart => exact ⟨0, _, _, _, Nat.zero_le _, rfl, rfl, by rw [List.take_zero]; exact O5.out.1, O5.out.2, by simp⟩
  case round =>
    clear O5
    obtain ⟨k, D1, dn1, dd1, hk, rfl, rfl, HY⟩ := hrel
    by_cases hlt : k < n3
    · obtain ⟨ad, A', n', c', rfl, z0, r0, -⟩ := (RP.out.below HY.out.2.1).2 k hlt
      obtain ⟨ad2, A'', n'', c'', rfl, z1, r1, -⟩ := (RQ.out.below HY.out.2.1).2 k hlt
      have hkl : k < (egT v).length := by rw [HN2.out]; exact hlt
      have hkq : k < (egQ v v.length).length := by rw [RQ.out.1]; exact hlt
      have hnn : n'' = n' := by
        have h := congrArg (fun x => nth x k) HF.out.sh
        simp only [nth_shapeT hkl, nth_shapeT hkq, r0.1, r1.1] at h
        omega
      subst hnn
      have HTT : Hid ((shapeT (egT v)).take (k + 1) = (shapeT (egT v)).take k ++ [(n'' : Int)]) := by show _ = _; rw [take_succ_nth (by rw [shapeT_len]; exact hkl), nth_shapeT hkl, r0.1]
      have HLE : Hid (((shapeT (egT v)).take k).length + 1 ≤ 1000000000000) := by show _ ≤ _; rw [List.length_take]; omega
      clear r0 r1 hkl hkq
      go_wp2_with fail
      go_quiet (fail)
      obtain ⟨w6, e6⟩ : ∃ W, W = wr.drewN nq := ⟨_, rfl⟩
      rw [← e6]
      have HY6 : Hid (OI w6 w5.heap.size (.slice D1 dn1 dd1) ((shapeT (egT v)).take k) ∧ Below w3.heap.size w3 w6 ∧ w5.heap.size ≤ w6.heap.size) := by rw [e6]; exact ⟨HY.out.1.below (below_drewN (Below.refl _ _) _), below_drewN HY.out.2.1 _, HY.out.2.2⟩
      have z6 : w6.cell? (ad.add k) = some (.slice A' n'' c') := by rw [e6]; exact z0
      have HSZ : Hid (w5.heap.size ≤ w6.heap.size) := HY6.out.2.2
      clear e6 z0 z1
      go_wp2_with (first
        | (at_builtin; refine wpApp1 rfl _ _ rfl w5.heap.size (.slice D1 dn1 dd1) ((shapeT (egT v)).take k) (n'' : Int) rfl (by exact HY6.out.1) rfl HLE.out HSZ.out ?_; intro v7 w7 o7 g7 k7)
        | fail)
      obtain ⟨D7, dn7, dd7, rfl, -⟩ := o7.form
      have HF7 : Hid (OI w7 w5.heap.size (.slice D7 dn7 dd7) ((shapeT (egT v)).take (k + 1)) ∧ Below w3.heap.size w3 w7 ∧ w5.heap.size ≤ w7.heap.size) :=
        ⟨by rw [HTT.out]; exact o7, HY6.out.2.1.grown g7 HY6.out.2.1.size fun q hq => Nat.le_trans HS5 (HY6.out.1.lt q hq).1, Nat.le_trans HSZ.out g7.size⟩
      clear o7 g7 k7
      go_roundw
      case rel => exact ⟨k + 1, _, _, _, by omega, by go_num, rfl, HF7.out⟩
      case measure => simp [intOf]; omega
    · have hse : (shapeT (egT v)).take k = shapeT (egT v) := List.take_of_length_le (by rw [shapeT_len, HN2.out]; omega)
      obtain ⟨w8, e8⟩ : ∃ W : World, W = wr := ⟨_, rfl⟩
      have HSH : Hid (RI w8 D1 dn1 (shapeT (egT v))) := by
        have h := HY.out.1.ri
        rw [hse, ← e8] at h
        exact h
      have B38 : Hid (Below w3.heap.size w3 w8) := by rw [e8]; exact HY.out.2.1
      have HDN : Hid (dn1 ≤ 16) := by
        have h := HSH.out.1
        rw [shapeT_len, HN2.out] at h
        show _ ≤ _
        omega
      have HBD := Lib.hid (sum_bounds HF.out)
      rw [← e8]
      clear hse HY e8
      go_upto_region 18 with fail
      go_loopw [13, 14, 15] (fun nv tv i wr => ∃ k : Nat, k ≤ n4 ∧ i = .int .i64 (k : Int) ∧ nv = .int .i64 (sumS (ps.take k)) ∧ tv = .int .i64 (sumC (ps.take k)) ∧ Hid (Below w8.heap.size w8 wr)) (fun _ _ i _ => n4 - (intOf i).toNat)
      case atStart => exact ⟨0, Nat.zero_le _, rfl, by simp [sumS], by simp [sumC], Below.refl _ _⟩
      case round =>
        obtain ⟨j, hj, rfl, rfl, rfl, HZ⟩ := hrel
        by_cases hlj : j < n4
        · have hjp : j < ps.length := by rw [HN4.out]; exact hlj
          have B3r := Lib.hid (B38.out.trans (HZ.out.mono B38.out.size))
          obtain ⟨G, cc, hGG, -⟩ := OF.shape PL.out (by omega)
          obtain ⟨rfl, e2, e3⟩ := slice_inj hGG
          clear e2 e3 hGG
          obtain ⟨A6, n6, c6, k1, -, k2, -, k4⟩ := OP.cell (OP.below PL.out B3r.out) hjp
          have hb1 := HBD.out j (by omega)
          have hb2 := HBD.out (j + 1) (by omega)
          have hcn := HF.out.cnt _ (nthP_mem hjp)
          have hsd := HF.out.std _ (nthP_mem hjp)
          have hSS := sumS_take hjp
          have hCC := sumC_take hjp
          have hn6 : n6 ≤ 16 := by rw [← k2.ri.1]; exact hsd.2
          have HSTD : Hid (∀ W, Below wr.heap.size wr W → Calls Try.prog 26 #[.slice A6 n6 c6] W (GivesB W (.int .i64 (stdB (nthP ps j).1)))) := fun W b => iStd_any c6 (k2.ri.below b) (by omega)
          have hmul : 0 ≤ (nthP ps j).2 * stdB (nthP ps j).1 := Int.mul_nonneg (by omega) hsd.1
          obtain ⟨S, hS⟩ : ∃ x, x = sumS (ps.take j) := ⟨_, rfl⟩
          obtain ⟨T, hT⟩ : ∃ x, x = sumC (ps.take j) := ⟨_, rfl⟩
          obtain ⟨cn, hcn2⟩ : ∃ x, x = (nthP ps j).2 := ⟨_, rfl⟩
          obtain ⟨sd, hsd2⟩ : ∃ x, x = stdB (nthP ps j).1 := ⟨_, rfl⟩
          rw [← hS, ← hcn2, ← hsd2] at hSS
          rw [← hT, ← hcn2] at hCC
          rw [← hcn2] at hcn k4
          rw [← hcn2, ← hsd2] at hmul
          rw [← hsd2] at HSTD
          rw [← hS, ← hT] at hb1
          rw [hSS, hCC] at hb2
          have hw1 : IntKind.i64.wrap (cn * sd) = cn * sd := by rw [IntKind.wrap_i64]; omega
          have hw2 : IntKind.i64.wrap (S + cn * sd) = S + cn * sd := by rw [IntKind.wrap_i64]; omega
          have hw3 : IntKind.i64.wrap (T + cn) = T + cn := by rw [IntKind.wrap_i64]; omega
          have HSS := Lib.hid hSS
          have HCC := Lib.hid hCC
          have K14 : Hid (wr.cell? ⟨G, j * 2, none⟩ = some (.slice A6 n6 c6) ∧ wr.cell? ⟨G, j * 2 + 1, none⟩ = some (.int .i64 cn)) := ⟨k1, k4⟩
          have BDR : Hid (Below wr.heap.size wr wr.drew) := (Below.refl _ _).drew
          rw [← hS, ← hT]
          clear hS hT hcn2 hsd2 hSS hCC hsd k2 hb1 hb2 hmul
          go_wp2_with fail
          go_region_held3 (fun W => W.cell? ⟨G, j * 2, none⟩ = some (.slice A6 n6 c6) ∧ W.cell? ⟨G, j * 2 + 1, none⟩ = some (.int .i64 cn)) (first | exact K14.out | exact two_cells BDR.out K14.out.1 K14.out.2 | exact two_cells b9 K14.out.1 K14.out.2 | fail) (first
            | (go_at_call 26; (with_reducible refine (HSTD.out _ ?_).mono ?_); (exact BDR.out); rintro e w9 ⟨rfl, b9'⟩; have b9 : Below wr.heap.size wr w9 := BDR.out.trans (b9'.mono BDR.out.size))
            | fail)
          go_wp2_with fail
          go_roundw
          case rel => exact ⟨j + 1, by omega, by go_num, by rw [HSS.out], by rw [HCC.out], HZ.out.trans (b9.mono HZ.out.size)⟩
          case measure => simp [intOf]; omega
        · have hSS : sumS (ps.take j) = (wordsN l : Int) := by rw [List.take_of_length_le (by rw [HN4.out]; omega)]; exact HF.out.sum
          have hCC : sumC (ps.take j) = sumC ps := by rw [List.take_of_length_le (by rw [HN4.out]; omega)]
          rw [hSS, hCC]
          obtain ⟨W9, hW9⟩ : ∃ x, x = wordsN l := ⟨_, rfl⟩
          obtain ⟨T9, hT9⟩ : ∃ x, x = sumC ps := ⟨_, rfl⟩
          rw [← hW9, ← hT9]
          have HW9 := Lib.hid hW9
          have HT9 := Lib.hid hT9
          obtain ⟨wa, ea⟩ : ∃ W : World, W = wr := ⟨_, rfl⟩
          rw [← ea]
          have B8a : Hid (Below w8.heap.size w8 wa) := by rw [ea]; exact HZ.out
          have B3a : Hid (Below w3.heap.size w3 wa) := B38.out.trans (B8a.out.mono B38.out.size)
          have OA : Hid (OI (wa.alloc (.cells #[] 3)) wa.heap.size (.slice (some ⟨wa.heap.size, 0, none⟩) 0 0) [] ∧ Below w3.heap.size w3 (wa.alloc (.cells #[] 3)) ∧ wa.heap.size ≤ (wa.alloc (.cells #[] 3)).heap.size ∧ Below w8.heap.size w8 (wa.alloc (.cells #[] 3))) := by
            refine ⟨?_, B3a.out.alloc B3a.out.size _, by simp, B8a.out.alloc B8a.out.size _⟩
            have h := OI.lit wa wa.heap.size [] 0 rfl (Nat.le_refl _) (by simp)
            exact h
          have HSa := B3a.out.size
          have HSa8 := B8a.out.size
          have hw0 : IntKind.i64.wrap ((n3 : Int) - 1) = (n3 : Int) - 1 := by rw [IntKind.wrap_i64]; omega
          clear hSS hCC hW9 hT9 ea HZ
          go_upto_region 24 with fail
          go_loopw [16, 17] (fun ov i wr => ∃ (q : Nat) (E : Option Addr) (en ed : Nat), q ≤ n3 ∧ i = .int .i64 ((q : Int) - 1) ∧ ov = .slice E en ed ∧ Hid (OI wr wa.heap.size (.slice E en ed) (readN (egT v) q) ∧ Below w3.heap.size w3 wr ∧ wa.heap.size ≤ wr.heap.size ∧ Below w8.heap.size w8 wr)) (fun _ i _ => (intOf i + 1).toNat)
          case atStart => exact ⟨n3, _, _, _, Nat.le_refl _, rfl, rfl, by rw [← HN2.out, readN_all]; exact OA.out.1, OA.out.2⟩
          case round =>
            clear OA
            obtain ⟨q, E, en, ed, hq, rfl, rfl, HR⟩ := hrel
            by_cases hq0 : 0 < q
            · obtain ⟨r, rfl⟩ : ∃ r, q = r + 1 := ⟨q - 1, by omega⟩
              have hrr : ((r + 1 : Nat) : Int) - 1 = (r : Int) := by omega
              rw [hrr]
              obtain ⟨ad, A', n', c', rfl, z0, r0, -⟩ := (RP.out.below HR.out.2.1).2 r (by omega)
              have hrl : r < (egT v).length := by rw [HN2.out]; omega
              obtain ⟨l0, hl0⟩ : ∃ x, x = nthL (egT v) r := ⟨_, rfl⟩
              have HNX : Hid (readN (egT v) r = readN (egT v) (r + 1) ++ l0) := by show _ = _; rw [readN_next hrl, hl0]
              have hln := (tabB_len HF.out.tp).2 r hrl
              rw [r0.1] at hln
              have HLE : Hid ((readN (egT v) (r + 1)).length + n' ≤ 1000000000000) := by have := readN_len HF.out.tp (r + 1); show _ ≤ _; omega
              rw [← hl0] at r0
              have HR0 := Lib.hid r0
              have HSZ : Hid (wa.heap.size ≤ wr.heap.size) := HR.out.2.2.1
              have hwr : IntKind.i64.wrap ((r : Int) - 1) = (r : Int) - 1 := by rw [IntKind.wrap_i64]; omega
              clear hrl hl0 r0 hln
              go_wp2_with (first
                | (at_builtin; refine wpAppI rfl _ _ rfl wa.heap.size (.slice E en ed) (readN (egT v) (r + 1)) l0 A' n' c' rfl rfl HR.out.1 HR0.out HLE.out HSZ.out ?_; intro v7 w7 o7 g7 k7)
                | fail)
              obtain ⟨D7, dn7, dd7, rfl, -⟩ := o7.form
              have HF7 : Hid (OI w7 wa.heap.size (.slice D7 dn7 dd7) (readN (egT v) r) ∧ Below w3.heap.size w3 w7 ∧ wa.heap.size ≤ w7.heap.size ∧ Below w8.heap.size w8 w7) :=
                ⟨by rw [HNX.out]; exact o7, HR.out.2.1.grown g7 HR.out.2.1.size fun q hq => Nat.le_trans HSa (HR.out.1.lt q hq).1, Nat.le_trans HSZ.out g7.size, HR.out.2.2.2.grown g7 HR.out.2.2.2.size fun q hq => Nat.le_trans HSa8 (HR.out.1.lt q hq).1⟩
              clear o7 g7 k7
              go_roundw
              case rel => exact ⟨r, _, _, _, by omega, by go_num, rfl, HF7.out⟩
              case measure => simp [intOf]
            · obtain rfl : q = 0 := by omega
              have HRD : Hid (RI wr E en (readT (egT v))) := by
                have h := HR.out.1.ri
                rw [readN_zero] at h
                exact h
              have PLr := Lib.hid (OP.below PL.out HR.out.2.1)
              have SHr := Lib.hid (HSH.out.below HR.out.2.2.2)
              have R3r := Lib.hid (R3.out.below HR.out.2.1)
              have HCI : Hid (Calls Try.prog 27 #[.slice A4 n4 c4, .slice D1 dn1 dd1] wr (fun e w' => ∃ y : Int, 1 ≤ y ∧ e = .returned (.int .i64 y) ∧ ∃ q, w' = wr.drewN q)) :=
                countIn_any PLr.out SHr.out HF.out.len (by have := HDN.out; omega) (fun x hx => (HF.out.std x hx).2) (fun x hx => (HF.out.cnt x hx).1) HF.out.has
              have HCR : Hid (∀ W, Below wr.heap.size wr W → Calls Try.prog 28 #[.slice B bn bd] W (GivesB W (.int .i64 (W9 : Nat)))) := fun W b => by
                have h := iCountRed_any bd (R3r.out.below b) (by omega)
                rw [countRB, HP.out, if_pos rfl, ← HW9.out] at h
                exact h
              have HVX : Hid (∀ bb, vexB l = bb → ∀ W, Below wr.heap.size wr W → Calls Try.prog 29 #[.slice B bn bd] W (GivesB W (.bool bb))) := fun bb hbb W b => by
                rw [← hbb]
                exact iVex_any bd (R3r.out.below b) HP.out
              have HWP : Hid (∀ W, Below wr.heap.size wr W → Calls Try.prog 31 #[.int .i64 (bn : Int), .slice E en ed] W (Makes W l)) := fun W b => by
                have h := iWordPerm_any ed bn (by omega) (HRD.out.below b) (by rw [← HBN.out]; exact word_read HF.out.red)
                rw [← HBN.out, HF.out.play] at h
                rw [← HBN.out]
                exact h
              have HIN : Hid (∀ W A9 n9 c9, Below wr.heap.size wr W → RI W A9 n9 l → Calls Try.prog 30 #[.slice A9 n9 c9, .slice B bn bd] W (Gives W (.bool true))) := fun W A9 n9 c9 b hr =>
                ints_any true c9 bd hr (R3r.out.below b) (by simp) (by have := hr.1; have := HBN.out; omega) (by omega)
              have hvv := HF.out.vex
              rw [← HT9.out] at hvv
              have GR : Hid (Below w0.heap.size w0 wr) := G3.out.trans (HR.out.2.1.mono G3.out.size)
              by_cases ht : T9 = 1
              · have htb : (T9 == 1) = true := by simpa using ht
                rw [decide_eq_true ht] at hvv
                have HVY := Lib.hid (HVX.out _ hvv.symm)
                clear ht hvv HVX
                go_wp2_with (first
                  | (go_at_call 27; refine HCI.out.mono ?_; rintro e x1 ⟨y, hy1, rfl, q1, rfl⟩; have hy2 : decide ((1 : Int) ≤ y) = true := decide_eq_true hy1)
                  | (go_at_call 28; (with_reducible refine (HCR.out _ ?_).mono ?_); (exact below_drewN (Below.refl _ _) _); rintro e x2 ⟨rfl, xb2⟩; have yb2 : Below wr.heap.size wr x2 := (below_drewN (Below.refl wr.heap.size wr) q1).trans (xb2.mono (below_drewN (Below.refl wr.heap.size wr) q1).size))
                  | (go_at_call 29; (with_reducible refine (HVY.out _ ?_).mono ?_); (exact yb2); rintro e x3 ⟨rfl, xb3⟩; have yb3 : Below wr.heap.size wr x3 := yb2.trans (xb3.mono yb2.size))
                  | (go_at_call 31; (with_reducible refine (HWP.out _ ?_).mono ?_); (exact yb3); rintro e x4 ⟨A9, n9, c9, rfl, -, r9, -, xb4⟩; have yb4 : Below wr.heap.size wr x4 := yb3.trans (xb4.mono yb3.size))
                  | (go_at_call 30; (with_reducible refine (HIN.out _ _ _ _ ?_ ?_).mono ?_); (exact yb4); (exact r9); rintro e x5 ⟨rfl, q5, rfl⟩)
                  | fail)
                go_ret
                exact ⟨rfl, below_drewN (GR.out.trans (yb4.mono GR.out.size)) _⟩
              · have htb : (T9 == 1) = false := by simpa using ht
                rw [decide_eq_false ht] at hvv
                have HVY := Lib.hid (HVX.out _ hvv.symm)
                clear ht hvv HVX
                go_wp2_with (first
                  | (go_at_call 27; refine HCI.out.mono ?_; rintro e x1 ⟨y, hy1, rfl, q1, rfl⟩; have hy2 : decide ((1 : Int) ≤ y) = true := decide_eq_true hy1)
                  | (go_at_call 28; (with_reducible refine (HCR.out _ ?_).mono ?_); (exact below_drewN (Below.refl _ _) _); rintro e x2 ⟨rfl, xb2⟩; have yb2 : Below wr.heap.size wr x2 := (below_drewN (Below.refl wr.heap.size wr) q1).trans (xb2.mono (below_drewN (Below.refl wr.heap.size wr) q1).size))
                  | (go_at_call 29; (with_reducible refine (HVY.out _ ?_).mono ?_); (exact yb2); rintro e x3 ⟨rfl, xb3⟩; have yb3 : Below wr.heap.size wr x3 := yb2.trans (xb3.mono yb2.size))
                  | (go_at_call 31; (with_reducible refine (HWP.out _ ?_).mono ?_); (exact yb3); rintro e x4 ⟨A9, n9, c9, rfl, -, r9, -, xb4⟩; have yb4 : Below wr.heap.size wr x4 := yb3.trans (xb4.mono yb3.size))
                  | (go_at_call 30; (with_reducible refine (HIN.out _ _ _ _ ?_ ?_).mono ?_); (exact yb4); (exact r9); rintro e x5 ⟨rfl, q5, rfl⟩)
                  | fail)
                go_ret
                exact ⟨rfl, below_drewN (GR.out.trans (yb4.mono GR.out.size)) _⟩
end Go.Proofs.Ytgbojgmmingfdaa.lawEdelman
