/- The walk of FnPuzzleSides. -/
import Derived.Test.YtnljlophgolejaaSidesP
import Derived.Test.YtnljlophgolejaaPzOf
import Derived.Test.YtnljlophgolejaaBoxP
import Derived.Test.YtnljlophgolejaaBytes
import Derived.Test.YtnljlophgolejaaMirS
import Derived.Test.YtnljlophgolejaaRegJ
import Derived.ShutString
import Derived.ChangeOld
namespace Go.Proofs.Ytnljlophgolejaa.lawPuzzleSides
open Go.ChangeShapes Go.WideShapes Go.ChangeAt Go.RowKit
open Go.ChangeMaps (open_string shut_string)

theorem pz_sorted {ps : List PZ} (h : ps.Pairwise LtR) {i j : Nat} (hij : i < j) (hj : j < ps.length) : lexLt (nthZ ps i).2.1 (nthZ ps j).2.1 = true := by
  rw [nthZ_lt (show i < ps.length by omega), nthZ_lt hj]
  exact List.pairwise_iff_getElem.1 h i j (by omega) hj hij
theorem pzB_facts {a b : List Int} (hb : b.length ≤ 6) {q : PZ} (h : q ∈ pzB false a b) : alikeB a b = true ∧ a.length ≤ 6 ∧ q ∈ spAll false a b := by
  unfold pzB at h
  split at h
  · rename_i h1
    unfold pzOk at h1
    rw [Bool.and_eq_true] at h1
    have := (alike_str h1.1).2.2.1
    exact ⟨h1.1, by omega, h⟩
  · cases h
theorem pzB_sorted (a b : List Int) : (pzB false a b).Pairwise LtR := by
  unfold pzB
  split
  · exact spAll_sorted _ _ _
  · exact List.Pairwise.nil
/-- What a call gives that is asked behind a world. -/
def Says (w : World) (v : Value) : Ending → World → Prop := fun e w' => e = .returned v ∧ Below w.heap.size w w'
theorem Says.of {w W : World} {v : Value} (b : Below w.heap.size w W) {e : Ending} {w' : World} (h : GivesB W v e w') : Says w v e w' := ⟨h.1, b.trans (h.2.mono b.size)⟩
theorem Says.ofQ {w W : World} {v : Value} (b : Below w.heap.size w W) {e : Ending} {w' : World} (h : Gives W v e w') : Says w v e w' := by
  obtain ⟨h1, h2⟩ := h
  exact ⟨h1, b.trans ((Quiet.below h2).mono b.size)⟩
theorem seven_cells {w W : World} {a b c d f : Addr} {v1 v2 v3 v4 v5 : Value} (bb : Below w.heap.size w W) (h1 : w.cell? a = some v1) (h2 : w.cell? b = some v2) (h3 : w.cell? c = some v3) (h4 : w.cell? d = some v4) (h5 : w.cell? f = some v5) :
    W.cell? a = some v1 ∧ W.cell? b = some v2 ∧ W.cell? c = some v3 ∧ W.cell? d = some v4 ∧ W.cell? f = some v5 := ⟨one_cell bb h1, one_cell bb h2, one_cell bb h3, one_cell bb h4, one_cell bb h5⟩

set_option maxRecDepth 100000 in
set_option maxHeartbeats 4000000 in
theorem walk {A : Option Addr} {n : Nat} (c : Nat) {w : World} (hx : RB w A n) : Calls Try.prog 10 #[.slice A n c] w (Law w) := by
  obtain ⟨w0, ew⟩ : ∃ w0 : World, w0 = w := ⟨_, rfl⟩
  subst ew
  rcases hbig : decide (1048576 < n) with _ | _
  · go_enter Try.func10, Try.ntmps10
    go_wp2_with (go_at_call 31; refine (big_any _).mono ?_; rintro e w' ⟨rfl, q0, rfl⟩)
    clear hbig
    refine (drawPuzzlesOf_any _ (hx.below (Quiet.below ⟨_, rfl⟩))).mono ?_
    rintro e w1 ⟨A1, n1, c1, A2, n2, c2, l1, l2, rfl, hl1, hl2, o1, o2, b1⟩
    have g1 : Below w0.heap.size w0 w1 := bnext (Quiet.below ⟨_, rfl⟩) b1 (by simp)
    have hn1 : n1 ≤ 7 := by rw [← o1.ri.1]; exact hl1
    have hn2 : n2 ≤ 6 := by rw [← o2.ri.1]; exact hl2
    have R1 := Lib.hid o1.ri
    have R2 := Lib.hid o2.ri
    have G1 := Lib.hid g1
    have HL2 := Lib.hid hl2
    have HL1 : Hid (l1.length = n1) := R1.out.1
    clear b1 o1 o2 hl1 hl2 g1
    obtain ⟨t, ht⟩ : ∃ t, t = pzOk false l1 l2 := ⟨_, rfl⟩
    obtain ⟨PS, hPS⟩ : ∃ PS, PS = pzB false l1 l2 := ⟨_, rfl⟩
    have HI := Lib.hid (iPzOf_any (w := w1) c1 c2 R1.out R2.out (by omega) (by omega))
    have HS : Hid (∀ W, Below w1.heap.size w1 W → Calls Try.prog 16 #[.slice A1 n1 c1, .slice A2 n2 c2] W (MakesPzB W (l1.length : Int) (pzB false l1 l2) (pzOk false l1 l2))) := fun W bW => sPzOf_any c1 c2 (R1.out.below bW) (R2.out.below bW) (by omega) (by omega)
    rw [← ht, ← hPS, HL1.out] at HI HS
    have hsm := (pzB_small (wt := false) (a := l1) (b := l2)).1
    have HSRT := Lib.hid (pzB_sorted l1 l2)
    have HFA : Hid (∀ q ∈ PS, alikeB l1 l2 = true ∧ l1.length ≤ 6 ∧ q ∈ spAll false l1 l2) := fun q hq => pzB_facts HL2.out (by rw [← hPS]; exact hq)
    rw [← hPS] at hsm HSRT
    have htt : (t != t) = false := by simp
    clear ht hPS
    go_wp2_with fail
    refine HI.out.mono ?_
    rintro e w2 ⟨A3, n3, c3, cs3, rfl, o3, l3, -, b2⟩
    have HO3 := Lib.hid o3
    have HL3 := Lib.hid l3
    have hn3 : n3 ≤ 10000 := by omega
    clear o3 l3 hsm
    go_wp2_with fail
    refine (HS.out _ b2).mono ?_
    rintro e w3 ⟨A4, n4, c4, cs4, rfl, -, -, -, b3'⟩
    have HO3 := Lib.hid (OF.below HO3.out b3')
    have b3 := b2.trans (b3'.mono b2.size)
    have HB3 := Lib.hid b3
    clear b3' b2 b3
    go_wp2
    go_loopw [9, 10, 11, 12, 13, 14, 15, 16, 17, 18, 19, 20, 21, 22, 23, 24, 25, 26, 27] (fun i _ _ _ _ _ _ _ _ _ _ _ _ _ _ _ _ _ _ wr => ∃ k : Nat, k ≤ n3 ∧ i = .int .i64 (k : Int) ∧ Hid (Below w3.heap.size w3 wr)) (fun i _ _ _ _ _ _ _ _ _ _ _ _ _ _ _ _ _ _ _ => n3 - (intOf i).toNat)
    case atStart => exact ⟨0, Nat.zero_le _, rfl, Below.refl _ _⟩
    case round =>
      obtain ⟨k, hk, rfl, BR⟩ := hrel
      by_cases hlt : k < n3
      · have hkl : k < PS.length := by rw [HL3.out]; exact hlt
        have ho := OF.below HO3.out BR.out
        obtain ⟨G, cg, hG, -⟩ := OF.shape ho (by omega)
        obtain ⟨rfl, e2, e3⟩ := slice_inj hG
        clear hG e2 e3
        obtain ⟨u1, u2, u3, k0, k1, k2, k3, o1, o2, o3⟩ := OZ.cell ho hkl
        obtain ⟨u4, u5, u6, -, -, j2, -, -, p2, -⟩ := OZ.cell ho (show k - 1 < PS.length by omega)
        obtain ⟨B4, m4, d4, rfl, r4, -⟩ := o1.form
        obtain ⟨B5, m5, d5, rfl, r5, -⟩ := o2.form
        obtain ⟨B6, m6, d6, rfl, r6, -⟩ := o3.form
        obtain ⟨B7, m7, d7, rfl, r7, -⟩ := p2.form
        have hmem := nthZ_mem hkl
        obtain ⟨hal, h6, hsp⟩ := HFA.out _ hmem
        obtain ⟨-, -, hsp'⟩ := HFA.out _ (nthZ_mem (show k - 1 < PS.length by omega))
        have hgood := fun q (hq : q ∈ spAll false l1 l2) => (puz_len (tl_okP (wt := false) hal q (by rw [tlAll_eq (alike_str hal).1]; exact hq))).1
        have hz1 := hgood _ hsp
        have hz2 := hgood _ hsp'
        obtain ⟨L1, M1, T1, L2, M2, T2, X1, X2, X3, TZ⟩ := sides_at hal h6 hsp
        have hss : 0 < k → lexLt (nthZ PS (k - 1)).2.1 (nthZ PS k).2.1 = true := fun h0 => pz_sorted HSRT.out (by omega) hkl
        obtain ⟨L, hL⟩ : ∃ L, L = (nthZ PS k).1 := ⟨_, rfl⟩
        obtain ⟨R, hR⟩ : ∃ R, R = (nthZ PS k).2.1 := ⟨_, rfl⟩
        obtain ⟨T, hT⟩ : ∃ T, T = (nthZ PS k).2.2 := ⟨_, rfl⟩
        obtain ⟨R', hR'⟩ : ∃ R', R' = (nthZ PS (k - 1)).2.1 := ⟨_, rfl⟩
        rw [HL1.out] at TZ
        rw [← hL, ← hR, ← hT] at TZ
        rw [← hR, ← hR'] at hss
        rw [← hL] at r4
        rw [← hR] at r5
        rw [← hT] at r6
        rw [← hR'] at r7
        have hm4 : m4 ≤ 36 := by rw [← r4.1, hL]; omega
        have hm5 : m5 ≤ 36 := by rw [← r5.1, hR]; omega
        have hm6 : m6 ≤ 36 := by rw [← r6.1, hT]; omega
        have hm7 : m7 ≤ 36 := by rw [← r7.1, hR']; omega
        have hk0 : wr.cell? ⟨G, k * 4, none⟩ = some (.int .i64 (n1 : Int)) := k0
        have hk1 : wr.cell? ⟨G, k * 4 + 1, none⟩ = some (.slice B4 m4 d4) := k1
        have hk2 : wr.cell? ⟨G, k * 4 + 2, none⟩ = some (.slice B5 m5 d5) := k2
        have hk3 : wr.cell? ⟨G, k * 4 + 3, none⟩ = some (.slice B6 m6 d6) := k3
        have hj2 : wr.cell? ⟨G, (k - 1) * 4 + 2, none⟩ = some (.slice B7 m7 d7) := j2
        have K5 : Hid (∀ W, Below wr.heap.size wr W → W.cell? ⟨G, k * 4, none⟩ = some (.int .i64 (n1 : Int)) ∧ W.cell? ⟨G, k * 4 + 1, none⟩ = some (.slice B4 m4 d4) ∧ W.cell? ⟨G, k * 4 + 2, none⟩ = some (.slice B5 m5 d5) ∧ W.cell? ⟨G, k * 4 + 3, none⟩ = some (.slice B6 m6 d6) ∧ W.cell? ⟨G, (k - 1) * 4 + 2, none⟩ = some (.slice B7 m7 d7)) := fun W bW => seven_cells bW hk0 hk1 hk2 hk3 hj2
        have R4 := Lib.hid r4
        have R5 := Lib.hid r5
        have R6 := Lib.hid r6
        have R7 := Lib.hid r7
        have HTZ := Lib.hid TZ
        have HSS := Lib.hid hss
        have HWL : Hid (∀ W, Below wr.heap.size wr W → RI W A1 n1 l1 ∧ RI W A2 n2 l2) := fun W bW => by
          have h1 := HB3.out.trans ((BR.out.trans (bW.mono BR.out.size)).mono HB3.out.size)
          exact ⟨R1.out.below h1, R2.out.below h1⟩
        clear ho k0 k1 k2 k3 j2 o1 o2 o3 p2 r4 r5 r6 r7 hmem hal h6 hsp hsp' hgood hz1 hz2 TZ hss hL hR hT hR'
        have HS0 : Hid (Calls Try.prog 40 #[.agg #[.int .i64 (n1 : Int), .slice B4 m4 d4, .slice B5 m5 d5, .slice B6 m6 d6]] wr (MakesT wr l1 l2 (sideB n1 T n1) true)) := by
          have h := iSides_yes d4 d5 d6 n1 R4.out R5.out R6.out (by omega) (by omega) (by omega) (puz_wt HTZ.out.p0)
          rw [HTZ.out.sl, HTZ.out.sr] at h
          exact h
        obtain ⟨Z, hZ⟩ : ∃ Z, Z = sideB n1 T n1 := ⟨_, rfl⟩
        have HZ := Lib.hid hZ
        rw [← hZ] at HS0
        have HZL : Hid (Z.length = n1) := by show _ = _; rw [HZ.out]; exact gen_len _ _
        clear hZ hk0 hk1 hk2 hk3 hj2
        obtain ⟨hk0, hk1, hk2, hk3, hj2⟩ := K5.out _ (Below.refl _ _)
        go_wp2_with fail
        refine HS0.out.mono ?_
        rintro e w4 ⟨E1, y1, f1, E2, y2, f2, E3, y3, f3, rfl, ⟨s1, s2, s3, -⟩, b4⟩
        have hy1 : y1 ≤ 7 := by rw [← s1.ri.1, HL1.out]; exact hn1
        have hy2 : y2 ≤ 7 := by rw [← s2.ri.1]; have := R2.out.1; omega
        have hy3 : y3 ≤ 7 := by rw [← s3.ri.1, HZL.out]; exact hn1
        have Q1 := Lib.hid s1.ri
        have Q2 := Lib.hid s2.ri
        have Q3 := Lib.hid s3.ri
        have B4' := Lib.hid b4
        clear s1 s2 s3 hk0 hk1 hk2 hk3 hj2 b4
        have HPO : Hid (∀ W, Below w4.heap.size w4 W → Calls Try.prog 41 #[.agg #[.int .i64 (n1 : Int), .slice B4 m4 d4, .slice B5 m5 d5, .slice B6 m6 d6]] W (Says w4 (.bool true))) := fun W bW => by
          have bb := B4'.out.trans (bW.mono B4'.out.size)
          refine (iPuzzleOk_any d4 d5 d6 (n1 : Int) (R4.out.below bb) (R5.out.below bb) (R6.out.below bb) (by omega) (by omega) (by omega)).mono fun e w' h => ?_
          rw [HTZ.out.p0] at h
          exact Says.of bW h
        have HI1 : Hid (∀ W, Below w4.heap.size w4 W → Calls Try.prog 42 #[.slice E1 y1 f1, .slice A1 n1 c1] W (Says w4 (.bool true))) := fun W bW =>
          (ints_any true _ _ (Q1.out.below bW) (HWL.out W (B4'.out.trans (bW.mono B4'.out.size))).1 (by simp) (by omega) (by omega)).mono fun e w' h => Says.ofQ bW h
        have HI2 : Hid (∀ W, Below w4.heap.size w4 W → Calls Try.prog 42 #[.slice E2 y2 f2, .slice A2 n2 c2] W (Says w4 (.bool true))) := fun W bW =>
          (ints_any true _ _ (Q2.out.below bW) (HWL.out W (B4'.out.trans (bW.mono B4'.out.size))).2 (by simp) (by omega) (by omega)).mono fun e w' h => Says.ofQ bW h
        have HLE : Hid (0 < k → ∀ W, Below w4.heap.size w4 W → Calls Try.prog 43 #[.slice B7 m7 d7, .slice B5 m5 d5] W (Says w4 (.bool true))) := fun h0 W bW => by
          have bb := B4'.out.trans (bW.mono B4'.out.size)
          refine (lless_any d7 d5 (R7.out.below bb) (R5.out.below bb) (by omega) (by omega)).mono fun e w' h => ?_
          rw [HSS.out h0] at h
          exact Says.ofQ bW h
        have HCX := Lib.hid (K5.out w4 B4'.out)
        have HCS : Hid (∀ W, Below w4.heap.size w4 W → W.cell? ⟨G, k * 4, none⟩ = some (.int .i64 (n1 : Int)) ∧ W.cell? ⟨G, k * 4 + 1, none⟩ = some (.slice B4 m4 d4) ∧ W.cell? ⟨G, k * 4 + 2, none⟩ = some (.slice B5 m5 d5) ∧ W.cell? ⟨G, k * 4 + 3, none⟩ = some (.slice B6 m6 d6) ∧ W.cell? ⟨G, (k - 1) * 4 + 2, none⟩ = some (.slice B7 m7 d7)) := fun W bW => K5.out W (B4'.out.trans (bW.mono B4'.out.size))
        go_upto_region 12 with (fail)
        go_cut [106] from 66 to 106 (fun v106 wx => v106 = .bool false ∧ Below w4.heap.size w4 wx)
        case first =>
          have hhm := HPO
          by_cases hk0 : k = 0
          · have hkd : decide ((0 : Int) < (k : Int)) = false := decide_eq_false (by omega)
            have hkd2 : decide (0 < k) = false := decide_eq_false (by omega)
            have hkn : ¬ (0 < k) := by omega
            clear hk0
            refine wp_region_held_drew (S := (fun w' => w'.cell? ⟨G, k * 4, none⟩ = some (.int .i64 (n1 : Int)) ∧ w'.cell? ⟨G, k * 4 + 1, none⟩ = some (.slice B4 m4 d4) ∧ w'.cell? ⟨G, k * 4 + 2, none⟩ = some (.slice B5 m5 d5) ∧ w'.cell? ⟨G, k * 4 + 3, none⟩ = some (.slice B6 m6 d6) ∧ w'.cell? ⟨G, (k - 1) * 4 + 2, none⟩ = some (.slice B7 m7 d7))) (by kernel_rfl) ?_ (fun hHeld => ?_)
            · (try dsimp only); exact HCX.out
            refine' wpAnyH_takeD 0 66 _ rfl rfl (by kernel_rfl) (by kernel_rfl) (by kernel_rfl) (fun _ _ _ h => h) (Or.inl ⟨by rfl, ?hy0⟩) (by assumption) ?rest0
            case hy0 => (intro w hSw; (try dsimp only at hSw); go_simp; (try with_reducible rfl))
            try simp only [Act.put, List.setIfInBounds_toArray, List.set_cons_zero, List.set_cons_succ]
            refine' wpAnyH_takeD 1 67 _ rfl rfl (by kernel_rfl) (by kernel_rfl) (by kernel_rfl) (fun _ _ _ h => h) (Or.inl ⟨by rfl, ?hy1⟩) (by assumption) ?rest1
            case hy1 => (intro w hSw; (try dsimp only at hSw); go_simp; (try with_reducible rfl))
            try simp only [Act.put, List.setIfInBounds_toArray, List.set_cons_zero, List.set_cons_succ]
            refine' wpAnyH_takeD 2 68 _ rfl rfl (by kernel_rfl) (by kernel_rfl) (by kernel_rfl) (fun _ _ _ h => h) (Or.inl ⟨by rfl, ?hy2⟩) (by assumption) ?rest2
            case hy2 => (intro w hSw; (try dsimp only at hSw); go_simp; (try with_reducible rfl))
            try simp only [Act.put, List.setIfInBounds_toArray, List.set_cons_zero, List.set_cons_succ]
            refine' wpAnyH_takeD 3 69 _ rfl rfl (by kernel_rfl) (by kernel_rfl) (by kernel_rfl) (fun _ _ _ h => h) (Or.inl ⟨by rfl, ?hy3⟩) (by assumption) ?rest3
            case hy3 => (intro w hSw; (try dsimp only at hSw); go_simp; (try with_reducible rfl))
            try simp only [Act.put, List.setIfInBounds_toArray, List.set_cons_zero, List.set_cons_succ]
            refine' wpAnyH_takeD 4 70 _ rfl rfl (by kernel_rfl) (by kernel_rfl) (by kernel_rfl) (fun _ _ _ h => h) (Or.inl ⟨by rfl, ?hy4⟩) (by assumption) ?rest4
            case hy4 => (intro w hSw; (try dsimp only at hSw); go_simp; (try with_reducible rfl))
            try simp only [Act.put, List.setIfInBounds_toArray, List.set_cons_zero, List.set_cons_succ]
            refine' wpAnyH_takeD 5 71 _ rfl rfl (by kernel_rfl) (by kernel_rfl) (by kernel_rfl) (fun _ _ _ h => h) (Or.inl ⟨by rfl, ?hy5⟩) (by assumption) ?rest5
            case hy5 => (intro w hSw; (try dsimp only at hSw); go_simp; (try with_reducible rfl))
            try simp only [Act.put, List.setIfInBounds_toArray, List.set_cons_zero, List.set_cons_succ]
            refine' wpAnyH_takeD 6 72 _ rfl rfl (by kernel_rfl) (by kernel_rfl) (by kernel_rfl) (fun _ _ _ h => h) (Or.inl ⟨by rfl, ?hy6⟩) (by assumption) ?rest6
            case hy6 => (intro w hSw; (try dsimp only at hSw); go_simp; (try with_reducible rfl))
            try simp only [Act.put, List.setIfInBounds_toArray, List.set_cons_zero, List.set_cons_succ]
            refine wpAnyH_ready (rs := [7]) (by kernel_rfl) (by simp) ?_
            refine AllReadyH.cons rfl (fun K hK => ?_) AllReadyH.nil
            go_simp
            (go_at_call 41; (with_reducible refine (HPO.out _ ?_).mono ?_); (exact ⟨rfl, rfl, rfl, Nat.le_refl _, fun _ _ => rfl⟩); rintro e w5 ⟨rfl, b5⟩)
            go_wp2_with fail
            refine hK.out _ _ ?_ (fun hHeld2 => ?_)
            · (try dsimp only); (first | exact HCX.out | exact HCS.out _ b7 | exact HCS.out _ b6 | exact HCS.out _ b5)
            clear hK hHeld
            have hHeld := hHeld2
            clear hHeld2
            try simp only [Act.put, List.setIfInBounds_toArray, List.set_cons_zero, List.set_cons_succ]
            refine' wpAnyH_takeD 8 74 _ rfl rfl (by kernel_rfl) (by kernel_rfl) (by kernel_rfl) (fun _ _ _ h => h) (Or.inl ⟨by rfl, ?hy8⟩) (by assumption) ?rest8
            case hy8 => (intro w hSw; (try dsimp only at hSw); go_simp; (try with_reducible rfl))
            try simp only [Act.put, List.setIfInBounds_toArray, List.set_cons_zero, List.set_cons_succ]
            refine' wpAnyH_takeD 9 75 _ rfl rfl (by kernel_rfl) (by kernel_rfl) (by kernel_rfl) (fun _ _ _ h => h) (Or.inl ⟨by rfl, ?hy9⟩) (by assumption) ?rest9
            case hy9 => (intro w hSw; (try dsimp only at hSw); go_simp; (try with_reducible rfl))
            try simp only [Act.put, List.setIfInBounds_toArray, List.set_cons_zero, List.set_cons_succ]
            refine' wpAnyH_takeD 10 76 _ rfl rfl (by kernel_rfl) (by kernel_rfl) (by kernel_rfl) (fun _ _ _ h => h) (Or.inl ⟨by rfl, ?hy10⟩) (by assumption) ?rest10
            case hy10 => (intro w hSw; (try dsimp only at hSw); go_simp; (try with_reducible rfl))
            try simp only [Act.put, List.setIfInBounds_toArray, List.set_cons_zero, List.set_cons_succ]
            refine' wpAnyH_takeD 11 77 _ rfl rfl (by kernel_rfl) (by kernel_rfl) (by kernel_rfl) (fun _ _ _ h => h) (Or.inl ⟨by rfl, ?hy11⟩) (by assumption) ?rest11
            case hy11 => (intro w hSw; (try dsimp only at hSw); go_simp; (try with_reducible rfl))
            try simp only [Act.put, List.setIfInBounds_toArray, List.set_cons_zero, List.set_cons_succ]
            refine' wpAnyH_takeD 12 78 _ rfl rfl (by kernel_rfl) (by kernel_rfl) (by kernel_rfl) (fun _ _ _ h => h) (Or.inl ⟨by rfl, ?hy12⟩) (by assumption) ?rest12
            case hy12 => (intro w hSw; (try dsimp only at hSw); go_simp; (try with_reducible rfl))
            try simp only [Act.put, List.setIfInBounds_toArray, List.set_cons_zero, List.set_cons_succ]
            refine wpAnyH_ready (rs := [13]) (by kernel_rfl) (by simp) ?_
            refine AllReadyH.cons rfl (fun K hK => ?_) AllReadyH.nil
            go_simp
            (go_at_call 42; (with_reducible refine (HI1.out _ ?_).mono ?_); (exact ⟨b5.os, b5.tape, b5.output, b5.size, b5.block⟩); rintro e w6 ⟨rfl, b6⟩)
            go_wp2_with fail
            refine hK.out _ _ ?_ (fun hHeld2 => ?_)
            · (try dsimp only); (first | exact HCX.out | exact HCS.out _ b7 | exact HCS.out _ b6 | exact HCS.out _ b5)
            clear hK hHeld
            have hHeld := hHeld2
            clear hHeld2
            try simp only [Act.put, List.setIfInBounds_toArray, List.set_cons_zero, List.set_cons_succ]
            refine' wpAnyH_takeD 14 80 _ rfl rfl (by kernel_rfl) (by kernel_rfl) (by kernel_rfl) (fun _ _ _ h => h) (Or.inl ⟨by rfl, ?hy14⟩) (by assumption) ?rest14
            case hy14 => (intro w hSw; (try dsimp only at hSw); go_simp; (try with_reducible rfl))
            try simp only [Act.put, List.setIfInBounds_toArray, List.set_cons_zero, List.set_cons_succ]
            refine' wpAnyH_takeD 15 81 _ rfl rfl (by kernel_rfl) (by kernel_rfl) (by kernel_rfl) (fun _ _ _ h => h) (Or.inl ⟨by rfl, ?hy15⟩) (by assumption) ?rest15
            case hy15 => (intro w hSw; (try dsimp only at hSw); go_simp; (try with_reducible rfl))
            try simp only [Act.put, List.setIfInBounds_toArray, List.set_cons_zero, List.set_cons_succ]
            refine' wpAnyH_takeD 16 82 _ rfl rfl (by kernel_rfl) (by kernel_rfl) (by kernel_rfl) (fun _ _ _ h => h) (Or.inl ⟨by rfl, ?hy16⟩) (by assumption) ?rest16
            case hy16 => (intro w hSw; (try dsimp only at hSw); go_simp; (try with_reducible rfl))
            try simp only [Act.put, List.setIfInBounds_toArray, List.set_cons_zero, List.set_cons_succ]
            refine' wpAnyH_takeD 17 83 _ rfl rfl (by kernel_rfl) (by kernel_rfl) (by kernel_rfl) (fun _ _ _ h => h) (Or.inl ⟨by rfl, ?hy17⟩) (by assumption) ?rest17
            case hy17 => (intro w hSw; (try dsimp only at hSw); go_simp; (try with_reducible rfl))
            try simp only [Act.put, List.setIfInBounds_toArray, List.set_cons_zero, List.set_cons_succ]
            refine' wpAnyH_takeD 18 84 _ rfl rfl (by kernel_rfl) (by kernel_rfl) (by kernel_rfl) (fun _ _ _ h => h) (Or.inl ⟨by rfl, ?hy18⟩) (by assumption) ?rest18
            case hy18 => (intro w hSw; (try dsimp only at hSw); go_simp; (try with_reducible rfl))
            try simp only [Act.put, List.setIfInBounds_toArray, List.set_cons_zero, List.set_cons_succ]
            refine wpAnyH_ready (rs := [19]) (by kernel_rfl) (by simp) ?_
            refine AllReadyH.cons rfl (fun K hK => ?_) AllReadyH.nil
            go_simp
            (go_at_call 42; (with_reducible refine (HI2.out _ ?_).mono ?_); (exact ⟨b6.os, b6.tape, b6.output, b6.size, b6.block⟩); rintro e w7 ⟨rfl, b7⟩)
            go_wp2_with fail
            refine hK.out _ _ ?_ (fun hHeld2 => ?_)
            · (try dsimp only); (first | exact HCX.out | exact HCS.out _ b7 | exact HCS.out _ b6 | exact HCS.out _ b5)
            clear hK hHeld
            have hHeld := hHeld2
            clear hHeld2
            try simp only [Act.put, List.setIfInBounds_toArray, List.set_cons_zero, List.set_cons_succ]
            refine' wpAnyH_takeD 20 86 _ rfl rfl (by kernel_rfl) (by kernel_rfl) (by kernel_rfl) (fun _ _ _ h => h) (Or.inl ⟨by rfl, ?hy20⟩) (by assumption) ?rest20
            case hy20 => (intro w hSw; (try dsimp only at hSw); go_simp; (try with_reducible rfl))
            try simp only [Act.put, List.setIfInBounds_toArray, List.set_cons_zero, List.set_cons_succ]
            refine' wpAnyH_takeD 21 87 _ rfl rfl (by kernel_rfl) (by kernel_rfl) (by kernel_rfl) (fun _ _ _ h => h) (Or.inl ⟨by rfl, ?hy21⟩) (by assumption) ?rest21
            case hy21 => (intro w hSw; (try dsimp only at hSw); go_simp; (try with_reducible rfl))
            try simp only [Act.put, List.setIfInBounds_toArray, List.set_cons_zero, List.set_cons_succ]
            refine' wpAnyH_takeD 22 88 _ rfl rfl (by kernel_rfl) (by kernel_rfl) (by kernel_rfl) (fun _ _ _ h => h) (Or.inl ⟨by rfl, ?hy22⟩) (by assumption) ?rest22
            case hy22 => (intro w hSw; (try dsimp only at hSw); go_simp; (try with_reducible rfl))
            try simp only [Act.put, List.setIfInBounds_toArray, List.set_cons_zero, List.set_cons_succ]
            refine' wpAnyH_takeD 23 89 _ rfl rfl (by kernel_rfl) (by kernel_rfl) (by kernel_rfl) (fun _ _ _ h => h) (Or.inl ⟨by rfl, ?hy23⟩) (by assumption) ?rest23
            case hy23 => (intro w hSw; (try dsimp only at hSw); go_simp; (try with_reducible rfl))
            try simp only [Act.put, List.setIfInBounds_toArray, List.set_cons_zero, List.set_cons_succ]
            refine' wpAnyH_takeD 24 90 _ rfl rfl (by kernel_rfl) (by kernel_rfl) (by kernel_rfl) (fun _ _ _ h => h) (Or.inl ⟨by rfl, ?hy24⟩) (by assumption) ?rest24
            case hy24 => (intro w hSw; (try dsimp only at hSw); go_simp; (try with_reducible rfl))
            try simp only [Act.put, List.setIfInBounds_toArray, List.set_cons_zero, List.set_cons_succ]
            refine' wpAnyH_takeD 25 91 _ rfl rfl (by kernel_rfl) (by kernel_rfl) (by kernel_rfl) (fun _ _ _ h => h) (Or.inl ⟨by rfl, ?hy25⟩) (by assumption) ?rest25
            case hy25 => (intro w hSw; (try dsimp only at hSw); go_simp; (try with_reducible rfl))
            try simp only [Act.put, List.setIfInBounds_toArray, List.set_cons_zero, List.set_cons_succ]
            refine wpAnyH_takeD 26 92 undef rfl rfl (by kernel_rfl) (by kernel_rfl) (by kernel_rfl) (fun _ _ _ h => h) (Or.inr ⟨by rfl, rfl⟩) (by assumption) ?_
            try simp only [Act.put, List.setIfInBounds_toArray, List.set_cons_zero, List.set_cons_succ]
            refine wpAnyH_takeD 27 93 undef rfl rfl (by kernel_rfl) (by kernel_rfl) (by kernel_rfl) (fun _ _ _ h => h) (Or.inr ⟨by rfl, rfl⟩) (by assumption) ?_
            try simp only [Act.put, List.setIfInBounds_toArray, List.set_cons_zero, List.set_cons_succ]
            refine wpAnyH_takeD 28 94 undef rfl rfl (by kernel_rfl) (by kernel_rfl) (by kernel_rfl) (fun _ _ _ h => h) (Or.inr ⟨by rfl, rfl⟩) (by assumption) ?_
            try simp only [Act.put, List.setIfInBounds_toArray, List.set_cons_zero, List.set_cons_succ]
            refine wpAnyH_takeD 29 95 undef rfl rfl (by kernel_rfl) (by kernel_rfl) (by kernel_rfl) (fun _ _ _ h => h) (Or.inr ⟨by rfl, rfl⟩) (by assumption) ?_
            try simp only [Act.put, List.setIfInBounds_toArray, List.set_cons_zero, List.set_cons_succ]
            refine wpAnyH_takeD 30 96 undef rfl rfl (by kernel_rfl) (by kernel_rfl) (by kernel_rfl) (fun _ _ _ h => h) (Or.inr ⟨by rfl, rfl⟩) (by assumption) ?_
            try simp only [Act.put, List.setIfInBounds_toArray, List.set_cons_zero, List.set_cons_succ]
            refine wpAnyH_takeD 31 97 undef rfl rfl (by kernel_rfl) (by kernel_rfl) (by kernel_rfl) (fun _ _ _ h => h) (Or.inr ⟨by rfl, rfl⟩) (by assumption) ?_
            try simp only [Act.put, List.setIfInBounds_toArray, List.set_cons_zero, List.set_cons_succ]
            refine wpAnyH_takeD 32 98 undef rfl rfl (by kernel_rfl) (by kernel_rfl) (by kernel_rfl) (fun _ _ _ h => h) (Or.inr ⟨by rfl, rfl⟩) (by assumption) ?_
            try simp only [Act.put, List.setIfInBounds_toArray, List.set_cons_zero, List.set_cons_succ]
            refine wpAnyH_takeD 33 99 undef rfl rfl (by kernel_rfl) (by kernel_rfl) (by kernel_rfl) (fun _ _ _ h => h) (Or.inr ⟨by rfl, rfl⟩) (by assumption) ?_
            try simp only [Act.put, List.setIfInBounds_toArray, List.set_cons_zero, List.set_cons_succ]
            refine wpAnyH_takeD 34 100 undef rfl rfl (by kernel_rfl) (by kernel_rfl) (by kernel_rfl) (fun _ _ _ h => h) (Or.inr ⟨by rfl, rfl⟩) (by assumption) ?_
            try simp only [Act.put, List.setIfInBounds_toArray, List.set_cons_zero, List.set_cons_succ]
            refine wpAnyH_takeD 35 101 undef rfl rfl (by kernel_rfl) (by kernel_rfl) (by kernel_rfl) (fun _ _ _ h => h) (Or.inr ⟨by rfl, rfl⟩) (by assumption) ?_
            try simp only [Act.put, List.setIfInBounds_toArray, List.set_cons_zero, List.set_cons_succ]
            refine wpAnyH_takeD 36 102 undef rfl rfl (by kernel_rfl) (by kernel_rfl) (by kernel_rfl) (fun _ _ _ h => h) (Or.inr ⟨by rfl, rfl⟩) (by assumption) ?_
            try simp only [Act.put, List.setIfInBounds_toArray, List.set_cons_zero, List.set_cons_succ]
            refine wpAnyH_takeD 37 103 undef rfl rfl (by kernel_rfl) (by kernel_rfl) (by kernel_rfl) (fun _ _ _ h => h) (Or.inr ⟨by rfl, rfl⟩) (by assumption) ?_
            try simp only [Act.put, List.setIfInBounds_toArray, List.set_cons_zero, List.set_cons_succ]
            refine wpAnyH_takeD 38 104 undef rfl rfl (by kernel_rfl) (by kernel_rfl) (by kernel_rfl) (fun _ _ _ h => h) (Or.inr ⟨by rfl, rfl⟩) (by assumption) ?_
            try simp only [Act.put, List.setIfInBounds_toArray, List.set_cons_zero, List.set_cons_succ]
            refine' wpAnyH_takeD 39 105 _ rfl rfl (by kernel_rfl) (by kernel_rfl) (by kernel_rfl) (fun _ _ _ h => h) (Or.inl ⟨by rfl, ?hy39⟩) (by assumption) ?rest39
            case hy39 => (intro w hSw; (try dsimp only at hSw); go_simp; (try with_reducible rfl))
            try simp only [Act.put, List.setIfInBounds_toArray, List.set_cons_zero, List.set_cons_succ]
            refine' wpAnyH_takeD 40 106 _ rfl rfl (by kernel_rfl) (by kernel_rfl) (by kernel_rfl) (fun _ _ _ h => h) (Or.inl ⟨by rfl, ?hy40⟩) (by assumption) ?rest40
            case hy40 => (intro w hSw; (try dsimp only at hSw); go_simp; (try with_reducible rfl))
            try simp only [Act.put, List.setIfInBounds_toArray, List.set_cons_zero, List.set_cons_succ]
            refine wpAnyH_done (by kernel_rfl) ?_ _
            go_wp2
            go_meet
            exact ⟨rfl, ⟨b7.os, b7.tape, b7.output, b7.size, b7.block⟩⟩
          · have hkd : decide ((0 : Int) < (k : Int)) = true := decide_eq_true (by omega)
            have hkd2 : decide (0 < k) = true := decide_eq_true (by omega)
            have HK0 : Hid (0 < k) := by show 0 < k; omega
            have hW : IntKind.i64.wrap ((k : Int) - 1) = ((k - 1 : Nat) : Int) := by rw [show (k : Int) - 1 = ((k - 1 : Nat) : Int) by omega]; exact IntWalk.i64_in _ (by omega)
            have hk1 : k - 1 < n3 := by omega
            clear hk0
            go_region_held3 (fun w' => w'.cell? ⟨G, k * 4, none⟩ = some (.int .i64 (n1 : Int)) ∧ w'.cell? ⟨G, k * 4 + 1, none⟩ = some (.slice B4 m4 d4) ∧ w'.cell? ⟨G, k * 4 + 2, none⟩ = some (.slice B5 m5 d5) ∧ w'.cell? ⟨G, k * 4 + 3, none⟩ = some (.slice B6 m6 d6) ∧ w'.cell? ⟨G, (k - 1) * 4 + 2, none⟩ = some (.slice B7 m7 d7)) (first | exact HCX.out | exact HCS.out _ b8 | exact HCS.out _ b7 | exact HCS.out _ b6 | exact HCS.out _ b5) (first
              | (go_at_call 41; (with_reducible refine (HPO.out _ ?_).mono ?_); (exact ⟨rfl, rfl, rfl, Nat.le_refl _, fun _ _ => rfl⟩); rintro e w5 ⟨rfl, b5⟩)
              | (go_at_call 42; (with_reducible refine (HI1.out _ ?_).mono ?_); (exact ⟨b5.os, b5.tape, b5.output, b5.size, b5.block⟩); rintro e w6 ⟨rfl, b6⟩)
              | (go_at_call 42; (with_reducible refine (HI2.out _ ?_).mono ?_); (exact ⟨b6.os, b6.tape, b6.output, b6.size, b6.block⟩); rintro e w7 ⟨rfl, b7⟩)
              | (go_at_call 43; (with_reducible refine (HLE.out HK0.out _ ?_).mono ?_); (exact ⟨b7.os, b7.tape, b7.output, b7.size, b7.block⟩); rintro e w8 ⟨rfl, b8⟩))
            go_wp2
            go_meet
            exact ⟨rfl, ⟨b8.os, b8.tape, b8.output, b8.size, b8.block⟩⟩
        case rest =>
          obtain ⟨rfl, b5⟩ := hcut
          have BX : Hid (Boxed wr G n1 B4 m4 d4 B5 m5 d5 B6 m6 d6 L R T → True) := fun _ => trivial
          have HC0 := Lib.hid (bnext B4'.out b5 B4'.out.size)
          have Q1 := Lib.hid (Q1.out.below b5)
          have Q2 := Lib.hid (Q2.out.below b5)
          have Q3 := Lib.hid (Q3.out.below b5)
          have KW : Hid (∀ W, Below wc.heap.size wc W → (W.cell? ⟨G, k * 4, none⟩ = some (.int .i64 (n1 : Int)) ∧ W.cell? ⟨G, k * 4 + 1, none⟩ = some (.slice B4 m4 d4) ∧ W.cell? ⟨G, k * 4 + 2, none⟩ = some (.slice B5 m5 d5) ∧ W.cell? ⟨G, k * 4 + 3, none⟩ = some (.slice B6 m6 d6)) ∧ RI W B4 m4 L ∧ RI W B5 m5 R ∧ RI W B6 m6 T) := fun W bW => by
            have bb := bnext HC0.out bW HC0.out.size
            obtain ⟨z0, z1, z2, z3, -⟩ := K5.out W bb
            exact ⟨⟨z0, z1, z2, z3⟩, R4.out.below bb, R5.out.below bb, R6.out.below bb⟩
          clear HPO HI1 HI2 HLE HCX HCS b5
          obtain ⟨⟨hk0, hk1, hk2, hk3⟩, z1, z2, z3⟩ := KW.out wc (Below.refl _ _)
          have HR := Lib.hid (rot_of d4 d5 d6 n1 z1 z2 z3 HTZ.out.len0 HTZ.out.p0 HTZ.out.t1)
          clear z1 z2 z3
          go_wp2_with fail
          refine HR.out.mono ?_
          rintro e w5 ⟨C1, p1, q1, C2, p2, q2, C3, p3, q3, rfl, ⟨t1, t2, t3, -⟩, c05⟩
          go_wp2_with fail
          obtain ⟨w6, ew6⟩ : ∃ W : World, W = w5.alloc (.cells #[.int .i64 (n1 : Int), .slice C1 p1 q1, .slice C2 p2 q2, .slice C3 p3 q3] 53) := ⟨_, rfl⟩
          obtain ⟨G6, hG6⟩ : ∃ g, g = w5.heap.size := ⟨_, rfl⟩
          have P6 : Hid (Boxed w6 G6 n1 C1 p1 q1 C2 p2 q2 C3 p3 q3 L1 M1 T1) := by rw [ew6, hG6]; exact Boxed.new t1.ri t2.ri t3.ri
          have c56 : Below w5.heap.size w5 w6 := by rw [ew6]; exact (Below.refl _ _).alloc (Nat.le_refl _) _
          have c06 := bnext c05 c56 c05.size
          rw [← ew6, ← hG6]
          have C06 := Lib.hid c06
          clear ew6 hG6 t1 t2 t3 c05 c56 c06 hk0 hk1 hk2 hk3
          obtain ⟨⟨x0, x1, x2, x3⟩, r1, r2, r3⟩ := P6.out
          have HS := Lib.hid (sid_of q1 q2 q3 n1 r1 r2 r3 HTZ.out.len1 HTZ.out.p1)
          rw [HTZ.out.s1.1, HTZ.out.s1.2.1, HTZ.out.s1.2.2, ← HZ.out] at HS
          clear r1 r2 r3
          go_wp2_with fail
          refine HS.out.mono ?_
          rintro e w7 ⟨D1, i1, j1, D2, i2, j2, D3, i3, j3, rfl, ⟨t1, t2, t3, -⟩, c67⟩
          have hi1 : i1 ≤ 7 := by rw [← t1.ri.1, List.length_reverse, HZL.out]; exact hn1
          have hi2 : i2 ≤ 7 := by rw [← t2.ri.1, HL1.out]; exact hn1
          have hi3 : i3 ≤ 6 := by rw [← t3.ri.1, List.length_reverse]; exact HL2.out
          have U1 := Lib.hid t1.ri
          have U2 := Lib.hid t2.ri
          have U3 := Lib.hid t3.ri
          have C07 := Lib.hid (bnext C06.out c67 C06.out.size)
          have P7 := Lib.hid (P6.out.below c67)
          clear t1 t2 t3 c67 x0 x1 x2 x3
          obtain ⟨⟨x0, x1, x2, x3⟩, r1, r2, r3⟩ := P7.out
          have HR := Lib.hid (rot_of q1 q2 q3 n1 r1 r2 r3 HTZ.out.len1 HTZ.out.p1 HTZ.out.t2)
          clear r1 r2 r3
          go_wp2_with fail
          refine HR.out.mono ?_
          rintro e w8 ⟨E4, s4, v4, E5, s5, v5, E6, s6, v6, rfl, ⟨t1, t2, t3, -⟩, c78⟩
          go_wp2_with fail
          obtain ⟨w9, ew9⟩ : ∃ W : World, W = w8.alloc (.cells #[.int .i64 (n1 : Int), .slice E4 s4 v4, .slice E5 s5 v5, .slice E6 s6 v6] 53) := ⟨_, rfl⟩
          obtain ⟨G9, hG9⟩ : ∃ g, g = w8.heap.size := ⟨_, rfl⟩
          have P9 : Hid (Boxed w9 G9 n1 E4 s4 v4 E5 s5 v5 E6 s6 v6 L2 M2 T2) := by rw [ew9, hG9]; exact Boxed.new t1.ri t2.ri t3.ri
          have c89 : Below w8.heap.size w8 w9 := by rw [ew9]; exact (Below.refl _ _).alloc (Nat.le_refl _) _
          have C79 := Lib.hid (bnext c78 c89 c78.size)
          have C09 := Lib.hid (bnext C07.out C79.out C07.out.size)
          rw [← ew9, ← hG9]
          clear ew9 hG9 t1 t2 t3 c78 c89 x0 x1 x2 x3
          obtain ⟨⟨x0, x1, x2, x3⟩, r1, r2, r3⟩ := P9.out
          have HR := Lib.hid (rot_of v4 v5 v6 n1 r1 r2 r3 HTZ.out.len2 HTZ.out.p2 HTZ.out.t3)
          clear r1 r2 r3
          go_wp2_with fail
          refine HR.out.mono ?_
          rintro e w10 ⟨F1, a1, e1, F2, a2, e2, F3, a3, e3, rfl, ⟨t1, t2, t3, -⟩, c910⟩
          have ha1 : a1 ≤ 28 := by rw [← t1.ri.1]; exact HTZ.out.len0.1
          have ha2 : a2 ≤ 28 := by rw [← t2.ri.1]; exact HTZ.out.len0.2.1
          have ha3 : a3 ≤ 28 := by rw [← t3.ri.1]; exact HTZ.out.len0.2.2
          have hka : ∀ o, (w10.alloc o).cell? ⟨G, k * 4, none⟩ = some (.int .i64 (n1 : Int)) ∧ (w10.alloc o).cell? ⟨G, k * 4 + 1, none⟩ = some (.slice B4 m4 d4) ∧ (w10.alloc o).cell? ⟨G, k * 4 + 2, none⟩ = some (.slice B5 m5 d5) ∧ (w10.alloc o).cell? ⟨G, k * 4 + 3, none⟩ = some (.slice B6 m6 d6) := fun o =>
            (KW.out _ (bnext (bnext C09.out c910 C09.out.size) ((Below.refl w10.heap.size w10).alloc (Nat.le_refl _) o) (bnext C09.out c910 C09.out.size).size)).1
          have hk0 := fun o => (hka o).1
          have hk1 := fun o => (hka o).2.1
          have hk2 := fun o => (hka o).2.2.1
          have hk3 := fun o => (hka o).2.2.2
          clear hka
          go_wp2_with fail
          clear hk0 hk1 hk2 hk3
          obtain ⟨w11, ew11⟩ : ∃ W : World, W = w10.alloc (.cells #[.int .i64 (n1 : Int), .slice F1 a1 e1, .slice F2 a2 e2, .slice F3 a3 e3] 53) := ⟨_, rfl⟩
          obtain ⟨G11, hG11⟩ : ∃ g, g = w10.heap.size := ⟨_, rfl⟩
          have P11 : Hid (Boxed w11 G11 n1 F1 a1 e1 F2 a2 e2 F3 a3 e3 L R T) := by rw [ew11, hG11]; exact Boxed.new t1.ri t2.ri t3.ri
          have c1011 : Below w10.heap.size w10 w11 := by rw [ew11]; exact (Below.refl _ _).alloc (Nat.le_refl _) _
          have C911 := Lib.hid (bnext c910 c1011 c910.size)
          have C011 := Lib.hid (bnext C09.out C911.out C09.out.size)
          rw [← ew11, ← hG11]
          clear ew11 hG11 t1 t2 t3 c910 c1011 x0 x1 x2 x3
          obtain ⟨-, z1, z2, z3⟩ := KW.out w11 C011.out
          have HR := Lib.hid (mir_of d4 d5 d6 n1 z1 z2 z3 HTZ.out.len0 HTZ.out.p0 HTZ.out.m1)
          clear z1 z2 z3
          refine HR.out.mono ?_
          rintro e w12 ⟨F4, a4, e4, F5, a5, e5, F6, a6, e6, rfl, ⟨t1, t2, t3, -⟩, c1112⟩
          go_wp2_with fail
          obtain ⟨w13, ew13⟩ : ∃ W : World, W = w12.alloc (.cells #[.int .i64 (n1 : Int), .slice F4 a4 e4, .slice F5 a5 e5, .slice F6 a6 e6] 53) := ⟨_, rfl⟩
          obtain ⟨G13, hG13⟩ : ∃ g, g = w12.heap.size := ⟨_, rfl⟩
          have P13 : Hid (Boxed w13 G13 n1 F4 a4 e4 F5 a5 e5 F6 a6 e6 X1 X2 X3) := by rw [ew13, hG13]; exact Boxed.new t1.ri t2.ri t3.ri
          have c1213 : Below w12.heap.size w12 w13 := by rw [ew13]; exact (Below.refl _ _).alloc (Nat.le_refl _) _
          have C1113 := Lib.hid (bnext c1112 c1213 c1112.size)
          have C013 := Lib.hid (bnext C011.out C1113.out C011.out.size)
          rw [← ew13, ← hG13]
          clear ew13 hG13 t1 t2 t3 c1112 c1213
          obtain ⟨⟨x0, x1, x2, x3⟩, r1, r2, r3⟩ := P13.out
          have HR := Lib.hid (mir_of e4 e5 e6 n1 r1 r2 r3 HTZ.out.len3 HTZ.out.p3 HTZ.out.m2)
          clear r1 r2 r3
          go_wp2_with fail
          refine HR.out.mono ?_
          rintro e w14 ⟨F7, a7, e7, F8, a8, e8, F9, a9, e9, rfl, ⟨t1, t2, t3, -⟩, c1314⟩
          have ha7 : a7 ≤ 28 := by rw [← t1.ri.1]; exact HTZ.out.len0.1
          have ha8 : a8 ≤ 28 := by rw [← t2.ri.1]; exact HTZ.out.len0.2.1
          have ha9 : a9 ≤ 28 := by rw [← t3.ri.1]; exact HTZ.out.len0.2.2
          go_wp2_with fail
          obtain ⟨w15, ew15⟩ : ∃ W : World, W = w14.alloc (.cells #[.int .i64 (n1 : Int), .slice F7 a7 e7, .slice F8 a8 e8, .slice F9 a9 e9] 53) := ⟨_, rfl⟩
          obtain ⟨G15, hG15⟩ : ∃ g, g = w14.heap.size := ⟨_, rfl⟩
          have P15 : Hid (Boxed w15 G15 n1 F7 a7 e7 F8 a8 e8 F9 a9 e9 L R T) := by rw [ew15, hG15]; exact Boxed.new t1.ri t2.ri t3.ri
          have c1415 : Below w14.heap.size w14 w15 := by rw [ew15]; exact (Below.refl _ _).alloc (Nat.le_refl _) _
          have C1315 := Lib.hid (bnext c1314 c1415 c1314.size)
          have C015 := Lib.hid (bnext C013.out C1315.out C013.out.size)
          rw [← ew15, ← hG15]
          clear ew15 hG15 t1 t2 t3 c1314 c1415 x0 x1 x2 x3
          have c715 := bnext (bnext (bnext C79.out C911.out C79.out.size) C1113.out (bnext C79.out C911.out C79.out.size).size) C1315.out (bnext (bnext C79.out C911.out C79.out.size) C1113.out (bnext C79.out C911.out C79.out.size).size).size
          have c1115 := bnext C1113.out C1315.out C1113.out.size
          have P13 := Lib.hid (P13.out.below C1315.out)
          have P11 := Lib.hid (P11.out.below c1115)
          have U1 := Lib.hid (U1.out.below c715)
          have U2 := Lib.hid (U2.out.below c715)
          have U3 := Lib.hid (U3.out.below c715)
          have Q1 := Lib.hid (Q1.out.below C015.out)
          have Q2 := Lib.hid (Q2.out.below C015.out)
          have Q3 := Lib.hid (Q3.out.below C015.out)
          have KW := Lib.hid (KW.out w15 C015.out)
          clear c715 c1115 C1315 C1113 C911 C79 C06 C07 C09 C011 C013 P6 P7 P9 HR HS HS0
          have HI1 : Hid (∀ W, Below w15.heap.size w15 W → Calls Try.prog 42 #[.slice D2 i2 j2, .slice E1 y1 f1] W (Says w15 (.bool true))) := fun W bW =>
            (ints_any true _ _ (U2.out.below bW) (Q1.out.below bW) (by simp) (by omega) (by omega)).mono fun e w' h => Says.ofQ bW h
          have HV1 : Hid (∀ W, Below w15.heap.size w15 W → Calls Try.prog 33 #[.slice E3 y3 f3] W (fun e w' => ∃ A n c, e = .returned (.slice A n c) ∧ RI w' A n Z.reverse ∧ n ≤ 7 ∧ Below w15.heap.size w15 w')) := fun W bW =>
            (reversed_any f3 (Q3.out.below bW) (by omega)).mono fun e w' ⟨A, n, c, h1, _, h2, _, h3⟩ => ⟨A, n, c, h1, h2, by rw [← h2.1, List.length_reverse, HZL.out]; exact hn1, bnext bW h3 bW.size⟩
          have HV2 : Hid (∀ W, Below w15.heap.size w15 W → Calls Try.prog 33 #[.slice E2 y2 f2] W (fun e w' => ∃ A n c, e = .returned (.slice A n c) ∧ RI w' A n l2.reverse ∧ n ≤ 7 ∧ Below w15.heap.size w15 w')) := fun W bW =>
            (reversed_any f2 (Q2.out.below bW) (by omega)).mono fun e w' ⟨A, n, c, h1, _, h2, _, h3⟩ => ⟨A, n, c, h1, h2, by rw [← h2.1, List.length_reverse]; have := HL2.out; omega, bnext bW h3 bW.size⟩
          have HI2 : Hid (∀ W A n c, Below w15.heap.size w15 W → RI W A n Z.reverse → n ≤ 7 → Calls Try.prog 42 #[.slice D1 i1 j1, .slice A n c] W (Says w15 (.bool true))) := fun W A n c bW h hn =>
            (ints_any true _ _ (U1.out.below bW) h (by simp) (by omega) (by omega)).mono fun e w' h => Says.ofQ bW h
          have HI3 : Hid (∀ W A n c, Below w15.heap.size w15 W → RI W A n l2.reverse → n ≤ 7 → Calls Try.prog 42 #[.slice D3 i3 j3, .slice A n c] W (Says w15 (.bool true))) := fun W A n c bW h hn =>
            (ints_any true _ _ (U3.out.below bW) h (by simp) (by omega) (by omega)).mono fun e w' h => Says.ofQ bW h
          have HZ1 : Hid (∀ W, Below w15.heap.size w15 W → Calls Try.prog 46 #[.agg #[.int .i64 (n1 : Int), .slice F1 a1 e1, .slice F2 a2 e2, .slice F3 a3 e3], .agg #[.int .i64 (n1 : Int), .slice B4 m4 d4, .slice B5 m5 d5, .slice B6 m6 d6]] W (Says w15 (.bool true))) := fun W bW =>
            (lpuzzles_any e1 e2 e3 d4 d5 d6 (n1 : Int) (P11.out.2.1.below bW) (P11.out.2.2.1.below bW) (P11.out.2.2.2.below bW) (KW.out.2.1.below bW) (KW.out.2.2.1.below bW) (KW.out.2.2.2.below bW) (by omega) (by omega) (by omega)).mono fun e w' h => Says.of bW h
          have HZ2 : Hid (∀ W, Below w15.heap.size w15 W → Calls Try.prog 46 #[.agg #[.int .i64 (n1 : Int), .slice F7 a7 e7, .slice F8 a8 e8, .slice F9 a9 e9], .agg #[.int .i64 (n1 : Int), .slice B4 m4 d4, .slice B5 m5 d5, .slice B6 m6 d6]] W (Says w15 (.bool true))) := fun W bW =>
            (lpuzzles_any e7 e8 e9 d4 d5 d6 (n1 : Int) (P15.out.2.1.below bW) (P15.out.2.2.1.below bW) (P15.out.2.2.2.below bW) (KW.out.2.1.below bW) (KW.out.2.2.1.below bW) (KW.out.2.2.2.below bW) (by omega) (by omega) (by omega)).mono fun e w' h => Says.of bW h
          have HPK : Hid (∀ W, Below w15.heap.size w15 W → Calls Try.prog 41 #[.agg #[.int .i64 (n1 : Int), .slice F4 a4 e4, .slice F5 a5 e5, .slice F6 a6 e6]] W (Says w15 (.bool true))) := fun W bW =>
            (pok_of e4 e5 e6 n1 (P13.out.2.1.below bW) (P13.out.2.2.1.below bW) (P13.out.2.2.2.below bW) HTZ.out.len3 HTZ.out.p3).mono fun e w' h => Says.of bW h
          have XC : Hid (∀ W, Below w15.heap.size w15 W → (W.cell? ⟨G, k * 4, none⟩ = some (.int .i64 (n1 : Int)) ∧ W.cell? ⟨G, k * 4 + 1, none⟩ = some (.slice B4 m4 d4) ∧ W.cell? ⟨G, k * 4 + 2, none⟩ = some (.slice B5 m5 d5) ∧ W.cell? ⟨G, k * 4 + 3, none⟩ = some (.slice B6 m6 d6)) ∧
              (W.cell? ⟨G11, 0, none⟩ = some (.int .i64 (n1 : Int)) ∧ W.cell? ⟨G11, 1, none⟩ = some (.slice F1 a1 e1) ∧ W.cell? ⟨G11, 2, none⟩ = some (.slice F2 a2 e2) ∧ W.cell? ⟨G11, 3, none⟩ = some (.slice F3 a3 e3)) ∧
              (W.cell? ⟨G15, 0, none⟩ = some (.int .i64 (n1 : Int)) ∧ W.cell? ⟨G15, 1, none⟩ = some (.slice F7 a7 e7) ∧ W.cell? ⟨G15, 2, none⟩ = some (.slice F8 a8 e8) ∧ W.cell? ⟨G15, 3, none⟩ = some (.slice F9 a9 e9)) ∧
              (W.cell? ⟨G13, 0, none⟩ = some (.int .i64 (n1 : Int)) ∧ W.cell? ⟨G13, 1, none⟩ = some (.slice F4 a4 e4) ∧ W.cell? ⟨G13, 2, none⟩ = some (.slice F5 a5 e5) ∧ W.cell? ⟨G13, 3, none⟩ = some (.slice F6 a6 e6))) := fun W bW =>
            ⟨⟨one_cell bW KW.out.1.1, one_cell bW KW.out.1.2.1, one_cell bW KW.out.1.2.2.1, one_cell bW KW.out.1.2.2.2⟩, (P11.out.below bW).1, (P15.out.below bW).1, (P13.out.below bW).1⟩
          have HBF := Lib.hid (bnext HC0.out C015.out HC0.out.size)
          clear Q1 Q2 Q3 U1 U2 U3 KW P11 P13 P15 HTZ HSS K5 HWL R4 R5 R6 R7 HC0 C015 BX
          clear HI HS HSRT HFA HO3 HL3 G1 R1 R2 HB3 HL1 HL2 HZ HZL B4' htt hkl hx
          go_wp2_with fail
          have XC0 := Lib.hid (XC.out w15 (Below.refl _ _))
          simp only [List.append_eq, List.cons_append, List.nil_append]
          go_region_held3 (fun W => (W.cell? ⟨G, k * 4, none⟩ = some (.int .i64 (n1 : Int)) ∧ W.cell? ⟨G, k * 4 + 1, none⟩ = some (.slice B4 m4 d4) ∧ W.cell? ⟨G, k * 4 + 2, none⟩ = some (.slice B5 m5 d5) ∧ W.cell? ⟨G, k * 4 + 3, none⟩ = some (.slice B6 m6 d6)) ∧ (W.cell? ⟨G11, 0, none⟩ = some (.int .i64 (n1 : Int)) ∧ W.cell? ⟨G11, 1, none⟩ = some (.slice F1 a1 e1) ∧ W.cell? ⟨G11, 2, none⟩ = some (.slice F2 a2 e2) ∧ W.cell? ⟨G11, 3, none⟩ = some (.slice F3 a3 e3)) ∧ (W.cell? ⟨G15, 0, none⟩ = some (.int .i64 (n1 : Int)) ∧ W.cell? ⟨G15, 1, none⟩ = some (.slice F7 a7 e7) ∧ W.cell? ⟨G15, 2, none⟩ = some (.slice F8 a8 e8) ∧ W.cell? ⟨G15, 3, none⟩ = some (.slice F9 a9 e9)) ∧ (W.cell? ⟨G13, 0, none⟩ = some (.int .i64 (n1 : Int)) ∧ W.cell? ⟨G13, 1, none⟩ = some (.slice F4 a4 e4) ∧ W.cell? ⟨G13, 2, none⟩ = some (.slice F5 a5 e5) ∧ W.cell? ⟨G13, 3, none⟩ = some (.slice F6 a6 e6))) (first | exact XC0.out | exact XC.out _ b23 | exact XC.out _ b22 | exact XC.out _ b21 | exact XC.out _ b20 | exact XC.out _ b19 | exact XC.out _ b18 | exact XC.out _ b17 | exact XC.out _ b16) (first
            | (go_at_call 42; (with_reducible refine (HI1.out _ ?_).mono ?_); (exact ⟨rfl, rfl, rfl, Nat.le_refl _, fun _ _ => rfl⟩); rintro e w16 ⟨rfl, b16⟩)
            | (go_at_call 33; (with_reducible refine (HV1.out _ ?_).mono ?_); (exact ⟨b16.os, b16.tape, b16.output, b16.size, b16.block⟩); rintro e w17 ⟨H1, o1, p4, rfl, rr1, ho1, b17⟩; have RR1 := Lib.hid rr1; clear rr1)
            | (go_at_call 42; (with_reducible refine (HI2.out _ _ _ _ ?_ ?_ ?_).mono ?_); (exact ⟨b17.os, b17.tape, b17.output, b17.size, b17.block⟩); (exact RR1.out.drewN 0); (exact ho1); rintro e w18 ⟨rfl, b18⟩)
            | (go_at_call 33; (with_reducible refine (HV2.out _ ?_).mono ?_); (exact ⟨b18.os, b18.tape, b18.output, b18.size, b18.block⟩); rintro e w19 ⟨H2, o2, p5, rfl, rr2, ho2, b19⟩; have RR2 := Lib.hid rr2; clear rr2)
            | (go_at_call 42; (with_reducible refine (HI3.out _ _ _ _ ?_ ?_ ?_).mono ?_); (exact ⟨b19.os, b19.tape, b19.output, b19.size, b19.block⟩); (exact RR2.out.drewN 0); (exact ho2); rintro e w20 ⟨rfl, b20⟩)
            | (go_at_call 46; (with_reducible refine (HZ1.out _ ?_).mono ?_); (exact ⟨b20.os, b20.tape, b20.output, b20.size, b20.block⟩); rintro e w21 ⟨rfl, b21⟩)
            | (go_at_call 46; (with_reducible refine (HZ2.out _ ?_).mono ?_); (exact ⟨b21.os, b21.tape, b21.output, b21.size, b21.block⟩); rintro e w22 ⟨rfl, b22⟩)
            | (go_at_call 41; (with_reducible refine (HPK.out _ ?_).mono ?_); (exact ⟨b22.os, b22.tape, b22.output, b22.size, b22.block⟩); rintro e w23 ⟨rfl, b23⟩))
          have HFIN := Lib.hid (bnext BR.out (bnext HBF.out b23 HBF.out.size) BR.out.size)
          go_wp2
          go_roundw
          case rel => exact ⟨k + 1, by omega, by go_num, HFIN.out⟩
          case measure => simp [intOf]; omega
      · obtain rfl : k = n3 := by omega
        have HF := Lib.hid (bnext G1.out (HB3.out.trans (BR.out.mono HB3.out.size)) G1.out.size)
        go_wp2
        go_ret
        exact ⟨rfl, HF.out⟩
  · go_enter Try.func10, Try.ntmps10
    go_wp2_with (go_at_call 31; refine (big_any _).mono ?_; rintro e w' ⟨rfl, q0, rfl⟩)
    go_ret
    exact ⟨rfl, Quiet.below ⟨_, rfl⟩⟩
end Go.Proofs.Ytnljlophgolejaa.lawPuzzleSides
