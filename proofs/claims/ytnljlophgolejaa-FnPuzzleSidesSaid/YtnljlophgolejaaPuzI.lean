/- rightPuzzle of the program. -/
import Derived.Test.YtnljlophgolejaaWords
import Derived.Test.YtnljlophgolejaaShapes
import Derived.StillTailTactics
namespace Go.Proofs.Ytnljlophgolejaa
open Go.RowKit

theorem sizesB_iff {S : Int} {L R B : List Int} : sizesB S L R B = true ↔ inB S 1 7 = true ∧ L.length = tri S.toNat ∧ R.length = tri S.toNat ∧ B.length = tri S.toNat := by
  simp [sizesB]
theorem puz_sizes {S : Int} {L R B : List Int} {wt : Bool} (h : sizesB S L R B = false) : puzB S L R B wt = false := by simp [puzB, h]


set_option maxRecDepth 4000 in
set_option maxHeartbeats 4000000 in
theorem right_any {A1 A2 A3 : Option Addr} {n1 n2 n3 : Nat} {L R B : List Int} {w : World} (c1 c2 c3 : Nat) (S : Int) (wt : Bool) (h1 : RI w A1 n1 L) (h2 : RI w A2 n2 R) (h3 : RI w A3 n3 B)
    (m1 : n1 ≤ 1000000000) (m2 : n2 ≤ 1000000000) (m3 : n3 ≤ 1000000000) :
    Calls Try.prog 85 #[.agg #[.int .i64 S, .slice A1 n1 c1, .slice A2 n2 c2, .slice A3 n3 c3], .bool wt] w (GivesB w (.bool (puzB S L R B wt))) := by
  rcases hS : inB S 1 7 with _ | _
  · have HF := Lib.hid (puz_sizes (S := S) (L := L) (R := R) (B := B) (wt := wt) (by simp [sizesB, hS]))
    go_enter Try.func85, Try.ntmps85
    go_wp2_with fail
    go_quiet ((go_at_call 121; first | exact qcall (isSize_any _) | exact qcall_add (isSize_any _)))
    go_wp2
    go_ret
    exact ⟨by rw [HF.out]; rfl, below_drewN ((Below.refl _ _).alloc (Nat.le_refl _) _) _⟩
  obtain ⟨s1, s2⟩ := inB_iff.1 hS
  obtain ⟨n, rfl⟩ := Int.eq_ofNat_of_zero_le (a := S) (by omega)
  obtain ⟨x, hx⟩ : ∃ x, tri n + 0 = x := ⟨_, rfl⟩
  have hx1 : tri n ≤ 36 := tri_small (by omega)
  have hx2 : x ≤ 36 := by omega
  have HSI := Lib.hid hS
  have hF : ∀ (h : ¬(n1 = x ∧ n2 = x ∧ n3 = x)), Hid (puzB n L R B wt = false) := fun h => puz_sizes (by
    rw [← Bool.not_eq_true, sizesB_iff]
    rintro ⟨_, e1, e2, e3⟩
    rw [h1.1] at e1; rw [h2.1] at e2; rw [h3.1] at e3
    simp only [Int.toNat_natCast] at e1 e2 e3
    omega)
  have hat : ∀ u : World, Calls Try.prog 84 #[.int .i64 (n : Int), .int .i64 0] u (Gives u (.int .i64 (x : Int))) := fun u => at_any n 0 _ _ x rfl rfl (by omega) (by omega) hx
  by_cases k1 : n1 = x
  case neg =>
    have HF := hF (by omega)
    have k1' : ((n1 : Int) != (x : Int)) = true := by simp; omega
    clear hF k1
    go_enter Try.func85, Try.ntmps85
    go_wp2_with fail
    go_quiet (first | ((go_at_call 121; first | exact qcall (isSize_any _) | exact qcall_add (isSize_any _))) | ((go_at_call 84; first | exact qcall (hat _) | exact qcall_add (hat _))))
    go_wp2
    go_ret
    exact ⟨by rw [HF.out]; rfl, below_drewN ((Below.refl _ _).alloc (Nat.le_refl _) _) _⟩
  have k1' : ((n1 : Int) != (x : Int)) = false := by simp; omega
  by_cases k2 : n2 = x
  case neg =>
    have HF := hF (by omega)
    have k2' : ((n2 : Int) != (x : Int)) = true := by simp; omega
    clear hF k2
    go_enter Try.func85, Try.ntmps85
    go_wp2_with fail
    go_quiet (first | ((go_at_call 121; first | exact qcall (isSize_any _) | exact qcall_add (isSize_any _))) | ((go_at_call 84; first | exact qcall (hat _) | exact qcall_add (hat _))))
    go_wp2
    go_ret
    exact ⟨by rw [HF.out]; rfl, below_drewN ((Below.refl _ _).alloc (Nat.le_refl _) _) _⟩
  have k2' : ((n2 : Int) != (x : Int)) = false := by simp; omega
  by_cases k3 : n3 = x
  case neg =>
    have HF := hF (by omega)
    have k3' : ((n3 : Int) != (x : Int)) = true := by simp; omega
    clear hF k3
    go_enter Try.func85, Try.ntmps85
    go_wp2_with fail
    go_quiet (first | ((go_at_call 121; first | exact qcall (isSize_any _) | exact qcall_add (isSize_any _))) | ((go_at_call 84; first | exact qcall (hat _) | exact qcall_add (hat _))))
    go_wp2
    go_ret
    exact ⟨by rw [HF.out]; rfl, below_drewN ((Below.refl _ _).alloc (Nat.le_refl _) _) _⟩
  have k3' : ((n3 : Int) != (x : Int)) = false := by simp; omega
  have hlen1 : L.length = x := by rw [h1.1]; omega
  have hlen2 : R.length = x := by rw [h2.1]; omega
  have hlen3 : B.length = x := by rw [h3.1]; omega
  have hSZ : Hid (sizesB n L R B = true) := by
    show sizesB n L R B = true
    rw [sizesB_iff]
    exact ⟨hS, by rw [hlen1]; simp; omega, by rw [hlen2]; simp; omega, by rw [hlen3]; simp; omega⟩
  obtain rfl : n1 = x := by rw [← h1.1]; exact hlen1
  obtain rfl : n2 = n1 := by rw [← h2.1]; exact hlen2
  obtain rfl : n3 = n2 := by rw [← h3.1]; exact hlen3
  have htn : tri n = n3 := by omega
  have htp : 0 < n3 := by have := tri_lt (r := 0) (k := 0) (n := n) (by omega) (by omega); omega
  have hHN : Hid (tri n = n3) := htn
  obtain ⟨ad1, e1, -⟩ := h1.2 htp
  obtain ⟨ad2, e2, -⟩ := h2.2 htp
  obtain ⟨ad3, e3, -⟩ := h3.2 htp
  subst e1 e2 e3
  clear hlen1 hlen2 hlen3 hx htn
  go_enter Try.func85, Try.ntmps85
  go_wp2_with fail
  go_quiet (first | ((go_at_call 121; first | exact qcall (isSize_any _) | exact qcall_add (isSize_any _))) | ((go_at_call 84; first | exact qcall (hat _) | exact qcall_add (hat _))))
  go_wp2_with fail
  refine (triples_any wt).mono ?_
  rintro e w1 ⟨A0, m0, c0, rfl, ht, hm0, bt⟩
  have bw : Below w.heap.size w w1 := bnext (below_drewN ((Below.refl _ _).alloc (Nat.le_refl _) _) _) bt (by simp)
  have HBX : Hid (∀ (j : Nat) (u : Value), [Value.int .i64 (n : Int), .slice (some ad1) n3 c1, .slice (some ad2) n3 c2, .slice (some ad3) n3 c3][j]? = some u → w1.cell? ⟨w.heap.size, j, none⟩ = some u) := by
    intro j u h
    have := new_cells w [Value.int .i64 (n : Int), .slice (some ad1) n3 c1, .slice (some ad2) n3 c2, .slice (some ad3) n3 c3] 53 j u h
    have hadd : (⟨w.heap.size, 0, none⟩ : Addr).add j = ⟨w.heap.size, j, none⟩ := by unfold Addr.add; split <;> simp_all
    rw [hadd] at this
    rw [bt.cell (by simp)]
    simpa using this
  have hz : w.heap.size < w1.heap.size := by have := bt.size; simp at this; omega
  have hw1 := bw.size
  have H1 : ∀ (wr : World) (k : Nat), Below w1.heap.size w1 wr → k < n3 → wr.cell? (ad1.add k) = some (.int .i64 (nth L k)) := fun wr k b hk => by
    obtain ⟨ad, e, hc⟩ := (h1.below (bnext bw b hw1)).cell hk
    obtain rfl := Option.some.inj e
    exact hc
  have H2 : ∀ (wr : World) (k : Nat), Below w1.heap.size w1 wr → k < n3 → wr.cell? (ad2.add k) = some (.int .i64 (nth R k)) := fun wr k b hk => by
    obtain ⟨ad, e, hc⟩ := (h2.below (bnext bw b hw1)).cell hk
    obtain rfl := Option.some.inj e
    exact hc
  have H3 : ∀ (wr : World) (k : Nat), Below w1.heap.size w1 wr → k < n3 → wr.cell? (ad3.add k) = some (.int .i64 (nth B k)) := fun wr k b hk => by
    obtain ⟨ad, e, hc⟩ := (h3.below (bnext bw b hw1)).cell hk
    obtain rfl := Option.some.inj e
    exact hc
  have K1 := Lib.hid H1
  have K2 := Lib.hid H2
  have K3 := Lib.hid H3
  clear H1 H2 H3 hat hF bt k1' k2' k3' k1 k2 k3
  go_wp2
  go_loopw [7, 8, 41, 74] (fun _ _ i _ wr => ∃ r : Nat, r ≤ n ∧ i = .int .i64 (r : Int) ∧ Below w1.heap.size w1 wr ∧ Hid (∀ r', r' < r → rowI wt n L R B r' = true)) (fun _ _ i _ _ => n - (intOf i).toNat)
  case atStart => exact ⟨0, Nat.zero_le _, rfl, Below.refl _ _, fun r' h => by omega⟩
  case round =>
    obtain ⟨r, hr, rfl, hbl, HT⟩ := hrel
    by_cases hlt : r < n
    · -- ROUND
      have hlt' : r < n := hlt
      have hbx1 : wr.cell? ⟨w.heap.size, 1, none⟩ = some (.slice (some ad1) n3 c1) := by rw [hbl.cell (by simpa using hz)]; exact HBX.out 1 _ rfl
      have hbx2 : wr.cell? ⟨w.heap.size, 2, none⟩ = some (.slice (some ad2) n3 c2) := by rw [hbl.cell (by simpa using hz)]; exact HBX.out 2 _ rfl
      have hbx3 : wr.cell? ⟨w.heap.size, 3, none⟩ = some (.slice (some ad3) n3 c3) := by rw [hbl.cell (by simpa using hz)]; exact HBX.out 3 _ rfl
      obtain ⟨a1, ha1⟩ : ∃ a, tri r + 0 = a := ⟨_, rfl⟩
      obtain ⟨a2, ha2⟩ : ∃ a, tri r + r = a := ⟨_, rfl⟩
      obtain ⟨a3, ha3⟩ : ∃ a, tri (n - 1) + r = a := ⟨_, rfl⟩
      have la1 : a1 < n3 := by rw [← hHN.out, ← ha1]; exact tri_lt hlt (by omega)
      have la2 : a2 < n3 := by rw [← hHN.out, ← ha2]; exact tri_lt hlt (by omega)
      have la3 : a3 < n3 := by rw [← hHN.out, ← ha3]; exact tri_lt (by omega) (by omega)
      have q1 := K1.out wr a1 hbl la1
      have q2 := K2.out wr a2 hbl la2
      have q3 := K3.out wr a3 hbl la3
      obtain ⟨l0, hl0⟩ : ∃ v, v = nth L a1 := ⟨_, rfl⟩
      obtain ⟨r0, hr0⟩ : ∃ v, v = nth R a2 := ⟨_, rfl⟩
      obtain ⟨b0, hb0⟩ : ∃ v, v = nth B a3 := ⟨_, rfl⟩
      rw [← hl0] at q1
      rw [← hr0] at q2
      rw [← hb0] at q3
      have EL : Hid (nth L (tri r) = l0) := by show nth L (tri r) = l0; rw [hl0, ← ha1]; rfl
      have ER : Hid (nth R (tri r + r) = r0) := by show nth R (tri r + r) = r0; rw [hr0, ← ha2]
      have EB : Hid (nth B (tri (n - 1) + r) = b0) := by show nth B (tri (n - 1) + r) = b0; rw [hb0, ← ha3]
      clear hl0 hr0 hb0
      have T1 : atI (r : Int) 0 = a1 := atI_eq (k := 0) rfl rfl ha1
      have T2 : atI (r : Int) (r : Int) = a2 := atI_eq rfl rfl ha2
      have T3 : atI ((n : Int) - 1) (r : Int) = a3 := atI_eq (r := n - 1) (by omega) rfl ha3
      clear ha1 ha2 ha3
      by_cases hbad : l0 ≤ 1 ∧ r0 ≤ 1 ∧ b0 ≤ 1
      case neg =>
        have HR : Hid (rowI wt n L R B r = false) := row_no (by rw [EL.out, ER.out, EB.out]; exact hbad)
        have HF : Hid (puzB n L R B wt = false) := puz_no hlt HR.out
        have hor : decide (1 < l0) = true ∨ (decide (1 < l0) = false ∧ decide (1 < r0) = true) ∨ (decide (1 < l0) = false ∧ decide (1 < r0) = false ∧ decide (1 < b0) = true) := by simp; omega
        clear hbad
        rcases hor with g | ⟨g, g'⟩ | ⟨g, g', g''⟩
        all_goals
          go_wp2_with fail
          go_quiet ((go_at_call 84; first | exact qcall (at_gen _ _ (by omega) (by omega) (by omega) (by omega)) | exact qcall_add (at_gen _ _ (by omega) (by omega) (by omega) (by omega))))
          go_wp2
          go_ret
          exact ⟨by rw [HF.out]; rfl, below_drewN (bnext bw hbl hw1) _⟩
      case pos =>
        have HG := Lib.hid hbad
        have g : decide (1 < l0) = false := by simp; omega
        have g' : decide (1 < r0) = false := by simp; omega
        have g'' : decide (1 < b0) = false := by simp; omega
        clear hbad
        obtain ⟨wo, rfl⟩ : ∃ wo : World, wo = wr := ⟨_, rfl⟩
        go_wp2_with fail
        go_quiet ((go_at_call 84; first | exact qcall (at_gen _ _ (by omega) (by omega) (by omega) (by omega)) | exact qcall_add (at_gen _ _ (by omega) (by omega) (by omega) (by omega))))
        clear T1 T2 T3 q1 q2 q3 hbx1 hbx2 hbx3 g g' g''
        go_wp2
        go_loopw [8, 74] (fun _ i wr => ∃ k : Nat, k ≤ r + 1 ∧ i = .int .i64 (k : Int) ∧ Below w1.heap.size w1 wr ∧ Hid (∀ k', k' < k → cellI wt L R B r k' = true)) (fun _ i _ => r + 1 - (intOf i).toNat)
        case atStart => exact ⟨0, Nat.zero_le _, rfl, below_drewN hbl _, fun r' h => by omega⟩
        case round =>
          obtain ⟨k, hk, rfl, hb2, HT2⟩ := hrel
          by_cases hlt2 : k < r + 1
          · have hbx1 : wr.cell? ⟨w.heap.size, 1, none⟩ = some (.slice (some ad1) n3 c1) := by rw [hb2.cell (by simpa using hz)]; exact HBX.out 1 _ rfl
            have hbx2 : wr.cell? ⟨w.heap.size, 2, none⟩ = some (.slice (some ad2) n3 c2) := by rw [hb2.cell (by simpa using hz)]; exact HBX.out 2 _ rfl
            have hbx3 : wr.cell? ⟨w.heap.size, 3, none⟩ = some (.slice (some ad3) n3 c3) := by rw [hb2.cell (by simpa using hz)]; exact HBX.out 3 _ rfl
            obtain ⟨y, hy⟩ : ∃ a, tri r + k = a := ⟨_, rfl⟩
            have ly : y < n3 := by rw [← hHN.out, ← hy]; exact tri_lt hlt' (by omega)
            have q1 := K1.out wr y hb2 ly
            have q2 := K2.out wr y hb2 ly
            have q3 := K3.out wr y hb2 ly
            obtain ⟨l, hl⟩ : ∃ v, v = nth L y := ⟨_, rfl⟩
            obtain ⟨rr, hrr⟩ : ∃ v, v = nth R y := ⟨_, rfl⟩
            obtain ⟨b, hb⟩ : ∃ v, v = nth B y := ⟨_, rfl⟩
            rw [← hl] at q1
            rw [← hrr] at q2
            rw [← hb] at q3
            have FL : Hid (nth L (tri r + k) = l) := by show nth L (tri r + k) = l; rw [hl, ← hy]
            have FR_ : Hid (nth R (tri r + k) = rr) := by show nth R (tri r + k) = rr; rw [hrr, ← hy]
            have FB : Hid (nth B (tri r + k) = b) := by show nth B (tri r + k) = b; rw [hb, ← hy]
            clear hl hrr hb
            have TA : atI (r : Int) (k : Int) = y := atI_eq rfl rfl hy
            rcases hA : hasT (trips wt) l rr b
            case false =>
              have HC : Hid (cellI wt L R B r k = false) := cell_no1 (by rw [FL.out, FR_.out, FB.out]; exact hA)
              have HF : Hid (puzB n L R B wt = false) := puz_no hlt' (row_cell (by omega) HC.out)
              go_wp2_with fail
              refine wp_region_still_tail 23 (by kernel_rfl) (by kernel_rfl) ?_
              simp only [List.take_succ_cons, List.take_zero, List.drop_succ_cons, List.drop_zero]
              iterate 5 still_step
              still_call (at_gen_eq _ _ (by omega) (by omega) (by omega) (by omega))
              iterate 6 still_step
              still_call (at_gen_eq _ _ (by omega) (by omega) (by omega) (by omega))
              iterate 6 still_step
              still_call (at_gen_eq _ _ (by omega) (by omega) (by omega) (by omega))
              iterate 3 still_step
              refine wpStill_nil ?_
              change wpList _ _ _ _ _ (wr).drew
              obtain ⟨w2, hw2⟩ : ∃ w2, w2 = (wr).drew := ⟨_, rfl⟩
              have b2 : Below w1.heap.size w1 w2 := by rw [hw2]; exact hb2.drew
              rw [← hw2]
              clear hw2
              go_wp2_with (go_at_call 122; refine (containsT_any _ _ _ _ (ht.below b2) (by omega)).mono ?_; rintro e w3 ⟨rfl, b3⟩)
              go_ret
              exact ⟨by rw [HF.out]; rfl, bnext (bnext bw b2 hw1) b3 (Nat.le_trans hw1 b2.size)⟩
            case true =>
              have HA := Lib.hid hA
              obtain ⟨wp, rfl⟩ : ∃ wp : World, wp = wr := ⟨_, rfl⟩
              go_wp2_with fail
              refine wp_region_still_tail 23 (by kernel_rfl) (by kernel_rfl) ?_
              simp only [List.take_succ_cons, List.take_zero, List.drop_succ_cons, List.drop_zero]
              iterate 5 still_step
              still_call (at_gen_eq _ _ (by omega) (by omega) (by omega) (by omega))
              iterate 6 still_step
              still_call (at_gen_eq _ _ (by omega) (by omega) (by omega) (by omega))
              iterate 6 still_step
              still_call (at_gen_eq _ _ (by omega) (by omega) (by omega) (by omega))
              iterate 3 still_step
              refine wpStill_nil ?_
              change wpList _ _ _ _ _ (wp).drew
              obtain ⟨w2, hw2⟩ : ∃ w2, w2 = (wp).drew := ⟨_, rfl⟩
              have b2 : Below w1.heap.size w1 w2 := by rw [hw2]; exact hb2.drew
              rw [← hw2]
              clear hw2
              go_wp2_with (go_at_call 122; refine (containsT_any _ _ _ _ (ht.below b2) (by omega)).mono ?_; rintro e w3 ⟨rfl, b3⟩)
              clear hA TA q1 q2 q3 hbx1 hbx2 hbx3
              have hb4 := bnext b2 b3 b2.size
              by_cases hkr : k < r
              case neg =>
                have HC : Hid (cellI wt L R B r k = true) := cell_yes (by rw [FL.out, FR_.out, FB.out]; exact HA.out) (fun h => absurd h hkr)
                go_quiet (fail)
                go_wp2
                go_roundw
                case rel => exact ⟨k + 1, by omega, by go_num, by first | exact hb4 | exact below_drewN hb4 _, upTo (P := fun k' => cellI wt L R B r k' = true) HT2.out HC.out⟩
                case measure => simp [intOf]; omega
              case pos =>
                have hbx1 : w3.cell? ⟨w.heap.size, 1, none⟩ = some (.slice (some ad1) n3 c1) := by rw [hb4.cell (by simpa using hz)]; exact HBX.out 1 _ rfl
                have hbx2 : w3.cell? ⟨w.heap.size, 2, none⟩ = some (.slice (some ad2) n3 c2) := by rw [hb4.cell (by simpa using hz)]; exact HBX.out 2 _ rfl
                have hbx3 : w3.cell? ⟨w.heap.size, 3, none⟩ = some (.slice (some ad3) n3 c3) := by rw [hb4.cell (by simpa using hz)]; exact HBX.out 3 _ rfl
                obtain ⟨y1, hy1⟩ : ∃ a, tri r + (k + 1) = a := ⟨_, rfl⟩
                obtain ⟨y2, hy2⟩ : ∃ a, tri (r - 1) + k = a := ⟨_, rfl⟩
                have ly1 : y1 < n3 := by rw [← hHN.out, ← hy1]; exact tri_lt hlt' (by omega)
                have ly2 : y2 < n3 := by rw [← hHN.out, ← hy2]; exact tri_lt (by omega) (by omega)
                have q1 := K1.out w3 y1 hb4 ly1
                have q2 := K2.out w3 y hb4 ly
                have q3 := K3.out w3 y2 hb4 ly2
                obtain ⟨l', hl⟩ : ∃ v, v = nth L y1 := ⟨_, rfl⟩
                obtain ⟨b', hb⟩ : ∃ v, v = nth B y2 := ⟨_, rfl⟩
                rw [← hl] at q1
                rw [show nth R y = rr by rw [← hy]; exact FR_.out] at q2
                rw [← hb] at q3
                have GL : Hid (nth L (tri r + (k + 1)) = l') := by show nth L _ = l'; rw [hl, ← hy1]
                have GB : Hid (nth B (tri (r - 1) + k) = b') := by show nth B _ = b'; rw [hb, ← hy2]
                clear hl hb
                have TA : atI (r : Int) ((k : Int) + 1) = y1 := atI_eq (k := k + 1) rfl (by omega) hy1
                have TB : atI (r : Int) (k : Int) = y := atI_eq rfl rfl hy
                have TC : atI ((r : Int) - 1) (k : Int) = y2 := atI_eq (r := r - 1) (by omega) rfl hy2
                have hwp1 : IntKind.i64.wrap ((k : Int) + 1) = (k : Int) + 1 := IntWalk.i64_in _ (by omega)
                have hwp2 : IntKind.i64.wrap ((r : Int) - 1) = (r : Int) - 1 := IntWalk.i64_in _ (by omega)
                rcases hA : hasT (trips wt) l' rr b'
                case false =>
                  have HC : Hid (cellI wt L R B r k = false) := cell_no2 hkr (by rw [GL.out, FR_.out, GB.out]; exact hA)
                  have HF : Hid (puzB n L R B wt = false) := puz_no hlt' (row_cell (by omega) HC.out)
                  go_wp2_with fail
                  refine wp_region_still_tail 29 (by kernel_rfl) (by kernel_rfl) ?_
                  simp only [List.take_succ_cons, List.take_zero, List.drop_succ_cons, List.drop_zero]
                  iterate 10 still_step
                  still_call (at_gen_eq _ _ (by omega) (by omega) (by omega) (by omega))
                  iterate 6 still_step
                  still_call (at_gen_eq _ _ (by omega) (by omega) (by omega) (by omega))
                  iterate 7 still_step
                  still_call (at_gen_eq _ _ (by omega) (by omega) (by omega) (by omega))
                  iterate 3 still_step
                  refine wpStill_nil ?_
                  change wpList _ _ _ _ _ (w3).drew
                  obtain ⟨w4, hw2⟩ : ∃ w4, w4 = (w3).drew := ⟨_, rfl⟩
                  have b4 : Below w1.heap.size w1 w4 := by rw [hw2]; exact hb4.drew
                  rw [← hw2]
                  clear hw2
                  go_wp2_with (go_at_call 122; refine (containsT_any _ _ _ _ (ht.below b4) (by omega)).mono ?_; rintro e w5 ⟨rfl, b5⟩)
                  go_ret
                  exact ⟨by rw [HF.out]; rfl, bnext (bnext bw b4 hw1) b5 (Nat.le_trans hw1 b4.size)⟩
                case true =>
                  have HC : Hid (cellI wt L R B r k = true) := cell_yes (by rw [FL.out, FR_.out, FB.out]; exact HA.out) (fun _ => by rw [GL.out, FR_.out, GB.out]; exact hA)
                  go_wp2_with fail
                  refine wp_region_still_tail 29 (by kernel_rfl) (by kernel_rfl) ?_
                  simp only [List.take_succ_cons, List.take_zero, List.drop_succ_cons, List.drop_zero]
                  iterate 10 still_step
                  still_call (at_gen_eq _ _ (by omega) (by omega) (by omega) (by omega))
                  iterate 6 still_step
                  still_call (at_gen_eq _ _ (by omega) (by omega) (by omega) (by omega))
                  iterate 7 still_step
                  still_call (at_gen_eq _ _ (by omega) (by omega) (by omega) (by omega))
                  iterate 3 still_step
                  refine wpStill_nil ?_
                  change wpList _ _ _ _ _ (w3).drew
                  obtain ⟨w4, hw2⟩ : ∃ w4, w4 = (w3).drew := ⟨_, rfl⟩
                  have b4 : Below w1.heap.size w1 w4 := by rw [hw2]; exact hb4.drew
                  rw [← hw2]
                  clear hw2
                  go_wp2_with (go_at_call 122; refine (containsT_any _ _ _ _ (ht.below b4) (by omega)).mono ?_; rintro e w5 ⟨rfl, b5⟩)
                  go_roundw
                  case rel => exact ⟨k + 1, by omega, by go_num, bnext b4 b5 b4.size, upTo (P := fun k' => cellI wt L R B r k' = true) HT2.out HC.out⟩
                  case measure => simp [intOf]; omega
          · obtain rfl : k = r + 1 := by omega
            have HR : Hid (rowI wt n L R B r = true) := row_yes (by rw [EL.out, ER.out, EB.out]; exact HG.out) HT2.out
            go_wp2
            go_roundw
            case rel => exact ⟨r + 1, by omega, by go_num, by first | exact hb2 | exact below_drewN hb2 _, upTo (P := fun k' => rowI wt n L R B k' = true) HT.out HR.out⟩
            case measure => simp [intOf]; omega
    · obtain rfl : r = n := by omega
      go_wp2
      go_ret
      exact ⟨by rw [puz_yes hSZ.out HT.out]; rfl, bnext bw hbl hw1⟩
end Go.Proofs.Ytnljlophgolejaa
