/- l5Ok of the reference. -/
import Derived.Test.YtemafljipkcgcaaPuzI
namespace Go.Proofs.Ytemafljipkcgcaa
open Go.RowKit

theorem puzS_no {n r k : Nat} {L R B : List Int} {wt : Bool} (hr : r < n) (hk : k ≤ r) (h : cellS wt n L R B r k = false) : puzS n L R B wt = false := by
  rw [puzS, Int.toNat_natCast, allB_no (p := fun r => allB (cellS wt n L R B r) (r + 1)) hr (allB_no (show k < r + 1 by omega) h), Bool.and_false]
theorem puzS_yes {n : Nat} {L R B : List Int} {wt : Bool} (hs : sizesB n L R B = true) (h : ∀ r, r < n → ∀ k, k < r + 1 → cellS wt n L R B r k = true) : puzS n L R B wt = true := by
  rw [puzS, hs, Int.toNat_natCast, allB_iff.2 fun r hr => allB_iff.2 (h r hr)]; rfl
theorem cellS_T {wt : Bool} {n r k : Nat} {L R B : List Int} (h : cellS wt n L R B r k = true) : hasT (trips wt) (nth L (tri r + k)) (nth R (tri r + k)) (nth B (tri r + k)) = true := by
  unfold cellS at h
  rw [Bool.and_eq_true] at h
  exact h.1
theorem cellS_no1 {wt : Bool} {n r k : Nat} {L R B : List Int} {l rr b : Int} (e1 : nth L (tri r + k) = l) (e2 : nth R (tri r + k) = rr) (e3 : nth B (tri r + k) = b)
    (h : ¬((0 ≤ l ∧ l ≤ 2) ∧ (0 ≤ rr ∧ rr ≤ 2) ∧ 0 ≤ b ∧ upB l rr wt = b)) : cellS wt n L R B r k = false := by
  rw [← Bool.not_eq_true]
  intro h'
  have := cellS_T h'
  rw [e1, e2, e3, hasT_up] at this
  exact h this
theorem bimp {p q : Prop} [Decidable p] [Decidable q] : (!decide p || decide q) = true ↔ (p → q) := by by_cases h : p <;> simp [h]
theorem bimp2 {p q : Prop} [Decidable p] [Decidable q] : (!(decide p && !decide q)) = true ↔ (p → q) := by by_cases h : p <;> simp [h]
theorem cellS_iff {wt : Bool} {n r k : Nat} {L R B : List Int} {l rr b : Int} (e1 : nth L (tri r + k) = l) (e2 : nth R (tri r + k) = rr) (e3 : nth B (tri r + k) = b) :
    cellS wt n L R B r k = true ↔ ((0 ≤ l ∧ l ≤ 2) ∧ (0 ≤ rr ∧ rr ≤ 2) ∧ 0 ≤ b ∧ upB l rr wt = b) ∧ (k < r → downB rr (nth B (tri (r - 1) + k)) = nth L (tri r + (k + 1))) ∧ (r + 1 = n → b ≤ 1) ∧ (k = 0 → l ≤ 1) ∧ (k = r → rr ≤ 1) := by
  unfold cellS
  rw [e1, e2, e3]
  simp only [Bool.and_eq_true, hasT_up, bimp, bimp2]

set_option maxRecDepth 4000 in
set_option maxHeartbeats 4000000 in
theorem l5Ok_any {A1 A2 A3 : Option Addr} {n1 n2 n3 : Nat} {L R B : List Int} {w : World} (c1 c2 c3 : Nat) (S : Int) (wt : Bool) (h1 : RI w A1 n1 L) (h2 : RI w A2 n2 R) (h3 : RI w A3 n3 B)
    (m1 : n1 ≤ 1000000000) (m2 : n2 ≤ 1000000000) (m3 : n3 ≤ 1000000000) :
    Calls Try.prog 70 #[.agg #[.int .i64 S, .slice A1 n1 c1, .slice A2 n2 c2, .slice A3 n3 c3], .bool wt] w (GivesB w (.bool (puzS S L R B wt))) := by
  rcases hS : inB S 1 7 with _ | _
  · have HF : Hid (puzS S L R B wt = false) := by show puzS S L R B wt = false; simp [puzS, sizesB, hS]
    go_enter Try.func70, Try.ntmps70
    go_wp2_with (go_at_call 102; refine (l1In_any _ _ _).mono ?_; rintro e w' ⟨rfl, q0, rfl⟩)
    go_ret
    exact ⟨by rw [HF.out]; rfl, below_drewN ((Below.refl _ _).alloc (Nat.le_refl _) _) _⟩
  obtain ⟨s1, s2⟩ := inB_iff.1 hS
  obtain ⟨n, rfl⟩ := Int.eq_ofNat_of_zero_le (a := S) (by omega)
  obtain ⟨x, hx⟩ : ∃ x, tri n + 0 = x := ⟨_, rfl⟩
  have hx1 : tri n ≤ 36 := tri_small (by omega)
  have hx2 : x ≤ 36 := by omega
  have hml : (n : Int) * ((n : Int) + 1) / 2 = (x : Int) := by rw [tri_cast, ← hx]; simp
  have hm2 : (n : Int) * ((n : Int) + 1) ≤ 72 := by
    have := Nat.mul_le_mul (show n ≤ 8 by omega) (show n + 1 ≤ 9 by omega)
    have e : (n : Int) * ((n : Int) + 1) = ((n * (n + 1) : Nat) : Int) := by simp
    omega
  have hm3 : 0 ≤ (n : Int) * ((n : Int) + 1) := Int.mul_nonneg (by omega) (by omega)
  have HSI := Lib.hid hS
  have hF : ∀ (h : ¬(n1 = x ∧ n2 = x ∧ n3 = x)), Hid (puzS n L R B wt = false) := fun h => (puzS_eq _ _ _ _ _).trans (puz_sizes (by
    rw [← Bool.not_eq_true, sizesB_iff]
    rintro ⟨_, e1, e2, e3⟩
    rw [h1.1] at e1; rw [h2.1] at e2; rw [h3.1] at e3
    simp only [Int.toNat_natCast] at e1 e2 e3
    omega))
  by_cases k1 : n1 = x
  case neg =>
    have HF := hF (by omega)
    have k1' : ((n1 : Int) != (x : Int)) = true := by simp; omega
    clear hF k1
    go_enter Try.func70, Try.ntmps70
    go_wp2_with (go_at_call 102; refine (l1In_any _ _ _).mono ?_; rintro e w' ⟨rfl, q0, rfl⟩)
    go_ret
    exact ⟨by rw [HF.out]; rfl, by first | exact below_drewN ((Below.refl _ _).alloc (Nat.le_refl _) _) _ | exact below_drewN (below_drewN ((Below.refl _ _).alloc (Nat.le_refl _) _) _) _⟩
  have k1' : ((n1 : Int) != (x : Int)) = false := by simp; omega
  by_cases k2 : n2 = x
  case neg =>
    have HF := hF (by omega)
    have k2' : ((n2 : Int) != (x : Int)) = true := by simp; omega
    clear hF k2
    go_enter Try.func70, Try.ntmps70
    go_wp2_with (go_at_call 102; refine (l1In_any _ _ _).mono ?_; rintro e w' ⟨rfl, q0, rfl⟩)
    go_ret
    exact ⟨by rw [HF.out]; rfl, by first | exact below_drewN ((Below.refl _ _).alloc (Nat.le_refl _) _) _ | exact below_drewN (below_drewN ((Below.refl _ _).alloc (Nat.le_refl _) _) _) _⟩
  have k2' : ((n2 : Int) != (x : Int)) = false := by simp; omega
  by_cases k3 : n3 = x
  case neg =>
    have HF := hF (by omega)
    have k3' : ((n3 : Int) != (x : Int)) = true := by simp; omega
    clear hF k3
    go_enter Try.func70, Try.ntmps70
    go_wp2_with (go_at_call 102; refine (l1In_any _ _ _).mono ?_; rintro e w' ⟨rfl, q0, rfl⟩)
    go_ret
    exact ⟨by rw [HF.out]; rfl, by first | exact below_drewN ((Below.refl _ _).alloc (Nat.le_refl _) _) _ | exact below_drewN (below_drewN ((Below.refl _ _).alloc (Nat.le_refl _) _) _) _⟩
  have k3' : ((n3 : Int) != (x : Int)) = false := by simp; omega
  have hlen1 : L.length = x := by rw [h1.1]; omega
  have hlen2 : R.length = x := by rw [h2.1]; omega
  have hlen3 : B.length = x := by rw [h3.1]; omega
  have hSZ : Hid (sizesB n L R B = true) := by
    show sizesB n L R B = true
    rw [sizesB_iff]
    exact ⟨hS, by rw [hlen1]; simp; omega, by rw [hlen2]; simp; omega, by rw [hlen3]; simp; omega⟩
  obtain rfl : n1 = x := by rw [← h1.1]; exact hlen1
  obtain rfl : n2 = n1 := by rw [← h2.1]; exact hlen2
  obtain rfl : n3 = n2 := by rw [← h3.1]; exact hlen3
  have htn : tri n = n3 := by omega
  have htp : 0 < n3 := by have := tri_lt (r := 0) (k := 0) (n := n) (by omega) (by omega); omega
  have hHN : Hid (tri n = n3) := htn
  obtain ⟨ad1, e1, -⟩ := h1.2 htp
  obtain ⟨ad2, e2, -⟩ := h2.2 htp
  obtain ⟨ad3, e3, -⟩ := h3.2 htp
  subst e1 e2 e3
  clear hlen1 hlen2 hlen3 hx htn hF
  go_enter Try.func70, Try.ntmps70
  go_wp2_with (go_at_call 102; refine (l1In_any _ _ _).mono ?_; rintro e w' ⟨rfl, q0, rfl⟩)
  obtain ⟨w1, hw1e⟩ : ∃ w1 : World, w1 = (w.alloc (.cells #[.int .i64 (n : Int), .slice (some ad1) n3 c1, .slice (some ad2) n3 c2, .slice (some ad3) n3 c3] 27)).drewN q0 := ⟨_, rfl⟩
  have bb : Below w.heap.size w w1 := by rw [hw1e]; exact below_drewN ((Below.refl _ _).alloc (Nat.le_refl _) _) _
  have HBX : Hid (∀ (j : Nat) (u : Value), [Value.int .i64 (n : Int), .slice (some ad1) n3 c1, .slice (some ad2) n3 c2, .slice (some ad3) n3 c3][j]? = some u → w1.cell? ⟨w.heap.size, j, none⟩ = some u) := by
    intro j u h
    have := new_cells w [Value.int .i64 (n : Int), .slice (some ad1) n3 c1, .slice (some ad2) n3 c2, .slice (some ad3) n3 c3] 27 j u h
    have hadd : (⟨w.heap.size, 0, none⟩ : Addr).add j = ⟨w.heap.size, j, none⟩ := by unfold Addr.add; split <;> simp_all
    rw [hadd] at this
    rw [hw1e]
    simpa using this
  rw [← hw1e]
  clear hw1e
  have hbx0 := HBX.out 0 _ rfl
  have hbx1 := HBX.out 1 _ rfl
  have hbx2 := HBX.out 2 _ rfl
  have hbx3 := HBX.out 3 _ rfl
  have K1 : Hid (∀ k, k < n3 → w1.cell? (ad1.add k) = some (.int .i64 (nth L k))) := fun k hk => by
    obtain ⟨ad, e, hc⟩ := (h1.below bb).cell hk
    obtain rfl := Option.some.inj e
    exact hc
  have K2 : Hid (∀ k, k < n3 → w1.cell? (ad2.add k) = some (.int .i64 (nth R k))) := fun k hk => by
    obtain ⟨ad, e, hc⟩ := (h2.below bb).cell hk
    obtain rfl := Option.some.inj e
    exact hc
  have K3 : Hid (∀ k, k < n3 → w1.cell? (ad3.add k) = some (.int .i64 (nth B k))) := fun k hk => by
    obtain ⟨ad, e, hc⟩ := (h3.below bb).cell hk
    obtain rfl := Option.some.inj e
    exact hc
  clear k1 k2 k3 k1' k2' k3' hml hm2 hm3
  go_loopw [6, 7, 8] (fun i _ _ wr => ∃ r : Nat, r ≤ n ∧ i = .int .i64 (r : Int) ∧ Quiet w1 wr ∧ Hid (∀ r', r' < r → ∀ k, k < r' + 1 → cellS wt n L R B r' k = true)) (fun i _ _ _ => n - (intOf i).toNat)
  case atStart => exact ⟨0, Nat.zero_le _, rfl, (by first | exact ⟨_, rfl⟩ | exact ⟨_, (World.drewN_drewN _ _ _).symm⟩ | exact Quiet.refl _ | (simp only [World.drewN_drewN]; exact ⟨_, rfl⟩)), fun r' h => by omega⟩
  case round =>
    obtain ⟨r, hr, rfl, ⟨q, rfl⟩, HT⟩ := hrel
    by_cases hlt : r < n
    · have hlt' : r < n := hlt
      go_wp2
      go_loopw [7, 8] (fun i _ wr => ∃ k : Nat, k ≤ r + 1 ∧ i = .int .i64 (k : Int) ∧ Quiet w1 wr ∧ Hid (∀ k', k' < k → cellS wt n L R B r k' = true)) (fun i _ _ => r + 1 - (intOf i).toNat)
      case atStart => exact ⟨0, Nat.zero_le _, rfl, (by first | exact ⟨_, rfl⟩ | exact ⟨_, (World.drewN_drewN _ _ _).symm⟩ | exact Quiet.refl _ | (simp only [World.drewN_drewN]; exact ⟨_, rfl⟩)), fun r' h => by omega⟩
      case round =>
        obtain ⟨k, hk, rfl, ⟨q, rfl⟩, HT2⟩ := hrel
        by_cases hlt2 : k < r + 1
        · obtain ⟨y, hy⟩ : ∃ a, tri r + k = a := ⟨_, rfl⟩
          have ly : y < n3 := by rw [← hHN.out, ← hy]; exact tri_lt hlt' (by omega)
          have q1 := K1.out y ly
          have q2 := K2.out y ly
          have q3 := K3.out y ly
          obtain ⟨l, hl⟩ : ∃ v, v = nth L y := ⟨_, rfl⟩
          obtain ⟨rr, hrr⟩ : ∃ v, v = nth R y := ⟨_, rfl⟩
          obtain ⟨b, hb⟩ : ∃ v, v = nth B y := ⟨_, rfl⟩
          rw [← hl] at q1
          rw [← hrr] at q2
          rw [← hb] at q3
          have FL : Hid (nth L (tri r + k) = l) := by show nth L (tri r + k) = l; rw [hl, ← hy]
          have FR_ : Hid (nth R (tri r + k) = rr) := by show nth R (tri r + k) = rr; rw [hrr, ← hy]
          have FB : Hid (nth B (tri r + k) = b) := by show nth B (tri r + k) = b; rw [hb, ← hy]
          clear hl hrr hb
          have TA : atI (r : Int) (k : Int) = y := atI_eq rfl rfl hy
          rcases z1 : inB l 0 2 with _ | _
          · have HF : Hid (puzS n L R B wt = false) := puzS_no hlt' (show k ≤ r by omega) (cellS_no1 FL.out FR_.out FB.out (by rintro ⟨x1, x2, x3, x4⟩; rw [inB_yes x1.1 x1.2] at z1; cases z1))
            go_wp2_with (go_at_call 79; refine (place_gen _ _ (by omega) (by omega) (by omega) (by omega)).mono ?_; rintro e w' ⟨rfl, q0, rfl⟩)
            go_quiet ((go_at_call 102; first | exact qcall (l1In_any _ _ _) | exact qcall_add (l1In_any _ _ _)))
            go_wp2
            go_ret
            exact ⟨by rw [HF.out]; rfl, by first | exact below_drewN bb _ | (simp only [World.drewN_drewN]; exact below_drewN bb _)⟩
          have HIL : Hid (0 ≤ l ∧ l ≤ 2) := inB_iff.1 z1
          rcases z2 : inB rr 0 2 with _ | _
          · have HF : Hid (puzS n L R B wt = false) := puzS_no hlt' (show k ≤ r by omega) (cellS_no1 FL.out FR_.out FB.out (by rintro ⟨x1, x2, x3, x4⟩; rw [inB_yes x2.1 x2.2] at z2; cases z2))
            go_wp2_with (go_at_call 79; refine (place_gen _ _ (by omega) (by omega) (by omega) (by omega)).mono ?_; rintro e w' ⟨rfl, q0, rfl⟩)
            go_quiet ((go_at_call 102; first | exact qcall (l1In_any _ _ _) | exact qcall_add (l1In_any _ _ _)))
            go_wp2
            go_ret
            exact ⟨by rw [HF.out]; rfl, by first | exact below_drewN bb _ | (simp only [World.drewN_drewN]; exact below_drewN bb _)⟩
          have HIR : Hid (0 ≤ rr ∧ rr ≤ 2) := inB_iff.1 z2
          by_cases y3 : b < 0
          · have HF : Hid (puzS n L R B wt = false) := puzS_no hlt' (show k ≤ r by omega) (cellS_no1 FL.out FR_.out FB.out (by rintro ⟨x1, x2, x3, x4⟩; omega))
            have z3 : decide (b < 0) = true := by simpa using y3
            go_wp2_with (go_at_call 79; refine (place_gen _ _ (by omega) (by omega) (by omega) (by omega)).mono ?_; rintro e w' ⟨rfl, q0, rfl⟩)
            go_quiet ((go_at_call 102; first | exact qcall (l1In_any _ _ _) | exact qcall_add (l1In_any _ _ _)))
            go_wp2
            go_ret
            exact ⟨by rw [HF.out]; rfl, by first | exact below_drewN bb _ | (simp only [World.drewN_drewN]; exact below_drewN bb _)⟩
          have z3 : decide (b < 0) = false := by simpa using y3
          have Y3 := Lib.hid y3
          clear y3
          by_cases y4 : upB l rr wt = b
          case neg =>
            have HF : Hid (puzS n L R B wt = false) := puzS_no hlt' (show k ≤ r by omega) (cellS_no1 FL.out FR_.out FB.out (by rintro ⟨x1, x2, x3, x4⟩; exact y4 x4))
            have z4 : (upB l rr wt != b) = true := by simpa using y4
            clear y4
            go_wp2_with (go_at_call 79; refine (place_gen _ _ (by omega) (by omega) (by omega) (by omega)).mono ?_; rintro e w' ⟨rfl, q0, rfl⟩)
            go_quiet (first | ((go_at_call 102; first | exact qcall (l1In_any _ _ _) | exact qcall_add (l1In_any _ _ _))) | ((go_at_call 117; first | exact qcall (up_any _ _ _ HIL.out HIR.out) | exact qcall_add (up_any _ _ _ HIL.out HIR.out))))
            go_wp2
            go_ret
            exact ⟨by rw [HF.out]; rfl, by first | exact below_drewN bb _ | (simp only [World.drewN_drewN]; exact below_drewN bb _)⟩
          case pos =>
            have HB0 : Hid (((0 ≤ l ∧ l ≤ 2) ∧ (0 ≤ rr ∧ rr ≤ 2) ∧ 0 ≤ b ∧ upB l rr wt = b)) := ⟨HIL.out, HIR.out, by have := Y3.out; omega, y4⟩
            have z4 : (upB l rr wt != b) = false := by simpa using y4
            clear y4
            by_cases hkr : k < r
            case neg =>
              go_wp2_with (go_at_call 79; refine (place_gen _ _ (by omega) (by omega) (by omega) (by omega)).mono ?_; rintro e w' ⟨rfl, q0, rfl⟩)
              go_quiet (first | ((go_at_call 102; first | exact qcall (l1In_any _ _ _) | exact qcall_add (l1In_any _ _ _))) | ((go_at_call 117; first | exact qcall (up_any _ _ _ HIL.out HIR.out) | exact qcall_add (up_any _ _ _ HIL.out HIR.out))))
              go_wp2_with fail
              go_quiet (fail)
              go_wp2
              all_goals first
                | (exfalso; omega)
                | (go_ret
                   exact ⟨by rw [puzS_no hlt' (show k ≤ r by omega) (by
                     rw [← Bool.not_eq_true, cellS_iff FL.out FR_.out FB.out]
                     rintro ⟨_, _, x1, x2, x3⟩
                     omega)]; rfl, by first | exact below_drewN bb _ | (simp only [World.drewN_drewN]; exact below_drewN bb _)⟩)
                | (have HC : Hid (cellS wt n L R B r k = true) := by
                     show cellS wt n L R B r k = true
                     rw [cellS_iff FL.out FR_.out FB.out]
                     exact ⟨HB0.out, fun h => absurd h hkr, by omega, by omega, by omega⟩
                   go_roundw
                   case rel => exact ⟨k + 1, by omega, by go_num, (by first | exact ⟨_, rfl⟩ | exact ⟨_, (World.drewN_drewN _ _ _).symm⟩ | exact Quiet.refl _ | (simp only [World.drewN_drewN]; exact ⟨_, rfl⟩)), upTo (P := fun k' => cellS wt n L R B r k' = true) HT2.out HC.out⟩
                   case measure => simp [intOf]; omega)
            case pos =>
              obtain ⟨y1, hy1⟩ : ∃ a, tri r + (k + 1) = a := ⟨_, rfl⟩
              obtain ⟨y2, hy2⟩ : ∃ a, tri (r - 1) + k = a := ⟨_, rfl⟩
              have ly1 : y1 < n3 := by rw [← hHN.out, ← hy1]; exact tri_lt hlt' (by omega)
              have ly2 : y2 < n3 := by rw [← hHN.out, ← hy2]; exact tri_lt (by omega) (by omega)
              have q4 := K1.out y1 ly1
              have q5 := K3.out y2 ly2
              obtain ⟨l', hl⟩ : ∃ v, v = nth L y1 := ⟨_, rfl⟩
              obtain ⟨b', hb⟩ : ∃ v, v = nth B y2 := ⟨_, rfl⟩
              rw [← hl] at q4
              rw [← hb] at q5
              have GL : Hid (nth L (tri r + (k + 1)) = l') := by show nth L _ = l'; rw [hl, ← hy1]
              have GB : Hid (nth B (tri (r - 1) + k) = b') := by show nth B _ = b'; rw [hb, ← hy2]
              clear hl hb
              have HIB : Hid (0 ≤ b' ∧ b' ≤ 3) := by
                have := (up_range (cellS_T (HT.out (r - 1) (by omega) k (by omega)))).2.2.1
                rw [GB.out] at this
                exact this
              have TB : atI (r : Int) ((k : Int) + 1) = y1 := atI_eq (k := k + 1) rfl (by omega) hy1
              have TC : atI ((r : Int) - 1) (k : Int) = y2 := atI_eq (r := r - 1) (by omega) rfl hy2
              by_cases y5 : downB rr b' = l'
              case neg =>
                have HF : Hid (puzS n L R B wt = false) := puzS_no hlt' (show k ≤ r by omega) (by
                  rw [← Bool.not_eq_true, cellS_iff FL.out FR_.out FB.out, GB.out, GL.out]
                  rintro ⟨_, x, _⟩
                  exact y5 (x hkr))
                have z5 : (downB rr b' != l') = true := by simpa using y5
                clear y5
                go_wp2_with (go_at_call 79; refine (place_gen _ _ (by omega) (by omega) (by omega) (by omega)).mono ?_; rintro e w' ⟨rfl, q0, rfl⟩)
                go_quiet (first | ((go_at_call 102; first | exact qcall (l1In_any _ _ _) | exact qcall_add (l1In_any _ _ _))) | ((go_at_call 117; first | exact qcall (up_any _ _ _ HIL.out HIR.out) | exact qcall_add (up_any _ _ _ HIL.out HIR.out))))
                go_wp2_with fail
                go_quiet (first | ((go_at_call 79; first | exact qcall (place_gen _ _ (by omega) (by omega) (by omega) (by omega)) | exact qcall_add (place_gen _ _ (by omega) (by omega) (by omega) (by omega)))) | ((go_at_call 118; first | exact qcall (down_any _ _ HIR.out HIB.out) | exact qcall_add (down_any _ _ HIR.out HIB.out))))
                go_wp2
                go_ret
                exact ⟨by rw [HF.out]; rfl, by first | exact below_drewN bb _ | (simp only [World.drewN_drewN]; exact below_drewN bb _)⟩
              case pos =>
                have HD := Lib.hid y5
                have z5 : (downB rr b' != l') = false := by simpa using y5
                clear y5
                go_wp2_with (go_at_call 79; refine (place_gen _ _ (by omega) (by omega) (by omega) (by omega)).mono ?_; rintro e w' ⟨rfl, q0, rfl⟩)
                go_quiet (first | ((go_at_call 102; first | exact qcall (l1In_any _ _ _) | exact qcall_add (l1In_any _ _ _))) | ((go_at_call 117; first | exact qcall (up_any _ _ _ HIL.out HIR.out) | exact qcall_add (up_any _ _ _ HIL.out HIR.out))))
                go_wp2_with fail
                go_quiet (first | ((go_at_call 79; first | exact qcall (place_gen _ _ (by omega) (by omega) (by omega) (by omega)) | exact qcall_add (place_gen _ _ (by omega) (by omega) (by omega) (by omega)))) | ((go_at_call 118; first | exact qcall (down_any _ _ HIR.out HIB.out) | exact qcall_add (down_any _ _ HIR.out HIB.out))))
                go_wp2
                all_goals first
                  | (exfalso; omega)
                  | (go_ret
                     exact ⟨by rw [puzS_no hlt' (show k ≤ r by omega) (by
                       rw [← Bool.not_eq_true, cellS_iff FL.out FR_.out FB.out]
                       rintro ⟨_, _, x1, x2, x3⟩
                       omega)]; rfl, by first | exact below_drewN bb _ | (simp only [World.drewN_drewN]; exact below_drewN bb _)⟩)
                  | (have HC : Hid (cellS wt n L R B r k = true) := by
                       show cellS wt n L R B r k = true
                       rw [cellS_iff FL.out FR_.out FB.out]
                       exact ⟨HB0.out, fun _ => by rw [GB.out, GL.out]; exact HD.out, by omega, by omega, by omega⟩
                     go_roundw
                     case rel => exact ⟨k + 1, by omega, by go_num, (by first | exact ⟨_, rfl⟩ | exact ⟨_, (World.drewN_drewN _ _ _).symm⟩ | exact Quiet.refl _ | (simp only [World.drewN_drewN]; exact ⟨_, rfl⟩)), upTo (P := fun k' => cellS wt n L R B r k' = true) HT2.out HC.out⟩
                     case measure => simp [intOf]; omega)
        · obtain rfl : k = r + 1 := by omega
          go_wp2
          go_roundw
          case rel => exact ⟨r + 1, by omega, by go_num, (by first | exact ⟨_, rfl⟩ | exact ⟨_, (World.drewN_drewN _ _ _).symm⟩ | exact Quiet.refl _ | (simp only [World.drewN_drewN]; exact ⟨_, rfl⟩)), upTo (P := fun r' => ∀ k, k < r' + 1 → cellS wt n L R B r' k = true) HT.out HT2.out⟩
          case measure => simp [intOf]; omega
    · obtain rfl : r = n := by omega
      go_wp2
      go_ret
      exact ⟨by rw [puzS_yes hSZ.out HT.out]; rfl, below_drewN bb _⟩
end Go.Proofs.Ytemafljipkcgcaa
