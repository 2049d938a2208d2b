/- tile of the program: one small triangle more. -/
import Derived.Test.YtnljlophgolejaaTileI
import Derived.Test.YtnljlophgolejaaWords
import Derived.Deep.DeepCutAuto
import Derived.Deep.CutRange
namespace Go.Proofs.Ytnljlophgolejaa
open Go.RowKit

theorem trips_len (wt : Bool) : (trips wt).length ≤ 6 := by cases wt <;> decide
theorem nthT_eq {ts : List (Int × Int × Int)} {j : Nat} (h : j < ts.length) : nthT ts j = ts[j] := by simp [nthT, List.getD, List.getElem?_eq_getElem h]

theorem okT_tests {wt : Bool} {n : Nat} {a b : List Int} {r k : Nat} {p : PZ} {x y z P Q : Int} (hp : nth p.2.1 (tri r + k - 1) = P) (hq : nth p.2.2 (tri (r - 1) + (k - 1)) = Q) :
    okT wt n a b r k p (x, y, z) = (!(decide (k = 0) && !decide (x = nth a (n - 1 - r))) && (!(decide (0 < k) && !hasT (trips wt) x P Q) && (!(decide (k = r) && !decide (y = nth b r)) && !(decide (r + 1 = n) && decide (1 < z))))) := by
  unfold okT
  rw [hp, hq]
  have h1 : decide (z ≤ 1) = !decide (1 < z) := by
    by_cases h : z ≤ 1
    · rw [decide_eq_true h, decide_eq_false (by omega)]; rfl
    · rw [decide_eq_false h, decide_eq_true (by omega)]; rfl
  simp only [h1]
  by_cases h0 : k = 0
  · rw [if_pos h0]
    have h2 : decide (0 < k) = false := decide_eq_false (by omega)
    have h3 : decide (k = 0) = true := decide_eq_true h0
    rw [h2, h3]
    cases decide (x = nth a (n - 1 - r)) <;> cases decide (k = r) <;> cases decide (y = nth b r) <;> cases decide (r + 1 = n) <;> cases decide (1 < z) <;> rfl
  · rw [if_neg h0]
    have h2 : decide (0 < k) = true := decide_eq_true (by omega)
    have h3 : decide (k = 0) = false := decide_eq_false h0
    rw [h2, h3]
    cases hasT (trips wt) x P Q <;> cases decide (k = r) <;> cases decide (y = nth b r) <;> cases decide (r + 1 = n) <;> cases decide (1 < z) <;> rfl
theorem tlTo_split (wt : Bool) (n : Nat) (a b : List Int) (d r k : Nat) (p : PZ) (j : Nat) : ∃ rest, tl wt n a b (d + 1) r k p = tlTo wt n a b d r k p j ++ rest := by
  refine ⟨(((trips wt).drop j).filter (okT wt n a b r k p)).flatMap fun t => tl wt n a b d (nxR r k) (nxK r k) (snoc p t), ?_⟩
  rw [tl, tlTo, ← List.flatMap_append, ← List.filter_append, List.take_append_drop]
theorem nth_pz {L R B : List Int} {m j : Nat} (h : j < m) : nth (pz L R B m).2.1 j = nth R j ∧ nth (pz L R B m).2.2 j = nth B j := ⟨nth_take h, nth_take h⟩

set_option maxRecDepth 100000 in
set_option maxHeartbeats 8000000 in
theorem tile_step {F : FuncId} {caps : Array Value} {n : Nat} {S : Type} {inv : World → S → (Nat → Prop) → Prop} {step : S → PZ → S} {go : S → PZ → Bool} {fit : S → Nat → Prop} {okp : PZ → Prop}
    (wt : Bool) (w0 : World) (a b : List Int) (Aa Ab : Option Addr) (ca cb nk ck : Nat) (C : Clos Try.prog F caps w0.heap.size n S inv step go fit okp) (hn7 : n ≤ 7) (ha : RI w0 Aa n a) (hb : RI w0 Ab n b) (d : Nat)
    (ih : TileC wt w0 a b Aa Ab ca cb nk ck C d) : TileC wt w0 a b Aa Ab ca cb nk ck C (d + 1) := by
  intro w s O L R B gk gL gR gB r k hi hT hr hk hd hfit hok
  have hr := hr.resolve_right (by omega)
  have ht8 := tri_small (n := n) (by omega)
  have hlt := tri_lt hr hk
  obtain ⟨m, hm⟩ : ∃ m, m = tri r + k := ⟨_, rfl⟩
  rw [← hm] at hd hfit hok hlt ⊢
  have HAT : Hid (∀ W, Calls Try.prog 84 #[.int .i64 (r : Int), .int .i64 (k : Int)] W (fun e w' => e = .returned (.int .i64 (m : Int)) ∧ w' = W)) := fun W => at_eq r k _ _ m rfl rfl (by omega) (by omega) hm.symm
  have HM := Lib.hid hm
  have HD := Lib.hid hd
  have HTnk := Lib.hid hT.tr.1
  have hnk6 : nk ≤ 6 := by rw [← hT.tr.1]; exact trips_len wt
  obtain ⟨T, hTT⟩ : ∃ T, T = tri n := ⟨_, rfl⟩
  have HTT := Lib.hid hTT
  have HIH := Lib.hid ih
  have HI := Lib.hid hi
  have HT : Hid (TS wt w0 T gk nk gL gR gB O w L R B) := by show TS _ _ _ _ _ _ _ _ _ _ _ _ _; rw [hTT]; exact hT
  have HFIT := Lib.hid hfit
  have HOK := Lib.hid hok
  have HA := Lib.hid ha
  have HB := Lib.hid hb
  have HOO := Lib.hid (C.ge hi)
  rw [← hTT] at hlt ht8 ⊢
  have hrn : ((r : Int) == (n : Int)) = false := by simp; omega
  clear hm hd hTT ih hi hT hfit hok ha hb
  go_enter Try.func95, Try.ntmps95
  go_wp2_with (go_at_call 84; (with_reducible refine (HAT.out _).mono ?_); rintro e w' ⟨rfl, rfl⟩)
  obtain ⟨w1, ew1⟩ : ∃ W : World, W = w.alloc (.cells #[.int .i64 (n : Int), .slice (some ⟨gL, 0, none⟩) T T, .slice (some ⟨gR, 0, none⟩) T T, .slice (some ⟨gB, 0, none⟩) T T] 53) := ⟨_, rfl⟩
  obtain ⟨gp, hgp⟩ : ∃ g, g = w.heap.size := ⟨_, rfl⟩
  have b1 : Below w.heap.size w w1 := by rw [ew1]; exact (Below.refl _ _).alloc (Nat.le_refl _) _
  have K1 : Hid (BK w1 gp 53 [.int .i64 (n : Int), .slice (some ⟨gL, 0, none⟩) T T, .slice (some ⟨gR, 0, none⟩) T T, .slice (some ⟨gB, 0, none⟩) T T]) := by rw [ew1, hgp]; exact BK.new w _ _
  rw [← ew1, ← hgp]
  have HGP := Lib.hid hgp
  have HB1 := Lib.hid b1
  have HT1 := Lib.hid (HT.out.keep (HT.out.bel.trans (b1.mono HT.out.bel.size)) (Kept.of_below b1) fun k h => .inl h)
  have HI1 := Lib.hid (C.keep HI.out (Kept.of_below b1))
  obtain ⟨D, hD⟩ : ∃ D : Nat → Prop, D = fun k => O k ∨ k = gL ∨ k = gR ∨ k = gB := ⟨_, rfl⟩
  have HD0 := Lib.hid hD
  clear ew1 hgp b1 hD
  go_loopw [18, 19, 20, 44] (fun _ _ _ i wr => ∃ (j : Nat) (O1 : Nat → Prop) (L1 R1 B1 : List Int), j ≤ nk ∧ i = .int .i64 (j : Int) ∧ Hid (inv wr (seeAll step go s (tlTo wt n a b d r k (pz L R B m) j)).1 O1) ∧ Hid (∀ k, O1 k → O k ∨ w1.heap.size ≤ k) ∧ Hid (Kept D w1 wr) ∧
    Hid (TS wt w0 T gk nk gL gR gB O1 wr L1 R1 B1) ∧ Hid (∀ j, j < m → nth L1 j = nth L j ∧ nth R1 j = nth R j ∧ nth B1 j = nth B j) ∧ Hid ((seeAll step go s (tlTo wt n a b d r k (pz L R B m) j)).2 = true)) (fun _ _ _ i _ => nk - (intOf i).toNat)
  case atStart =>
    exact ⟨0, O, L, R, B, Nat.zero_le _, rfl, HI1.out, fun k h => .inl h, Kept.refl _ _, HT1.out, fun j _ => ⟨rfl, rfl, rfl⟩, rfl⟩
  case round =>
    obtain ⟨j, O1, L1, R1, B1, hj, rfl, I1, G1, KW, TW, SM, SA⟩ := hrel
    by_cases hlt3 : j < nk
    · obtain ⟨x, y, z, hxyz⟩ : ∃ x y z, nthT (trips wt) j = (x, y, z) := ⟨_, _, _, rfl⟩
      have HXYZ := Lib.hid hxyz
      obtain ⟨-, g', hg', -, hcells⟩ := TW.out.tr
      injection hg' with hg'
      injection hg' with hg'
      subst hg'
      obtain ⟨c0, c1, c2⟩ := hcells j hlt3
      rw [hxyz] at c0 c1 c2
      have c0' : wr.cell? ⟨gk, j * 3, none⟩ = some (.int .i64 x) := c0
      have c1' : wr.cell? ⟨gk, j * 3 + 1, none⟩ = some (.int .i64 y) := c1
      have c2' : wr.cell? ⟨gk, j * 3 + 2, none⟩ = some (.int .i64 z) := c2
      clear hcells hxyz c0 c1 c2
      go_wp2_with fail
      obtain ⟨wu, ewu⟩ : ∃ W : World, W = wr.alloc (.cells #[.int .i64 x, .int .i64 y, .int .i64 z] 112) := ⟨_, rfl⟩
      obtain ⟨gu, hgu⟩ : ∃ g, g = wr.heap.size := ⟨_, rfl⟩
      have bu : Below wr.heap.size wr wu := by rw [ewu]; exact (Below.refl _ _).alloc (Nat.le_refl _) _
      have KU : Hid (BK wu gu 112 [.int .i64 x, .int .i64 y, .int .i64 z]) := by rw [ewu, hgu]; exact BK.new wr _ _
      rw [← ewu, ← hgu]
      have HGU := Lib.hid hgu
      have hw1r : w1.heap.size ≤ wr.heap.size := KW.out.size
      have gpD : ¬ D gp := by
        rw [HD0.out]
        rintro (h | h | h | h)
        · have := (HOO.out gp h).2; have := HGP.out; omega
        · have := HT.out.oL.lt1.2; have := HGP.out; omega
        · have := HT.out.oR.lt1.2; have := HGP.out; omega
        · have := HT.out.oB.lt1.2; have := HGP.out; omega
      have KGP : Hid (BK wr gp 53 [.int .i64 (n : Int), .slice (some ⟨gL, 0, none⟩) T T, .slice (some ⟨gR, 0, none⟩) T T, .slice (some ⟨gB, 0, none⟩) T T]) := K1.out.same (KW.out.block gp K1.out.lt gpD)
      have HBU := Lib.hid bu
      -- what is read, in every world from here on
      have FX : Hid (∀ W, Below wu.heap.size wu W → BK W gu 112 [.int .i64 x, .int .i64 y, .int .i64 z] ∧ BK W gp 53 [.int .i64 (n : Int), .slice (some ⟨gL, 0, none⟩) T T, .slice (some ⟨gR, 0, none⟩) T T, .slice (some ⟨gB, 0, none⟩) T T] ∧ TS wt w0 T gk nk gL gR gB O1 W L1 R1 B1 ∧ RI W Aa n a ∧ RI W Ab n b ∧ Below wr.heap.size wr W) := fun W bW => by
        have bb := HBU.out.trans (bW.mono HBU.out.size)
        have tt := TW.out.keep (TW.out.bel.trans (bb.mono TW.out.bel.size)) (Kept.of_below bb) (O' := O1) fun k h => .inl h
        exact ⟨KU.out.below bW KU.out.lt, KGP.out.below bb KGP.out.lt, tt, HA.out.below tt.bel, HB.out.below tt.bel, bb⟩
      have hmT : m < T := hlt
      obtain ⟨P, hP⟩ : ∃ P, P = nth R1 (m - 1) := ⟨_, rfl⟩
      obtain ⟨Q, hQ⟩ : ∃ Q, Q = nth B1 (tri (r - 1) + (k - 1)) := ⟨_, rfl⟩
      have hjl : j < (trips wt).length := by rw [HTnk.out]; exact hlt3
      have HJ : Hid ((trips wt)[j] = (x, y, z)) := by rw [← nthT_eq hjl]; exact HXYZ.out
      have hpq : k ≠ 0 → tri (r - 1) + (k - 1) < m ∧ tri (r - 1) + (k - 1) < T := fun h0 => by
        have := tri_step (r - 1)
        have h2 := HM.out
        rw [show r - 1 + 1 = r by omega] at this
        omega
      obtain ⟨T8, hT8⟩ : ∃ t : Bool, t = (decide (k = 0) && !decide (x = nth a (n - 1 - r))) := ⟨_, rfl⟩
      obtain ⟨T9, hT9⟩ : ∃ t : Bool, t = (decide (0 < k) && !hasT (trips wt) x P Q) := ⟨_, rfl⟩
      obtain ⟨T10, hT10⟩ : ∃ t : Bool, t = (decide (k = r) && !decide (y = nth b r)) := ⟨_, rfl⟩
      obtain ⟨T11, hT11⟩ : ∃ t : Bool, t = (decide (r + 1 = n) && decide (1 < z)) := ⟨_, rfl⟩
      have HTEST : Hid (okT wt n a b r k (pz L R B m) (x, y, z) = (!T8 && (!T9 && (!T10 && !T11)))) := by
        show okT _ _ _ _ _ _ _ _ = _
        rw [hT8, hT9, hT10, hT11]
        by_cases h0 : k = 0
        · rw [okT_tests rfl rfl, decide_eq_false (p := 0 < k) (by omega)]
          simp
        · have h1 := HM.out
          have h2 := hpq h0
          refine okT_tests ?_ ?_
          · rw [(nth_pz (by omega)).1, hP, (SM.out _ (by omega)).2.1, h1]
          · rw [(nth_pz h2.1).2, hQ, (SM.out _ h2.1).2.2]
      have HCONT : Hid (okT wt n a b r k (pz L R B m) (x, y, z) = false → ∀ W, Below wu.heap.size wu W → ∃ (j' : Nat) (O1 : Nat → Prop) (L1 R1 B1 : List Int), j' ≤ nk ∧ Value.int .i64 ((j : Int) + 1) = .int .i64 (j' : Int) ∧ Hid (inv W (seeAll step go s (tlTo wt n a b d r k (pz L R B m) j')).1 O1) ∧ Hid (∀ k, O1 k → O k ∨ w1.heap.size ≤ k) ∧ Hid (Kept D w1 W) ∧
          Hid (TS wt w0 T gk nk gL gR gB O1 W L1 R1 B1) ∧ Hid (∀ j, j < m → nth L1 j = nth L j ∧ nth R1 j = nth R j ∧ nth B1 j = nth B j) ∧ Hid ((seeAll step go s (tlTo wt n a b d r k (pz L R B m) j')).2 = true)) := fun hno W bW => by
        have e : tlTo wt n a b d r k (pz L R B m) (j + 1) = tlTo wt n a b d r k (pz L R B m) j := by
          rw [tlTo_succ hjl, HJ.out, hno]
          simp
        obtain ⟨-, -, f3, -, -, f6⟩ := FX.out W bW
        refine ⟨j + 1, O1, L1, R1, B1, by omega, by go_num, ?_, G1, ?_, f3, SM, ?_⟩
        · rw [e]; exact C.keep I1.out (Kept.of_below f6)
        · exact KW.out.trans (fun k h => .inl h) (Kept.of_below f6)
        · rw [e]; exact SA.out
      have H8 := Lib.hid hT8
      have H9 := Lib.hid hT9
      have H10 := Lib.hid hT10
      have H11 := Lib.hid hT11
      have HP := Lib.hid hP
      have HQ := Lib.hid hQ
      have HPQ := Lib.hid hpq
      have W1 : IntKind.i64.wrap ((n : Int) - 1) = (n : Int) - 1 := IntWalk.i64_in _ (by omega)
      have W3 : IntKind.i64.wrap ((r : Int) - 1) = (r : Int) - 1 := IntWalk.i64_in _ (by omega)
      have W4 : IntKind.i64.wrap ((k : Int) - 1) = (k : Int) - 1 := IntWalk.i64_in _ (by omega)
      clear hT8 hT9 hT10 hT11 ewu hgu bu c0' c1' c2' hP hQ hpq gpD
      go_cut [48] from 48 to 62 (fun v48 wx => v48 = .bool T8 ∧ Below wu.heap.size wu wx)
      case first =>
        obtain ⟨f1, f2, f3, f4, f5, f6⟩ := FX.out wu (Below.refl _ _)
        have u0 := f1.cell (j := 0) rfl
        by_cases hk0 : k = 0
        · obtain ⟨pa, hpa⟩ : ∃ pa, pa = n - 1 - r := ⟨_, rfl⟩
          obtain ⟨ada, hAa, hca⟩ := f4.cell (k := pa) (by omega)
          have W2 : IntKind.i64.wrap ((n : Int) - 1 - (r : Int)) = (pa : Int) := by rw [show (n : Int) - 1 - (r : Int) = (pa : Int) by omega]; exact IntWalk.i64_in _ (by omega)
          have hpn : pa < n := by omega
          have HK0 := Lib.hid hk0
          have hkz : ((k : Int) == 0) = true := by simp [hk0]
          obtain ⟨a0, ha0⟩ : ∃ a0, a0 = nth a pa := ⟨_, rfl⟩
          rw [← ha0] at hca
          have HA0 : Hid (nth a (n - 1 - r) = a0) := by show _ = _; rw [ha0, hpa]
          subst hAa
          clear f1 f2 f3 f4 f5 f6 hk0 hpa ha0
          rcases hx : (x != a0) with _ | _
          · have HX : Hid (x = a0) := by show _ = _; simpa using hx
            go_quiet (fail)
            go_wp2
            go_meet
            exact ⟨by rw [H8.out, HA0.out, HX.out]; simp, Quiet.below ⟨_, rfl⟩⟩
          · have HX : Hid (x ≠ a0) := by show _ ≠ _; simpa using hx
            go_quiet (fail)
            go_wp2
            go_meet
            exact ⟨by rw [H8.out, HA0.out, HK0.out]; simp [HX.out], Quiet.below ⟨_, rfl⟩⟩
        · have HK0 := Lib.hid hk0
          have hkz : ((k : Int) == 0) = false := by simp [hk0]
          clear f1 f2 f3 f4 f5 f6 hk0
          go_quiet (fail)
          go_wp2
          go_meet
          exact ⟨by rw [H8.out, decide_eq_false HK0.out]; rfl, Quiet.below ⟨_, rfl⟩⟩
      case rest =>
        obtain ⟨rfl, b8⟩ := hcut
        rcases T8 with _ | _
        · have B8 := Lib.hid b8
          clear b8
          go_wp2_with fail
          go_cut [63] from 63 to 88 (fun v63 wx => v63 = .bool T9 ∧ Below wu.heap.size wu wx)
          case first =>
            obtain ⟨f1, f2, f3, f4, f5, f6⟩ := FX.out wc B8.out
            have u0 := f1.cell (j := 0) rfl
            obtain ⟨-, -, g2, g3⟩ := f2.four
            by_cases hk0 : k = 0
            · have HK0 := Lib.hid hk0
              have hkz : decide (0 < (k : Int)) = false := decide_eq_false (by omega)
              have hkz2 : decide (0 < k) = false := decide_eq_false (by omega)
              have hkz3 : ¬ 0 < k := by omega
              clear f1 f2 f3 f4 f5 f6 hk0 u0 g2 g3
              go_quiet (fail)
              go_wp2
              go_meet
              exact ⟨by rw [H9.out, HK0.out]; rfl, below_drewN B8.out _⟩
            · obtain ⟨pq, hpq⟩ : ∃ pq, pq = tri (r - 1) + (k - 1) := ⟨_, rfl⟩
              obtain ⟨q1, q2⟩ := HPQ.out hk0
              obtain ⟨m1, hm1⟩ : ∃ m1, m1 = m - 1 := ⟨_, rfl⟩
              have W5 : IntKind.i64.wrap ((m : Int) - 1) = (m1 : Int) := by
                have := HM.out
                rw [show (m : Int) - 1 = (m1 : Int) by omega]; exact IntWalk.i64_in _ (by omega)
              have hR := f3.oR.cellAt (j := m1) (by omega)
              have hBq := f3.oB.cellAt (j := pq) (by rw [hpq]; exact q2)
              rw [hm1, ← HP.out, ← hm1] at hR
              rw [hpq, ← HQ.out, ← hpq] at hBq
              have hpT : pq < T := by rw [hpq]; exact q2
              have hmT1 : m1 < T := by omega
              have HK0 := Lib.hid hk0
              have hkz : decide (0 < (k : Int)) = true := decide_eq_true (by omega)
              have hkz2 : decide (0 < k) = true := decide_eq_true (by omega)
              have hkz3 : 0 < k := by omega
              have HAT2 : Hid (∀ W, Calls Try.prog 84 #[.int .i64 ((r : Int) - 1), .int .i64 ((k : Int) - 1)] W (fun e w' => e = .returned (.int .i64 (pq : Int)) ∧ w' = W)) := fun W => at_eq (r - 1) (k - 1) _ _ pq (by omega) (by omega) (by omega) (by omega) hpq.symm
              obtain ⟨c9, hc9⟩ : ∃ c9, c9 = hasT (trips wt) x P Q := ⟨_, rfl⟩
              have HCT : Hid (∀ W, Below wc.heap.size wc W → Calls Try.prog 122 #[.slice (some ⟨gk, 0, none⟩) nk ck, .agg #[.int .i64 x, .int .i64 P, .int .i64 Q]] W (GivesB W (.bool c9))) := fun W bW => by
                rw [hc9]; exact containsT_any _ _ _ _ (f3.tr.below bW) (by omega)
              have HC9 := Lib.hid hc9
              have HX : Hid (wc.cell? ⟨gu, 0, none⟩ = some (.int .i64 x) ∧ wc.cell? ⟨gp, 2, none⟩ = some (.slice (some ⟨gR, 0, none⟩) T T) ∧ wc.cell? ⟨gp, 3, none⟩ = some (.slice (some ⟨gB, 0, none⟩) T T) ∧ wc.cell? ⟨gR, m1, none⟩ = some (.int .i64 P) ∧ wc.cell? ⟨gB, pq, none⟩ = some (.int .i64 Q)) := ⟨u0, g2, g3, hR, hBq⟩
              have H5 : Hid (∀ W, Below wc.heap.size wc W → (W.cell? ⟨gu, 0, none⟩ = some (.int .i64 x) ∧ W.cell? ⟨gp, 2, none⟩ = some (.slice (some ⟨gR, 0, none⟩) T T) ∧ W.cell? ⟨gp, 3, none⟩ = some (.slice (some ⟨gB, 0, none⟩) T T) ∧ W.cell? ⟨gR, m1, none⟩ = some (.int .i64 P) ∧ W.cell? ⟨gB, pq, none⟩ = some (.int .i64 Q))) := fun W bW =>
                ⟨one_cell bW u0, one_cell bW g2, one_cell bW g3, one_cell bW hR, one_cell bW hBq⟩
              have BF : Hid (∀ W, Below wc.heap.size wc W → Below wu.heap.size wu W) := fun W bW => B8.out.trans (bW.mono B8.out.size)
              clear f1 f2 f3 f4 f5 f6 hk0 hpq q1 q2 hm1 hR hBq hc9 u0 g2 g3
              go_region_held3 (fun w' => w'.cell? ⟨gu, 0, none⟩ = some (.int .i64 x) ∧ w'.cell? ⟨gp, 2, none⟩ = some (.slice (some ⟨gR, 0, none⟩) T T) ∧ w'.cell? ⟨gp, 3, none⟩ = some (.slice (some ⟨gB, 0, none⟩) T T) ∧ w'.cell? ⟨gR, m1, none⟩ = some (.int .i64 P) ∧ w'.cell? ⟨gB, pq, none⟩ = some (.int .i64 Q)) (first | exact HX.out | exact H5.out _ b9.out) (first
                | (go_at_call 84; (with_reducible refine (HAT2.out _).mono ?_); rintro e w' ⟨rfl, rfl⟩)
                | (go_at_call 122; (with_reducible refine (HCT.out _ ?_).mono ?_); (exact ⟨rfl, rfl, rfl, Nat.le_refl _, fun _ _ => rfl⟩); rintro e w9 ⟨rfl, b9'⟩; have b9 : Hid (Below wc.heap.size wc w9) := ⟨b9'.os, b9'.tape, b9'.output, b9'.size, b9'.block⟩))
              go_wp2
              go_meet
              exact ⟨by rw [H9.out, ← HC9.out, decide_eq_true (p := 0 < k) (by have := HK0.out; omega)]; rfl, BF.out _ b9.out⟩
          case rest =>
            obtain ⟨rfl, b9⟩ := hcut
            rcases T9 with _ | _
            · have B9 := Lib.hid b9
              clear b9 B8
              go_wp2_with fail
              go_cut [89] from 89 to 101 (fun v89 wx => v89 = .bool T10 ∧ Below wu.heap.size wu wx)
              case first =>
                obtain ⟨f1, f2, f3, f4, f5, f6⟩ := FX.out wc B9.out
                have u1 := f1.cell (j := 1) rfl
                by_cases hkr : k = r
                · obtain ⟨adb, hAb, hcb⟩ := f5.cell (k := r) (by omega)
                  obtain ⟨b0, hb0⟩ : ∃ b0, b0 = nth b r := ⟨_, rfl⟩
                  rw [← hb0] at hcb
                  have HKR := Lib.hid hkr
                  have HB0 := Lib.hid hb0
                  have hkz : ((k : Int) == (r : Int)) = true := by simp [hkr]
                  subst hAb
                  clear f1 f2 f3 f4 f5 f6 hkr hb0
                  rcases hx : (y != b0) with _ | _
                  · have HX : Hid (y = b0) := by show _ = _; simpa using hx
                    go_quiet (fail)
                    go_wp2
                    go_meet
                    exact ⟨by rw [H10.out, ← HB0.out, HX.out]; simp, below_drewN B9.out _⟩
                  · have HX : Hid (y ≠ b0) := by show _ ≠ _; simpa using hx
                    go_quiet (fail)
                    go_wp2
                    go_meet
                    exact ⟨by rw [H10.out, ← HB0.out, decide_eq_true HKR.out]; simp [HX.out], below_drewN B9.out _⟩
                · have HKR := Lib.hid hkr
                  have hkz : ((k : Int) == (r : Int)) = false := by simp; omega
                  clear f1 f2 f3 f4 f5 f6 hkr u1
                  go_quiet (fail)
                  go_wp2
                  go_meet
                  exact ⟨by rw [H10.out, decide_eq_false HKR.out]; rfl, below_drewN B9.out _⟩
              case rest =>
                obtain ⟨rfl, b10⟩ := hcut
                rcases T10 with _ | _
                · have B10 := Lib.hid b10
                  clear b10 B9
                  go_upto_region 11 with (fail)
                  go_cut [102] from 102 to 111 (fun v102 wx => v102 = .bool T11 ∧ Below wu.heap.size wu wx)
                  case first =>
                    obtain ⟨f1, f2, f3, f4, f5, f6⟩ := FX.out wc B10.out
                    have u2 := f1.cell (j := 2) rfl
                    by_cases hrl : r + 1 = n
                    · have hkz : ((r : Int) == (n : Int) - 1) = true := by simp; omega
                      have HRL := Lib.hid hrl
                      clear f1 f2 f3 f4 f5 f6 hrl
                      rcases hx : decide (1 < z) with _ | _
                      · have HX := Lib.hid hx
                        go_wp2_with fail
                        go_meet
                        exact ⟨by rw [H11.out, HX.out]; simp, B10.out⟩
                      · have HX := Lib.hid hx
                        go_wp2_with fail
                        go_meet
                        exact ⟨by rw [H11.out, HX.out, decide_eq_true HRL.out]; simp, B10.out⟩
                    · have HRL := Lib.hid hrl
                      have hkz : ((r : Int) == (n : Int) - 1) = false := by simp; omega
                      clear f1 f2 f3 f4 f5 f6 hrl u2
                      go_wp2_with fail
                      go_meet
                      exact ⟨by rw [H11.out, decide_eq_false HRL.out]; rfl, B10.out⟩
                  case rest =>
                    obtain ⟨rfl, b11⟩ := hcut
                    rcases T11 with _ | _
                    · have B11 := Lib.hid b11
                      clear b11 B10
                      go_wp2_with fail
                      obtain ⟨f1, f2, f3, f4, f5, f6⟩ := FX.out wc B11.out
                      have u0 := f1.cell (j := 0) rfl
                      have u1 := f1.cell (j := 1) rfl
                      have u2 := f1.cell (j := 2) rfl
                      obtain ⟨-, g1, g2, g3⟩ := f2.four
                      have cL := f3.oL.cellAt (j := m) hmT
                      have cR := f3.oR.cellAt (j := m) hmT
                      have cB := f3.oB.cellAt (j := m) hmT
                      have zL := f3.oL.frozenAt m
                      have zR := f3.oR.frozenAt m
                      have zB := f3.oB.frozenAt m
                      have nLR := f3.nLR
                      have nLB := f3.nLB
                      have nRB := f3.nRB
                      have E1 : gL ≠ gp ∧ gR ≠ gp ∧ gB ≠ gp ∧ gL ≠ gu ∧ gR ≠ gu ∧ gB ≠ gu := by
                        have h1 := HT.out.oL.lt1.2
                        have h2 := HT.out.oR.lt1.2
                        have h3 := HT.out.oB.lt1.2
                        have h4 := HGP.out
                        have h5 := HGU.out
                        have h6 := HB1.out.size
                        omega
                      obtain ⟨e1, e2, e3, e4, e5, e6⟩ := E1
                      have nRL := Ne.symm nLR
                      have nBL := Ne.symm nLB
                      have nBR := Ne.symm nRB
                      have HF3 := Lib.hid f3
                      have HF2 := Lib.hid f2
                      have HF6 := Lib.hid f6
                      clear f1 f2 f3 f4 f5 f6
                      go_region_held3 (fun w' => w'.cell? ⟨gp, 1, none⟩ = some (.slice (some ⟨gL, 0, none⟩) T T) ∧ w'.cell? ⟨gp, 2, none⟩ = some (.slice (some ⟨gR, 0, none⟩) T T) ∧ w'.cell? ⟨gp, 3, none⟩ = some (.slice (some ⟨gB, 0, none⟩) T T) ∧ w'.cell? ⟨gu, 0, none⟩ = some (.int .i64 x) ∧ w'.cell? ⟨gu, 1, none⟩ = some (.int .i64 y) ∧ w'.cell? ⟨gu, 2, none⟩ = some (.int .i64 z)) (first | exact ⟨g1, g2, g3, u0, u1, u2⟩ | (simp [World.cell?_setCell_far, *]; done)) (fail)
                      obtain ⟨wz, ewz⟩ : ∃ W : World, W = (((wc.setCell ⟨gL, m, none⟩ (.int .i64 x)).setCell ⟨gR, m, none⟩ (.int .i64 y)).setCell ⟨gB, m, none⟩ (.int .i64 z)) := ⟨_, rfl⟩
                      have TZ : Hid (TS wt w0 T gk nk gL gR gB O1 wz (L1.set m x) (R1.set m y) (B1.set m z)) := by show TS _ _ _ _ _ _ _ _ _ _ _ _ _; rw [ewz]; exact HF3.out.lay m x y z
                      have KZ : Hid (Kept (fun k => k = gL ∨ k = gR ∨ k = gB) wr wz) := by
                        show Kept _ _ _
                        rw [ewz]
                        exact (((Kept.of_below HF6.out).store (.inl (.inl rfl)) _ _).store (.inl (.inr (.inl rfl))) _ _).store (.inl (.inr (.inr rfl))) _ _
                      rw [← ewz]
                      have HYES : Hid (okT wt n a b r k (pz L R B m) (x, y, z) = true) := by show _ = _; rw [HTEST.out]; rfl
                      have HTO : Hid (tlTo wt n a b d r k (pz L R B m) (j + 1) = tlTo wt n a b d r k (pz L R B m) j ++ tl wt n a b d (nxR r k) (nxK r k) (snoc (pz L R B m) (x, y, z))) := by
                        show _ = _
                        rw [tlTo_succ hjl, HJ.out, HYES.out]
                        rfl
                      have HRES : Hid (seeAll step go s (tlTo wt n a b d r k (pz L R B m) (j + 1)) = seeAll step go (seeAll step go s (tlTo wt n a b d r k (pz L R B m) j)).1 (tl wt n a b d (nxR r k) (nxK r k) (snoc (pz L R B m) (x, y, z)))) := by
                        show _ = _
                        rw [HTO.out, seeAll_app, SA.out, if_pos rfl]
                      have lL1 := HF3.out.oL.len
                      have lR1 := HF3.out.oR.len
                      have lB1 := HF3.out.oB.len
                      have lL0 := HT.out.oL.len
                      have lR0 := HT.out.oR.len
                      have lB0 := HT.out.oB.len
                      have HNX := Lib.hid (tri_next hk)
                      have HPZ : Hid (pz (L1.set m x) (R1.set m y) (B1.set m z) (tri (nxR r k) + nxK r k) = snoc (pz L R B m) (x, y, z)) := by
                        show _ = _
                        rw [HNX.out, ← HM.out, ← pz_same lL0 lR0 lB0 lL1 lR1 lB1 (by omega) SM.out]
                        exact pz_set lL1 lR1 lB1 hmT (x, y, z)
                      obtain ⟨rest, hrest⟩ := tlTo_split wt n a b d r k (pz L R B m) (j + 1)
                      have HSP : Hid (tl wt n a b (d + 1) r k (pz L R B m) = tlTo wt n a b d r k (pz L R B m) j ++ (tl wt n a b d (nxR r k) (nxK r k) (snoc (pz L R B m) (x, y, z)) ++ rest)) := by
                        show _ = _
                        rw [hrest, HTO.out, List.append_assoc]
                      have HRS := Lib.hid hrest
                      have HCALL : Hid (∀ (W : World) (ri ki : Int), Below wz.heap.size wz W → ri = (nxR r k : Int) → ki = (nxK r k : Int) →
                          Calls Try.prog 95 #[.agg #[.int .i64 (n : Int), .slice (some ⟨gL, 0, none⟩) T T, .slice (some ⟨gR, 0, none⟩) T T, .slice (some ⟨gB, 0, none⟩) T T], .slice Aa n ca, .slice Ab n cb, .slice (some ⟨gk, 0, none⟩) nk ck, .int .i64 ri, .int .i64 ki, .func (.func F) #[] caps] W
                            (fun e w' => e = .returned (.bool (seeAll step go s (tlTo wt n a b d r k (pz L R B m) (j + 1))).2) ∧ ∃ (O2 : Nat → Prop) (L2 R2 B2 : List Int), Hid (inv w' (seeAll step go s (tlTo wt n a b d r k (pz L R B m) (j + 1))).1 O2) ∧ Hid (∀ k, O2 k → O k ∨ w1.heap.size ≤ k) ∧ Hid (Kept D w1 w') ∧
                              Hid (TS wt w0 T gk nk gL gR gB O2 w' L2 R2 B2) ∧ Hid (∀ j, j < m → nth L2 j = nth L j ∧ nth R2 j = nth R j ∧ nth B2 j = nth B j))) := fun W ri ki bW hri hki => by
                        subst hri hki
                        have kzw : Kept (fun k => k = gL ∨ k = gR ∨ k = gB) wr W := KZ.out.trans (fun k h => .inl h) (Kept.of_below bW)
                        have iW := C.keep I1.out (kzw.mono fun k h => by
                          rcases h with rfl | rfl | rfl
                          · exact ⟨TW.out.oL.lt1.1, TW.out.fL⟩
                          · exact ⟨TW.out.oR.lt1.1, TW.out.fR⟩
                          · exact ⟨TW.out.oB.lt1.1, TW.out.fB⟩)
                        have tW := TZ.out.keep (O' := O1) (TZ.out.bel.trans (bW.mono TZ.out.bel.size)) (Kept.of_below bW) fun k h => .inl h
                        have hfit := HFIT.out
                        rw [HSP.out, List.length_append, List.length_append] at hfit
                        have hf2 := C.less (C.all _ _ _ (by rw [Nat.add_comm] at hfit; rw [Nat.add_comm]; exact hfit) SA.out) (Nat.le_add_right (tl wt n a b d (nxR r k) (nxK r k) (snoc (pz L R B m) (x, y, z))).length rest.length)
                        have hT2 := HTT.out
                        have hih := HIH.out W (seeAll step go s (tlTo wt n a b d r k (pz L R B m) j)).1 O1 (L1.set m x) (R1.set m y) (B1.set m z) gk gL gR gB (nxR r k) (nxK r k) iW (by rw [← hT2]; exact tW)
                          (by
                            by_cases h : nxR r k < n
                            · exact .inl h
                            · right
                              have := tri_mono (show n ≤ nxR r k by omega)
                              have := HD.out; have := HNX.out; have := HM.out
                              omega) (nx_le hk) (by have := HD.out; have := HNX.out; have := HM.out; omega) (by rw [HPZ.out]; exact hf2) (by
                            rw [HPZ.out]
                            intro q hq
                            refine HOK.out q ?_
                            rw [HSP.out, List.mem_append, List.mem_append]
                            exact .inr (.inl hq))
                        rw [HPZ.out, ← hT2, ← HRES.out] at hih
                        refine hih.mono ?_
                        rintro e w' ⟨he, O2, L2, R2, B2, i2, q2, k2, t2, s2⟩
                        have hD : ∀ k, k = gL ∨ k = gR ∨ k = gB → D k := fun k h => by rw [HD0.out]; exact .inr h
                        have hwW : w1.heap.size ≤ W.heap.size := Nat.le_trans KW.out.size kzw.size
                        refine ⟨he, O2, L2, R2, B2, i2, fun k h => ?_, ?_, t2, fun j' hj' => ?_⟩
                        · rcases q2 k h with h | h
                          · exact G1.out k h
                          · exact .inr (Nat.le_trans hwW h)
                        · refine (KW.out.trans (O1 := fun k => k = gL ∨ k = gR ∨ k = gB) (fun k h => .inl (hD k h)) kzw).trans (fun k h => ?_) k2
                          rcases h with h | h
                          · rcases G1.out k h with h | h
                            · exact .inl (by rw [HD0.out]; exact .inl h)
                            · exact .inr h
                          · exact .inl (hD k h)
                        · obtain ⟨p1, p2, p3⟩ := s2 j' (by rw [HNX.out, ← HM.out]; omega)
                          obtain ⟨p4, p5, p6⟩ := SM.out j' hj'
                          rw [p1, p2, p3, nth_set_ne (by omega), nth_set_ne (by omega), nth_set_ne (by omega)]
                          exact ⟨p4, p5, p6⟩
                      obtain ⟨c, hc⟩ : ∃ c, c = (seeAll step go s (tlTo wt n a b d r k (pz L R B m) (j + 1))).2 := ⟨_, rfl⟩
                      rw [← hc] at HCALL
                      have HC := Lib.hid hc
                      clear ewz hc hrest lL1 lR1 lB1 lL0 lR0 lB0
                      have K4 : Hid (BK wz gp 53 [.int .i64 (n : Int), .slice (some ⟨gL, 0, none⟩) T T, .slice (some ⟨gR, 0, none⟩) T T, .slice (some ⟨gB, 0, none⟩) T T]) := KGP.out.same (KZ.out.block gp KGP.out.lt (by rintro (h | h | h) <;> omega))
                      obtain ⟨z0, z1, z2, z3⟩ := K4.out.four
                      clear cL cR cB zL zR zB u0 u1 u2 g1 g2 g3
                      by_cases hkr : k = r
                      · have HKR := Lib.hid hkr
                        have hkz : ((k : Int) == (r : Int)) = true := by simp [hkr]
                        have hnr : (r : Int) + 1 = (nxR r k : Int) := by unfold nxR; rw [if_pos hkr]; simp
                        have hnk : (0 : Int) = (nxK r k : Int) := by unfold nxK; rw [if_pos hkr]; simp
                        have HN1 := Lib.hid hnr
                        have HN2 := Lib.hid hnk
                        clear hkr hnr hnk
                        go_wp2_with fail
                        refine (HCALL.out _ _ _ (by first | exact Below.refl _ _ | exact Quiet.below ⟨1, rfl⟩) HN1.out HN2.out).mono ?_
                        rintro e w3 ⟨rfl, O2, L2, R2, B2, i2, q2, k2, t2, s2⟩
                        rcases c with _ | _
                        · go_wp2
                          go_ret
                          have e2 : seeAll step go s (tl wt n a b (d + 1) r k (pz L R B m)) = seeAll step go s (tlTo wt n a b d r k (pz L R B m) (j + 1)) := by
                            rw [HRS.out, seeAll_app, if_neg (by rw [← HC.out]; simp)]
                          rw [e2]
                          refine ⟨by rw [← HC.out]; rfl, O2, L2, R2, B2, i2.out, fun k h => (q2.out k h).imp id fun h => Nat.le_trans HB1.out.size h, ?_, t2.out, s2.out⟩
                          rw [← HD0.out]
                          exact (Kept.of_below HB1.out).trans (fun k h => .inl h) k2.out
                        · go_wp2
                          go_roundw
                          case rel => exact ⟨j + 1, O2, L2, R2, B2, by omega, by go_num, i2, q2, k2, t2, s2, HC.out.symm⟩
                          case measure => simp [intOf]; omega
                      · have hkz : ((k : Int) == (r : Int)) = false := by simp; omega
                        have hnr : (r : Int) = (nxR r k : Int) := by unfold nxR; rw [if_neg hkr]
                        have hnk : (k : Int) + 1 = (nxK r k : Int) := by unfold nxK; rw [if_neg hkr]; simp
                        have HN1 := Lib.hid hnr
                        have HN2 := Lib.hid hnk
                        clear hkr hnr hnk
                        go_wp2_with fail
                        refine (HCALL.out _ _ _ (by first | exact Below.refl _ _ | exact Quiet.below ⟨1, rfl⟩) HN1.out HN2.out).mono ?_
                        rintro e w3 ⟨rfl, O2, L2, R2, B2, i2, q2, k2, t2, s2⟩
                        rcases c with _ | _
                        · go_wp2
                          go_ret
                          have e2 : seeAll step go s (tl wt n a b (d + 1) r k (pz L R B m)) = seeAll step go s (tlTo wt n a b d r k (pz L R B m) (j + 1)) := by
                            rw [HRS.out, seeAll_app, if_neg (by rw [← HC.out]; simp)]
                          rw [e2]
                          refine ⟨by rw [← HC.out]; rfl, O2, L2, R2, B2, i2.out, fun k h => (q2.out k h).imp id fun h => Nat.le_trans HB1.out.size h, ?_, t2.out, s2.out⟩
                          rw [← HD0.out]
                          exact (Kept.of_below HB1.out).trans (fun k h => .inl h) k2.out
                        · go_wp2
                          go_roundw
                          case rel => exact ⟨j + 1, O2, L2, R2, B2, by omega, by go_num, i2, q2, k2, t2, s2, HC.out.symm⟩
                          case measure => simp [intOf]; omega
                    · go_wp2
                      go_roundw
                      case rel => exact HCONT.out (by rw [HTEST.out]; simp) _ b11
                      case measure => simp [intOf]; omega
                · go_wp2
                  go_roundw
                  case rel => exact HCONT.out (by rw [HTEST.out]; simp) _ b10
                  case measure => simp [intOf]; omega
            · go_wp2
              go_roundw
              case rel => exact HCONT.out (by rw [HTEST.out]; simp) _ b9
              case measure => simp [intOf]; omega
        · go_wp2
          go_roundw
          case rel => exact HCONT.out (by rw [HTEST.out]; simp) _ b8
          case measure => simp [intOf]; omega
    · obtain rfl : j = nk := by omega
      have HALL : Hid (tlTo wt n a b d r k (pz L R B m) j = tl wt n a b (d + 1) r k (pz L R B m)) := by show _ = _; rw [← HTnk.out]; exact tlTo_all
      go_wp2
      go_ret
      rw [← HALL.out]
      refine ⟨by rw [SA.out]; rfl, O1, L1, R1, B1, I1.out, fun k h => (G1.out k h).imp id fun h => Nat.le_trans HB1.out.size h, ?_, TW.out, SM.out⟩
      rw [← HD0.out]
      exact (Kept.of_below HB1.out).trans (fun k h => .inl h) KW.out
end Go.Proofs.Ytnljlophgolejaa
