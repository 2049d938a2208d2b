/- WrapShape of the program and of the reference. -/
import Derived.Test.YtbemglmnnehllaaSort
import Derived.Test.YtbemglmnnehllaaShapes
import Derived.Test.YtbemglmnnehllaaWords
namespace Go.Proofs.Ytbemglmnnehllaa
open Go.RowKit

/-- What a function leaves that returns a shape with a power, some times, and a bool. -/
def MakesWb (w : World) (p : Int) (l : List Int) (q : Int) (ok : Bool) : Ending → World → Prop := fun e w' =>
  ∃ A n c, e = .returned (.tuple #[.agg #[.int .i64 p, .slice A n c, .int .i64 q], .bool ok]) ∧ OI w' w.heap.size (.slice A n c) l ∧ n ≤ c ∧ Below w.heap.size w w'
/-- The same without the bool. -/
def MakesW (w : World) (p : Int) (l : List Int) (q : Int) : Ending → World → Prop := fun e w' =>
  ∃ A n c, e = .returned (.agg #[.int .i64 p, .slice A n c, .int .i64 q]) ∧ OI w' w.heap.size (.slice A n c) l ∧ n ≤ c ∧ Below w.heap.size w w'

theorem BK.store3 {w : World} {g : Nat} {T : TypeId} {x y z a b c : Value} (h : BK w g T [x, y, z]) : BK (((w.setCell ⟨g, 0, none⟩ a).setCell ⟨g, 1, none⟩ b).setCell ⟨g, 2, none⟩ c) g T [a, b, c] := ((h.set 0 a).set 1 b).set 2 c
set_option maxRecDepth 100000 in
set_option maxHeartbeats 2000000 in
theorem iWrap_no {A : Option Addr} {n0 : Nat} {l : List Int} {w : World} (c : Nat) (k n : Int) (hx : RI w A n0 l) (hn : n0 ≤ 1000000000) (h : wrapOk l k n = false) :
    Calls Try.prog 15 #[.slice A n0 c, .int .i64 k, .int .i64 n] w (MakesWb w 0 [] 0 false) := by
  have HS : Hid (∀ W, Below w.heap.size w W → Calls Try.prog 29 #[.slice A n0 c] W (Gives W (.bool (isShapeB l)))) := fun W b => iIsShape_any c (hx.below b) hn
  have HZ : Hid (∀ W, Calls Try.prog 39 #[.int .i64 n] W (Gives W (.bool (inB n 1 7)))) := fun W => isSize_any n
  have hl := hx.1
  have hc : isShapeB l = false ∨ (isShapeB l = true ∧ inB n 1 7 = false) ∨ (isShapeB l = true ∧ inB n 1 7 = true ∧ k < 1) ∨ (isShapeB l = true ∧ inB n 1 7 = true ∧ 1 ≤ k ∧ n < k) ∨ (isShapeB l = true ∧ inB n 1 7 = true ∧ 1 ≤ k ∧ k ≤ n ∧ k < n0) := by
    rcases h1 : isShapeB l with _ | _
    · exact .inl rfl
    · rcases h2 : inB n 1 7 with _ | _
      · exact .inr (.inl ⟨rfl, rfl⟩)
      · refine .inr (.inr ?_)
        by_cases h3 : k < 1
        · exact .inl ⟨rfl, rfl, h3⟩
        · by_cases h4 : n < k
          · exact .inr (.inl ⟨rfl, rfl, by omega, h4⟩)
          · refine .inr (.inr ⟨rfl, rfl, by omega, by omega, ?_⟩)
            refine Classical.byContradiction fun h5 => ?_
            have h6 : wrapOk l k n = true := wrapOk_iff.2 ⟨h1, inB_iff.1 h2, ⟨by omega, by omega⟩, by rw [hl]; omega⟩
            rw [h] at h6
            cases h6
  clear h
  have kf : ∀ q, BK (((((w.alloc (.cells #[.int .i64 0, .slice none 0 0, .int .i64 0] 44)).drewN q).setCell ⟨w.heap.size, 0, none⟩ (.int .i64 0)).setCell ⟨w.heap.size, 1, none⟩ (.slice none 0 0)).setCell ⟨w.heap.size, 2, none⟩ (.int .i64 0)) w.heap.size 44 [.int .i64 0, .slice none 0 0, .int .i64 0] :=
    fun q => BK.store3 (BK.below (BK.new w _ _) (Quiet.below (B := w.heap.size + 1) ⟨q, rfl⟩) (Nat.lt_succ_self _))
  have bf : ∀ q, Below w.heap.size w (((((w.alloc (.cells #[.int .i64 0, .slice none 0 0, .int .i64 0] 44)).drewN q).setCell ⟨w.heap.size, 0, none⟩ (.int .i64 0)).setCell ⟨w.heap.size, 1, none⟩ (.slice none 0 0)).setCell ⟨w.heap.size, 2, none⟩ (.int .i64 0)) :=
    fun q => (((below_drewN ((Below.refl _ _).alloc (Nat.le_refl _) _) q).setCell (Nat.le_refl _) _).setCell (Nat.le_refl _) _).setCell (Nat.le_refl _) _
  have c0 := fun q => (kf q).cell (j := 0) rfl
  have c1 := fun q => (kf q).cell (j := 1) rfl
  have c2 := fun q => (kf q).cell (j := 2) rfl
  have C0 := Lib.hid c0
  have C1 := Lib.hid c1
  have C2 := Lib.hid c2
  clear kf c0 c1 c2
  rcases hc with h1 | ⟨h1, h2⟩ | ⟨h1, h2, h3⟩ | ⟨h1, h2, h3, h4⟩ | ⟨h1, h2, h3, h4, h5⟩
  all_goals
    first | rw [h1] at HS | skip
    first | rw [h2] at HZ | skip
    clear hx hl
    go_enter Try.func15, Try.ntmps15
    go_wp2_with (first
      | (go_at_call 29; (with_reducible refine (HS.out _ ?_).mono ?_); (exact (Below.refl _ _).alloc (Nat.le_refl _) _); rintro e w' ⟨rfl, q0, rfl⟩)
      | (go_at_call 39; (with_reducible refine (HZ.out _).mono ?_); rintro e w' ⟨rfl, q1, rfl⟩))
    refine bodyPost_ret (v := .tuple #[.agg #[.int .i64 0, .slice none 0 0, .int .i64 0], .bool false]) (by simp [results, Try.results15, go_sem, C0.out, C1.out, C2.out]) rfl ?_
    exact ⟨_, _, _, rfl, OI.nil_ _ _, Nat.le_refl _, bf _⟩

set_option maxRecDepth 1000000 in
set_option maxHeartbeats 4000000 in
theorem iWrap_yes {A : Option Addr} {n0 : Nat} {l : List Int} {w : World} (c K N : Nat) (hx : RI w A n0 l) (hn : n0 ≤ 1000000000) (h : wrapOk l K N = true) :
    Calls Try.prog 15 #[.slice A n0 c, .int .i64 (K : Int), .int .i64 (N : Int)] w (MakesWb w (reduceW l K N).1 (reduceW l K N).2.1 (reduceW l K N).2.2 (diffB (remsW l K N K))) := by
  obtain ⟨h1, ⟨h2, h3⟩, ⟨h4, h5⟩, h6⟩ := wrapOk_iff.1 h
  have hsz : inB (N : Int) 1 7 = true := inB_iff.2 ⟨h2, h3⟩
  have HS : Hid (∀ W, Below w.heap.size w W → Calls Try.prog 29 #[.slice A n0 c] W (Gives W (.bool true))) := fun W b => by have := iIsShape_any c (hx.below b) hn; rw [h1] at this; exact this
  have HZ : Hid (∀ W, Calls Try.prog 39 #[.int .i64 (N : Int)] W (Gives W (.bool true))) := fun W => by have := isSize_any (w := W) N; rw [hsz] at this; exact this
  rw [hx.1] at h6
  have HX := Lib.hid hx
  have HSH := Lib.hid h1
  clear h h1 hsz hx
  have hNK : ¬ N < K := by omega
  have hKn : ¬ K < n0 := by omega
  have hK1 : ¬ (K : Int) < 1 := by omega
  have hK7 : K ≤ 7 := by omega
  have hN1 : 1 ≤ N := by omega
  go_enter Try.func15, Try.ntmps15
  go_wp2_with (first
    | (go_at_call 29; (with_reducible refine (HS.out _ ?_).mono ?_); (exact (Below.refl _ _).alloc (Nat.le_refl _) _); rintro e w' ⟨rfl, q0, rfl⟩)
    | (go_at_call 39; (with_reducible refine (HZ.out _).mono ?_); rintro e w' ⟨rfl, q1, rfl⟩))
  obtain ⟨gb, hgb⟩ : ∃ gb, gb = w.heap.size := ⟨_, rfl⟩
  obtain ⟨w1, hw1⟩ : ∃ w1, w1 = (w.alloc (.cells #[.int .i64 0, .slice none 0 0, .int .i64 0] 44)).drewN (q0 + q1) := ⟨_, rfl⟩
  have kb1 : BK w1 gb 44 [.int .i64 0, .slice none 0 0, .int .i64 0] := by rw [hw1, hgb]; exact BK.below (BK.new w _ _) (Quiet.below (B := w.heap.size + 1) ⟨_, rfl⟩) (Nat.lt_succ_self _)
  have bb1 : Below gb w w1 := by rw [hw1, hgb]; exact below_drewN ((Below.refl _ _).alloc (Nat.le_refl _) _) _
  have hs1 : w1.heap.size = gb + 1 := by rw [hw1, hgb]; simp
  rw [← hw1]
  obtain ⟨w2, hw2⟩ : ∃ w2, w2 = w1.alloc (.cells #[] 3) := ⟨_, rfl⟩
  have kb2 : BK w2 gb 44 [.int .i64 0, .slice none 0 0, .int .i64 0] := by rw [hw2]; exact kb1.alloc _
  have bb2 : Below gb w w2 := by rw [hw2]; exact bb1.alloc (by omega) _
  have hs2 : w2.heap.size = gb + 2 := by rw [hw2]; simp [hs1]
  have o2 : OI w2 (gb + 1) (.slice (some ⟨gb + 1, 0, none⟩) 0 0) (remsW l K N 0) := by rw [hw2, ← hs1]; exact OI.lit w1 w1.heap.size [] 0 rfl (Nat.le_refl _) (by simp)
  rw [← hw2, ← hgb]
  have KB2 := Lib.hid kb2
  have BB2 := Lib.hid bb2
  have HGB := Lib.hid hgb
  have HS2 := Lib.hid hs2
  clear kb1 bb1 hs1 kb2 bb2 hw1 hw2 hgb hs2
  go_loopw [8, 9, 10, 11, 42] (fun e pw _ _ i wr => ∃ j : Nat, j ≤ K ∧ i = .int .i64 (j : Int) ∧ pw = .int .i64 (powW l K N j) ∧ OI wr (gb + 1) e (remsW l K N j) ∧ Hid (Below (gb + 1) w2 wr)) (fun _ _ _ _ i _ => K - (intOf i).toNat)
  case atStart => exact ⟨0, Nat.zero_le _, rfl, rfl, o2, Below.refl _ _⟩
  case round =>
    clear o2
    obtain ⟨j, hj, rfl, rfl, ho, hb⟩ := hrel
    have hxr : RI wr A n0 l := HX.out.below ((BB2.out.trans (hb.out.mono (Nat.le_succ _))).mono (by rw [HGB.out]; exact Nat.le_refl _))
    by_cases hlt : j < K
    · have hr := shape_range HSH.out j
      obtain ⟨v, hv⟩ : ∃ v, v = numW l K j := ⟨_, rfl⟩
      have hv1 : nth l j + K - 1 - j = v := hv.symm
      have hvr := numW_range HSH.out hlt hK7
      have hpr := powW_range HSH.out hK7 hN1 j (by omega)
      rw [← hv] at hvr
      have HV := Lib.hid hv
      obtain ⟨dq, hdq⟩ : ∃ dq, dq = v / (N : Int) := ⟨_, rfl⟩
      obtain ⟨dr, hdr⟩ : ∃ dr, dr = v % (N : Int) := ⟨_, rfl⟩
      obtain ⟨pw, hpw⟩ : ∃ pw, pw = powW l K N j := ⟨_, rfl⟩
      have hq0 : 0 ≤ dq := by rw [hdq]; exact Int.ediv_nonneg hvr.1 (by omega)
      have hq1 : dq ≤ v := by rw [hdq]; exact Int.ediv_le_self _ hvr.1
      have HP : Hid (powW l K N (j + 1) = pw + dq) := by show _ = _; rw [powW, ← HV.out, ← hdq, ← hpw]
      have HR : Hid (remsW l K N (j + 1) = remsW l K N j ++ [dr]) := by show _ = _; unfold remsW; rw [gen_succ, ← HV.out, ← hdr]
      have hlen := remsW_len l K N j
      rw [← hpw] at hpr
      rw [← hpw]
      have hdq' : v / (N : Int) = dq := hdq.symm
      have hdr' : v % (N : Int) = dr := hdr.symm
      have HB := Lib.hid hb.out
      have hsz := hb.out.size
      have HO := Lib.hid ho
      rw [HS2.out] at hsz
      clear hv hdq hdr hpw hb ho
      go_wp2_with (first
          | (go_at_call 30; refine (rowOf_any _ _ hxr (by omega) (by omega)).mono ?_; rintro e w' ⟨rfl, q0, rfl⟩)
          | (at_builtin; refine wpAppI rfl _ _ rfl (gb + 1) _ (remsW l K N j) [dr] (some ⟨wr.heap.size, 0, none⟩) 1 1 rfl rfl (by exact HO.out.alloc _) (by exact RI.one wr _) (by rw [hlen]; omega) (by simp; omega) ?_; intro v' w' h1 h2 h3))
      have HF : Hid (OI w' (gb + 1) v' (remsW l K N (j + 1)) ∧ Below (gb + 1) w2 w') := by
        refine ⟨by rw [HR.out]; exact h1, (below_drewN (HB.out.alloc (by omega) _) _).grown h2 (by simp; omega) (fun k hk => (HO.out.lt k hk).1)⟩
      clear h1 h2 h3
      go_roundw
      case rel => exact ⟨j + 1, by omega, by go_num, by rw [HP.out], HF.out.1, HF.out.2⟩
      case measure => simp [intOf]; omega
    · obtain rfl : j = K := by omega
      have hlen := remsW_len l j N j
      obtain ⟨g, ce, he, hgl, hgs⟩ := World.ownsRow.form ho (by rw [hlen]; omega)
      rw [hlen] at he
      subst he
      obtain ⟨E, hE⟩ : ∃ E, E = remsW l j N j := ⟨_, rfl⟩
      obtain ⟨P, hP⟩ : ∃ P, P = powW l j N j := ⟨_, rfl⟩
      obtain ⟨Q, hQ⟩ : ∃ Q, Q = ((j : Int) - 1) * P := ⟨_, rfl⟩
      have hpr := powW_range HSH.out hK7 hN1 j (Nat.le_refl _)
      rw [← hP] at hpr
      have hQr : 0 ≤ Q ∧ Q ≤ 6 * 7000070 := by
        rw [hQ]
        exact ⟨Int.mul_nonneg (by omega) hpr.1, Int.mul_le_mul (show (j : Int) - 1 ≤ 6 by omega) (show P ≤ 7000070 by omega) hpr.1 (by omega)⟩
      have hQ' : ((j : Int) - 1) * P = Q := hQ.symm
      rw [← hE] at ho
      rw [← hP]
      have HE := Lib.hid hE
      have HP := Lib.hid hP
      have HQ := Lib.hid hQ
      have HO := Lib.hid ho
      have HB := hb
      have HEL : Hid (E.length = j) := by show _ = _; rw [hE]; exact hlen
      have HER : Hid (∀ q, q < E.length → 0 ≤ nth E q ∧ nth E q < N) := by show ∀ q, _; rw [hE]; exact remsW_range hN1
      have HKL : Hid (BK wr gb 44 [.int .i64 0, .slice none 0 0, .int .i64 0]) := KB2.out.below hb.out (Nat.lt_succ_self _)
      obtain ⟨ws, hws⟩ : ∃ ws, ws = wr := ⟨_, rfl⟩
      subst hws
      clear ho hb hE hP hQ hxr
      go_wp2
      go_loopw [12, 13, 14, 71] (fun od _ _ i wr => ∃ p : Nat, p ≤ j ∧ i = .int .i64 (p : Int) ∧ od = .int .i64 (Q + invP E p) ∧ Quiet ws wr ∧ Hid (∀ p', p' < p → ∀ q, q < p' → nth E q ≠ nth E p')) (fun _ _ _ i _ => j - (intOf i).toNat)
      case atStart => exact ⟨0, Nat.zero_le _, rfl, by simp [invP], (by first | exact ⟨_, rfl⟩ | exact ⟨_, (World.drewN_drewN _ _ _).symm⟩ | exact Quiet.refl _ | (simp only [World.drewN_drewN]; exact ⟨_, rfl⟩)), fun p' hp' => by omega⟩
      case round =>
        obtain ⟨p, hp, rfl, rfl, hqq, hdf⟩ := hrel
        by_cases hlt2 : p < j
        · obtain ⟨I, hI⟩ : ∃ I, I = invP E p := ⟨_, rfl⟩
          have hIr := invP_range E p (by omega)
          rw [← hI] at hIr
          rw [← hI]
          have HI := Lib.hid hI
          obtain ⟨wo, hwo⟩ : ∃ wo, wo = wr := ⟨_, rfl⟩
          subst hwo
          clear hI
          go_wp2
          go_loopw [12, 14, 75] (fun od _ i wr => ∃ q : Nat, q ≤ p ∧ i = .int .i64 (q : Int) ∧ od = .int .i64 (Q + I + cntJ E p q) ∧ Quiet ws wr ∧ Hid (∀ q', q' < q → nth E q' ≠ nth E p)) (fun _ _ i _ => p - (intOf i).toNat)
          case atStart => exact ⟨0, Nat.zero_le _, rfl, by simp [cntJ], hqq, fun q' hq' => by omega⟩
          case round =>
            clear hqq
            obtain ⟨q, hq, rfl, rfl, ⟨qq, rfl⟩, hdq⟩ := hrel
            obtain ⟨J, hJ⟩ : ∃ J, J = cntJ E p q := ⟨_, rfl⟩
            have hJr := cntJ_range E p q
            rw [← hJ] at hJr
            rw [← hJ]
            have HJ := Lib.hid hJ
            clear hJ
            by_cases hlt3 : q < p
            · have z1 : ws.cell? ⟨g, q, none⟩ = some (.int .i64 (nth E q)) := HO.out.cellAt (by omega)
              have z2 : ws.cell? ⟨g, p, none⟩ = some (.int .i64 (nth E p)) := HO.out.cellAt (by omega)
              obtain ⟨x, hx⟩ : ∃ x, x = nth E q := ⟨_, rfl⟩
              obtain ⟨y, hy⟩ : ∃ y, y = nth E p := ⟨_, rfl⟩
              rw [← hx] at z1
              rw [← hy] at z2
              have hqj : (q : Int) < (j : Int) := by omega
              have hpj : (p : Int) < (j : Int) := by omega
              have HXx := Lib.hid hx
              have HYy := Lib.hid hy
              clear hx hy
              rcases hxy : decide (x = y) with _ | _
              · have hne : x ≠ y := of_decide_eq_false hxy
                have hne2 : (x == y) = false := by simpa using hne
                have HNE : Hid (nth E q ≠ nth E p) := by show _ ≠ _; rw [← HXx.out, ← HYy.out]; exact hne
                clear hne hxy
                rcases hlt4 : decide (x < y) with _ | _
                · have HC : Hid (cntJ E p (q + 1) = J) := by
                    have h := of_decide_eq_false hlt4
                    rw [HXx.out, HYy.out] at h
                    show _ = _
                    rw [cntJ, if_neg h, ← HJ.out]; omega
                  have hlt4' : ¬ x < y := of_decide_eq_false hlt4
                  go_wp2_with fail
                  go_quiet (fail)
                  go_wp2_with fail
                  go_quiet (fail)
                  go_wp2
                  go_roundw
                  case rel => exact ⟨q + 1, by omega, by go_num, by rw [HC.out], (by first | exact ⟨_, rfl⟩ | exact ⟨_, (World.drewN_drewN _ _ _).symm⟩ | exact Quiet.refl _ | (simp only [World.drewN_drewN]; exact ⟨_, rfl⟩)), upTo (P := fun q' => nth E q' ≠ nth E p) hdq.out HNE.out⟩
                  case measure => simp [intOf]; omega
                · have HC : Hid (cntJ E p (q + 1) = J + 1) := by
                    have h := of_decide_eq_true hlt4
                    rw [HXx.out, HYy.out] at h
                    show _ = _
                    rw [cntJ, if_pos h, ← HJ.out]
                  have hlt4' : x < y := of_decide_eq_true hlt4
                  go_wp2_with fail
                  go_quiet (fail)
                  go_wp2_with fail
                  go_quiet (fail)
                  go_wp2
                  go_roundw
                  case rel => exact ⟨q + 1, by omega, by go_num, by rw [HC.out]; congr 1; omega, (by first | exact ⟨_, rfl⟩ | exact ⟨_, (World.drewN_drewN _ _ _).symm⟩ | exact Quiet.refl _ | (simp only [World.drewN_drewN]; exact ⟨_, rfl⟩)), upTo (P := fun q' => nth E q' ≠ nth E p) hdq.out HNE.out⟩
                  case measure => simp [intOf]; omega
              · have heq : x = y := of_decide_eq_true hxy
                subst heq
                have HD : Hid (diffB E = false) := diffB_no (i := q) (j := p) hlt3 (by rw [HEL.out]; exact hlt2) (by rw [← HXx.out, ← HYy.out])
                have hne2 : (x == x) = true := by simp
                clear hxy
                have x0 := HKL.out.cell (j := 0) rfl
                have x1 := HKL.out.cell (j := 1) rfl
                have x2 := HKL.out.cell (j := 2) rfl
                have f0 := HKL.out.frozen (j := 0)
                have f1 := HKL.out.frozen (j := 1)
                have f2 := HKL.out.frozen (j := 2)
                go_wp2_with fail
                go_quiet (fail)
                go_wp2_with fail
                clear x0 x1 x2 f0 f1 f2
                have kf : ∀ q, BK ((((ws.drewN q).setCell ⟨gb, 0, none⟩ (.int .i64 0)).setCell ⟨gb, 1, none⟩ (.slice none 0 0)).setCell ⟨gb, 2, none⟩ (.int .i64 0)) gb 44 [.int .i64 0, .slice none 0 0, .int .i64 0] :=
                  fun q => BK.store3 (BK.below HKL.out (Quiet.below (B := gb + 1) ⟨q, rfl⟩) (Nat.lt_succ_self _))
                have bf : ∀ q, Below gb w ((((ws.drewN q).setCell ⟨gb, 0, none⟩ (.int .i64 0)).setCell ⟨gb, 1, none⟩ (.slice none 0 0)).setCell ⟨gb, 2, none⟩ (.int .i64 0)) :=
                  fun q => (((below_drewN (BB2.out.trans (HB.out.mono (Nat.le_succ _))) q).setCell (Nat.le_refl _) _).setCell (Nat.le_refl _) _).setCell (Nat.le_refl _) _
                have c0 := fun q => (kf q).cell (j := 0) rfl
                have c1 := fun q => (kf q).cell (j := 1) rfl
                have c2 := fun q => (kf q).cell (j := 2) rfl
                rw [← HE.out]
                have HRW : reduceW l j N = (0, [], 0) := by rw [reduceW, if_neg (by rw [← HE.out, HD.out]; simp)]
                rw [HRW, HD.out]
                refine bodyPost_ret (v := .tuple #[.agg #[.int .i64 0, .slice none 0 0, .int .i64 0], .bool false]) (by simp [results, Try.results15, go_sem, c0, c1, c2]) rfl ?_
                exact ⟨_, _, _, rfl, OI.nil_ _ _, Nat.le_refl _, by rw [← HGB.out]; exact bf _⟩
            · obtain rfl : q = p := by omega
              have HN : Hid (invP E (q + 1) = I + J) := by show _ = _; rw [invP, ← HI.out, ← HJ.out]
              have HDF : Hid (∀ p', p' < q + 1 → ∀ x, x < p' → nth E x ≠ nth E p') := upTo (P := fun p' => ∀ x, x < p' → nth E x ≠ nth E p') hdf.out hdq.out
              go_wp2
              go_roundw
              case rel => exact ⟨q + 1, by omega, by go_num, by rw [HN.out]; congr 1; omega, (by first | exact ⟨_, rfl⟩ | exact ⟨_, (World.drewN_drewN _ _ _).symm⟩ | exact Quiet.refl _ | (simp only [World.drewN_drewN]; exact ⟨_, rfl⟩)), HDF.out⟩
              case measure => simp [intOf]; omega
        · obtain rfl : p = j := by omega
          have HD : Hid (diffB E = true) := diffB_yes fun x hx => by rw [HEL.out] at hx; exact hdf.out x hx
          have HSRT : Hid ((sortTo E p).reverse = dscTo E N N) := by
            have h := sort_desc HD.out HER.out
            rw [HEL.out] at h
            exact h
          obtain ⟨I, hI⟩ : ∃ I, I = invP E p := ⟨_, rfl⟩
          have hIr := invP_range E p (by omega)
          rw [← hI] at hIr
          rw [← hI]
          have HI := Lib.hid hI
          obtain ⟨qq, hqq⟩ := hqq
          have bs : Below (gb + 1) ws wr := Quiet.below ⟨qq, hqq⟩
          have osr : OI wr (gb + 1) (.slice (some ⟨g, 0, none⟩) p ce) E := HO.out.below (Quiet.below ⟨qq, hqq⟩)
          clear hI hqq
          go_wp2_with fail
          refine (sort_any osr (by omega)).mono ?_
          rintro e w6 ⟨rfl, o6, g6⟩
          go_wp2_with fail
          refine (reverse_any o6 (by omega)).mono ?_
          rintro e w7 ⟨rfl, o7, g7⟩
          rw [HSRT.out] at o7
          have b7 : Below (gb + 1) w2 w7 := by
            have h1 := HB.out.trans bs
            have hs2 : gb + 1 ≤ w2.heap.size := by rw [HS2.out]; omega
            have h2 := h1.grown g6 (Nat.le_trans hs2 h1.size) (fun k hk => by simp [Value.ownBlock] at hk; omega)
            exact h2.grown g7 (Nat.le_trans hs2 h2.size) (fun k hk => by simp [Value.ownBlock] at hk; omega)
          obtain ⟨D, hD⟩ : ∃ D, D = dscTo E N N := ⟨_, rfl⟩
          rw [← hD] at o7
          have HDD := Lib.hid hD
          have HDL : Hid (D.length = p) := by have h := o7.ri.1; exact h
          have O7 := Lib.hid o7
          have B7 := Lib.hid b7
          clear hD o6 g6 g7 o7 b7 osr bs
          go_wp2
          go_loopw [15, 107] (fun _ i wr => ∃ (x : Nat) (m : List Int), x ≤ p ∧ i = .int .i64 (x : Int) ∧ m.length = p ∧ OI wr (gb + 1) (.slice (some ⟨g, 0, none⟩) p ce) m ∧ Hid (Below (gb + 1) w2 wr) ∧ Hid (∀ y, y < p → nth m y = if y < x then nth D y - ((p : Int) - 1 - y) else nth D y)) (fun _ i _ => p - (intOf i).toNat)
          case atStart => exact ⟨0, D, Nat.zero_le _, rfl, HDL.out, O7.out, B7, fun y hy => by rw [if_neg (by omega)]⟩
          case round =>
            obtain ⟨x, m, hx, rfl, hm, hom, hbx, htx⟩ := hrel
            by_cases hlt5 : x < p
            · have z1 : wr.cell? ⟨g, x, none⟩ = some (.int .i64 (nth m x)) := hom.cellAt hlt5
              have f1 := hom.frozenAt x
              have ev := htx.out x hlt5
              rw [if_neg (by omega)] at ev
              obtain ⟨v, hv⟩ : ∃ v, v = nth m x := ⟨_, rfl⟩
              rw [← hv] at z1 ev
              obtain ⟨r1, r2⟩ := hom.stored x (v - ((p : Int) - 1 - x))
              have hvr : 0 ≤ v ∧ v < N := by
                have hmem : v ∈ D := by rw [ev]; exact nth_mem (by rw [HDL.out]; exact hlt5)
                rw [HDD.out] at hmem
                have h := (dscTo_mem.1 hmem).2
                omega
              have HF : Hid (OI (wr.setCell ⟨g, x, none⟩ (.int .i64 (v - ((p : Int) - 1 - x)))) (gb + 1) (.slice (some ⟨g, 0, none⟩) p ce) (m.set x (v - ((p : Int) - 1 - x))) ∧ Below (gb + 1) w2 (wr.setCell ⟨g, x, none⟩ (.int .i64 (v - ((p : Int) - 1 - x))))) :=
                ⟨r1, hbx.out.setCell (show gb + 1 ≤ g from hgl) _⟩
              have HT : Hid (∀ y, y < p → nth (m.set x (v - ((p : Int) - 1 - x))) y = if y < x + 1 then nth D y - ((p : Int) - 1 - y) else nth D y) := fun y hy => by
                by_cases h : x = y
                · subst h
                  rw [nth_set_eq (by omega), if_pos (by omega), ev]
                · rw [nth_set_ne h, htx.out y hy]
                  by_cases h2 : y < x
                  · rw [if_pos h2, if_pos (by omega)]
                  · rw [if_neg h2, if_neg (by omega)]
              have hsl : (m.set x (v - ((p : Int) - 1 - x))).length = p := by simp [hm]
              have hxp : (x : Int) < (p : Int) := by omega
              clear hv ev r1 r2 hom htx hbx hm
              go_wp2
              go_roundw
              case rel => exact ⟨x + 1, _, by omega, by go_num, hsl, HF.out.1, HF.out.2, HT⟩
              case measure => simp [intOf]; omega
            · obtain rfl : x = p := by omega
              have HM : Hid (m = rowsW l x N) := by
                show m = _
                unfold rowsW lssTo
                rw [← HE.out, ← HDD.out]
                refine ext_nth (by rw [hm, gen_len]) fun y hy => ?_
                rw [hm] at hy
                rw [htx.out y hy, if_pos hy, nth_gen hy]
              have HOM := Lib.hid hom
              have HMR := Lib.hid hom.ri
              have hle := bareLen_le m x
              have hcc : x ≤ ce := by obtain ⟨_, _, _, e, _, h, _⟩ := hom.form; obtain ⟨_, e2, e3⟩ := slice_inj e; omega
              have HSW : Hid (signW l x N = 1 - (Q + I) % 2 * 2) := by
                show _ = _
                unfold signW
                rw [← HE.out, ← HP.out, ← HQ.out, ← HI.out]
                have := Int.emod_two_eq (Q + I)
                split <;> omega
              have hKB : Hid (BK wr gb 44 [.int .i64 0, .slice none 0 0, .int .i64 0]) := KB2.out.below hbx.out (Nat.lt_succ_self _)
              have HBX : Hid (Below gb w wr) := BB2.out.trans (hbx.out.mono (Nat.le_succ _))
              have x0 := hKB.out.cell (j := 0) rfl
              have x1 := hKB.out.cell (j := 1) rfl
              have x2 := hKB.out.cell (j := 2) rfl
              have f0 := hKB.out.frozen (j := 0)
              have f1 := hKB.out.frozen (j := 1)
              have f2 := hKB.out.frozen (j := 2)
              have hm2 := Int.emod_two_eq (Q + I)
              clear hom htx hbx hm
              go_wp2_with (first
                | (go_at_call 33; refine (shapeOfRows_any _ HMR.out (by omega) hcc).mono ?_; rintro e w' ⟨rfl, q0, rfl⟩))
              clear x0 x1 x2 f0 f1 f2
              have kf : BK ((((wr.drewN q0).setCell ⟨gb, 0, none⟩ (.int .i64 P)).setCell ⟨gb, 1, none⟩ (.slice (some ⟨g, 0, none⟩) (bareLen m x) ce)).setCell ⟨gb, 2, none⟩ (.int .i64 (1 - (Q + I) % 2 * 2))) gb 44 [.int .i64 P, .slice (some ⟨g, 0, none⟩) (bareLen m x) ce, .int .i64 (1 - (Q + I) % 2 * 2)] :=
                BK.store3 (BK.below hKB.out (Quiet.below (B := gb + 1) ⟨q0, rfl⟩) (Nat.lt_succ_self _))
              have bf : Below gb w ((((wr.drewN q0).setCell ⟨gb, 0, none⟩ (.int .i64 P)).setCell ⟨gb, 1, none⟩ (.slice (some ⟨g, 0, none⟩) (bareLen m x) ce)).setCell ⟨gb, 2, none⟩ (.int .i64 (1 - (Q + I) % 2 * 2))) :=
                (((below_drewN HBX.out q0).setCell (Nat.le_refl _) _).setCell (Nat.le_refl _) _).setCell (Nat.le_refl _) _
              have of' : OI ((((wr.drewN q0).setCell ⟨gb, 0, none⟩ (.int .i64 P)).setCell ⟨gb, 1, none⟩ (.slice (some ⟨g, 0, none⟩) (bareLen m x) ce)).setCell ⟨gb, 2, none⟩ (.int .i64 (1 - (Q + I) % 2 * 2))) (gb + 1) (.slice (some ⟨g, 0, none⟩) (bareLen m x) ce) (m.take (bareLen m x)) :=
                (((((HOM.out.take hle).below (Quiet.below ⟨q0, rfl⟩)).far gb 0 _ (Nat.lt_succ_self _)).far gb 1 _ (Nat.lt_succ_self _)).far gb 2 _ (Nat.lt_succ_self _))
              have c0 := kf.cell (j := 0) rfl
              have c1 := kf.cell (j := 1) rfl
              have c2 := kf.cell (j := 2) rfl
              have HRW : reduceW l x N = (P, m.take (bareLen m x), 1 - (Q + I) % 2 * 2) := by
                rw [reduceW, if_pos (by rw [← HE.out]; exact HD.out), ← HP.out, HSW.out, ← HM.out]
                unfold bare
                rw [show m.length = x from HMR.out.1]
              rw [← HE.out, HD.out, HRW]
              refine bodyPost_ret (v := .tuple #[.agg #[.int .i64 P, .slice (some ⟨g, 0, none⟩) (bareLen m x) ce, .int .i64 (1 - (Q + I) % 2 * 2)], .bool true]) (by simp [results, Try.results15, go_sem, c0, c1, c2]) rfl ?_
              exact ⟨_, _, _, rfl, (of'.mono (by rw [← HGB.out]; exact Nat.le_succ _)), Nat.le_trans hle hcc, by rw [← HGB.out]; exact bf⟩

theorem iWrap_any {A : Option Addr} {n0 : Nat} {l : List Int} {w : World} (c : Nat) (k n : Int) (hx : RI w A n0 l) (hn : n0 ≤ 1000000000) :
    Calls Try.prog 15 #[.slice A n0 c, .int .i64 k, .int .i64 n] w (MakesWb w (wrapB l k n).1.1 (wrapB l k n).1.2.1 (wrapB l k n).1.2.2 (wrapB l k n).2) := by
  rcases h : wrapOk l k n with _ | _
  · rw [wrapB_no h]
    exact iWrap_no c k n hx hn h
  · obtain ⟨h1, h2, h3, h4⟩ := wrapOk_iff.1 h
    obtain ⟨K, rfl⟩ := Int.eq_ofNat_of_zero_le (a := k) (by omega)
    obtain ⟨N, rfl⟩ := Int.eq_ofNat_of_zero_le (a := n) (by omega)
    have h5 : wrapOk l K N = true := h
    rw [wrapB_yes h5]
    exact iWrap_yes c K N hx hn h5
end Go.Proofs.Ytbemglmnnehllaa
