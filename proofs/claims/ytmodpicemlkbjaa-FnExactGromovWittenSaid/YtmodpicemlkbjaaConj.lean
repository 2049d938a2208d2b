/- Shapes turned over: ConjugateShape of both sides. -/
import Derived.Test.YtmodpicemlkbjaaShapes
namespace Go.Proofs.Ytmodpicemlkbjaa
open Go.RowKit

/-- How many of the first k numbers exceed j. -/
def above (l : List Int) (j : Int) : Nat → Nat
  | 0 => 0
  | k + 1 => if j < nth l k then above l j k + 1 else above l j k
theorem above_yes {l : List Int} {j : Int} {k : Nat} (h : j < nth l k) : above l j (k + 1) = above l j k + 1 := by rw [above, if_pos h]
theorem above_no {l : List Int} {j : Int} {k : Nat} (h : ¬ j < nth l k) : above l j (k + 1) = above l j k := by rw [above, if_neg h]
theorem above_le (l : List Int) (j : Int) (k : Nat) : above l j k ≤ k := by
  induction k with
  | zero => exact Nat.le_refl _
  | succ k ih => unfold above; split <;> omega
theorem shape_down {l : List Int} (h : isShapeB l = true) {a b : Nat} (hab : a ≤ b) (hb : b < l.length) : nth l b ≤ nth l a := by
  induction b with
  | zero => rw [Nat.le_zero.1 hab]; exact Int.le_refl _
  | succ b ih =>
    rcases Nat.lt_or_ge a (b + 1) with h1 | h1
    · have i := ih (by omega) (by omega)
      unfold isShapeB at h
      rw [Bool.and_eq_true] at h
      have := (shapeAt_iff.1 (allB_at h.2 hb)).2 (by omega)
      simp only [Nat.add_sub_cancel] at this
      omega
    · rw [show a = b + 1 by omega]; exact Int.le_refl _
theorem above_stop {l : List Int} {j : Int} {m : Nat} (h : isShapeB l = true) (hm : m < l.length) (hj : ¬ j < nth l m) (k : Nat) (hk : m ≤ k) (hkl : k ≤ l.length) : above l j k = above l j m := by
  induction k with
  | zero => rw [Nat.le_zero.1 hk]
  | succ k ih =>
    rcases Nat.lt_or_ge m (k + 1) with h1 | h1
    · have := shape_down h (a := m) (b := k) (by omega) (by omega)
      rw [above_no (by omega), ih (by omega) (by omega)]
    · rw [show m = k + 1 by omega]
theorem above_all {l : List Int} {j : Int} {m : Nat} (h : ∀ i, i < m → j < nth l i) : above l j m = m := by
  induction m with
  | zero => rfl
  | succ m ih => rw [above_yes (h m (by omega)), ih (fun i hi => h i (by omega))]
theorem above_ge {l : List Int} {j : Int} {m k : Nat} (hm : m ≤ k) : above l j m ≤ above l j k := by
  induction k with
  | zero => rw [Nat.le_zero.1 hm]; exact Nat.le_refl _
  | succ k ih =>
    rcases Nat.lt_or_ge m (k + 1) with h1 | h1
    · have := ih (by omega)
      by_cases h : j < nth l k
      · rw [above_yes h]; omega
      · rw [above_no h]; omega
    · rw [show m = k + 1 by omega]; exact Nat.le_refl _
def conjG (l : List Int) (n : Nat) : List Int := gen (fun j => (above l j l.length : Int)) n
/-- The shape turned over. -/
def conjB (l : List Int) : List Int := if isShapeB l then conjG l (nth l 0).toNat else []
theorem conjB_yes {l : List Int} (h : isShapeB l = true) : conjB l = conjG l (nth l 0).toNat := by simp [conjB, h]
theorem conjB_no {l : List Int} (h : isShapeB l = false) : conjB l = [] := by simp [conjB, h]
theorem conjB_nil : conjB [] = [] := rfl
theorem conjG_snoc {l : List Int} {j x : Nat} (h : x = above l j l.length) : conjG l (j + 1) = conjG l j ++ [(x : Int)] := by
  rw [conjG, gen_succ, h]; rfl
theorem conjG_len (l : List Int) (n : Nat) : (conjG l n).length = n := gen_len _ _
theorem shape_len {l : List Int} (h : isShapeB l = true) : l.length ≤ 16 := by
  unfold isShapeB at h
  rw [Bool.and_eq_true, decide_eq_true_eq] at h
  exact h.1

theorem iConj_any {A : Option Addr} {n : Nat} {l : List Int} {w : World} (c : Nat) (hx : RI w A n l) (hn : n ≤ 1000000000) :
    Calls Try.prog 117 #[.slice A n c] w (Makes w (conjB l)) := by
  have HL := Lib.hid hx.1
  rcases Bool.eq_false_or_eq_true (isShapeB l) with hs | hs
  · have HS := Lib.hid hs
    have HC := Lib.hid (conjB_yes hs)
    have h16 := shape_len hs
    rw [HL.out] at h16
    by_cases hz : n = 0
    · have HE : Hid (conjB l = []) := by
        show conjB l = []
        rw [List.eq_nil_of_length_eq_zero (HL.out.trans hz)]; rfl
      have hz2 : ((n : Int) == 0) = true := by simp; omega
      clear hz
      go_enter Try.func117, Try.ntmps117
      go_wp2_with (go_at_call 79; refine (iIsShape_any _ (by exact hx.alloc _) hn).mono ?_; rintro e w' ⟨rfl, q0, rfl⟩)
      go_ret
      rw [HE.out]
      exact Makes.of (OI.lit w _ [] 0 rfl (Nat.le_refl _) (by simp)) (below_drewN ((Below.refl _ _).alloc (Nat.le_refl _) _) _) (by simp)
    · have hz2 : ((n : Int) == 0) = false := by simp; omega
      have hr := shape_range hs 0
      obtain ⟨ad, hA, hc⟩ := hx.cell (k := 0) (by omega)
      subst hA
      obtain ⟨m, hm⟩ := Int.eq_ofNat_of_zero_le hr.1
      have hm16 : m ≤ 16 := by omega
      rw [hm, Int.toNat_natCast] at HC
      rw [hm, add_zero_] at hc
      have hca := one_cell ((Below.refl w.heap.size w).alloc (Nat.le_refl _) (.cells #[] 3)) hc
      have hz3 : 0 < n := by omega
      clear hr hm hz
      go_enter Try.func117, Try.ntmps117
      go_wp2_with (go_at_call 79; refine (iIsShape_any _ (by exact hx.alloc _) hn).mono ?_; rintro e w' ⟨rfl, q0, rfl⟩)
      clear hs
      go_loopw [3, 19] (fun v i wr => ∃ j : Nat, j ≤ m ∧ i = .int .i64 (j : Int) ∧ OI wr w.heap.size v (conjG l j) ∧ Below w.heap.size w wr) (fun _ i _ => m - (intOf i).toNat)
      case atStart => exact ⟨0, Nat.zero_le _, rfl, OI.below (OI.lit w _ [] 0 rfl (Nat.le_refl _) (by simp)) (Quiet.below ⟨_, rfl⟩), below_drewN ((Below.refl _ _).alloc (Nat.le_refl _) _) _⟩
      case round =>
        obtain ⟨j, hj, rfl, ho, hb⟩ := hrel
        by_cases hlt : j < m
        · have hxr := hx.below hb
          obtain ⟨wo, rfl⟩ : ∃ wo : World, wo = wr := ⟨_, rfl⟩
          go_wp2
          go_loopw [5] (fun v wr => ∃ k : Nat, k ≤ n ∧ v = .int .i64 (k : Int) ∧ Hid (above l j k = k) ∧ Quiet wo wr) (fun v _ => n - (intOf v).toNat)
          case atStart => exact ⟨0, Nat.zero_le _, rfl, rfl, (by first | exact ⟨_, rfl⟩ | exact ⟨_, (World.drewN_drewN _ _ _).symm⟩ | exact Quiet.refl _ | (simp only [World.drewN_drewN]; exact ⟨_, rfl⟩))⟩
          case round =>
            obtain ⟨k, hk, rfl, HT, ⟨q, rfl⟩⟩ := hrel
            by_cases hkn : k < n
            · obtain ⟨ad2, hA2, hc2⟩ := hxr.cell hkn
              simp only [Option.some.injEq] at hA2
              subst hA2
              by_cases hgt : (j : Int) < nth l k
              · have HT2 : Hid (above l j (k + 1) = k + 1) := by show above l j (k + 1) = k + 1; rw [above_yes hgt, HT.out]
                go_wp2
                go_roundw
                case rel => exact ⟨k + 1, by omega, by go_num, HT2, (by first | exact ⟨_, rfl⟩ | exact ⟨_, (World.drewN_drewN _ _ _).symm⟩ | exact Quiet.refl _ | (simp only [World.drewN_drewN]; exact ⟨_, rfl⟩))⟩
                case measure => simp [intOf]; omega
              · have HF : Hid (conjG l (j + 1) = conjG l j ++ [(k : Int)]) := conjG_snoc (by rw [above_stop HS.out (m := k) (by rw [HL.out]; exact hkn) hgt l.length (by rw [HL.out]; exact hk) (Nat.le_refl _), HT.out])
                have hlen : (conjG l j).length = j := conjG_len _ _
                go_wp2_with (at_builtin; refine wpAppI rfl _ _ rfl w.heap.size _ (conjG l j) [(k : Int)] (some ⟨wo.heap.size, 0, none⟩) 1 1 rfl rfl (by exact (ho.below (Quiet.below ⟨_, rfl⟩)).alloc _) (by exact RI.one (World.drewN _ _) _) (by rw [hlen]; simp; omega) (by have := hb.size; simp; omega) ?_; intro v' w' h1 h2 h3)
                go_roundw
                case rel => exact ⟨j + 1, by omega, by go_num, by rw [HF.out]; exact h1, (below_drewN (hb.alloc hb.size _) _).grown h2 (by have := hb.size; simp; omega) (fun k hk => (ho.lt k hk).1)⟩
                case measure => simp [intOf]; omega
            · obtain rfl : k = n := by omega
              have HF : Hid (conjG l (j + 1) = conjG l j ++ [(k : Int)]) := conjG_snoc (by rw [HL.out]; exact HT.out.symm)
              have hlen : (conjG l j).length = j := conjG_len _ _
              go_wp2_with (at_builtin; refine wpAppI rfl _ _ rfl w.heap.size _ (conjG l j) [(k : Int)] (some ⟨wo.heap.size, 0, none⟩) 1 1 rfl rfl (by exact (ho.below (Quiet.below ⟨_, rfl⟩)).alloc _) (by exact RI.one (World.drewN _ _) _) (by rw [hlen]; simp; omega) (by have := hb.size; simp; omega) ?_; intro v' w' h1 h2 h3)
              go_roundw
              case rel => exact ⟨j + 1, by omega, by go_num, by rw [HF.out]; exact h1, (below_drewN (hb.alloc hb.size _) _).grown h2 (by have := hb.size; simp; omega) (fun k hk => (ho.lt k hk).1)⟩
              case measure => simp [intOf]; omega
        · obtain rfl : j = m := by omega
          go_wp2
          go_ret
          rw [HC.out]
          exact Makes.of ho hb (by rw [conjG_len]; omega)
  · have HC := Lib.hid (conjB_no hs)
    go_enter Try.func117, Try.ntmps117
    go_wp2_with (go_at_call 79; refine (iIsShape_any _ (by exact hx.alloc _) hn).mono ?_; rintro e w' ⟨rfl, q0, rfl⟩)
    go_ret
    rw [HC.out]
    exact Makes.of (OI.lit w _ [] 0 rfl (Nat.le_refl _) (by simp)) (below_drewN ((Below.refl _ _).alloc (Nat.le_refl _) _) _) (by simp)

end Go.Proofs.Ytmodpicemlkbjaa
