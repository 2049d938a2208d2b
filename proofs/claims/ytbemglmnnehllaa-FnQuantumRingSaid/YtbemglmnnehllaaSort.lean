/- slices.Sort and slices.Reverse at short slices of numbers that the call owns. -/
import Derived.Test.YtbemglmnnehllaaPlain
import Derived.Test.YtbemglmnnehllaaCmp
import Derived.BigRegion
import Derived.LoopN
namespace Go.Proofs.Ytbemglmnnehllaa
open Go.RowKit

theorem iless_any {w : World} (a b : Int) : Calls Try.prog 62 #[.int .i64 a, .int .i64 b] w (Gives w (.bool (decide (a < b)))) := by
  have HN : Hid (∀ (W : World) (x : Int), Calls Try.prog 54 #[.int .i64 x] W (Gives W (.bool false))) := fun W x => by
    go_enter Try.func54, Try.ntmps54
    go_wp2
    go_ret
    exact ⟨rfl, Quiet.refl _⟩
  rcases h : decide (a < b) with _ | _
  · have h2 : ¬ a < b := of_decide_eq_false h
    go_enter Try.func62, Try.ntmps62
    go_wp2_with (go_at_call 54; (with_reducible refine (HN.out _ _).mono ?_); rintro e w' ⟨rfl, q0, rfl⟩)
    go_ret
    exact ⟨rfl, (by first | exact ⟨_, rfl⟩ | exact ⟨_, (World.drewN_drewN _ _ _).symm⟩ | exact Quiet.refl _ | (simp only [World.drewN_drewN]; exact ⟨_, rfl⟩))⟩
  · have h2 : a < b := of_decide_eq_true h
    go_enter Try.func62, Try.ntmps62
    go_wp2_with (go_at_call 54; (with_reducible refine (HN.out _ _).mono ?_); rintro e w' ⟨rfl, q0, rfl⟩)
    go_ret
    exact ⟨rfl, (by first | exact ⟨_, rfl⟩ | exact ⟨_, (World.drewN_drewN _ _ _).symm⟩ | exact Quiet.refl _ | (simp only [World.drewN_drewN]; exact ⟨_, rfl⟩))⟩

theorem grown_trans {w w1 w2 : World} {row : Option Nat} (h : w.grownBy w1 row) (k : w1.grownBy w2 row) : w.grownBy w2 row :=
  ⟨k.os.trans h.os, k.tape.trans h.tape, k.output.trans h.output, Nat.le_trans h.size k.size, fun i hi hne => (k.block i (Nat.lt_of_lt_of_le hi h.size) hne).trans (h.block i hi hne)⟩
/-- What a function leaves that turns an owned row of numbers in place. -/
def Turns (w : World) (base : Nat) (v : Value) (l : List Int) : Ending → World → Prop := fun e w' => e = .returned (.tuple #[]) ∧ OI w' base v l ∧ w.grownBy w' v.ownBlock

set_option maxRecDepth 1000000 in
set_option maxHeartbeats 4000000 in
theorem insSort_any {w : World} {base g n c : Nat} {l : List Int} (ho : OI w base (.slice (some ⟨g, 0, none⟩) n c) l) (hn : n ≤ 12) :
    Calls Try.prog 56 #[.slice (some ⟨g, 0, none⟩) n c, .int .i64 0, .int .i64 (n : Int)] w (Turns w base (.slice (some ⟨g, 0, none⟩) n c) (sortTo l n)) := by
  have hl : l.length = n := ho.ri.1
  have HL := Lib.hid hl
  have HO := Lib.hid ho
  clear ho hl
  go_enter Try.func56, Try.ntmps56
  go_wp2
  go_loopw [6, 7] (fun i _ wr => ∃ k : Nat, (1 ≤ k ∧ (k ≤ n ∨ k = 1)) ∧ i = .int .i64 (k : Int) ∧ OI wr base (.slice (some ⟨g, 0, none⟩) n c) (sortTo l k) ∧ w.grownBy wr (some g)) (fun i _ _ => n - (intOf i).toNat)
  case atStart => exact ⟨1, ⟨Nat.le_refl _, .inr rfl⟩, rfl, HO.out, World.grownBy.refl _ _⟩
  case round =>
    obtain ⟨k, ⟨hk1, hk2⟩, rfl, ho, hg⟩ := hrel
    by_cases hlt : k < n
    · obtain ⟨l0, hl0⟩ : ∃ l0, l0 = sortTo l k := ⟨_, rfl⟩
      have HS : Hid (sortTo l (k + 1) = sink l0 k) := by show _ = _; rw [hl0]; rfl
      have hll : l0.length = n := by rw [hl0, sortTo_len, HL.out]
      have HLL := Lib.hid hll
      rw [← hl0] at ho
      have HO0 := Lib.hid ho
      have HG0 := Lib.hid hg
      clear hl0 ho hg hll
      go_wp2
      go_loopw [7] (fun j wr => ∃ (j0 : Nat) (m : List Int), j0 ≤ k ∧ j = .int .i64 (j0 : Int) ∧ m.length = n ∧ Hid (sink m j0 = sink l0 k) ∧ OI wr base (.slice (some ⟨g, 0, none⟩) n c) m ∧ Hid (w.grownBy wr (some g))) (fun j _ => (intOf j).toNat)
      case atStart => exact ⟨k, l0, Nat.le_refl _, rfl, HLL.out, rfl, HO0.out, HG0⟩
      case round =>
        obtain ⟨j0, m, hj, rfl, hm, HT, hom, HG⟩ := hrel
        rcases Nat.eq_zero_or_pos j0 with h0 | h0
        · subst h0
          have HF : Hid (OI wr base (.slice (some ⟨g, 0, none⟩) n c) (sortTo l (k + 1)) ∧ w.grownBy wr (some g)) := ⟨by rw [HS.out, ← HT.out]; exact hom, HG.out⟩
          have t0 : decide ((0 : Int) < ((0 : Nat) : Int)) = false := rfl
          have t1 : decide ((0 : Int) < 0) = false := rfl
          clear hom
          go_wp2_with fail
          go_quiet (fail)
          go_wp2
          go_roundw
          case rel => exact ⟨k + 1, ⟨by omega, .inl (by omega)⟩, by go_num, HF.out.1.below (Quiet.below ⟨_, rfl⟩), grown_drewN HF.out.2 _⟩
          case measure => simp [intOf]; omega
        · obtain ⟨j, rfl⟩ : ∃ j, j0 = j + 1 := ⟨j0 - 1, by omega⟩
          obtain ⟨x, hx⟩ : ∃ x, x = nth m (j + 1) := ⟨_, rfl⟩
          obtain ⟨y, hy⟩ : ∃ y, y = nth m j := ⟨_, rfl⟩
          have z1 : wr.cell? ⟨g, j + 1, none⟩ = some (.int .i64 x) := by rw [hx]; exact hom.cellAt (by omega)
          have z0 : wr.cell? ⟨g, j, none⟩ = some (.int .i64 y) := by rw [hy]; exact hom.cellAt (by omega)
          have f1 := hom.frozenAt (j + 1)
          have f0 := hom.frozenAt j
          have hjk : (0 : Int) < (j : Int) + 1 := by omega
          have hj1 : (j : Int) + 1 - 1 = j := by omega
          have HX := Lib.hid hx
          have HY := Lib.hid hy
          have HM := Lib.hid hm
          have HOM := Lib.hid hom
          have hjn : (j : Int) + 1 < (n : Int) := by omega
          have hjn0 : (j : Int) < (n : Int) := by omega
          clear hx hy hm hom
          rcases hd : decide (x < y) with _ | _
          · have HLS : Hid (∀ W, Calls Try.prog 62 #[.int .i64 x, .int .i64 y] W (Gives W (.bool false))) := fun W => by have h := iless_any (w := W) x y; rw [hd] at h; exact h
            have HF : Hid (OI wr base (.slice (some ⟨g, 0, none⟩) n c) (sortTo l (k + 1)) ∧ w.grownBy wr (some g)) := by
              refine ⟨?_, HG.out⟩
              have h := of_decide_eq_false hd
              rw [HX.out, HY.out] at h
              rw [HS.out, ← HT.out, sink_no h]
              exact HOM.out
            clear hd
            go_wp2_with fail
            go_quiet ((go_at_call 62; first | exact qcall (HLS.out _) | exact qcall_add (HLS.out _)))
            go_wp2
            go_roundw
            case rel => exact ⟨k + 1, ⟨by omega, .inl (by omega)⟩, by go_num, HF.out.1.below (Quiet.below ⟨_, rfl⟩), grown_drewN HF.out.2 _⟩
            case measure => simp [intOf]; omega
          · have HLS : Hid (∀ W, Calls Try.prog 62 #[.int .i64 x, .int .i64 y] W (Gives W (.bool true))) := fun W => by have h := iless_any (w := W) x y; rw [hd] at h; exact h
            obtain ⟨r1, r2⟩ := HOM.out.stored (j + 1) y
            obtain ⟨r3, r4⟩ := r1.stored j x
            have HF : Hid (OI ((wr.setCell ⟨g, j + 1, none⟩ (.int .i64 y)).setCell ⟨g, j, none⟩ (.int .i64 x)) base (.slice (some ⟨g, 0, none⟩) n c) (swapL m j) ∧ w.grownBy ((wr.setCell ⟨g, j + 1, none⟩ (.int .i64 y)).setCell ⟨g, j, none⟩ (.int .i64 x)) (some g)) := by
              refine ⟨?_, grown_trans (grown_trans HG.out r2) r4⟩
              unfold swapL
              rw [← HX.out, ← HY.out]
              exact r3
            have HT2 : Hid (sink (swapL m j) j = sink l0 k) := by
              have h := of_decide_eq_true hd
              rw [HX.out, HY.out] at h
              show _ = _
              rw [← HT.out, sink_yes h]
            have hsl : (swapL m j).length = n := (swapL_len m j).trans HM.out
            clear hd r1 r2 r3 r4
            go_wp2_with fail
            go_quiet ((go_at_call 62; first | exact qcall (HLS.out _) | exact qcall_add (HLS.out _)))
            obtain ⟨wq, hwq⟩ : ∃ wq, wq = wr.drewN nq := ⟨_, rfl⟩
            have hbq : Below wr.heap.size wr wq := by rw [hwq]; exact Quiet.below ⟨_, rfl⟩
            have z1q := one_cell hbq z1
            have z0q := one_cell hbq z0
            have f1q : wq.frozen? ⟨g, j + 1, none⟩ = false := by rw [hwq]; exact f1
            have f0q : wq.frozen? ⟨g, j, none⟩ = false := by rw [hwq]; exact f0
            have HWQ := Lib.hid hwq
            rw [← hwq]
            clear z1 z0 f1 f0 hwq hbq
            go_wp2_with fail
            go_region
            all_goals go_wp2
            have HW : Hid (Below ((wr.setCell ⟨g, j + 1, none⟩ (.int .i64 y)).setCell ⟨g, j, none⟩ (.int .i64 x)).heap.size ((wr.setCell ⟨g, j + 1, none⟩ (.int .i64 y)).setCell ⟨g, j, none⟩ (.int .i64 x)) ((wq.setCell ⟨g, j + 1, none⟩ (.int .i64 y)).setCell ⟨g, j, none⟩ (.int .i64 x)).drew) := by
              show Below _ _ _
              rw [HWQ.out]
              exact ⟨rfl, rfl, rfl, Nat.le_refl _, fun _ _ => rfl⟩
            refine ⟨⟨j, swapL m j, by omega, rfl, hsl, HT2, HF.out.1.below HW.out, ?_⟩, by simp [intOf]⟩
            have hh := HW.out
            exact ⟨hh.os.trans HF.out.2.os, hh.tape.trans HF.out.2.tape, hh.output.trans HF.out.2.output, Nat.le_trans HF.out.2.size hh.size, fun i hi hne => (hh.block i (Nat.lt_of_lt_of_le hi HF.out.2.size)).trans (HF.out.2.block i hi hne)⟩
    · have hkn : sortTo l k = sortTo l n := by
        rcases hk2 with h | h
        · obtain rfl : k = n := by omega
          rfl
        · subst h
          have h2 := HL.out
          rcases Nat.eq_zero_or_pos n with h3 | h3
          · subst h3; rfl
          · obtain rfl : n = 1 := by omega
            rfl
      rw [hkn] at ho
      go_wp2
      go_end0
      exact ⟨rfl, ho, hg⟩

set_option maxHeartbeats 2000000 in
theorem pdq_any {w : World} {base g n c : Nat} {l : List Int} (z : Int) (ho : OI w base (.slice (some ⟨g, 0, none⟩) n c) l) (hn : n ≤ 12) :
    Calls Try.prog 51 #[.slice (some ⟨g, 0, none⟩) n c, .int .i64 0, .int .i64 (n : Int), .int .i64 z] w (Turns w base (.slice (some ⟨g, 0, none⟩) n c) (sortTo l n)) := by
  have HC := Lib.hid (insSort_any ho hn)
  have t1 : decide ((n : Int) ≤ 12) = true := decide_eq_true (by omega)
  clear ho
  go_enter Try.func51, Try.ntmps51
  go_wp2
  refine wp_loop_rounds 1 ?_
  simp only [Code.rounds]
  go_wp2_with fail
  refine HC.out.mono ?_
  rintro e w1 ⟨rfl, o1, g1⟩
  go_wp2
  go_end0
  exact ⟨rfl, o1, g1⟩

set_option maxRecDepth 1000000 in
theorem bitsLen_any {w : World} {n : Nat} (hn : n ≤ 7) : Calls Try.prog 52 #[.int .u64 (n : Int)] w (fun e w' => (∃ z, e = .returned (.int .i64 z)) ∧ w' = w) := by
  have hk : ∀ x : Int, 0 ≤ x → x ≤ 7 → Calls Try.prog 66 #[.int .u64 x] w (fun e w' => (∃ z, e = .returned (.int .i64 z)) ∧ w' = w) := fun x h0 h7 => by
    have h : x = 0 ∨ x = 1 ∨ x = 2 ∨ x = 3 ∨ x = 4 ∨ x = 5 ∨ x = 6 ∨ x = 7 := by omega
    rcases h with rfl | rfl | rfl | rfl | rfl | rfl | rfl | rfl
    all_goals
      go_enter Try.func66, Try.ntmps66
      go_wp2
      go_ret
      exact ⟨⟨_, rfl⟩, rfl⟩
  have HK := Lib.hid (hk n (by omega) (by omega))
  go_enter Try.func52, Try.ntmps52
  go_wp2_with fail
  refine HK.out.mono ?_
  rintro e w1 ⟨⟨z, rfl⟩, rfl⟩
  go_wp2
  go_ret
  exact ⟨⟨_, rfl⟩, rfl⟩

/-- slices.Sort at no more than seven numbers. -/
theorem sort_any {w : World} {base g n c : Nat} {l : List Int} (ho : OI w base (.slice (some ⟨g, 0, none⟩) n c) l) (hn : n ≤ 7) :
    Calls Try.prog 40 #[.slice (some ⟨g, 0, none⟩) n c] w (Turns w base (.slice (some ⟨g, 0, none⟩) n c) (sortTo l n)) := by
  have HO := Lib.hid ho
  clear ho
  go_enter Try.func40, Try.ntmps40
  go_wp2_with fail
  refine (bitsLen_any hn).mono ?_
  rintro e w1 ⟨⟨z, rfl⟩, rfl⟩
  go_wp2_with fail
  refine (pdq_any z HO.out (by omega)).mono ?_
  rintro e w2 ⟨rfl, o2, g2⟩
  go_wp2
  go_end0
  exact ⟨rfl, o2, g2⟩

set_option maxRecDepth 1000000 in
set_option maxHeartbeats 4000000 in
/-- slices.Reverse. -/
theorem reverse_any {w : World} {base g n c : Nat} {l : List Int} (ho : OI w base (.slice (some ⟨g, 0, none⟩) n c) l) (hn : n ≤ 1000000) :
    Calls Try.prog 41 #[.slice (some ⟨g, 0, none⟩) n c] w (Turns w base (.slice (some ⟨g, 0, none⟩) n c) l.reverse) := by
  have hl : l.length = n := ho.ri.1
  have HL := Lib.hid hl
  have HO := Lib.hid ho
  clear ho hl
  go_enter Try.func41, Try.ntmps41
  go_wp2
  go_loopw [2, 3] (fun i j wr => ∃ (p : Nat) (m : List Int), 2 * p ≤ n + 1 ∧ i = .int .i64 (p : Int) ∧ j = .int .i64 ((n : Int) - 1 - p) ∧ m.length = n ∧ OI wr base (.slice (some ⟨g, 0, none⟩) n c) m ∧ Hid (∀ q, q < n → nth m q = if p ≤ q ∧ q < n - p then nth l q else nth l (n - 1 - q)) ∧ Hid (w.grownBy wr (some g))) (fun i _ _ => n - (intOf i).toNat)
  case atStart => exact ⟨0, l, by omega, rfl, by simp, HL.out, HO.out, fun q hq => by rw [if_pos (by omega)], World.grownBy.refl _ _⟩
  case round =>
    obtain ⟨p, m, hp, rfl, rfl, hm, hom, HT, HG⟩ := hrel
    by_cases hlt : 2 * p < n - 1
    · obtain ⟨r, hr⟩ : ∃ r, r = n - 1 - p := ⟨_, rfl⟩
      have hrI : (n : Int) - 1 - p = (r : Int) := by omega
      obtain ⟨x, hx⟩ : ∃ x, x = nth m p := ⟨_, rfl⟩
      obtain ⟨y, hy⟩ : ∃ y, y = nth m r := ⟨_, rfl⟩
      have z1 : wr.cell? ⟨g, p, none⟩ = some (.int .i64 x) := by rw [hx]; exact hom.cellAt (by omega)
      have z0 : wr.cell? ⟨g, r, none⟩ = some (.int .i64 y) := by rw [hy]; exact hom.cellAt (by omega)
      have f1 := hom.frozenAt p
      have f0 := hom.frozenAt r
      obtain ⟨r1, r2⟩ := hom.stored p y
      obtain ⟨r3, r4⟩ := r1.stored r x
      have HF : Hid (OI ((wr.setCell ⟨g, p, none⟩ (.int .i64 y)).setCell ⟨g, r, none⟩ (.int .i64 x)) base (.slice (some ⟨g, 0, none⟩) n c) ((m.set p y).set r x) ∧ w.grownBy ((wr.setCell ⟨g, p, none⟩ (.int .i64 y)).setCell ⟨g, r, none⟩ (.int .i64 x)) (some g)) :=
        ⟨r3, grown_trans (grown_trans HG.out r2) r4⟩
      have HT2 : Hid (∀ q, q < n → nth ((m.set p y).set r x) q = if p + 1 ≤ q ∧ q < n - (p + 1) then nth l q else nth l (n - 1 - q)) := fun q hq => by
        have e1 := HT.out p (by omega)
        have e2 := HT.out r (by omega)
        have e3 := HT.out q hq
        rw [if_pos (by omega)] at e1 e2
        by_cases h1 : q = r
        · subst h1
          rw [nth_set_eq (by simp; omega), if_neg (by omega), hx, e1]
          congr 1; try omega
        · rw [nth_set_ne (by omega)]
          by_cases h2 : q = p
          · subst h2
            rw [nth_set_eq (by omega), if_neg (by omega), hy, e2]
            congr 1; try omega
          · rw [nth_set_ne (by omega), e3]
            by_cases h3 : p ≤ q ∧ q < n - p
            · rw [if_pos h3, if_pos (by omega)]
            · rw [if_neg h3, if_neg (by omega)]
      have hsl : ((m.set p y).set r x).length = n := by simp [hm]
      have hpn : (p : Int) < (n : Int) := by omega
      have hrn : (r : Int) < (n : Int) := by omega
      have hpr : decide ((p : Int) < (r : Int)) = true := decide_eq_true (by omega)
      have hne : p ≠ r := by omega
      have hne2 : r ≠ p := by omega
      have HRR : Hid (r = n - 1 - p ∧ 2 * p < n - 1) := ⟨hr, hlt⟩
      have hpr2 : p < r := by omega
      rw [hrI]
      clear hr hrI hx hy hom HT r1 r2 r3 r4 hp hlt
      go_wp2_with fail
      go_region
      all_goals go_wp2
      have HW : Hid (Below ((wr.setCell ⟨g, p, none⟩ (.int .i64 y)).setCell ⟨g, r, none⟩ (.int .i64 x)).heap.size ((wr.setCell ⟨g, p, none⟩ (.int .i64 y)).setCell ⟨g, r, none⟩ (.int .i64 x)) ((wr.setCell ⟨g, p, none⟩ (.int .i64 y)).setCell ⟨g, r, none⟩ (.int .i64 x)).drew) := ⟨rfl, rfl, rfl, Nat.le_refl _, fun _ _ => rfl⟩
      obtain ⟨hr1, hr2⟩ := HRR.out
      refine ⟨⟨p + 1, _, by omega, by go_num, by congr 1; omega, hsl, HF.out.1.below HW.out, HT2, ?_⟩, by simp [intOf]; omega⟩
      have hh := HW.out
      exact ⟨hh.os.trans HF.out.2.os, hh.tape.trans HF.out.2.tape, hh.output.trans HF.out.2.output, Nat.le_trans HF.out.2.size hh.size, fun i hi hne => (hh.block i (Nat.lt_of_lt_of_le hi HF.out.2.size)).trans (HF.out.2.block i hi hne)⟩
    · have hrev : m = l.reverse := by
        refine ext_nth (by rw [hm, List.length_reverse, HL.out]) fun q hq => ?_
        rw [hm] at hq
        rw [HT.out q hq]
        have e : nth l.reverse q = nth l (n - 1 - q) := by
          rw [nth_lt (by rw [List.length_reverse, HL.out]; exact hq), List.getElem_reverse, ← nth_lt]
          congr 1
          have := HL.out
          omega
        rw [e]
        by_cases h : p ≤ q ∧ q < n - p
        · rw [if_pos h]; congr 1; omega
        · rw [if_neg h]
      have HF : Hid (OI wr base (.slice (some ⟨g, 0, none⟩) n c) l.reverse ∧ w.grownBy wr (some g)) := by rw [← hrev]; exact ⟨hom, HG.out⟩
      clear hrev hom
      have hd : decide ((p : Int) < (n : Int) - 1 - p) = false := decide_eq_false (by omega)
      have hd2 : ¬ (p : Int) < (n : Int) - 1 - p := by omega
      go_wp2
      go_end0
      exact ⟨rfl, HF.out.1, HF.out.2⟩
end Go.Proofs.Ytbemglmnnehllaa
