/- slices.BinarySearchFunc over parts, with the closure of StanleyShapes. -/
import Derived.Test.YtgbojgmmingfdaaSee
namespace Go.Proofs.Ytgbojgmmingfdaa
open Go.RowKit

theorem partCmp3_any {A C : Option Addr} {n m : Nat} {xs ys : List Int} {w : World} (p : Int) (c d : Nat) (hx : RI w A n xs) (hy : RI w C m ys) (hn : n ≤ 9223372036854775807) (hm : m ≤ 9223372036854775807) :
    Calls Try.prog 81 #[.agg #[.slice A n c, .int .i64 p], .slice C m d] w (GivesB w (.int .i64 (cmpB xs ys))) := by
  go_enter Try.func81, Try.ntmps81
  go_wp2_with fail
  refine (compare_any _ _ (hx.alloc _) (hy.alloc _) hn hm).mono ?_
  rintro e w1 ⟨rfl, q, rfl⟩
  go_wp2
  go_ret
  exact ⟨rfl, below_drewN ((Below.refl _ _).alloc (Nat.le_refl _) _) _⟩

set_option maxRecDepth 100000 in
set_option maxHeartbeats 1000000 in
theorem bin_stan {w : World} {base b n m : Nat} {A0 A : Option Addr} {ps : List (List Int × Int)} {cells : List Value} {s : List Int} {p : Nat} (c0 d : Nat)
    (h : OP w base b (.slice A0 n c0) ps cells) (hx : RI w A m s) (hp : Place ps s p) (hn : n ≤ 1000000000000) (hm : m ≤ 1000000000000) (hl : ∀ k, k < ps.length → (nthP ps k).1.length ≤ 1000000000000) :
    Calls Try.prog 80 #[.slice A0 n c0, .slice A m d, .func (.func 81) #[] #[]] w
      (fun e w' => e = .returned (.tuple #[.int .i64 (p : Int), .bool (fndB ps s p)]) ∧ Below w.heap.size w w') := by
  obtain ⟨A', n', c', hv, hn0, hc, _⟩ := h.form
  obtain ⟨rfl, rfl, rfl⟩ := slice_inj hv
  have hle := hp.le
  rw [hn0] at hle
  have HN := Lib.hid hn0
  clear hv hn0
  go_enter Try.func80, Try.ntmps80
  go_wp2
  go_loopw [9, 10, 11] (fun i j _ wr => ∃ a q : Nat, a ≤ p ∧ p ≤ q ∧ q ≤ n ∧ i = .int .i64 (a : Int) ∧ j = .int .i64 (q : Int) ∧ Below w.heap.size w wr) (fun i j _ _ => (intOf j).toNat - (intOf i).toNat)
  case atStart => exact ⟨0, n, Nat.zero_le _, hle, Nat.le_refl _, rfl, rfl, Below.refl _ _⟩
  case round =>
    obtain ⟨a, q, h1, h2, h3, rfl, rfl, hb⟩ := hrel
    by_cases hlt : a < q
    · have ho := OP.below h hb
      obtain ⟨G, cc, hG, _⟩ := OF.shape ho (by rw [HN.out]; omega)
      obtain ⟨rfl, e2, e3⟩ := slice_inj hG
      clear e2 e3 hG
      have hH1 : a ≤ (a + q) / 2 ∧ (a + q) / 2 < q := by omega
      obtain ⟨hH2, hH3⟩ := hH1
      have hHl : (a + q) / 2 < ps.length := by rw [HN.out]; omega
      obtain ⟨A1, n1, c1, k1, _, k2, _, k4⟩ := OP.cell ho (k := (a + q) / 2) hHl
      have hlen := hl _ hHl
      rw [k2.ri.1] at hlen
      have hb1 := hp.below hHl
      have HB1 := Lib.hid hb1
      clear hb1 hHl
      go_wp2_with fail
      refine (partCmp3_any _ _ _ k2.ri (hx.below hb) (by omega) (by omega)).mono ?_
      rintro e w1 ⟨rfl, b1⟩
      have g1 := bnext hb b1 hb.size
      by_cases hlo : (a + q) / 2 < p
      · have hneg := HB1.out.2 hlo
        go_wp2
        go_roundw
        case rel => exact ⟨(a + q) / 2 + 1, q, by omega, h2, h3, by go_num, by go_num, g1⟩
        case measure => simp [intOf]; omega
      · have hneg : ¬ cmpB (nthP ps ((a + q) / 2)).1 s < 0 := fun hh => hlo (HB1.out.1 hh)
        go_wp2
        go_roundw
        case rel => exact ⟨a, (a + q) / 2, h1, by omega, by omega, by go_num, by go_num, g1⟩
        case measure => simp [intOf]; omega
    · obtain rfl : a = q := by omega
      obtain rfl : a = p := by omega
      by_cases hlt : a < n
      · have ho := OP.below h hb
        obtain ⟨G, cc, hG, _⟩ := OF.shape ho (by rw [HN.out]; omega)
        obtain ⟨rfl, e2, e3⟩ := slice_inj hG
        clear e2 e3 hG
        have hHl : a < ps.length := by rw [HN.out]; exact hlt
        obtain ⟨A1, n1, c1, k1, _, k2, _, k4⟩ := OP.cell ho (k := a) hHl
        have hlen := hl _ hHl
        rw [k2.ri.1] at hlen
        have HF : Hid (fndB ps s a = (cmpB (nthP ps a).1 s == 0)) := by
          show fndB ps s a = _
          unfold fndB
          rw [Bool.eq_iff_iff, beq_iff_eq, cmpB_zero, decide_eq_true_eq]
          exact ⟨fun h => h.2, fun h => ⟨hHl, h⟩⟩
        clear hHl
        go_wp2_with fail
        refine (partCmp3_any _ _ _ k2.ri (hx.below hb) (by omega) (by omega)).mono ?_
        rintro e w1 ⟨rfl, b1⟩
        have g1 := bnext hb b1 hb.size
        go_wp2
        go_ret2
        exact ⟨by rw [HF.out]; rfl, g1⟩
      · have HF : Hid (fndB ps s a = false) := by
          show fndB ps s a = false
          unfold fndB
          rw [HN.out]
          simp; omega
        go_wp2
        go_ret2
        exact ⟨by rw [HF.out]; rfl, hb⟩
end Go.Proofs.Ytgbojgmmingfdaa
