/- exchanged and MonomialPoly of the program. -/
import Derived.Test.YtgbojgmmingfdaaDraw
import Derived.Test.YtgbojgmmingfdaaMulAdd
import Derived.Test.YtgbojgmmingfdaaLayerA
import Derived.Test.YtgbojgmmingfdaaShapes
namespace Go.Proofs.Ytgbojgmmingfdaa
open Go.RowKit

def swapL (l : List Int) (a b : Nat) : List Int := (l.set a (nth l b)).set b (nth l a)
theorem swapL_len (l : List Int) (a b : Nat) : (swapL l a b).length = l.length := by simp [swapL]
theorem grown_two {w w1 w2 w3 : World} {g : Nat} (b : Below w.heap.size w w1) (h1 : w1.grownBy w2 (some g)) (h2 : w2.grownBy w3 (some g)) (hg : w.heap.size ≤ g) : Below w.heap.size w w3 :=
  (b.grown h1 b.size fun k hk => by injection hk; omega).grown h2 (Nat.le_trans b.size h1.size) fun k hk => by injection hk; omega
set_option maxRecDepth 100000 in
set_option maxHeartbeats 2000000 in
theorem exchanged_any {A : Option Addr} {n : Nat} {l : List Int} {w : World} (c : Nat) (a b : Nat) (hx : RI w A n l) (hn : n ≤ 1000000000) (ha : a < n) (hb : b < n) (hab : a ≠ b) :
    Calls Try.prog 99 #[.slice A n c, .int .i64 (a : Int), .int .i64 (b : Int)] w (Makes w (swapL l a b)) := by
  have HCL : Hid (Calls Try.prog 134 #[.slice A n c] w (Makes w l)) := clone_any c hx hn
  have HLn : Hid (l.length = n) := hx.1
  clear hx
  go_enter Try.func99, Try.ntmps99
  go_wp2_with (go_at_call 134; refine HCL.out.mono ?_; rintro e w1 ⟨A1, n1, c1, rfl, o1, r1, ⟨cp1, le1⟩, b1⟩)
  obtain rfl : n1 = n := r1.1.symm.trans HLn.out
  obtain ⟨g, rfl⟩ : ∃ g, A1 = some ⟨g, 0, none⟩ := by
    rcases o1.2 with ⟨he, hl⟩ | ⟨g, cap, cur, he, _⟩
    · injection he with h1 h2 h3
      omega
    · injection he with h1 h2 h3
      exact ⟨g, h1⟩
  have hg : w.heap.size ≤ g := (o1.lt g rfl).1
  obtain ⟨x, hx⟩ : ∃ x, x = nth l a := ⟨_, rfl⟩
  obtain ⟨y, hy⟩ : ∃ y, y = nth l b := ⟨_, rfl⟩
  have z1 : w1.cell? ⟨g, a, none⟩ = some (.int .i64 x) := by rw [hx]; exact o1.cellAt (by omega)
  have z0 : w1.cell? ⟨g, b, none⟩ = some (.int .i64 y) := by rw [hy]; exact o1.cellAt (by omega)
  have f1 := o1.frozenAt a
  have f0 := o1.frozenAt b
  obtain ⟨r1', r2⟩ := o1.stored a y
  obtain ⟨r3, r4⟩ := r1'.stored b x
  have HF : Hid (OI ((w1.setCell ⟨g, a, none⟩ (.int .i64 y)).setCell ⟨g, b, none⟩ (.int .i64 x)) w.heap.size (.slice (some ⟨g, 0, none⟩) n1 c1) (swapL l a b) ∧ Below w.heap.size w ((w1.setCell ⟨g, a, none⟩ (.int .i64 y)).setCell ⟨g, b, none⟩ (.int .i64 x))) := by
    refine ⟨?_, grown_two b1 r2 r4 hg⟩
    rw [swapL, ← hx, ← hy]
    exact r3
  have han : (a : Int) < (n1 : Int) := by omega
  have hbn : (b : Int) < (n1 : Int) := by omega
  have hne : a ≠ b := hab
  have hne2 : b ≠ a := by omega
  have HL1 : Hid ((swapL l a b).length = n1) := (swapL_len l a b).trans HLn.out
  clear r1 r1' r2 r3 r4 hx hy o1 b1 hg cp1 le1
  go_wp2_with fail
  go_region
  all_goals go_wp2
  go_ret
  have HW : Below w.heap.size w ((w1.setCell ⟨g, a, none⟩ (.int .i64 y)).setCell ⟨g, b, none⟩ (.int .i64 x)).drew := HF.out.2.drew
  exact Makes.of (HF.out.1.below ((Below.refl _ _).drew)) HW (by rw [HL1.out]; omega)
end Go.Proofs.Ytgbojgmmingfdaa

/- MonomialPoly of the program. -/
namespace Go.Proofs.Ytgbojgmmingfdaa
open Go.RowKit

/-- What a function leaves that returns one term. -/
def MakesR1 (w : World) (p : List Int × Int) : Ending → World → Prop := fun e w' => ∃ A c, e = .returned (.slice A 1 c) ∧ RTm w' A 1 [p] ∧ Below w.heap.size w w'
theorem one_poly {e : List Int} (h7 : e.length = 7) (h : ∀ j, 0 ≤ nth e j ∧ nth e j ≤ 24) : polyB [(e, 1)] = true := by
  rw [polyB]
  simp only [List.length_singleton, Bool.and_eq_true, decide_eq_true_eq, List.all_eq_true, List.mem_range]
  refine ⟨by omega, fun k hk => ?_⟩
  obtain rfl : k = 0 := by omega
  refine ⟨?_, rfl⟩
  show termB (e, 1) = true
  simp only [termB, Bool.and_eq_true, decide_eq_true_eq, List.all_eq_true, List.mem_range]
  exact ⟨h7, by omega, by omega, by omega, fun j _ => h j⟩
set_option maxRecDepth 100000 in
set_option maxHeartbeats 2000000 in
theorem monomial_any {A : Option Addr} {n : Nat} {l : List Int} {w : World} (c : Nat) (hx : RI w A n l) (hn : n ≤ 7) (hl : ∀ j, 0 ≤ nth l j ∧ nth l j ≤ 24) :
    Calls Try.prog 172 #[.slice A n c] w (MakesR1 w (padL l 7, 1)) := by
  have HLn : Hid (l.length = n) := hx.1
  have h7 : Hid ((padL l 7).length = 7) := padL_len (by rw [HLn.out]; exact hn)
  have HPO : Hid (polyB [(padL l 7, 1)] = true) := one_poly h7.out fun j => by rw [nth_padL]; exact hl j
  have hn7 : decide ((7 : Int) < (n : Int)) = false := decide_eq_false (by omega)
  have HX := Lib.hid hx
  go_enter Try.func172, Try.ntmps172
  go_wp2_with fail
  refine (clone_any _ hx (by omega)).mono ?_
  rintro e w1 ⟨A1, n1, c1, rfl, o1, r1, ⟨cp1, le1⟩, b1⟩
  obtain rfl : n = n1 := by rw [← r1.1]; exact HLn.out.symm
  obtain ⟨K, hK⟩ : ∃ K, K = 7 - n := ⟨_, rfl⟩
  obtain ⟨v2, w2, hz, o2, gr2⟩ := appendZ o1 K (by omega) (by omega) b1.size
  have hw1 : IntKind.i64.wrap ((7 : Int) - (n : Int)) = (K : Int) := by rw [show (7 : Int) - (n : Int) = (K : Int) by omega]; exact IntWalk.i64_in _ (by omega)
  have hb2 : Below w.heap.size w w2 := b1.grown gr2 (by first | exact b1.size | exact Nat.le_refl _) (fun k hk => (o1.lt k hk).1)
  rw [show l ++ List.replicate K 0 = padL l 7 by rw [show padL l 7 = l ++ List.replicate (7 - l.length) 0 from rfl, HLn.out, hK]] at o2
  clear o1 r1 b1 gr2 hK hx
  obtain ⟨A2, n2, c2, rfl, _, hn2, hc2, _⟩ := o2.form
  obtain rfl : n2 = 7 := by rw [← o2.ri.1]; exact h7.out
  obtain ⟨W, hW⟩ : ∃ W, W = w2.alloc (.cells #[.slice A2 7 c2, .int .i64 1] 81) := ⟨_, rfl⟩
  have hBW : Hid (Below w2.heap.size w2 W) := by rw [hW]; exact (Below.refl _ _).alloc (Nat.le_refl _) _
  have hbk : Hid (BK W w2.heap.size 81 [.slice A2 7 c2, .int .i64 1]) := by rw [hW]; exact BK.new w2 _ _
  have hRT : Hid (RTm W (some ⟨w2.heap.size, 0, none⟩) 1 [(padL l 7, 1)]) := by
    refine ⟨rfl, fun k hk => ⟨_, rfl, ?_⟩⟩
    obtain rfl : k = 0 := by omega
    exact ⟨A2, 7, c2, hbk.out.cell (j := 0) rfl, hbk.out.cell (j := 1) rfl, o2.ri.below hBW.out, by omega⟩
  have HB2 := Lib.hid hb2
  have HWW := Lib.hid hW
  have HPK : Hid (∀ d, Calls Try.prog 106 #[.slice (some ⟨w2.heap.size, 0, none⟩) 1 d] W (GivesB W (.bool true))) := fun d => by have := iPolyOk_any d hRT.out (by omega); rw [HPO.out] at this; exact this
  clear o2 hb2 hW
  go_wp2_with (at_builtin; refine Lib.wpList_append_run _ rfl _ _ _ _ rfl _ _ rfl rfl _ _ (hz _) ?_)
  rw [show w2.alloc (.cells #[.slice A2 7 c2, .int .i64 1] 81) = W from HWW.out.symm]
  go_wp2_with (first | (go_at_call 106; refine (HPK.out _).mono ?_; rintro e w3 ⟨rfl, b3⟩) | fail)
  go_ret
  exact ⟨_, _, rfl, hRT.out.below b3, (HB2.out.trans (hBW.out.mono HB2.out.size)).trans (b3.mono (by have := HB2.out.size; have := hBW.out.size; omega))⟩
end Go.Proofs.Ytgbojgmmingfdaa

/- MonomialPoly of the reference, at seven exponents. -/
namespace Go.Proofs.Ytgbojgmmingfdaa
open Go.RowKit

set_option maxRecDepth 100000 in
set_option maxHeartbeats 2000000 in
theorem sMono_any {A : Option Addr} {l : List Int} {w : World} (c : Nat) (hx : RI w A 7 l) (hl : ∀ j, 0 ≤ nth l j ∧ nth l j ≤ 24) :
    Calls Try.prog 41 #[.slice A 7 c] w (MakesR1 w (l, 1)) := by
  have HLn : Hid (l.length = 7) := hx.1
  have HX := Lib.hid hx
  have HLL := Lib.hid hl
  clear hx hl
  go_enter Try.func41, Try.ntmps41
  go_wp2_with (first | (at_make; refine wpMake rfl _ _ rfl 7 _ _ rfl rfl rfl rfl (by omega) ?_; intro w2 o2 b2 s2) | fail)
  have H2 : Hid (OI w2 w.heap.size (.slice (some ⟨w.heap.size, 0, none⟩) 7 7) (List.replicate 7 0) ∧ Below w.heap.size w w2) := ⟨o2, b2⟩
  clear o2 b2 s2
  go_loopw [4] (fun i wr => ∃ (k : Nat) (o : List Int), k ≤ 7 ∧ i = .int .i64 (k : Int) ∧ Hid (OI wr w.heap.size (.slice (some ⟨w.heap.size, 0, none⟩) 7 7) o ∧ Below w.heap.size w wr ∧ ∀ i, i < k → nth o i = nth l i)) (fun i _ => 7 - (intOf i).toNat)
  case atStart => exact ⟨0, _, Nat.zero_le _, rfl, H2.out.1, H2.out.2, fun i hi => by omega⟩
  case round =>
    clear H2
    obtain ⟨k, o, hk, rfl, HY⟩ := hrel
    by_cases hlt : k < 7
    · obtain ⟨ad, rfl, z0⟩ := (HX.out.below HY.out.2.1).cell hlt
      obtain ⟨x, hxx⟩ : ∃ x, x = nth l k := ⟨_, rfl⟩
      have hxb := HLL.out k
      rw [← hxx] at z0 hxb
      have hin : inB x 0 24 = true := inB_iff.2 hxb
      have HIN : Hid (∀ W : World, Calls Try.prog 59 #[.int .i64 x, .int .i64 0, .int .i64 24] W (Gives W (.bool true))) := fun W => by
        have h := l1In_any (w := W) x 0 24
        rw [hin] at h
        exact h
      have HS : Hid (∀ q, OI ((wr.drewN q).setCell ⟨w.heap.size, k, none⟩ (.int .i64 x)) w.heap.size (.slice (some ⟨w.heap.size, 0, none⟩) 7 7) (o.set k x) ∧ Below w.heap.size w ((wr.drewN q).setCell ⟨w.heap.size, k, none⟩ (.int .i64 x)) ∧ ∀ i, i < k + 1 → nth (o.set k x) i = nth l i) := fun q => by
        refine ⟨((HY.out.1.below (below_drewN (Below.refl _ _) q)).stored k x).1, (below_drewN HY.out.2.1 q).setCell (Nat.le_refl _) _, fun i hi => ?_⟩
        have hol := HY.out.1.len
        by_cases h : i = k
        · subst h; rw [nth_set_eq (by omega), hxx]
        · rw [nth_set_ne (Ne.symm h)]; exact HY.out.2.2 i (by omega)
      have hfz : wr.frozen? ⟨w.heap.size, k, none⟩ = false := HY.out.1.frozenAt k
      have hcc : wr.cell? ⟨w.heap.size, k, none⟩ = some (.int .i64 (nth o k)) := HY.out.1.cellAt hlt
      obtain ⟨y, hy⟩ : ∃ y, y = nth o k := ⟨_, rfl⟩
      rw [← hy] at hcc
      clear hin hxb hxx hy
      go_wp2_with (first | (go_at_call 59; (with_reducible refine (HIN.out _).mono ?_); rintro e w3 ⟨rfl, q3, rfl⟩) | fail)
      go_roundw
      case rel => exact ⟨k + 1, _, by omega, by go_num, HS.out _⟩
      case measure => simp [intOf]; omega
    · obtain rfl : k = 7 := by omega
      have e : o = l := by
        have hol := HY.out.1.len
        refine ext_nth (by rw [HLn.out, hol]) fun j hj => HY.out.2.2 j (by omega)
      have HO : Hid (OI wr w.heap.size (.slice (some ⟨w.heap.size, 0, none⟩) 7 7) l ∧ Below w.heap.size w wr) := ⟨by have h := HY.out.1; rw [e] at h; exact h, HY.out.2.1⟩
      obtain ⟨W, hW⟩ : ∃ W, W = wr.alloc (.cells #[.slice (some ⟨w.heap.size, 0, none⟩) 7 7, .int .i64 1] 81) := ⟨_, rfl⟩
      have hBW : Hid (Below wr.heap.size wr W) := by rw [hW]; exact (Below.refl _ _).alloc (Nat.le_refl _) _
      have hbk : Hid (BK W wr.heap.size 81 [.slice (some ⟨w.heap.size, 0, none⟩) 7 7, .int .i64 1]) := by rw [hW]; exact BK.new wr _ _
      have hRT : Hid (RTm W (some ⟨wr.heap.size, 0, none⟩) 1 [(l, 1)]) := by
        refine ⟨rfl, fun k hk => ⟨_, rfl, ?_⟩⟩
        obtain rfl : k = 0 := by omega
        exact ⟨_, 7, 7, hbk.out.cell (j := 0) rfl, hbk.out.cell (j := 1) rfl, HO.out.1.ri.below hBW.out, by omega⟩
      have HWW := Lib.hid hW
      clear e HY hW
      go_wp2_with fail
      rw [show wr.alloc (.cells #[.slice (some ⟨w.heap.size, 0, none⟩) 7 7, .int .i64 1] 81) = W from HWW.out.symm]
      go_ret
      exact ⟨_, _, rfl, hRT.out, HO.out.2.trans (hBW.out.mono HO.out.2.size)⟩
end Go.Proofs.Ytgbojgmmingfdaa
