/- l1Swap of the reference, swapped of the statements. -/
import Derived.Test.YtgbojgmmingfdaaExch
import Derived.Deep.CutBlock
import Derived.Test.YtgbojgmmingfdaaShapes
namespace Go.Proofs.Ytgbojgmmingfdaa
open Go.RowKit

set_option maxRecDepth 100000 in
set_option maxHeartbeats 2000000 in
theorem l1Swap_any {A : Option Addr} {n : Nat} {l : List Int} {w : World} (c : Nat) (a b : Nat) (hx : RI w A n l) (hn : n ≤ 1000000000) (ha : a < n) (hb : b < n) (hab : a < b) :
    Calls Try.prog 118 #[.slice A n c, .int .i64 (a : Int), .int .i64 (b : Int)] w (Makes w (swapL l a b)) := by
  have HCL : Hid (Calls Try.prog 117 #[.slice A n c] w (Makes w l)) := l1Ints_any c hx hn
  have HLn : Hid (l.length = n) := hx.1
  have HX := Lib.hid hx
  clear hx
  go_enter Try.func118, Try.ntmps118
  go_upto_region 2 with (go_at_call 117; refine HCL.out.mono ?_; rintro e w1 ⟨A1, n1, c1, rfl, o1, r1, ⟨cp1, le1⟩, b1⟩)
  obtain rfl : n1 = n := r1.1.symm.trans HLn.out
  obtain ⟨g, rfl⟩ : ∃ g, A1 = some ⟨g, 0, none⟩ := by
    rcases o1.2 with ⟨he, hl⟩ | ⟨g, cap, cur, he, _⟩
    · injection he with h1 h2 h3
      omega
    · injection he with h1 h2 h3
      exact ⟨g, h1⟩
  have hg : w.heap.size ≤ g := (o1.lt g rfl).1
  obtain ⟨ad, rfl, _⟩ := HX.out.cell (k := a) ha
  obtain ⟨x, hx⟩ : ∃ x, x = nth l a := ⟨_, rfl⟩
  obtain ⟨y, hy⟩ : ∃ y, y = nth l b := ⟨_, rfl⟩
  obtain ⟨r1', r2⟩ := o1.stored a y
  obtain ⟨r3, r4⟩ := r1'.stored b x
  have hB1 : Below w.heap.size w (w1.setCell ⟨g, a, none⟩ (.int .i64 y)) := b1.grown r2 b1.size fun k hk => by injection hk; omega
  have hc0 : w1.cell? (ad.add b) = some (.int .i64 y) := by
    obtain ⟨ad', e, hc⟩ := (HX.out.below b1).cell hb
    obtain rfl := Option.some.inj e
    rw [hy]; exact hc
  have hc1 : (w1.setCell ⟨g, a, none⟩ (.int .i64 y)).cell? (ad.add a) = some (.int .i64 x) := by
    obtain ⟨ad', e, hc⟩ := (HX.out.below hB1).cell ha
    obtain rfl := Option.some.inj e
    rw [hx]; exact hc
  have hadb : ad.add b = ⟨ad.block, ad.off + b, none⟩ := by unfold Addr.add; rw [if_neg (by omega)]
  have z1 := o1.cellAt (j := a) (by omega)
  have z0 := r1'.cellAt (j := b) (by omega)
  have f1 := o1.frozenAt a
  have f0 := r1'.frozenAt b
  have HF : Hid (OI ((w1.setCell ⟨g, a, none⟩ (.int .i64 y)).setCell ⟨g, b, none⟩ (.int .i64 x)) w.heap.size (.slice (some ⟨g, 0, none⟩) n1 c1) (swapL l a b) ∧ Below w.heap.size w ((w1.setCell ⟨g, a, none⟩ (.int .i64 y)).setCell ⟨g, b, none⟩ (.int .i64 x))) := by
    refine ⟨?_, grown_two b1 r2 r4 hg⟩
    rw [swapL, ← hx, ← hy]
    exact r3
  have han : (a : Int) < (n1 : Int) := by omega
  have hbn : (b : Int) < (n1 : Int) := by omega
  have hb0 : b < n1 := hb
  have ha0 : a < n1 := ha
  have h0a : (0 : Int) ≤ (a : Int) := by omega
  have h0b : (0 : Int) ≤ (b : Int) := by omega
  have hne : a ≠ b := by omega
  have hne2 : b ≠ a := by omega
  have HL1 : Hid ((swapL l a b).length = n1) := (swapL_len l a b).trans HLn.out
  clear r1 r1' r2 r3 r4 hx hy o1 b1 hg cp1 le1 hB1 hadb
  have HC1 := Lib.hid hc1
  have HZ0 := Lib.hid z0
  have HF0 := Lib.hid f0
  clear hc1 z0 f0
  go_upto_region 3 with (fail)
  obtain ⟨W1, hW1⟩ : ∃ W, W = w1.setCell ⟨g, a, none⟩ (.int .i64 y) := ⟨_, rfl⟩
  rw [← hW1] at HC1 HZ0 HF0 HF ⊢
  have hc1 := HC1.out
  have z0 := HZ0.out
  have f0 := HF0.out
  clear hW1 z1 f1 hc0
  go_wp2_with fail
  go_ret
  exact Makes.of HF.out.1 HF.out.2 (by rw [HL1.out]; omega)
set_option maxRecDepth 100000 in
set_option maxHeartbeats 2000000 in
theorem lswapped_any {A : Option Addr} {n : Nat} {l : List Int} {w : World} (c : Nat) (a b : Nat) (hx : RI w A n l) (hn : n ≤ 1000000000) (ha : a < n) (hb : b < n) (hab : a < b) :
    Calls Try.prog 46 #[.slice A n c, .int .i64 (a : Int), .int .i64 (b : Int)] w (Makes w (swapL l a b)) := by
  have HLn : Hid (l.length = n) := hx.1
  have HX := Lib.hid hx
  clear hx
  go_enter Try.func46, Try.ntmps46
  go_upto_region 2 with (at_builtin; refine wpAppI rfl _ _ rfl w.heap.size (.slice (some ⟨w.heap.size, 0, none⟩) 0 0) [] l A n c rfl rfl (by exact OI.lit _ _ [] 0 rfl (Nat.le_refl _) (by simp)) (by exact HX.out.alloc _) (by simp; omega) (by simp) ?_; intro v' w1 h1 h2 h3)
  rw [List.nil_append] at h1
  obtain ⟨A1, n1, c1, rfl, r1, -, -⟩ := h1.form
  have o1 : OI w1 w.heap.size (.slice A1 n1 c1) l := h1
  have b1 : Below w.heap.size w w1 := ((Below.refl _ _).alloc (Nat.le_refl _) _).grown h2 (by simp) (by simp [Value.ownBlock])
  clear h1 h2 h3
  obtain rfl : n1 = n := r1.1.symm.trans HLn.out
  obtain ⟨g, rfl⟩ : ∃ g, A1 = some ⟨g, 0, none⟩ := by
    rcases o1.2 with ⟨he, hl⟩ | ⟨g, cap, cur, he, _⟩
    · injection he with h1 h2 h3
      omega
    · injection he with h1 h2 h3
      exact ⟨g, h1⟩
  have hg : w.heap.size ≤ g := (o1.lt g rfl).1
  obtain ⟨ad, rfl, _⟩ := HX.out.cell (k := a) ha
  obtain ⟨x, hx⟩ : ∃ x, x = nth l a := ⟨_, rfl⟩
  obtain ⟨y, hy⟩ : ∃ y, y = nth l b := ⟨_, rfl⟩
  obtain ⟨r1', r2⟩ := o1.stored a y
  obtain ⟨r3, r4⟩ := r1'.stored b x
  have hB1 : Below w.heap.size w (w1.setCell ⟨g, a, none⟩ (.int .i64 y)) := b1.grown r2 b1.size fun k hk => by injection hk; omega
  have hc0 : w1.cell? (ad.add b) = some (.int .i64 y) := by
    obtain ⟨ad', e, hc⟩ := (HX.out.below b1).cell hb
    obtain rfl := Option.some.inj e
    rw [hy]; exact hc
  have hc1 : (w1.setCell ⟨g, a, none⟩ (.int .i64 y)).cell? (ad.add a) = some (.int .i64 x) := by
    obtain ⟨ad', e, hc⟩ := (HX.out.below hB1).cell ha
    obtain rfl := Option.some.inj e
    rw [hx]; exact hc
  have hadb : ad.add b = ⟨ad.block, ad.off + b, none⟩ := by unfold Addr.add; rw [if_neg (by omega)]
  have z1 := o1.cellAt (j := a) (by omega)
  have z0 := r1'.cellAt (j := b) (by omega)
  have f1 := o1.frozenAt a
  have f0 := r1'.frozenAt b
  have HF : Hid (OI ((w1.setCell ⟨g, a, none⟩ (.int .i64 y)).setCell ⟨g, b, none⟩ (.int .i64 x)) w.heap.size (.slice (some ⟨g, 0, none⟩) n1 c1) (swapL l a b) ∧ Below w.heap.size w ((w1.setCell ⟨g, a, none⟩ (.int .i64 y)).setCell ⟨g, b, none⟩ (.int .i64 x))) := by
    refine ⟨?_, grown_two b1 r2 r4 hg⟩
    rw [swapL, ← hx, ← hy]
    exact r3
  have han : (a : Int) < (n1 : Int) := by omega
  have hbn : (b : Int) < (n1 : Int) := by omega
  have hb0 : b < n1 := hb
  have ha0 : a < n1 := ha
  have h0a : (0 : Int) ≤ (a : Int) := by omega
  have h0b : (0 : Int) ≤ (b : Int) := by omega
  have hne : a ≠ b := by omega
  have hne2 : b ≠ a := by omega
  have HL1 : Hid ((swapL l a b).length = n1) := (swapL_len l a b).trans HLn.out
  clear r1 r1' r2 r3 r4 hx hy o1 b1 hg hB1 hadb
  have HC1 := Lib.hid hc1
  have HZ0 := Lib.hid z0
  have HF0 := Lib.hid f0
  clear hc1 z0 f0
  go_upto_region 3 with (fail)
  obtain ⟨W1, hW1⟩ : ∃ W, W = w1.setCell ⟨g, a, none⟩ (.int .i64 y) := ⟨_, rfl⟩
  rw [← hW1] at HC1 HZ0 HF0 HF ⊢
  have hc1 := HC1.out
  have z0 := HZ0.out
  have f0 := HF0.out
  clear hW1 z1 f1 hc0
  go_wp2_with fail
  go_ret
  exact Makes.of HF.out.1 HF.out.2 (by rw [HL1.out]; omega)
end Go.Proofs.Ytgbojgmmingfdaa
