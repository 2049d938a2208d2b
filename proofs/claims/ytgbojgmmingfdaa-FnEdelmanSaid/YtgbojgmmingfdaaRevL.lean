/- reversed of the statements. -/
import Derived.Test.YtgbojgmmingfdaaSwapS
import Derived.Test.YtgbojgmmingfdaaShapes
import Derived.Test.YtgbojgmmingfdaaPlain
import Derived.Test.YtgbojgmmingfdaaDraw
namespace Go.Proofs.Ytgbojgmmingfdaa
open Go.RowKit

set_option maxHeartbeats 1000000 in
theorem lreversed_any {A : Option Addr} {n : Nat} {l : List Int} {w : World} (c : Nat) (hx : RI w A n l) (hn : n ≤ 1000000) :
    Calls Try.prog 47 #[.slice A n c] w (Makes w l.reverse) := by
  have HLn : Hid (l.length = n) := hx.1
  have HX := Lib.hid hx
  obtain ⟨w1, e1⟩ : ∃ W, W = w.alloc (.cells #[] 3) := ⟨_, rfl⟩
  have HL : Hid (OI w1 w.heap.size (.slice (some ⟨w.heap.size, 0, none⟩) 0 0) []) := by rw [e1]; exact OI.lit w w.heap.size [] 0 rfl (Nat.le_refl _) (by simp)
  have B1 : Hid (Below w.heap.size w w1) := by rw [e1]; exact (Below.refl _ _).alloc (Nat.le_refl _) _
  have E1 := Lib.hid e1
  have hw0 : IntKind.i64.wrap ((n : Int) - 1) = (n : Int) - 1 := IntWalk.i64_in _ (by omega)
  clear e1 hx
  go_enter Try.func47, Try.ntmps47
  go_wp2
  rw [← E1.out]
  go_loopw [3, 4] (fun ov iv wr => ∃ (k : Nat) (z : Int) (B : Option Addr) (m d : Nat), ov = .slice B m d ∧ iv = .int .i64 z ∧ z = (k : Int) - 1 ∧ k ≤ n ∧ Hid (OI wr w.heap.size (.slice B m d) (l.drop k).reverse ∧ Below w.heap.size w wr)) (fun _ iv _ => (intOf iv + 1).toNat)
  case atStart => exact ⟨n, (n : Int) - 1, _, _, _, rfl, rfl, rfl, Nat.le_refl _, by rw [List.drop_of_length_le (by rw [HLn.out]; omega)]; exact HL.out, B1.out⟩
  case round =>
    obtain ⟨k, z, B, m, d, rfl, rfl, hz, hk, HY⟩ := hrel
    cases k with
    | zero =>
      obtain rfl : z = -1 := by omega
      have HF : Hid (Makes w l.reverse (.returned (.slice B m d)) wr) := by
        refine Makes.of HY.out.1 HY.out.2 ?_
        rw [List.length_reverse, HLn.out]; omega
      clear hz
      go_wp2
      go_ret
      exact HF.out
    | succ k =>
      obtain rfl : z = (k : Int) := by omega
      obtain ⟨ad, rfl, hc⟩ := (HX.out.below HY.out.2).cell (k := k) (by omega)
      obtain ⟨x, hxx⟩ : ∃ x, x = nth l k := ⟨_, rfl⟩
      rw [← hxx] at hc
      have hkn : k < n := by omega
      have hdr : l.drop k = x :: l.drop (k + 1) := by rw [hxx]; exact drop_nth (by rw [HLn.out]; exact hkn)
      have HDR : Hid ((l.drop k).reverse = (l.drop (k + 1)).reverse ++ [x]) := by show _ = _; rw [hdr, List.reverse_cons]
      have hw1 : IntKind.i64.wrap ((k : Int) - 1) = (k : Int) - 1 := IntWalk.i64_in _ (by omega)
      have HO := Lib.hid HY.out.1
      have HLE : Hid ((l.drop (k + 1)).reverse.length + 1 ≤ 1000000000000) := by show _ ≤ _; rw [List.length_reverse, List.length_drop, HLn.out]; omega
      have HS : Hid (w.heap.size ≤ wr.heap.size) := HY.out.2.size
      clear hz hxx hdr
      go_wp2_with (at_builtin; refine wpApp1 rfl _ _ rfl w.heap.size (.slice B m d) (l.drop (k + 1)).reverse x rfl HO.out rfl HLE.out HS.out ?_; intro v' w5 o5 g5 k5)
      obtain ⟨A5, n5, c5, rfl, -⟩ := o5.form
      have HF : Hid (OI w5 w.heap.size (.slice A5 n5 c5) (l.drop k).reverse ∧ Below w.heap.size w w5) := by
        rw [HDR.out]
        exact ⟨o5, HY.out.2.grown g5 HS.out fun j hj => (HY.out.1.lt j hj).1⟩
      clear o5 g5 k5
      go_roundw
      case rel => exact ⟨k, _, A5, n5, c5, rfl, rfl, by omega, by omega, HF.out⟩
      case measure => first | (simp [intOf]; done) | (simp [intOf]; omega)
end Go.Proofs.Ytgbojgmmingfdaa

/- l1Decode and dPerm of the reference: they make permutations. -/
namespace Go.Proofs.Ytgbojgmmingfdaa
open Go.RowKit

/-- How many numbers below v are not there. -/
def freeC (m : List Int) : Nat → Nat
  | 0 => 0
  | v + 1 => freeC m v + if hasB m (v : Int) = true then 0 else 1
theorem freeC_snoc (m : List Int) (y : Int) (hy : 0 ≤ y) : ∀ v : Nat, freeC m v ≤ freeC (m ++ [y]) v + (if y < v then 1 else 0)
  | 0 => by simp [freeC]
  | v + 1 => by
    have ih := freeC_snoc m y hy v
    have e : hasB (m ++ [y]) (v : Int) = (hasB m (v : Int) || decide (y = (v : Int))) := by
      rw [Bool.eq_iff_iff, hasB_iff, Bool.or_eq_true, hasB_iff, decide_eq_true_eq, List.mem_append, List.mem_singleton]
      exact ⟨fun h => h.imp id fun h => h.symm, fun h => h.imp id fun h => h.symm⟩
    simp only [freeC, e]
    rcases hm : hasB m (v : Int) with _ | _
    · by_cases hyv : y = (v : Int)
      · subst hyv
        simp at ih ⊢
        rw [if_pos (by omega)]
        omega
      · rw [decide_eq_false hyv]
        simp
        by_cases h1 : y < v
        · rw [if_pos h1] at ih; rw [if_pos (by omega)]; omega
        · rw [if_neg h1] at ih; omega
    · simp
      by_cases h1 : y < v
      · rw [if_pos h1] at ih; rw [if_pos (by omega)]; omega
      · rw [if_neg h1] at ih; omega
theorem freeC_nil : ∀ v, freeC [] v = v
  | 0 => rfl
  | v + 1 => by simp [freeC, freeC_nil v, hasB]
/-- Different numbers below n. -/
def PermTo (n : Nat) (m : List Int) : Prop := ∀ j, j < m.length → 0 ≤ nth m j ∧ nth m j < n ∧ hasB (m.take j) (nth m j) = false
theorem PermTo.snoc {n : Nat} {m : List Int} (h : PermTo n m) {v : Nat} (hv : v < n) (hb : hasB m (v : Int) = false) : PermTo n (m ++ [(v : Int)]) := fun j hj => by
  rw [List.length_append, List.length_singleton] at hj
  rcases Nat.lt_or_eq_of_le (show j ≤ m.length by omega) with h1 | h1
  · rw [nth_append_left h1, List.take_append_of_le_length (by omega)]
    exact h j h1
  · subst h1
    rw [nth_append_right (Nat.le_refl _), Nat.sub_self, List.take_append_of_le_length (Nat.le_refl _), List.take_length]
    exact ⟨by show (0 : Int) ≤ v; omega, by show (v : Int) < n; omega, hb⟩
theorem PermTo.perm {n : Nat} {m : List Int} (h : PermTo n m) (hl : m.length = n) (h1 : 1 ≤ n) (h7 : n ≤ 7) : permB m = true := by
  rw [permB_all hl fun j hj => ?_]
  · exact inB_yes (by omega) (by omega)
  · obtain ⟨a, b, c⟩ := h j (by omega)
    exact permAt_yes hl a b c
set_option maxHeartbeats 1000000 in
theorem l1DecP_any {A : Option Addr} {n : Nat} {l : List Int} {w : World} (c : Nat) (hx : RI w A n l) (hn : n ≤ 100) (hl : ∀ j, j < n → 0 ≤ nth l j ∧ nth l j < (n : Int) - j) :
    Calls Try.prog 151 #[.slice A n c] w (fun e w' => ∃ m, Makes w m e w' ∧ m.length = n ∧ PermTo n m) := by
  have HLn : Hid (l.length = n) := hx.1
  have HX := Lib.hid hx
  have HL := Lib.hid hl
  obtain ⟨w1, e1⟩ : ∃ W, W = w.alloc (.cells #[] 3) := ⟨_, rfl⟩
  have HO1 : Hid (OI w1 w.heap.size (.slice (some ⟨w.heap.size, 0, none⟩) 0 0) []) := by rw [e1]; exact OI.lit w w.heap.size [] 0 rfl (Nat.le_refl _) (by simp)
  have B1 : Hid (Below w.heap.size w w1) := by rw [e1]; exact (Below.refl _ _).alloc (Nat.le_refl _) _
  have E1 := Lib.hid e1
  clear e1 hx hl
  go_enter Try.func151, Try.ntmps151
  go_wp2
  rw [← E1.out]
  go_loopw [3, 4, 5, 6] (fun ov iv _ _ wr => ∃ (k : Nat) (B : Option Addr) (bn d : Nat) (m : List Int), ov = .slice B bn d ∧ iv = .int .i64 (k : Int) ∧ k ≤ n ∧ Hid (OI wr w.heap.size (.slice B bn d) m ∧ Below w.heap.size w wr ∧ m.length = k ∧ PermTo n m ∧ n ≤ freeC m n + k)) (fun _ iv _ _ _ => n - (intOf iv).toNat)
  case atStart => exact ⟨0, _, _, _, [], rfl, rfl, Nat.zero_le _, HO1.out, B1.out, rfl, fun j hj => by simp at hj, by rw [freeC_nil]; omega⟩
  case round =>
    obtain ⟨k, B, bn, d, m, rfl, rfl, hk, HY⟩ := hrel
    by_cases hlt : k < n
    · obtain ⟨ad, rfl, hc⟩ := (HX.out.below HY.out.2.1).cell (k := k) hlt
      obtain ⟨x, hxx⟩ : ∃ x, x = nth l k := ⟨_, rfl⟩
      have hxb := HL.out k hlt
      rw [← hxx] at hc hxb
      have HXX := Lib.hid hxx
      obtain ⟨wo, hwo⟩ : ∃ wo : World, wo = wr := ⟨_, rfl⟩
      rw [← hwo] at HY hc ⊢
      clear hxx hwo
      go_wp2_with fail
      go_loopw [3, 5, 6] (fun ov zv vv wq => ∃ (v : Nat) (z : Int), ov = .slice B bn d ∧ zv = .int .i64 z ∧ vv = .int .i64 (v : Int) ∧ v ≤ n ∧ 0 ≤ z ∧ z ≤ x ∧ Hid (z = x - (freeC m v : Nat)) ∧ Hid (Below wo.heap.size wo wq)) (fun _ _ vv _ => n - (intOf vv).toNat)
      case atStart => exact ⟨0, x, rfl, rfl, rfl, Nat.zero_le _, by omega, by omega, by show x = x - ((0 : Nat) : Int); omega, Below.refl _ _⟩
      case round =>
        obtain ⟨v, z, rfl, rfl, rfl, hv, hz1, hz2, HZ, HB⟩ := hrel
        by_cases hvn : v < n
        · have HM : Hid (OI wr w.heap.size (.slice B bn d) m) := HY.out.1.below HB.out
          have hbn : bn ≤ 100 := by rw [← HY.out.1.ri.1]; have := HY.out.2.2.1; omega
          have HHB : Hid (∀ b, hasB m (v : Int) = b → Calls Try.prog 142 #[.slice B bn d, .int .i64 (v : Int)] wr (Gives wr (.bool b))) := fun b hb => by
            have h := l1Has_any (w := wr) d (v : Int) HM.out.ri (by omega)
            rw [hb] at h; exact h
          rcases hb : hasB m (v : Int) with _ | _
          · have HB0 := Lib.hid hb
            clear hb
            by_cases hz0 : z = 0
            · have hzb : (z == 0) = true := by simpa using hz0
              have HO := Lib.hid HM.out
              have HLE : Hid (m.length + 1 ≤ 1000000000000) := by have := HY.out.2.2.1; show _ ≤ _; omega
              have HS : Hid (w.heap.size ≤ wr.heap.size) := Nat.le_trans HY.out.2.1.size HB.out.size
              clear hz0
              go_wp2_with (first
                | (go_at_call 142; refine (HHB.out _ HB0.out).mono ?_; rintro e w2 ⟨rfl, q2, rfl⟩)
                | (at_builtin; refine wpApp1 rfl _ _ rfl w.heap.size (.slice B bn d) m (v : Int) rfl (HO.out.below (below_drewN (Below.refl _ _) _)) rfl HLE.out (by simpa using HS.out) ?_; intro v' w5 o5 g5 k5)
                | fail)
              obtain ⟨A5, n5, c5, rfl, -⟩ := o5.form
              have h9 : Below w.heap.size w wr := HY.out.2.1.trans (HB.out.mono HY.out.2.1.size)
              have hbw : Below w.heap.size w w5 := (below_drewN h9 _).grown g5 (by simpa using HS.out) fun j hj => (HY.out.1.lt j hj).1
              exact ⟨⟨k + 1, A5, n5, c5, _, rfl, rfl, by omega, o5, hbw, by rw [List.length_append, List.length_singleton]; have := HY.out.2.2.1; omega, HY.out.2.2.2.1.snoc hvn HB0.out, by have h1 := freeC_snoc m (v : Int) (by omega) n; have h2 := HY.out.2.2.2.2; rw [if_pos (by omega)] at h1; omega⟩, by simp [intOf]; omega⟩
            · have hzb : (z == 0) = false := by simpa using hz0
              have hwz : IntKind.i64.wrap (z - 1) = z - 1 := IntWalk.i64_in _ (by omega)
              have HZ0 := Lib.hid hz0
              clear hz0
              go_wp2_with (first
                | (go_at_call 142; refine (HHB.out _ HB0.out).mono ?_; rintro e w2 ⟨rfl, q2, rfl⟩)
                | fail)
              go_roundw
              case rel => exact ⟨v + 1, z - 1, rfl, rfl, by go_num, by omega, by have h2 := HZ0.out; omega, by omega, by have h1 := HZ.out; show z - 1 = x - ((freeC m v + if hasB m (v : Int) = true then 0 else 1 : Nat) : Int); rw [HB0.out, if_neg Bool.false_ne_true]; omega, below_drewN HB.out _⟩
              case measure => simp [intOf]; omega
          · have HB0 := Lib.hid hb
            clear hb
            go_wp2_with (first
              | (go_at_call 142; refine (HHB.out _ HB0.out).mono ?_; rintro e w2 ⟨rfl, q2, rfl⟩)
              | fail)
            go_roundw
            case rel => exact ⟨v + 1, z, rfl, rfl, by go_num, by omega, by omega, by omega, by have h1 := HZ.out; show z = x - ((freeC m v + if hasB m (v : Int) = true then 0 else 1 : Nat) : Int); rw [HB0.out, if_pos rfl]; omega, below_drewN HB.out _⟩
            case measure => simp [intOf]; omega
        · have h1 := HZ.out
          have h2 := HY.out.2.2.2.2
          rw [show v = n by omega] at h1
          omega
    · have HF : Hid (∃ m', Makes w m' (.returned (.slice B bn d)) wr ∧ m'.length = n ∧ PermTo n m') := by
        obtain rfl : k = n := by omega
        exact ⟨m, Makes.of HY.out.1 HY.out.2.1 (by have := HY.out.2.2.1; omega), HY.out.2.2.1, HY.out.2.2.2.1⟩
      go_wp2
      go_ret
      exact HF.out
set_option maxHeartbeats 1000000 in
theorem dPermP_any {w : World} {g : Nat} {A : Option Addr} {n c : Nat} (m : Nat) (h : Dr w g A n c) (hm : 1 ≤ m) (hm2 : m ≤ 7) :
    Calls Try.prog 87 #[.pointer (some ⟨g, 0, none⟩), .int .i64 (m : Int)] w (fun e w' => ∃ B bn bd l, e = .returned (.slice B bn bd) ∧ OI w' w.heap.size (.slice B bn bd) l ∧ l.length = m ∧ permB l = true ∧ Cur w' g A n c ∧ w.grownBy w' (some g)) := by
  have hglt := h.cur.lt
  go_enter Try.func87, Try.ntmps87
  go_wp2
  go_loopw [5, 6] (fun u iv wr => ∃ (k : Nat) (l : List Int), l.length = k ∧ k ≤ m ∧ iv = .int .i64 (k : Int) ∧ OI wr w.heap.size u l ∧ Hid (∀ j, j < k → 0 ≤ nth l j ∧ nth l j < (m : Int) - j) ∧ Dr wr g A n c ∧ w.grownBy wr (some g)) (fun _ iv _ => m - (intOf iv).toNat)
  case atStart =>
    have b3 : Below w.heap.size w (w.alloc (.cells #[] 3)) := (Below.refl _ _).alloc (Nat.le_refl _) _
    exact ⟨0, [], rfl, Nat.zero_le _, rfl, OI.lit w w.heap.size [] 0 rfl (Nat.le_refl _) (by simp), fun j hj => by omega, h.below b3, grown_below (World.grownBy.refl _ _) b3⟩
  case round =>
    obtain ⟨k, l, hl, hk, rfl, ho, HL, hd, hg⟩ := hrel
    by_cases hlt : k < m
    · have hw : IntKind.i64.wrap ((m : Int) - (k : Int)) = (m : Int) - (k : Int) := IntWalk.i64_in _ (by omega)
      have HLL : Hid (l.length = k) := hl
      have HG := Lib.hid hg
      clear hl hg
      go_wp2_with fail
      refine (l1Below_any ((m : Int) - (k : Int)) hd (by omega) (by omega)).mono ?_
      rintro e w1 ⟨x, rfl, hx, hc, hg1⟩
      have hgb : w.heap.size ≤ wr.heap.size := HG.out.size
      have ho1 := ho.kept_low hg1 (fun b e => by injection e with e; omega)
      have d1 := hd.next hc hg1
      have HG1 := Lib.hid (HG.out.trans hg1)
      have hs1 : w.heap.size ≤ w1.heap.size := HG1.out.size
      clear hg1 hc ho hd
      have hlen : l.length + 1 ≤ 1000000000000 := by rw [HLL.out]; omega
      go_wp2_with (at_builtin; refine wpApp1 rfl _ _ rfl w.heap.size u5 l x rfl (by exact ho1) rfl hlen (by exact hs1) ?_; intro v' w' h1 h2 h3)
      have b2 : Below w1.heap.size w1 (w1.alloc (.cells #[.int .i64 x] 3)) := (Below.refl _ _).alloc (Nat.le_refl _) _
      go_roundw
      case rel =>
        refine ⟨k + 1, l ++ [x], by rw [List.length_append, HLL.out]; rfl, by omega, by go_num, h1, fun j hj => ?_, ?_, ?_⟩
        · rcases Nat.lt_or_eq_of_le (show j ≤ k by omega) with hj | hj
          · rw [nth_append_left (by rw [HLL.out]; exact hj)]; exact HL.out j hj
          · rw [nth_append_right (by rw [HLL.out]; omega), HLL.out, hj, Nat.sub_self]; show 0 ≤ x ∧ x < (m : Int) - (k : Int); omega
        · have hG := grown_step HG1.out h2 (.inr fun k hk => (ho1.lt k hk).1)
          refine ⟨d1.cur.same ?_, h.byt.low hG h.ne, h.ne⟩
          exact h2.block g (by omega) fun e => by have := (ho1.lt g e.symm).1; omega
        · exact grown_step HG1.out h2 (.inr fun k hk => (ho1.lt k hk).1)
      case measure => simp [intOf]; omega
    · obtain rfl : k = m := by omega
      obtain ⟨B, bn, bd, rfl, hr, -, -⟩ := ho.form
      have hbn : bn = k := by rw [← hr.1]; exact hl
      subst hbn
      have HDE : Hid (Calls Try.prog 151 #[.slice B bn bd] wr (fun e w' => ∃ m, Makes wr m e w' ∧ m.length = bn ∧ PermTo bn m)) := l1DecP_any bd hr (by omega) HL.out
      have HD := Lib.hid hd
      have HG := Lib.hid hg
      clear hr ho hd hg hl
      go_wp2_with (first | (go_at_call 151; refine HDE.out.mono ?_; rintro e w2 ⟨l2, ⟨A2, n2, c2, rfl, o2, r2, ⟨cp2, le2⟩, b2⟩, hl2, hl3⟩) | fail)
      go_ret
      have hs := HG.out.size
      exact ⟨A2, n2, c2, l2, rfl, o2.mono hs, hl2, hl3.perm hl2 hm (by omega), HD.out.cur.kept b2, grown_below HG.out b2⟩
end Go.Proofs.Ytgbojgmmingfdaa
