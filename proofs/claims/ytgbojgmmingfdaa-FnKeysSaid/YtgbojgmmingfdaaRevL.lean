/- reversed of the statements. -/
import Derived.Test.YtgbojgmmingfdaaKeyLs
import Derived.Test.YtgbojgmmingfdaaShapes
namespace Go.Proofs.Ytgbojgmmingfdaa
open Go.RowKit

set_option maxHeartbeats 1000000 in
theorem lreversed_any {A : Option Addr} {n : Nat} {l : List Int} {w : World} (c : Nat) (hx : RI w A n l) (hn : n ≤ 1000000) :
    Calls Try.prog 47 #[.slice A n c] w (Makes w l.reverse) := by
  have HLn : Hid (l.length = n) := hx.1
  have HX := Lib.hid hx
  obtain ⟨w1, e1⟩ : ∃ W, W = w.alloc (.cells #[] 3) := ⟨_, rfl⟩
  have HL : Hid (OI w1 w.heap.size (.slice (some ⟨w.heap.size, 0, none⟩) 0 0) []) := by rw [e1]; exact OI.lit w w.heap.size [] 0 rfl (Nat.le_refl _) (by simp)
  have B1 : Hid (Below w.heap.size w w1) := by rw [e1]; exact (Below.refl _ _).alloc (Nat.le_refl _) _
  have E1 := Lib.hid e1
  have hw0 : IntKind.i64.wrap ((n : Int) - 1) = (n : Int) - 1 := IntWalk.i64_in _ (by omega)
  clear e1 hx
  go_enter Try.func47, Try.ntmps47
  go_wp2
  rw [← E1.out]
  go_loopw [3, 4] (fun ov iv wr => ∃ (k : Nat) (z : Int) (B : Option Addr) (m d : Nat), ov = .slice B m d ∧ iv = .int .i64 z ∧ z = (k : Int) - 1 ∧ k ≤ n ∧ Hid (OI wr w.heap.size (.slice B m d) (l.drop k).reverse ∧ Below w.heap.size w wr)) (fun _ iv _ => (intOf iv + 1).toNat)
  case atStart => exact ⟨n, (n : Int) - 1, _, _, _, rfl, rfl, rfl, Nat.le_refl _, by rw [List.drop_of_length_le (by rw [HLn.out]; omega)]; exact HL.out, B1.out⟩
  case round =>
    obtain ⟨k, z, B, m, d, rfl, rfl, hz, hk, HY⟩ := hrel
    cases k with
    | zero =>
      obtain rfl : z = -1 := by omega
      have HF : Hid (Makes w l.reverse (.returned (.slice B m d)) wr) := by
        refine Makes.of HY.out.1 HY.out.2 ?_
        rw [List.length_reverse, HLn.out]; omega
      clear hz
      go_wp2
      go_ret
      exact HF.out
    | succ k =>
      obtain rfl : z = (k : Int) := by omega
      obtain ⟨ad, rfl, hc⟩ := (HX.out.below HY.out.2).cell (k := k) (by omega)
      obtain ⟨x, hxx⟩ : ∃ x, x = nth l k := ⟨_, rfl⟩
      rw [← hxx] at hc
      have hkn : k < n := by omega
      have hdr : l.drop k = x :: l.drop (k + 1) := by rw [hxx]; exact drop_nth (by rw [HLn.out]; exact hkn)
      have HDR : Hid ((l.drop k).reverse = (l.drop (k + 1)).reverse ++ [x]) := by show _ = _; rw [hdr, List.reverse_cons]
      have hw1 : IntKind.i64.wrap ((k : Int) - 1) = (k : Int) - 1 := IntWalk.i64_in _ (by omega)
      have HO := Lib.hid HY.out.1
      have HLE : Hid ((l.drop (k + 1)).reverse.length + 1 ≤ 1000000000000) := by show _ ≤ _; rw [List.length_reverse, List.length_drop, HLn.out]; omega
      have HS : Hid (w.heap.size ≤ wr.heap.size) := HY.out.2.size
      clear hz hxx hdr
      go_wp2_with (at_builtin; refine wpApp1 rfl _ _ rfl w.heap.size (.slice B m d) (l.drop (k + 1)).reverse x rfl HO.out rfl HLE.out HS.out ?_; intro v' w5 o5 g5 k5)
      obtain ⟨A5, n5, c5, rfl, -⟩ := o5.form
      have HF : Hid (OI w5 w.heap.size (.slice A5 n5 c5) (l.drop k).reverse ∧ Below w.heap.size w w5) := by
        rw [HDR.out]
        exact ⟨o5, HY.out.2.grown g5 HS.out fun j hj => (HY.out.1.lt j hj).1⟩
      clear o5 g5 k5
      go_roundw
      case rel => exact ⟨k, _, A5, n5, c5, rfl, rfl, by omega, by omega, HF.out⟩
      case measure => first | (simp [intOf]; done) | (simp [intOf]; omega)
end Go.Proofs.Ytgbojgmmingfdaa

/- l1Decode of the reference: how long the list is that it makes. -/
namespace Go.Proofs.Ytgbojgmmingfdaa
open Go.RowKit

theorem hasB_nil (x : Int) : hasB [] x = false := rfl
set_option maxHeartbeats 1000000 in
theorem l1Decode_any {A : Option Addr} {n : Nat} {l : List Int} {w : World} (c : Nat) (hx : RI w A n l) (hn : n ≤ 100) (hl : ∀ j, 0 ≤ nth l j ∧ nth l j ≤ 1000) (h0 : 1 ≤ n → nth l 0 < n) :
    Calls Try.prog 151 #[.slice A n c] w (fun e w' => ∃ m, Makes w m e w' ∧ m.length ≤ n ∧ (1 ≤ n → 1 ≤ m.length)) := by
  have HLn : Hid (l.length = n) := hx.1
  have HX := Lib.hid hx
  have HL := Lib.hid hl
  have H0 := Lib.hid h0
  obtain ⟨w1, e1⟩ : ∃ W, W = w.alloc (.cells #[] 3) := ⟨_, rfl⟩
  have HO1 : Hid (OI w1 w.heap.size (.slice (some ⟨w.heap.size, 0, none⟩) 0 0) []) := by rw [e1]; exact OI.lit w w.heap.size [] 0 rfl (Nat.le_refl _) (by simp)
  have B1 : Hid (Below w.heap.size w w1) := by rw [e1]; exact (Below.refl _ _).alloc (Nat.le_refl _) _
  have E1 := Lib.hid e1
  clear e1 hx hl h0
  go_enter Try.func151, Try.ntmps151
  go_wp2
  rw [← E1.out]
  go_loopw [3, 4, 5, 6] (fun ov iv _ _ wr => ∃ (k : Nat) (B : Option Addr) (bn d : Nat) (m : List Int), ov = .slice B bn d ∧ iv = .int .i64 (k : Int) ∧ k ≤ n ∧ Hid (OI wr w.heap.size (.slice B bn d) m ∧ Below w.heap.size w wr ∧ m.length ≤ k ∧ (1 ≤ k → 1 ≤ m.length))) (fun _ iv _ _ _ => n - (intOf iv).toNat)
  case atStart => exact ⟨0, _, _, _, [], rfl, rfl, Nat.zero_le _, HO1.out, B1.out, Nat.le_refl _, fun h => by omega⟩
  case round =>
    obtain ⟨k, B, bn, d, m, rfl, rfl, hk, HY⟩ := hrel
    by_cases hlt : k < n
    · obtain ⟨ad, rfl, hc⟩ := (HX.out.below HY.out.2.1).cell (k := k) hlt
      obtain ⟨x, hxx⟩ : ∃ x, x = nth l k := ⟨_, rfl⟩
      have hxb := HL.out k
      rw [← hxx] at hc hxb
      have HXX := Lib.hid hxx
      obtain ⟨wo, hwo⟩ : ∃ wo : World, wo = wr := ⟨_, rfl⟩
      rw [← hwo] at HY hc ⊢
      clear hxx hwo
      go_wp2_with fail
      go_loopw [3, 5, 6] (fun ov zv vv wq => ∃ (v : Nat) (z : Int), ov = .slice B bn d ∧ zv = .int .i64 z ∧ vv = .int .i64 (v : Int) ∧ v ≤ n ∧ x - v ≤ z ∧ z ≤ x ∧ Hid (k = 0 → z = x - v ∧ (v : Int) ≤ x) ∧ Hid (Below wo.heap.size wo wq)) (fun _ _ vv _ => n - (intOf vv).toNat)
      case atStart => exact ⟨0, x, rfl, rfl, rfl, Nat.zero_le _, by omega, by omega, fun _ => ⟨by omega, by omega⟩, Below.refl _ _⟩
      case round =>
        obtain ⟨v, z, rfl, rfl, rfl, hv, hz1, hz2, HZ, HB⟩ := hrel
        by_cases hvn : v < n
        · have HM : Hid (OI wr w.heap.size (.slice B bn d) m) := HY.out.1.below HB.out
          have hbn : bn ≤ 100 := by rw [← HY.out.1.ri.1]; have := HY.out.2.2.1; omega
          have HHB : Hid (∀ b, hasB m (v : Int) = b → Calls Try.prog 142 #[.slice B bn d, .int .i64 (v : Int)] wr (Gives wr (.bool b))) := fun b hb => by
            have h := l1Has_any (w := wr) d (v : Int) HM.out.ri (by omega)
            rw [hb] at h; exact h
          rcases hb : hasB m (v : Int) with _ | _
          · have HB0 := Lib.hid hb
            clear hb
            by_cases hz0 : z = 0
            · have hzb : (z == 0) = true := by simpa using hz0
              have HO := Lib.hid HM.out
              have HLE : Hid (m.length + 1 ≤ 1000000000000) := by have := HY.out.2.2.1; show _ ≤ _; omega
              have HS : Hid (w.heap.size ≤ wr.heap.size) := Nat.le_trans HY.out.2.1.size HB.out.size
              clear hz0
              go_wp2_with (first
                | (go_at_call 142; refine (HHB.out _ HB0.out).mono ?_; rintro e w2 ⟨rfl, q2, rfl⟩)
                | (at_builtin; refine wpApp1 rfl _ _ rfl w.heap.size (.slice B bn d) m (v : Int) rfl (HO.out.below (below_drewN (Below.refl _ _) _)) rfl HLE.out (by simpa using HS.out) ?_; intro v' w5 o5 g5 k5)
                | fail)
              obtain ⟨A5, n5, c5, rfl, -⟩ := o5.form
              have h9 : Below w.heap.size w wr := HY.out.2.1.trans (HB.out.mono HY.out.2.1.size)
              have hbw : Below w.heap.size w w5 := (below_drewN h9 _).grown g5 (by simpa using HS.out) fun j hj => (HY.out.1.lt j hj).1
              exact ⟨⟨k + 1, A5, n5, c5, _, rfl, rfl, by omega, o5, hbw, by rw [List.length_append, List.length_singleton]; have := HY.out.2.2.1; omega, fun _ => by rw [List.length_append, List.length_singleton]; omega⟩, by simp [intOf]; omega⟩
            · have hzb : (z == 0) = false := by simpa using hz0
              have hwz : IntKind.i64.wrap (z - 1) = z - 1 := IntWalk.i64_in _ (by omega)
              have HZ0 := Lib.hid hz0
              clear hz0
              go_wp2_with (first
                | (go_at_call 142; refine (HHB.out _ HB0.out).mono ?_; rintro e w2 ⟨rfl, q2, rfl⟩)
                | fail)
              go_roundw
              case rel => exact ⟨v + 1, z - 1, rfl, rfl, by go_num, by omega, by omega, by omega, fun h => by have h1 := HZ.out h; have h2 := HZ0.out; omega, below_drewN HB.out _⟩
              case measure => simp [intOf]; omega
          · have hk0 : k ≠ 0 := fun h => by
              have hm : m = [] := List.eq_nil_of_length_eq_zero (by have := HY.out.2.2.1; omega)
              rw [hm, hasB_nil] at hb
              cases hb
            have HB0 := Lib.hid hb
            have HK0 := Lib.hid hk0
            clear hb hk0
            go_wp2_with (first
              | (go_at_call 142; refine (HHB.out _ HB0.out).mono ?_; rintro e w2 ⟨rfl, q2, rfl⟩)
              | fail)
            go_roundw
            case rel => exact ⟨v + 1, z, rfl, rfl, by go_num, by omega, by omega, by omega, fun h => absurd h HK0.out, below_drewN HB.out _⟩
            case measure => simp [intOf]; omega
        · have hk0 : k ≠ 0 := fun h => by
            have h1 := (HZ.out h).2
            have h2 := H0.out (by omega)
            rw [← h, ← HXX.out] at h2
            omega
          have HK0 := Lib.hid hk0
          clear hk0
          go_wp2_with fail
          go_roundw
          case rel => exact ⟨k + 1, B, bn, d, m, rfl, by go_num, by omega, HY.out.1.below HB.out, HY.out.2.1.trans (HB.out.mono HY.out.2.1.size), by have := HY.out.2.2.1; omega, fun _ => HY.out.2.2.2 (by have := HK0.out; omega)⟩
          case measure => simp [intOf]; omega
    · have HF : Hid (∃ m', Makes w m' (.returned (.slice B bn d)) wr ∧ m'.length ≤ n ∧ (1 ≤ n → 1 ≤ m'.length)) := by
        obtain rfl : k = n := by omega
        exact ⟨m, Makes.of HY.out.1 HY.out.2.1 (by have := HY.out.2.2.1; omega), HY.out.2.2.1, HY.out.2.2.2⟩
      go_wp2
      go_ret
      exact HF.out
end Go.Proofs.Ytgbojgmmingfdaa
