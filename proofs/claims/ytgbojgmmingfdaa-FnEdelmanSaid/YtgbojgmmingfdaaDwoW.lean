/- dWord and DrawWordOf of the reference. -/
import Derived.Test.YtgbojgmmingfdaaCodeW
namespace Go.Proofs.Ytgbojgmmingfdaa
open Go.RowKit

set_option maxRecDepth 100000 in
set_option maxHeartbeats 2000000 in
theorem dWord_any {w : World} {g : Nat} {A : Option Addr} {n c : Nat} (m : Nat) (h : Dr w g A n c) (hm : 2 ≤ m) (hm2 : m ≤ 7) :
    Calls Try.prog 89 #[.pointer (some ⟨g, 0, none⟩), .int .i64 (m : Int), .int .i64 8] w (fun e w' => ∃ B bn bd, e = .returned (.slice B bn bd) ∧ Cur w' g A n c ∧ w.grownBy w' (some g)) := by
  have hglt := h.cur.lt
  obtain ⟨w1, e1⟩ : ∃ W, W = w.alloc (.cells #[] 3) := ⟨_, rfl⟩
  have hb1 : Below w.heap.size w w1 := by rw [e1]; exact (Below.refl _ _).alloc (Nat.le_refl _) _
  have HO1 : Hid (OI w1 w.heap.size (.slice (some ⟨w.heap.size, 0, none⟩) 0 0) []) := by rw [e1]; exact OI.lit w w.heap.size [] 0 rfl (Nat.le_refl _) (by simp)
  have HD1 := Lib.hid (h.below hb1)
  have HB1 := Lib.hid hb1
  have HD0 := Lib.hid h
  have E1 := Lib.hid e1
  have hw9 : IntKind.i64.wrap ((8 : Int) + 1) = 9 := by decide
  have hm3 : (1 : Int) < (m : Int) := by omega
  clear e1 hb1 h
  go_enter Try.func89, Try.ntmps89
  go_upto_region 2 with fail
  rw [← E1.out]
  go_wp2_with fail
  refine (l1Below_any 9 HD1.out (by omega) (by omega)).mono ?_
  rintro e w2 ⟨x, rfl, hx, hc2, hg2⟩
  have D2 := HD1.out.next hc2 hg2
  have R0 : Hid (Dr w2 g A n c ∧ OI w2 w.heap.size (.slice (some ⟨w.heap.size, 0, none⟩) 0 0) [] ∧ w.grownBy w2 (some g)) :=
    ⟨D2, HO1.out.kept_low hg2 (fun b e => by injection e with e; omega), (grown_below (World.grownBy.refl _ _) HB1.out).trans hg2⟩
  clear D2 hc2 hg2
  obtain ⟨xn, rfl⟩ : ∃ k : Nat, x = (k : Int) := ⟨x.toNat, by omega⟩
  have hxn : xn < 9 := by omega
  go_upto_region 4 with fail
  go_loopw [7, 9] (fun ov i wr => ∃ (k : Nat) (D : Option Addr) (dn dd : Nat) (l : List Int), k ≤ xn ∧ i = .int .i64 (k : Int) ∧ ov = .slice D dn dd ∧ Hid (Dr wr g A n c ∧ OI wr w.heap.size (.slice D dn dd) l ∧ w.grownBy wr (some g) ∧ l.length = k)) (fun _ i _ => xn - (intOf i).toNat)
  case atStart => exact ⟨0, _, _, _, [], Nat.zero_le _, rfl, rfl, R0.out.1, R0.out.2.1, R0.out.2.2, rfl⟩
  case round =>
    clear R0
    obtain ⟨k, D, dn, dd, l, hk, rfl, rfl, HY⟩ := hrel
    by_cases hlt : k < xn
    · have hwm : IntKind.i64.wrap ((m : Int) - 1) = (m : Int) - 1 := by rw [IntKind.wrap_i64]; omega
      go_wp2_with fail
      refine (l1Below_any ((m : Int) - 1) HY.out.1 (by omega) (by omega)).mono ?_
      rintro e w3 ⟨y, rfl, hy, hc3, hg3⟩
      have D3 := Lib.hid (HY.out.1.next hc3 hg3)
      have O3 := Lib.hid (HY.out.2.1.kept_low hg3 (fun b e => by injection e with e; omega))
      have G3 := Lib.hid (HY.out.2.2.1.trans hg3)
      have HLE : Hid (l.length + 1 ≤ 1000000000000) := by have := HY.out.2.2.2; show _ ≤ _; omega
      have HSZ : Hid (w.heap.size ≤ w3.heap.size) := G3.out.size
      clear hc3 hg3
      go_wp2_with (first
        | (at_builtin; refine wpApp1 rfl _ _ rfl w.heap.size (.slice D dn dd) l y rfl (by exact O3.out) rfl HLE.out HSZ.out ?_; intro v7 w7 o7 g7 k7)
        | fail)
      obtain ⟨D7, dn7, dd7, rfl, -⟩ := o7.form
      have HF : Hid (Dr w7 g A n c ∧ OI w7 w.heap.size (.slice D7 dn7 dd7) (l ++ [y]) ∧ w.grownBy w7 (some g) ∧ (l ++ [y]).length = k + 1) := by
        have hG := grown_step G3.out g7 (.inr fun k hk => (O3.out.lt k hk).1)
        refine ⟨⟨D3.out.cur.same ?_, HD0.out.byt.low hG HD0.out.ne, HD0.out.ne⟩, o7, hG, by rw [List.length_append, HY.out.2.2.2]; rfl⟩
        exact g7.block g (by have := HSZ.out; omega) fun e => by have := (O3.out.lt g e.symm).1; omega
      clear o7 g7 k7
      go_roundw
      case rel => exact ⟨k + 1, _, _, _, _, by omega, by go_num, rfl, HF.out⟩
      case measure => simp [intOf]; omega
    · go_wp2_with fail
      go_ret
      exact ⟨D, dn, dd, rfl, HY.out.1.cur, HY.out.2.2.1⟩
/-- A permutation with one of its reduced words. -/
def DrawsW (w : World) : Ending → World → Prop := fun e w' => ∃ (B D F : Option Addr) (bn bd dn dd fn fd : Nat) (l v : List Int), e = .returned (.tuple #[.slice B bn bd, .slice D dn dd, .slice F fn fd]) ∧
  OI w' w.heap.size (.slice B bn bd) l ∧ OI w' w.heap.size (.slice D dn dd) v ∧ permB l = true ∧ 2 ≤ l.length ∧ l.length ≤ 5 ∧ RedS v.reverse l ∧ v.length ≤ 21 ∧ Below w.heap.size w w'
set_option maxRecDepth 100000 in
set_option maxHeartbeats 2000000 in
theorem drawWordOf_any {w : World} {A : Option Addr} {n : Nat} (c : Nat) (hb : RB w A n) :
    Calls Try.prog 23 #[.slice A n c] w (DrawsW w) := by
  go_enter Try.func23, Try.ntmps23
  go_wp2_with fail
  refine (l1New_any hb).mono ?_
  rintro e w1 ⟨g, rfl, hg, d1, b1⟩
  have HB1 := Lib.hid b1
  have hs1 := b1.size
  have hlt1 := d1.cur.lt
  clear b1
  go_wp2_with fail
  refine (l1Below_any 4 d1 (by omega) (by omega)).mono ?_
  rintro e w2 ⟨x, rfl, hx, hc2, hg2⟩
  have d2 := d1.next hc2 hg2
  have HG2 := Lib.hid hg2
  have hs2 := hg2.size
  clear hg2 hc2
  obtain ⟨m, hm⟩ : ∃ m : Nat, 2 + x = (m : Int) := ⟨(2 + x).toNat, by omega⟩
  have hw : IntKind.i64.wrap (2 + x) = (m : Int) := by rw [← hm]; exact IntWalk.i64_in _ (by omega)
  have hm1 : 2 ≤ m ∧ m ≤ 5 := by omega
  clear hm
  go_wp2_with fail
  refine (dPermP_any m d2 (by omega) (by omega)).mono ?_
  rintro e w3 ⟨B, bn, bd, l, rfl, o3, hl, hp, hc3, hg3⟩
  have d3 := d2.next hc3 hg3
  have HG3 := Lib.hid (HG2.out.trans hg3)
  have hs3 := hg3.size
  have HP := Lib.hid hp
  have HLL := Lib.hid hl
  clear hg3 hc3
  go_wp2_with fail
  refine (dReduced_any d3 o3.ri hp).mono ?_
  rintro e w4 ⟨D, dn, dd, v, rfl, o4, hred, hv, hc4, hg4⟩
  have d4 := d3.next hc4 hg4
  have o34 := Lib.hid (o3.kept_low hg4 (fun b e => by injection e with e; omega))
  have HG4 := Lib.hid (HG3.out.trans hg4)
  have hs4 := hg4.size
  have HRED := Lib.hid hred
  have HV := Lib.hid hv
  clear hg4 hc4 o3 hp hl hred hv
  go_wp2_with fail
  refine (dWord_any m d4 hm1.1 (by omega)).mono ?_
  rintro e w5 ⟨F, fn, fd, rfl, hc5, hg5⟩
  have o35 := Lib.hid (o34.out.kept_low hg5 (fun b e => by injection e with e; omega))
  have o45 := Lib.hid (o4.kept_low hg5 (fun b e => by injection e with e; omega))
  have HG5 := Lib.hid (HG4.out.trans hg5)
  clear hg5 hc5 o4
  go_wp2_with fail
  go_ret3
  exact ⟨B, D, F, bn, bd, dn, dd, fn, fd, l, v, rfl, o35.out.mono (by omega), o45.out.mono (by omega), HP.out, by have := HLL.out; omega, by have := HLL.out; omega, HRED.out, HV.out, HB1.out.grown HG5.out HB1.out.size (fun b e => by injection e with e; omega)⟩
end Go.Proofs.Ytgbojgmmingfdaa
