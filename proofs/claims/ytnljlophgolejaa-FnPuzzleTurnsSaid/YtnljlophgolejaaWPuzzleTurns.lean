/- The walk of FnPuzzleTurns. -/
import Derived.Test.YtnljlophgolejaaZDrawC
import Derived.Test.YtnljlophgolejaaTurnsP
import Derived.Test.YtnljlophgolejaaBytes
import Derived.BigRegion
import Derived.ShutString
import Derived.ChangeOld
namespace Go.Proofs.Ytnljlophgolejaa.lawPuzzleTurns
open Go.ChangeShapes Go.WideShapes Go.ChangeAt Go.RowKit
open Go.ChangeMaps (open_string shut_string)

/-- The first k labels exchanged. -/
def cmT (l : List Int) (k : Nat) : List Int := (l.take k).map (fun x => 1 - x) ++ l.drop k
theorem cmT_zero (l : List Int) : cmT l 0 = l := by simp [cmT]
theorem cmT_len (l : List Int) (k : Nat) : (cmT l k).length = l.length := by simp [cmT]; omega
theorem cmT_at {l : List Int} {k : Nat} (h : k < l.length) : nth (cmT l k) k = nth l k := by
  have e : ((l.take k).map fun x => 1 - x).length = k := by rw [List.length_map, List.length_take]; omega
  unfold cmT
  rw [nth_append_right (by omega), e, Nat.sub_self]
  simp [nth, List.getD, h]
theorem cmT_set {l : List Int} {k : Nat} (h : k < l.length) : (cmT l k).set k (1 - nth l k) = cmT l (k + 1) := by
  have e : ((l.take k).map fun x => 1 - x).length = k := by rw [List.length_map, List.length_take]; omega
  unfold cmT
  rw [List.set_append_right _ _ (by omega), e, Nat.sub_self, List.drop_eq_getElem_cons h, List.set_cons_zero, List.take_succ_eq_append_getElem h, List.map_append, nth_lt h]
  simp
theorem cmT_all {l : List Int} {k : Nat} (h : l.length = k) : cmT l k = l.map fun x => 1 - x := by
  unfold cmT
  rw [List.take_of_length_le (by omega), List.drop_of_length_le (by omega), List.append_nil]
theorem OI.offNew {w w2 : World} {base : Nat} {v u : Value} {l l2 : List Int} (h : OI w2 w.heap.size v l) (hu : OI w base u l2) : Ap v u := by
  rcases hv : v.ownBlock with _ | k
  · exact .inl hv
  · refine .inr fun e => ?_
    rw [hv] at e
    have h1 := (h.lt k hv).1
    have h2 := (hu.lt k e.symm).2
    omega
theorem cm_label {l : List Int} (h : isStrB l = true) (k : Nat) : -1 ≤ nth l k ∧ nth l k ≤ 1 := by
  by_cases hk : k < l.length
  · have := (isStrB_iff.1 h).2 k hk; omega
  · rw [nth_ge (by omega)]; omega

set_option maxRecDepth 100000 in
set_option maxHeartbeats 2000000 in
theorem walk {A : Option Addr} {n : Nat} (c : Nat) {w : World} (hx : RB w A n) : Calls Try.prog 8 #[.slice A n c] w (Law w) := by
  obtain ⟨w0, ew⟩ : ∃ w0 : World, w0 = w := ⟨_, rfl⟩
  subst ew
  rcases hbig : decide (1048576 < n) with _ | _
  · go_enter Try.func8, Try.ntmps8
    go_wp2_with (go_at_call 31; refine (big_any _).mono ?_; rintro e w' ⟨rfl, q0, rfl⟩)
    clear hbig
    refine (drawCount_any _ (hx.below (Quiet.below ⟨_, rfl⟩))).mono ?_
    rintro e w1 ⟨A1, n1, c1, A2, n2, c2, A3, n3, c3, l1, l2, l3, rfl, hl1, hl2, hl3, o1, o2, o3, b1⟩
    have g1 : Below w0.heap.size w0 w1 := bnext (Quiet.below ⟨_, rfl⟩) b1 (by simp)
    have hn1 : n1 ≤ 7 := by rw [← o1.ri.1]; exact hl1
    have hn2 : n2 ≤ 6 := by rw [← o2.ri.1]; exact hl2
    have hn3 : n3 ≤ 7 := by rw [← o3.ri.1]; exact hl3
    have R1 := Lib.hid o1.ri
    have R2 := Lib.hid o2.ri
    have R3 := Lib.hid o3.ri
    clear b1 o1 o2 o3 hl1 hl2 hl3
    by_cases hal : alikeB l1 l2 = true ∧ alikeB l1 l3 = true
    case neg =>
      obtain ⟨e1, e2⟩ := turns_no hal
      have HC1 : Hid (∀ W, Below w1.heap.size w1 W → Calls Try.prog 14 #[.slice A1 n1 c1, .slice A2 n2 c2, .slice A3 n3 c3] W (GivesB W (.int .i64 (-1)))) := fun W bW => by rw [← e1]; exact iCount_any c1 c2 c3 (R1.out.below bW) (R2.out.below bW) (R3.out.below bW) (by omega) (by omega) (by omega)
      have HC2 : Hid (∀ W, Below w1.heap.size w1 W → Calls Try.prog 14 #[.slice A2 n2 c2, .slice A1 n1 c1, .slice A3 n3 c3] W (GivesB W (.int .i64 (-1)))) := fun W bW => by rw [← e2]; exact iCount_any c2 c1 c3 (R2.out.below bW) (R1.out.below bW) (R3.out.below bW) (by omega) (by omega) (by omega)
      have HC3 : Hid (∀ W, Below w1.heap.size w1 W → Calls Try.prog 12 #[.slice A1 n1 c1, .slice A2 n2 c2, .slice A3 n3 c3] W (GivesB W (.int .i64 (-1)))) := fun W bW => by rw [← e1]; exact sCount_any c1 c2 c3 (R1.out.below bW) (R2.out.below bW) (R3.out.below bW) (by omega) (by omega) (by omega)
      clear e1 e2 hal
      go_wp2_with fail
      refine (HC1.out _ (Below.refl _ _)).mono ?_
      rintro e w2 ⟨rfl, b2⟩
      go_wp2_with fail
      refine (HC2.out _ b2).mono ?_
      rintro e w3 ⟨rfl, b3'⟩
      have b3 := b2.trans (b3'.mono b2.size)
      clear b3'
      go_wp2_with fail
      refine (HC3.out _ b3).mono ?_
      rintro e w4 ⟨rfl, b4'⟩
      have g4 := bnext g1 (b3.trans (b4'.mono b3.size)) g1.size
      clear b4' b3 b2
      go_wp2
      go_ret
      exact ⟨rfl, g4⟩
    obtain ⟨al2, al3⟩ := hal
    obtain ⟨s1, s2, s3, -⟩ := alike_str al2
    obtain ⟨-, t2, t3, -⟩ := alike_str al3
    have hN2 : n1 = n2 := by rw [← R2.out.1, ← R1.out.1, s3]
    have hN3 : n1 = n3 := by rw [← R3.out.1, ← R1.out.1, t3]
    subst hN2
    subst hN3
    have hpos : 1 ≤ n1 := by rw [← R1.out.1]; exact (isStrB_iff.1 s1).1.1
    obtain ⟨x, hx1⟩ : ∃ x, x = cntPz l1 l2 l3 := ⟨_, rfl⟩
    obtain ⟨f1, f2, f3, f4⟩ := turns al2 al3 (by rw [R1.out.1]; exact hn2)
    rw [← hx1] at f1 f2 f3 f4
    have F2 := Lib.hid f2
    have F3 := Lib.hid f3
    have S1 := Lib.hid s1
    have S2 := Lib.hid s2
    have S3 := Lib.hid t2
    have HC1 : Hid (∀ W, Below w1.heap.size w1 W → Calls Try.prog 14 #[.slice A1 n1 c1, .slice A2 n1 c2, .slice A3 n1 c3] W (GivesB W (.int .i64 x))) := fun W bW => by rw [hx1]; exact iCount_any c1 c2 c3 (R1.out.below bW) (R2.out.below bW) (R3.out.below bW) (by omega) (by omega) (by omega)
    have HC2 : Hid (∀ W, Below w1.heap.size w1 W → Calls Try.prog 14 #[.slice A2 n1 c2, .slice A1 n1 c1, .slice A3 n1 c3] W (GivesB W (.int .i64 x))) := fun W bW => by rw [← f1]; exact iCount_any c2 c1 c3 (R2.out.below bW) (R1.out.below bW) (R3.out.below bW) (by omega) (by omega) (by omega)
    have HC3 : Hid (∀ W, Below w1.heap.size w1 W → Calls Try.prog 12 #[.slice A1 n1 c1, .slice A2 n1 c2, .slice A3 n1 c3] W (GivesB W (.int .i64 x))) := fun W bW => by rw [hx1]; exact sCount_any c1 c2 c3 (R1.out.below bW) (R2.out.below bW) (R3.out.below bW) (by omega) (by omega) (by omega)
    have hxx : (x == x) = true := by simp
    have hxn : decide (x < 0) = false := decide_eq_false (by omega)
    clear f1 f2 f3 hx1 al2 al3 s1 s2 s3 t2 t3
    go_wp2_with fail
    refine (HC1.out _ (Below.refl _ _)).mono ?_
    rintro e w2 ⟨rfl, b2⟩
    go_wp2_with fail
    refine (HC2.out _ b2).mono ?_
    rintro e w3 ⟨rfl, b3'⟩
    have b3 := b2.trans (b3'.mono b2.size)
    clear b3'
    go_wp2_with fail
    refine (HC3.out _ b3).mono ?_
    rintro e w4 ⟨rfl, b4'⟩
    have b4 := b3.trans (b4'.mono b3.size)
    have g4 := bnext g1 b4 g1.size
    clear b4' b3 b2
    go_wp2_with fail
    refine (reversed_any c1 (R1.out.below b4) (by omega)).mono ?_
    rintro e w5 ⟨A4, n4, c4, rfl, o4, r4, ⟨cp4, le4⟩, b5'⟩
    obtain rfl : n1 = n4 := by rw [← r4.1, List.length_reverse, R1.out.1]
    have b5 := b4.trans (b5'.mono b4.size)
    have g5 := bnext g4 b5' g4.size
    clear r4 b5'
    go_wp2_with fail
    refine (reversed_any c2 (R2.out.below b5) (by omega)).mono ?_
    rintro e w6 ⟨A5, n5, c5, rfl, o5, r5, ⟨cp5, le5⟩, b6'⟩
    obtain rfl : n1 = n5 := by rw [← r5.1, List.length_reverse, R2.out.1]
    have b6 := b5.trans (b6'.mono b5.size)
    have g6 := bnext g5 b6' g5.size
    have o46 := OI.below o4 b6'
    have a54 := (OI.offNew o5 o4).flip
    clear r5 b6' o4
    go_wp2_with fail
    refine (reversed_any c3 (R3.out.below b6) (by omega)).mono ?_
    rintro e w7 ⟨A6, n6, c6, rfl, o6, r6, ⟨cp6, le6⟩, b7'⟩
    obtain rfl : n1 = n6 := by rw [← r6.1, List.length_reverse, R3.out.1]
    have b7 := b6.trans (b7'.mono b6.size)
    have g7 := bnext g6 b7' g6.size
    have a64 := (OI.offNew o6 o46).flip
    have a65 := (OI.offNew o6 o5).flip
    have o47 := OI.below o46 b7'
    have o57 := OI.below o5 b7'
    clear r6 b7' o46 o5
    obtain ⟨G4, rfl⟩ := OI.some2 o47 (by omega)
    obtain ⟨G5, rfl⟩ := OI.some2 o57 (by omega)
    obtain ⟨G6, rfl⟩ := OI.some2 o6 (by omega)
    have n54 : G4 ≠ G5 := by rcases a54 with h | h; cases h; exact fun e => h (by rw [e]; rfl)
    have n64 : G4 ≠ G6 := by rcases a64 with h | h; cases h; exact fun e => h (by rw [e]; rfl)
    have n65 : G5 ≠ G6 := by rcases a65 with h | h; cases h; exact fun e => h (by rw [e]; rfl)
    have NE : Hid (G4 ≠ G5 ∧ G4 ≠ G6 ∧ G5 ≠ G6) := ⟨n54, n64, n65⟩
    have HO4 := Lib.hid o47
    have HO5 := Lib.hid o57
    have HO6 := Lib.hid o6
    have HB7 := Lib.hid b7
    have HG1 := Lib.hid g1
    have L1 : Hid (l1.reverse.length = n1 ∧ l2.reverse.length = n1 ∧ l3.reverse.length = n1) := ⟨by rw [List.length_reverse, R1.out.1], by rw [List.length_reverse, R2.out.1], by rw [List.length_reverse, R3.out.1]⟩
    have hs45 : w1.heap.size ≤ w4.heap.size ∧ w1.heap.size ≤ w5.heap.size ∧ w1.heap.size ≤ w6.heap.size := ⟨b4.size, b5.size, b6.size⟩
    have HS45 := Lib.hid hs45
    clear a54 a64 a65 o47 o57 o6 n54 n64 n65 b4 b5 b6 b7 g1 g4 g5 g6 g7 hs45
    go_wp2
    go_loopw [10] (fun i wr => ∃ k : Nat, k ≤ n1 ∧ i = .int .i64 (k : Int) ∧ OI wr w4.heap.size (.slice (some ⟨G4, 0, none⟩) n1 c4) (cmT l1.reverse k) ∧ OI wr w5.heap.size (.slice (some ⟨G5, 0, none⟩) n1 c5) (cmT l2.reverse k) ∧ OI wr w6.heap.size (.slice (some ⟨G6, 0, none⟩) n1 c6) (cmT l3.reverse k) ∧ Below w1.heap.size w1 wr) (fun i _ => n1 - (intOf i).toNat)
    case atStart => exact ⟨0, Nat.zero_le _, rfl, by rw [cmT_zero]; exact HO4.out, by rw [cmT_zero]; exact HO5.out, by rw [cmT_zero]; exact HO6.out, HB7.out⟩
    case round =>
      obtain ⟨k, hk, rfl, p4, p5, p6, hb⟩ := hrel
      by_cases hlt : k < n1
      · obtain ⟨v4, hv4⟩ : ∃ v, v = nth l1.reverse k := ⟨_, rfl⟩
        obtain ⟨v5, hv5⟩ : ∃ v, v = nth l2.reverse k := ⟨_, rfl⟩
        obtain ⟨v6, hv6⟩ : ∃ v, v = nth l3.reverse k := ⟨_, rfl⟩
        have q4 := p4.cellAt hlt
        have f4 := p4.frozenAt k
        obtain ⟨s4, gr4⟩ := p4.stored k (1 - v4)
        have p5a := p5.kept gr4 (.inr fun e => NE.out.1 (by injection e with e; exact e.symm))
        have p6a := p6.kept gr4 (.inr fun e => NE.out.2.1 (by injection e with e; exact e.symm))
        have q5 := p5a.cellAt hlt
        have f5 := p5a.frozenAt k
        obtain ⟨s5, gr5⟩ := p5a.stored k (1 - v5)
        have s4b := s4.kept gr5 (.inr fun e => NE.out.1 (by injection e))
        have p6b := p6a.kept gr5 (.inr fun e => NE.out.2.2 (by injection e with e; exact e.symm))
        have q6 := p6b.cellAt hlt
        have f6 := p6b.frozenAt k
        obtain ⟨s6, gr6⟩ := p6b.stored k (1 - v6)
        have s4c := s4b.kept gr6 (.inr fun e => NE.out.2.1 (by injection e))
        have s5c := s5.kept gr6 (.inr fun e => NE.out.2.2 (by injection e))
        rw [cmT_at (by rw [L1.out.1]; exact hlt), ← hv4] at q4
        rw [cmT_at (by rw [L1.out.2.1]; exact hlt), ← hv5] at q5
        rw [cmT_at (by rw [L1.out.2.2]; exact hlt), ← hv6] at q6
        rw [hv4, cmT_set (by rw [L1.out.1]; exact hlt), ← hv4] at s4c
        rw [hv5, cmT_set (by rw [L1.out.2.1]; exact hlt), ← hv5] at s5c
        rw [hv6, cmT_set (by rw [L1.out.2.2]; exact hlt), ← hv6] at s6
        have hbd : Below w1.heap.size w1 (((wr.setCell ⟨G4, k, none⟩ (.int .i64 (1 - v4))).setCell ⟨G5, k, none⟩ (.int .i64 (1 - v5))).setCell ⟨G6, k, none⟩ (.int .i64 (1 - v6))) := by
          have h4 := (p4.lt G4 rfl).1
          have h5 := (p5.lt G5 rfl).1
          have h6 := (p6.lt G6 rfl).1
          have hs := HS45.out
          exact ((hb.setCell (by show _ ≤ G4; omega) _).setCell (by show _ ≤ G5; omega) _).setCell (by show _ ≤ G6; omega) _
        have HF := Lib.hid (⟨s4c, s5c, s6, hbd⟩ : _ ∧ _ ∧ _ ∧ _)
        have r4 := cm_label (flips S1.out (by have := R1.out.1; omega)).2.2.1 k
        have r5 := cm_label (flips S2.out (by have := R2.out.1; omega)).2.2.1 k
        have r6 := cm_label (flips S3.out (by have := R3.out.1; omega)).2.2.1 k
        rw [← hv4] at r4
        rw [← hv5] at r5
        rw [← hv6] at r6
        have W4 : IntKind.i64.wrap (1 - v4) = 1 - v4 := IntWalk.i64_in _ (by omega)
        have W5 : IntKind.i64.wrap (1 - v5) = 1 - v5 := IntWalk.i64_in _ (by omega)
        have W6 : IntKind.i64.wrap (1 - v6) = 1 - v6 := IntWalk.i64_in _ (by omega)
        clear s4 s4b s4c s5 s5c s6 p4 p5 p6 p5a p6a p6b gr4 gr5 gr6 hbd hb hv4 hv5 hv6
        go_wp2
        go_roundw
        case rel => exact ⟨k + 1, by omega, by go_num, HF.out.1, HF.out.2.1, HF.out.2.2.1, HF.out.2.2.2⟩
        case measure => simp [intOf]; omega
      · obtain rfl : k = n1 := by omega
        rw [cmT_all L1.out.1] at p4
        rw [cmT_all L1.out.2.1] at p5
        rw [cmT_all L1.out.2.2] at p6
        have HP := Lib.hid (⟨p4.ri, p5.ri, p6.ri⟩ : _ ∧ _ ∧ _)
        have HB := Lib.hid hb
        have HF1 : Hid (∀ W : World, Below wr.heap.size wr W → Below w1.heap.size w1 W) := fun W bW => hb.trans (bW.mono hb.size)
        have HC4 : Hid (∀ W A n c A' n' c', Below wr.heap.size wr W → RI W A n l3.reverse → RI W A' n' l2.reverse → n ≤ 1000000 → n' ≤ 1000000 → Calls Try.prog 14 #[.slice A n c, .slice A1 k c1, .slice A' n' c'] W (GivesB W (.int .i64 x))) := fun W A n c A' n' c' bW h1 h2 m1 m2 => by
          rw [← F2.out]; exact iCount_any c c1 c' h1 (R1.out.below (HF1.out W bW)) h2 (by omega) (by omega) (by omega)
        have HC5 : Hid (∀ W, Below wr.heap.size wr W → Calls Try.prog 14 #[.slice (some ⟨G5, 0, none⟩) k c5, .slice (some ⟨G4, 0, none⟩) k c4, .slice (some ⟨G6, 0, none⟩) k c6] W (GivesB W (.int .i64 x))) := fun W bW => by
          rw [← F3.out]; exact iCount_any c5 c4 c6 (HP.out.2.1.below bW) (HP.out.1.below bW) (HP.out.2.2.below bW) (by omega) (by omega) (by omega)
        have HR3 : Hid (∀ W, Below wr.heap.size wr W → Calls Try.prog 33 #[.slice A3 k c3] W (Makes W l3.reverse)) := fun W bW => reversed_any c3 (R3.out.below (HF1.out W bW)) (by omega)
        have HR2 : Hid (∀ W, Below wr.heap.size wr W → Calls Try.prog 33 #[.slice A2 k c2] W (Makes W l2.reverse)) := fun W bW => reversed_any c2 (R2.out.below (HF1.out W bW)) (by omega)
        have HLR := Lib.hid L1.out
        have hb0 : Below wr.heap.size wr wr := Below.refl _ _
        clear p4 p5 p6 hb
        go_wp2_with fail
        refine (HR3.out _ hb0).mono ?_
        rintro e w8 ⟨A8, n8, c8, rfl, o8, r8, -, b8⟩
        have hn8 : n8 ≤ 7 := by rw [← r8.1, HLR.out.2.2]; omega
        have R8 := Lib.hid r8
        clear r8 o8
        go_wp2_with fail
        refine (HR2.out _ b8).mono ?_
        rintro e w9 ⟨A9, n9, c9, rfl, o9, r9, -, b9'⟩
        have hn9 : n9 ≤ 7 := by rw [← r9.1, HLR.out.2.1]; omega
        have b9 := b8.trans (b9'.mono b8.size)
        have R9 := Lib.hid r9
        have R8 := Lib.hid (R8.out.below b9')
        clear r9 o9 b9'
        go_wp2_with fail
        refine (HC4.out _ _ _ _ _ _ _ b9 R8.out R9.out (by omega) (by omega)).mono ?_
        rintro e w10 ⟨rfl, b10'⟩
        have b10 := b9.trans (b10'.mono b9.size)
        clear b10'
        go_wp2_with fail
        refine (HC5.out _ b10).mono ?_
        rintro e w11 ⟨rfl, b11'⟩
        have b11 := b10.trans (b11'.mono b10.size)
        have hfin := Lib.hid (bnext HG1.out (HF1.out _ b11) HG1.out.size)
        clear b11' b10 b9 b8
        go_wp2
        go_ret
        exact ⟨rfl, hfin.out⟩
  · go_enter Try.func8, Try.ntmps8
    go_wp2_with (go_at_call 31; refine (big_any _).mono ?_; rintro e w' ⟨rfl, q0, rfl⟩)
    go_ret
    exact ⟨rfl, Quiet.below ⟨_, rfl⟩⟩
end Go.Proofs.Ytnljlophgolejaa.lawPuzzleTurns
