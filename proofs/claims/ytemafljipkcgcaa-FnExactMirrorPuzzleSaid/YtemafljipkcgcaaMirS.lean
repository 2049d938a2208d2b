/- MirrorPuzzle of the reference, at a puzzle. -/
import Derived.Test.YtemafljipkcgcaaCopy
namespace Go.Proofs.Ytemafljipkcgcaa
open Go.RowKit

set_option maxRecDepth 4000 in
set_option maxHeartbeats 8000000 in
theorem sMir_yes {A1 A2 A3 : Option Addr} {n1 n2 n3 : Nat} {L R B : List Int} {w : World} (c1 c2 c3 : Nat) (n : Nat) (h1 : RI w A1 n1 L) (h2 : RI w A2 n2 R) (h3 : RI w A3 n3 B)
    (m1 : n1 ≤ 1000000000) (m2 : n2 ≤ 1000000000) (m3 : n3 ≤ 1000000000) (hp : puzB n L R B true = true) :
    Calls Try.prog 34 #[.agg #[.int .i64 n, .slice A1 n1 c1, .slice A2 n2 c2, .slice A3 n3 c3]] w (MakesPb w n (tAll mirT flipB R n (List.replicate (tri n) 0)) (tAll mirT flipB L n (List.replicate (tri n) 0)) (tAll mirT flipB B n (List.replicate (tri n) 0)) true) := by
  have hp2 : sizesB n L R B = true := by
    have := hp
    unfold puzB at this
    rw [Bool.and_eq_true] at this
    exact this.1
  obtain ⟨hi, hL, hR, hB⟩ := sizesB_iff.1 hp2
  have hi := inB_iff.1 hi
  rw [h1.1, Int.toNat_natCast] at hL
  rw [h2.1, Int.toNat_natCast] at hR
  rw [h3.1, Int.toNat_natCast] at hB
  obtain rfl : n1 = n3 := by omega
  obtain rfl : n2 = n1 := by omega
  have HN : Hid (n2 = tri n) := hB
  have hn1 : 1 ≤ n := by omega
  have hn7 : n ≤ 7 := by omega
  have htp : 0 < n2 := by have := tri_lt (r := 0) (k := 0) (n := n) (by omega) (by omega); omega
  have hxs : n2 ≤ 36 := by have := tri_small (n := n) (by omega); omega
  obtain ⟨ad1, e1, -⟩ := h1.2 htp
  obtain ⟨ad2, e2, -⟩ := h2.2 htp
  obtain ⟨ad3, e3, -⟩ := h3.2 htp
  subst e1 e2 e3
  clear hi hL hR hB hp2
  go_enter Try.func34, Try.ntmps34
  go_wp2_with fail
  obtain ⟨w0, e0⟩ : ∃ w0 : World, w0 = ((w.alloc (Obj.cells #[Value.int IntKind.i64 (n : Int), Value.slice (some ad1) n2 c1, Value.slice (some ad2) n2 c2, Value.slice (some ad3) n2 c3] 27)).alloc (Obj.cells #[Value.int IntKind.i64 0, Value.slice none 0 0, Value.slice none 0 0, Value.slice none 0 0] 27)) := ⟨_, rfl⟩
  have g0 : Below w.heap.size w w0 := by rw [e0]; exact ((Below.refl _ _).alloc (Nat.le_refl _) _).alloc (by simp) _
  obtain ⟨bx, hbx⟩ : ∃ g, g = w.heap.size := ⟨_, rfl⟩
  obtain ⟨by_, hby⟩ : ∃ g, g = w.heap.size + 1 := ⟨_, rfl⟩
  have K0 : Hid (BK w0 bx 27 [Value.int IntKind.i64 (n : Int), Value.slice (some ad1) n2 c1, Value.slice (some ad2) n2 c2, Value.slice (some ad3) n2 c3]) := by
    rw [e0, hbx]; exact (BK.new w _ _).alloc _
  have Y0 : Hid (BK w0 by_ 27 [Value.int IntKind.i64 0, Value.slice none 0 0, Value.slice none 0 0, Value.slice none 0 0]) := by
    rw [e0, hby]
    have := BK.new (w.alloc (Obj.cells #[Value.int IntKind.i64 (n : Int), Value.slice (some ad1) n2 c1, Value.slice (some ad2) n2 c2, Value.slice (some ad3) n2 c3] 27)) 27 [Value.int IntKind.i64 0, Value.slice none 0 0, Value.slice none 0 0, Value.slice none 0 0]
    rw [show (w.alloc (Obj.cells #[Value.int IntKind.i64 (n : Int), Value.slice (some ad1) n2 c1, Value.slice (some ad2) n2 c2, Value.slice (some ad3) n2 c3] 27)).heap.size = w.heap.size + 1 by simp] at this
    exact this
  have HY : Hid (w.heap.size ≤ by_) := by show w.heap.size ≤ by_; omega
  rw [← e0, ← hby, ← hbx]
  clear e0 hbx hby
  refine (sWeightedOk_any _ _ _ n (h1.below g0) (h2.below g0) (h3.below g0) m1 m1 m1).mono ?_
  rintro e w2 ⟨rfl, b1⟩
  rw [hp]
  have g2 := bnext g0 b1 g0.size
  have K2 := Lib.hid (K0.out.below b1 K0.out.lt)
  have Y2 := Lib.hid (Y0.out.below b1 Y0.out.lt)
  obtain ⟨f0, f1, f2, f3⟩ := K2.out.four
  go_wp2_with fail
  clear f0 f1 f2 f3
  refine (l5Copy_any _ _ _ n (h1.below g2) (h2.below g2) (h3.below g2) m1 m1 m1).mono ?_
  rintro e w4 ⟨P1, x1, k1, P2, x2, k2, P3, x3, k3, rfl, TT, y1, y2, y3, -, -, -, b4⟩
  obtain rfl : n2 = x1 := h1.1.symm.trans y1.1
  obtain rfl : n2 = x2 := h2.1.symm.trans y2.1
  obtain rfl : n2 = x3 := h3.1.symm.trans y3.1
  obtain ⟨b1_, rfl⟩ := TT.1.isSome htp
  obtain ⟨b2_, rfl⟩ := TT.2.1.isSome htp
  obtain ⟨b3_, rfl⟩ := TT.2.2.1.isSome htp
  have l1 := TT.1.lt b1_ rfl
  have l2 := TT.2.1.lt b2_ rfl
  have l3 := TT.2.2.1.lt b3_ rfl
  have d4 : b1_ ≠ b2_ := by rcases TT.2.2.2.1 with h | h <;> simp [Value.ownBlock] at h; exact h
  have d5 : b1_ ≠ b3_ := by rcases TT.2.2.2.2.1 with h | h <;> simp [Value.ownBlock] at h; exact h
  have d6 : b2_ ≠ b3_ := by rcases TT.2.2.2.2.2 with h | h <;> simp [Value.ownBlock] at h; exact h
  have g4 := bnext g2 b4 g2.size
  have K4 := Lib.hid (K2.out.below b4 K2.out.lt)
  have Y4 := Lib.hid (Y2.out.below b4 Y2.out.lt)
  clear y1 y2 y3
  go_wp2_with fail
  obtain ⟨w4b, e5⟩ : ∃ w4b : World, w4b = w4.alloc (Obj.cells #[Value.int IntKind.i64 (n : Int), Value.slice (some ⟨b1_, 0, none⟩) n2 k1, Value.slice (some ⟨b2_, 0, none⟩) n2 k2, Value.slice (some ⟨b3_, 0, none⟩) n2 k3] 27) := ⟨_, rfl⟩
  have b5 : Below w4.heap.size w4 w4b := by rw [e5]; exact (Below.refl _ _).alloc (Nat.le_refl _) _
  obtain ⟨g, hg⟩ : ∃ g, g = w4.heap.size := ⟨_, rfl⟩
  have HG : Hid (BK w4b g 27 [.int .i64 (n : Int), .slice (some ⟨b1_, 0, none⟩) n2 k1, .slice (some ⟨b2_, 0, none⟩) n2 k2, .slice (some ⟨b3_, 0, none⟩) n2 k3]) := by
    rw [e5, hg]; exact BK.new w4 _ _
  have HD : Hid (w2.heap.size ≤ g ∧ w2.heap.size ≤ b1_ ∧ w2.heap.size ≤ b2_ ∧ w2.heap.size ≤ b3_ ∧ by_ < w2.heap.size ∧ bx < w2.heap.size ∧ b1_ < g ∧ b2_ < g ∧ b3_ < g) := by
    refine ⟨?_, l1.1, l2.1, l3.1, Y2.out.lt, K2.out.lt, ?_, ?_, ?_⟩ <;> rw [hg]
    · exact b4.size
    · exact l1.2
    · exact l2.2
    · exact l3.2
  rw [← e5, ← hg]
  clear e5 hg l1 l2 l3
  have gc := bnext g4 b5 g4.size
  have Kc := Lib.hid (K4.out.below b5 K4.out.lt)
  have Yc := Lib.hid (Y4.out.below b5 Y4.out.lt)
  have HZ : Hid (OI w4b w2.heap.size (.slice (some ⟨b1_, 0, none⟩) n2 k1) (L) ∧ OI w4b w2.heap.size (.slice (some ⟨b2_, 0, none⟩) n2 k2) (R) ∧ OI w4b w2.heap.size (.slice (some ⟨b3_, 0, none⟩) n2 k3) (B)) := ⟨TT.1.below b5, TT.2.1.below b5, TT.2.2.1.below b5⟩
  have G2 := Lib.hid g2
  have gb := Lib.hid (b4.trans (b5.mono b4.size))
  clear TT b5 b4 K4 Y4 g4
  go_wp2
  go_loopw [5] (fun i wr => ∃ r : Nat, r ≤ n ∧ i = .int .i64 (r : Int) ∧ Hid (BK wr g 27 [.int .i64 (n : Int), .slice (some ⟨b1_, 0, none⟩) n2 k1, .slice (some ⟨b2_, 0, none⟩) n2 k2, .slice (some ⟨b3_, 0, none⟩) n2 k3]) ∧ OI wr w2.heap.size (.slice (some ⟨b1_, 0, none⟩) n2 k1) (tAll mirT flipB R r L) ∧ OI wr w2.heap.size (.slice (some ⟨b2_, 0, none⟩) n2 k2) (tAll mirT flipB L r R) ∧ OI wr w2.heap.size (.slice (some ⟨b3_, 0, none⟩) n2 k3) (tAll mirT flipB B r B) ∧ Below w2.heap.size w4b wr) (fun i _ => n - (intOf i).toNat)
  case atStart => exact ⟨0, Nat.zero_le _, rfl, HG, HZ.out.1, HZ.out.2.1, HZ.out.2.2, Below.refl _ _⟩
  case round =>
    obtain ⟨r, hr, rfl, HGr, o1, o2, o3, hbl⟩ := hrel
    have kz := (Kc.out.below hbl HD.out.2.2.2.2.2.1).cell (j := 0) rfl
    by_cases hlt : r < n
    · have hlt' : r < n := hlt
      go_wp2
      clear kz
      go_loopw [6] (fun i wr => ∃ k : Nat, k ≤ r + 1 ∧ i = .int .i64 (k : Int) ∧ Hid (BK wr g 27 [.int .i64 (n : Int), .slice (some ⟨b1_, 0, none⟩) n2 k1, .slice (some ⟨b2_, 0, none⟩) n2 k2, .slice (some ⟨b3_, 0, none⟩) n2 k3]) ∧ OI wr w2.heap.size (.slice (some ⟨b1_, 0, none⟩) n2 k1) (tRow mirT flipB R r k (tAll mirT flipB R r L)) ∧ OI wr w2.heap.size (.slice (some ⟨b2_, 0, none⟩) n2 k2) (tRow mirT flipB L r k (tAll mirT flipB L r R)) ∧ OI wr w2.heap.size (.slice (some ⟨b3_, 0, none⟩) n2 k3) (tRow mirT flipB B r k (tAll mirT flipB B r B)) ∧ Below w2.heap.size w4b wr) (fun i _ => r + 1 - (intOf i).toNat)
      case atStart => exact ⟨0, Nat.zero_le _, rfl, HGr, o1, o2, o3, hbl⟩
      case round =>
        clear o1 o2 o3 hbl HGr
        obtain ⟨k, hk, rfl, HGk, o1, o2, o3, hbl⟩ := hrel
        by_cases hlt2 : k < r + 1
        · obtain ⟨y, hy⟩ : ∃ a, tri r + k = a := ⟨_, rfl⟩
          have ly : y < n2 := by rw [HN.out, ← hy]; exact tri_lt hlt' (by omega)
          obtain ⟨t, ht⟩ : ∃ a, mirT r k = a := ⟨_, rfl⟩
          have lt : t < n2 := by rw [HN.out, ← ht]; exact mirT_lt hlt' (by omega)
          have TA : atI (r : Int) (k : Int) = y := atI_eq rfl rfl hy
          have TB : atI (r : Int) ((r : Int) - (k : Int)) = t := atI_eq (r := r) (k := r - k) rfl (by omega) ht
          obtain ⟨v1, hv1⟩ : ∃ v, v = nth L y := ⟨_, rfl⟩
          obtain ⟨v2, hv2⟩ : ∃ v, v = nth R y := ⟨_, rfl⟩
          obtain ⟨v3, hv3⟩ : ∃ v, v = nth B y := ⟨_, rfl⟩
          have VB := puz_range hp hlt' hlt2
          rw [hy, ← hv1, ← hv2, ← hv3] at VB
          obtain ⟨⟨vb1, vb2⟩, ⟨vb3, vb4⟩, vb5, vb6⟩ := VB
          have HX : Hid (∀ {W : World}, Below w2.heap.size w4b W → W.cell? (ad1.add y) = some (.int .i64 v1) ∧ W.cell? (ad2.add y) = some (.int .i64 v2) ∧ W.cell? (ad3.add y) = some (.int .i64 v3)) := fun b => by
            rw [hv1, hv2, hv3]
            exact ⟨src_cell (h1.below G2.out) ly (gb.out.trans b), src_cell (h2.below G2.out) ly (gb.out.trans b), src_cell (h3.below G2.out) ly (gb.out.trans b)⟩
          have S1 : Hid (tRow mirT flipB R r (k + 1) (tAll mirT flipB R r L) = (tRow mirT flipB R r k (tAll mirT flipB R r L)).set t (flipB v2)) := by show tRow mirT flipB R r (k + 1) (tAll mirT flipB R r L) = _; rw [tRow, show mirT r k = t from ht, hy, ← hv2]; first | done | rfl
          have S2 : Hid (tRow mirT flipB L r (k + 1) (tAll mirT flipB L r R) = (tRow mirT flipB L r k (tAll mirT flipB L r R)).set t (flipB v1)) := by show tRow mirT flipB L r (k + 1) (tAll mirT flipB L r R) = _; rw [tRow, show mirT r k = t from ht, hy, ← hv1]; first | done | rfl
          have S3 : Hid (tRow mirT flipB B r (k + 1) (tAll mirT flipB B r B) = (tRow mirT flipB B r k (tAll mirT flipB B r B)).set t (flipB v3)) := by show tRow mirT flipB B r (k + 1) (tAll mirT flipB B r B) = _; rw [tRow, show mirT r k = t from ht, hy, ← hv3]; first | done | rfl
          clear hv1 hv2 hv3 hy ht
          have kz := (Kc.out.below hbl HD.out.2.2.2.2.2.1).cell (j := 0) rfl
          have E1 : b1_ ≠ bx ∧ b2_ ≠ bx ∧ b3_ ≠ bx ∧ b1_ ≠ g ∧ b2_ ≠ g ∧ b3_ ≠ g := by
            obtain ⟨_, _, _, _, _, _, _, _, _⟩ := HD.out
            omega
          obtain ⟨n1x, n2x, n3x, n1g, n2g, n3g⟩ := E1
          have E2 : b1_ ≠ (ad1.add y).block ∧ b2_ ≠ (ad1.add y).block ∧ b3_ ≠ (ad1.add y).block ∧ b1_ ≠ (ad2.add y).block ∧ b2_ ≠ (ad2.add y).block ∧ b3_ ≠ (ad2.add y).block ∧ b1_ ≠ (ad3.add y).block ∧ b2_ ≠ (ad3.add y).block ∧ b3_ ≠ (ad3.add y).block := by
            obtain ⟨_, _, _, _, _, _, _, _, _⟩ := HD.out
            have := h1.lt htp
            have := h2.lt htp
            have := h3.lt htp
            have := g2.size
            rw [block_of_add, block_of_add, block_of_add]
            omega
          obtain ⟨a11, a12, a13, a21, a22, a23, a31, a32, a33⟩ := E2
          go_wp2_with (go_at_call 79; refine (place_eq _ _ (by omega) (by omega) (by omega) (by omega)).mono ?_; rintro e w' ⟨rfl, rfl⟩)
          obtain ⟨wA, eA⟩ : ∃ wA, wA = w' := ⟨_, rfl⟩
          rw [← eA] at hbl HGk o1 o2 o3 ⊢
          clear eA kz
          have p1 := HGk.out.cell (j := 1) rfl
          have s2 := (Kc.out.below hbl HD.out.2.2.2.2.2.1).cell (j := 2) rfl
          have X2 := (HX.out hbl).2.1
          have D1 := o1.cellAt lt
          have F1 := o1.frozenAt t
          obtain ⟨j1, hj1⟩ : ∃ j, j = nth (tRow mirT flipB R r k (tAll mirT flipB R r L)) t := ⟨_, rfl⟩
          rw [← hj1] at D1
          clear hj1
          have HO0 := Lib.hid (show _ ∧ _ ∧ _ ∧ _ from ⟨o1, o2, o3, hbl⟩)
          clear o1 o2 o3 hbl
          go_region_held3 (fun w' => w'.cell? ⟨bx, 2, none⟩ = some (Value.slice (some ad2) n2 c2) ∧ w'.cell? ⟨g, 1, none⟩ = some (Value.slice (some ⟨b1_, 0, none⟩) n2 k1) ∧ w'.cell? (ad2.add y) = some (.int .i64 v2)) (first | exact ⟨s2, p1, X2⟩ | (simp [World.cell?_setCell_far, *]; done)) (first | (go_at_call 80; refine (other_eq _ (by omega) (by omega)).mono ?_; rintro e wf ⟨rfl, rfl⟩))
          clear p1 s2 X2 D1 F1
          obtain ⟨wB, ewB⟩ : ∃ W : World, W = (wA.setCell ⟨b1_, t, none⟩ (.int .i64 (flipB v2))).drew := ⟨_, rfl⟩
          obtain ⟨o1, o2, o3, hbl⟩ := HO0.out
          have HP0 : Hid (BK wB g 27 [.int .i64 (n : Int), .slice (some ⟨b1_, 0, none⟩) n2 k1, .slice (some ⟨b2_, 0, none⟩) n2 k2, .slice (some ⟨b3_, 0, none⟩) n2 k3]) := by show BK wB g _ _; rw [ewB]; exact HGk.out.far n1g t _
          have hbl' : Below w2.heap.size w4b wB := by rw [ewB]; exact (hbl.setCell (p := ⟨b1_, t, none⟩) (show _ ≤ b1_ from HD.out.2.1) _).drew
          have oo1 : OI wB w2.heap.size (.slice (some ⟨b1_, 0, none⟩) n2 k1) ((tRow mirT flipB R r k (tAll mirT flipB R r L)).set t (flipB v2)) := by rw [ewB]; exact (o1.stored t (flipB v2)).1.below (Below.drew (Below.refl _ _))
          have oo2 : OI wB w2.heap.size (.slice (some ⟨b2_, 0, none⟩) n2 k2) (tRow mirT flipB L r k (tAll mirT flipB L r R)) := by rw [ewB]; exact (o2.setOther (g1 := b1_) (j := t) d4).below (Below.drew (Below.refl _ _))
          have oo3 : OI wB w2.heap.size (.slice (some ⟨b3_, 0, none⟩) n2 k3) (tRow mirT flipB B r k (tAll mirT flipB B r B)) := by rw [ewB]; exact (o3.setOther (g1 := b1_) (j := t) d5).below (Below.drew (Below.refl _ _))
          rw [← ewB]
          clear ewB o1 o2 o3 hbl HO0
          have o1 := oo1
          have o2 := oo2
          have o3 := oo3
          have hbl := hbl'
          clear oo1 oo2 oo3 hbl'
          go_wp2_with fail
          have p2 := HP0.out.cell (j := 2) rfl
          have s1 := (Kc.out.below hbl HD.out.2.2.2.2.2.1).cell (j := 1) rfl
          have X1 := (HX.out hbl).1
          have D2 := o2.cellAt lt
          have F2 := o2.frozenAt t
          obtain ⟨j2, hj2⟩ : ∃ j, j = nth (tRow mirT flipB L r k (tAll mirT flipB L r R)) t := ⟨_, rfl⟩
          rw [← hj2] at D2
          clear hj2
          have HO1 := Lib.hid (show _ ∧ _ ∧ _ ∧ _ from ⟨o1, o2, o3, hbl⟩)
          clear o1 o2 o3 hbl
          go_region_held3 (fun w' => w'.cell? ⟨bx, 1, none⟩ = some (Value.slice (some ad1) n2 c1) ∧ w'.cell? ⟨g, 2, none⟩ = some (Value.slice (some ⟨b2_, 0, none⟩) n2 k2) ∧ w'.cell? (ad1.add y) = some (.int .i64 v1)) (first | exact ⟨s1, p2, X1⟩ | (simp [World.cell?_setCell_far, *]; done)) (first | (go_at_call 80; refine (other_eq _ (by omega) (by omega)).mono ?_; rintro e wf ⟨rfl, rfl⟩))
          clear p2 s1 X1 D2 F2
          obtain ⟨wC, ewC⟩ : ∃ W : World, W = (wB.setCell ⟨b2_, t, none⟩ (.int .i64 (flipB v1))).drew := ⟨_, rfl⟩
          obtain ⟨o1, o2, o3, hbl⟩ := HO1.out
          have HP1 : Hid (BK wC g 27 [.int .i64 (n : Int), .slice (some ⟨b1_, 0, none⟩) n2 k1, .slice (some ⟨b2_, 0, none⟩) n2 k2, .slice (some ⟨b3_, 0, none⟩) n2 k3]) := by show BK wC g _ _; rw [ewC]; exact HP0.out.far n2g t _
          have hbl' : Below w2.heap.size w4b wC := by rw [ewC]; exact (hbl.setCell (p := ⟨b2_, t, none⟩) (show _ ≤ b2_ from HD.out.2.2.1) _).drew
          have oo1 : OI wC w2.heap.size (.slice (some ⟨b1_, 0, none⟩) n2 k1) ((tRow mirT flipB R r k (tAll mirT flipB R r L)).set t (flipB v2)) := by rw [ewC]; exact (o1.setOther (g1 := b2_) (j := t) (Ne.symm d4)).below (Below.drew (Below.refl _ _))
          have oo2 : OI wC w2.heap.size (.slice (some ⟨b2_, 0, none⟩) n2 k2) ((tRow mirT flipB L r k (tAll mirT flipB L r R)).set t (flipB v1)) := by rw [ewC]; exact (o2.stored t (flipB v1)).1.below (Below.drew (Below.refl _ _))
          have oo3 : OI wC w2.heap.size (.slice (some ⟨b3_, 0, none⟩) n2 k3) (tRow mirT flipB B r k (tAll mirT flipB B r B)) := by rw [ewC]; exact (o3.setOther (g1 := b2_) (j := t) d6).below (Below.drew (Below.refl _ _))
          rw [← ewC]
          clear ewC o1 o2 o3 hbl HO1
          have o1 := oo1
          have o2 := oo2
          have o3 := oo3
          have hbl := hbl'
          clear oo1 oo2 oo3 hbl'
          go_wp2_with fail
          have p3 := HP1.out.cell (j := 3) rfl
          have s3 := (Kc.out.below hbl HD.out.2.2.2.2.2.1).cell (j := 3) rfl
          have X3 := (HX.out hbl).2.2
          have D3 := o3.cellAt lt
          have F3 := o3.frozenAt t
          obtain ⟨j3, hj3⟩ : ∃ j, j = nth (tRow mirT flipB B r k (tAll mirT flipB B r B)) t := ⟨_, rfl⟩
          rw [← hj3] at D3
          clear hj3
          have HO2 := Lib.hid (show _ ∧ _ ∧ _ ∧ _ from ⟨o1, o2, o3, hbl⟩)
          clear o1 o2 o3 hbl
          go_region_held3 (fun w' => w'.cell? ⟨bx, 3, none⟩ = some (Value.slice (some ad3) n2 c3) ∧ w'.cell? ⟨g, 3, none⟩ = some (Value.slice (some ⟨b3_, 0, none⟩) n2 k3) ∧ w'.cell? (ad3.add y) = some (.int .i64 v3)) (first | exact ⟨s3, p3, X3⟩ | (simp [World.cell?_setCell_far, *]; done)) (first | (go_at_call 80; refine (other_eq _ (by omega) (by omega)).mono ?_; rintro e wf ⟨rfl, rfl⟩))
          clear p3 s3 X3 D3 F3
          obtain ⟨wD, ewD⟩ : ∃ W : World, W = (wC.setCell ⟨b3_, t, none⟩ (.int .i64 (flipB v3))).drew := ⟨_, rfl⟩
          obtain ⟨o1, o2, o3, hbl⟩ := HO2.out
          have HP2 : Hid (BK wD g 27 [.int .i64 (n : Int), .slice (some ⟨b1_, 0, none⟩) n2 k1, .slice (some ⟨b2_, 0, none⟩) n2 k2, .slice (some ⟨b3_, 0, none⟩) n2 k3]) := by show BK wD g _ _; rw [ewD]; exact HP1.out.far n3g t _
          have hbl' : Below w2.heap.size w4b wD := by rw [ewD]; exact (hbl.setCell (p := ⟨b3_, t, none⟩) (show _ ≤ b3_ from HD.out.2.2.2.1) _).drew
          have oo1 : OI wD w2.heap.size (.slice (some ⟨b1_, 0, none⟩) n2 k1) ((tRow mirT flipB R r k (tAll mirT flipB R r L)).set t (flipB v2)) := by rw [ewD]; exact (o1.setOther (g1 := b3_) (j := t) (Ne.symm d5)).below (Below.drew (Below.refl _ _))
          have oo2 : OI wD w2.heap.size (.slice (some ⟨b2_, 0, none⟩) n2 k2) ((tRow mirT flipB L r k (tAll mirT flipB L r R)).set t (flipB v1)) := by rw [ewD]; exact (o2.setOther (g1 := b3_) (j := t) (Ne.symm d6)).below (Below.drew (Below.refl _ _))
          have oo3 : OI wD w2.heap.size (.slice (some ⟨b3_, 0, none⟩) n2 k3) ((tRow mirT flipB B r k (tAll mirT flipB B r B)).set t (flipB v3)) := by rw [ewD]; exact (o3.stored t (flipB v3)).1.below (Below.drew (Below.refl _ _))
          rw [← ewD]
          clear ewD o1 o2 o3 hbl HO2
          have o1 := oo1
          have o2 := oo2
          have o3 := oo3
          have hbl := hbl'
          clear oo1 oo2 oo3 hbl'
          rw [← S1.out] at o1
          rw [← S2.out] at o2
          rw [← S3.out] at o3
          have HR := Lib.hid (show _ ∧ _ ∧ _ ∧ _ from ⟨o1, o2, o3, hbl⟩)
          have HB := Lib.hid ((Kc.out.below hbl HD.out.2.2.2.2.2.1).cell (j := 0) rfl)
          clear o1 o2 o3 hbl TA TB
          go_wp2
          go_roundw
          case rel => exact ⟨k + 1, by omega, by go_num, HP2, HR.out⟩
          case measure => simp [intOf]; omega
        · obtain rfl : k = r + 1 := by omega
          go_wp2
          go_roundw
          case rel => exact ⟨r + 1, by omega, by go_num, HGk, o1, o2, o3, hbl⟩
          case measure => simp [intOf]; omega
    · obtain rfl : r = n := by omega
      obtain ⟨p0, p1, p2, p3⟩ := HGr.out.four
      have yb := Yc.out.below hbl HD.out.2.2.2.2.1
      obtain ⟨y0, y1, y2, y3⟩ := yb.four
      have YB := Lib.hid yb
      have f0 := yb.frozen (j := 0)
      have f1 := yb.frozen (j := 1)
      have f2 := yb.frozen (j := 2)
      have f3 := yb.frozen (j := 3)
      have HO := Lib.hid (show _ ∧ _ ∧ _ from ⟨o1, o2, o3⟩)
      have ng : by_ ≠ g := by obtain ⟨_, _, _, _, _, _, _, _, _⟩ := HD.out; omega
      clear yb o1 o2 o3
      go_wp2
      obtain ⟨o1, o2, o3⟩ := HO.out
      have far : ∀ {v : Value} {l : List Int}, OI wr w2.heap.size v l → OI ((((wr.setCell ⟨by_, 0, none⟩ (Value.int IntKind.i64 (r : Int))).setCell ⟨by_, 1, none⟩ (Value.slice (some ⟨b1_, 0, none⟩) n2 k1)).setCell ⟨by_, 2, none⟩ (Value.slice (some ⟨b2_, 0, none⟩) n2 k2)).setCell ⟨by_, 3, none⟩ (Value.slice (some ⟨b3_, 0, none⟩) n2 k3)) w2.heap.size v l := fun o =>
        (((o.far by_ 0 _ HD.out.2.2.2.2.1).far by_ 1 _ HD.out.2.2.2.2.1).far by_ 2 _ HD.out.2.2.2.2.1).far by_ 3 _ HD.out.2.2.2.2.1
      have gz := gc.trans (hbl.mono G2.out.size)
      have bf := (((gz.setCell (p := ⟨by_, 0, none⟩) (show _ ≤ by_ from HY.out) (Value.int IntKind.i64 (r : Int))).setCell (p := ⟨by_, 1, none⟩) (show _ ≤ by_ from HY.out) (Value.slice (some ⟨b1_, 0, none⟩) n2 k1)).setCell (p := ⟨by_, 2, none⟩) (show _ ≤ by_ from HY.out) (Value.slice (some ⟨b2_, 0, none⟩) n2 k2)).setCell (p := ⟨by_, 3, none⟩) (show _ ≤ by_ from HY.out) (Value.slice (some ⟨b3_, 0, none⟩) n2 k3)
      have kf := (((YB.out.set 0 (Value.int IntKind.i64 (r : Int))).set 1 (Value.slice (some ⟨b1_, 0, none⟩) n2 k1)).set 2 (Value.slice (some ⟨b2_, 0, none⟩) n2 k2)).set 3 (Value.slice (some ⟨b3_, 0, none⟩) n2 k3)
      have f1' := far o1
      have f2' := far o2
      have f3' := far o3
      clear far
      obtain ⟨wf, ef⟩ : ∃ wf, wf = ((((wr.setCell ⟨by_, 0, none⟩ (Value.int IntKind.i64 (r : Int))).setCell ⟨by_, 1, none⟩ (Value.slice (some ⟨b1_, 0, none⟩) n2 k1)).setCell ⟨by_, 2, none⟩ (Value.slice (some ⟨b2_, 0, none⟩) n2 k2)).setCell ⟨by_, 3, none⟩ (Value.slice (some ⟨b3_, 0, none⟩) n2 k3)) := ⟨_, rfl⟩
      rw [← ef] at f1' f2' f3' bf kf ⊢
      obtain ⟨k0, k1', k2', k3'⟩ := BK.four kf
      clear y0 y1 y2 y3 f0 f1 f2 f3 ef
      refine bodyPost_ret (v := .tuple #[.agg #[.int .i64 (r : Int), .slice (some ⟨b1_, 0, none⟩) n2 k1, .slice (some ⟨b2_, 0, none⟩) n2 k2, .slice (some ⟨b3_, 0, none⟩) n2 k3], .bool true]) (by simp [results, Try.results34, go_sem, k0, k1', k2', k3']) rfl ?_
      have cov := mirT_all r (by omega)
      have q1 := tAll_same (T := mirT) (g := flipB) (src := R) (l := L) (l' := List.replicate (tri r) 0) (n := r) (m := tri r) (by rw [h1.1]; exact HN.out) (by simp) cov
      have q2 := tAll_same (T := mirT) (g := flipB) (src := L) (l := R) (l' := List.replicate (tri r) 0) (n := r) (m := tri r) (by rw [h2.1]; exact HN.out) (by simp) cov
      have q3 := tAll_same (T := mirT) (g := flipB) (src := B) (l := B) (l' := List.replicate (tri r) 0) (n := r) (m := tri r) (by rw [h3.1]; exact HN.out) (by simp) cov
      rw [q1] at f1'
      rw [q2] at f2'
      rw [q3] at f3'
      have gs := G2.out.size
      exact ⟨_, _, _, _, _, _, _, _, _, rfl, ⟨f1'.mono gs, f2'.mono gs, f3'.mono gs, .inr (by simp [Value.ownBlock]; omega), .inr (by simp [Value.ownBlock]; omega), .inr (by simp [Value.ownBlock]; omega)⟩, bf⟩
end Go.Proofs.Ytemafljipkcgcaa
