/- RotatePuzzle of the program, at a puzzle. -/
import Derived.Test.YtnljlophgolejaaRotA
namespace Go.Proofs.Ytnljlophgolejaa
open Go.RowKit

set_option maxRecDepth 4000 in
set_option maxHeartbeats 8000000 in
theorem iRot_yes {A1 A2 A3 : Option Addr} {n1 n2 n3 : Nat} {L R B : List Int} {w : World} (c1 c2 c3 : Nat) (n : Nat) (h1 : RI w A1 n1 L) (h2 : RI w A2 n2 R) (h3 : RI w A3 n3 B)
    (m1 : n1 ≤ 1000000000) (m2 : n2 ≤ 1000000000) (m3 : n3 ≤ 1000000000) (hp : puzB n L R B false = true) :
    Calls Try.prog 44 #[.agg #[.int .i64 n, .slice A1 n1 c1, .slice A2 n2 c2, .slice A3 n3 c3]] w (MakesPb w n (tAll (rotT n) id B n (List.replicate (tri n) 0)) (tAll (rotT n) id L n (List.replicate (tri n) 0)) (tAll (rotT n) id R n (List.replicate (tri n) 0)) true) := by
  have hp2 : sizesB n L R B = true := by
    have := hp
    unfold puzB at this
    rw [Bool.and_eq_true] at this
    exact this.1
  obtain ⟨hi, hL, hR, hB⟩ := sizesB_iff.1 hp2
  have hi := inB_iff.1 hi
  rw [h1.1, Int.toNat_natCast] at hL
  rw [h2.1, Int.toNat_natCast] at hR
  rw [h3.1, Int.toNat_natCast] at hB
  obtain rfl : n1 = n3 := by omega
  obtain rfl : n2 = n1 := by omega
  have HN : Hid (n2 = tri n) := hB
  have hn1 : 1 ≤ n := by omega
  have hn7 : n ≤ 7 := by omega
  have htp : 0 < n2 := by have := tri_lt (r := 0) (k := 0) (n := n) (by omega) (by omega); omega
  obtain ⟨ad1, e1, -⟩ := h1.2 htp
  obtain ⟨ad2, e2, -⟩ := h2.2 htp
  obtain ⟨ad3, e3, -⟩ := h3.2 htp
  subst e1 e2 e3
  clear hi hL hR hB hp2
  go_enter Try.func44, Try.ntmps44
  go_wp2_with fail
  obtain ⟨w0, e0⟩ : ∃ w0 : World, w0 = ((w.alloc (Obj.cells #[Value.int IntKind.i64 (n : Int), Value.slice (some ad1) n2 c1, Value.slice (some ad2) n2 c2, Value.slice (some ad3) n2 c3] 53)).alloc (Obj.cells #[Value.int IntKind.i64 0, Value.slice none 0 0, Value.slice none 0 0, Value.slice none 0 0] 53)) := ⟨_, rfl⟩
  have g0 : Below w.heap.size w w0 := by rw [e0]; exact ((Below.refl _ _).alloc (Nat.le_refl _) _).alloc (by simp) _
  obtain ⟨bx, hbx⟩ : ∃ g, g = w.heap.size := ⟨_, rfl⟩
  obtain ⟨by_, hby⟩ : ∃ g, g = w.heap.size + 1 := ⟨_, rfl⟩
  have K0 : Hid (BK w0 bx 53 [Value.int IntKind.i64 (n : Int), Value.slice (some ad1) n2 c1, Value.slice (some ad2) n2 c2, Value.slice (some ad3) n2 c3]) := by
    rw [e0, hbx]; exact (BK.new w _ _).alloc _
  have Y0 : Hid (BK w0 by_ 53 [Value.int IntKind.i64 0, Value.slice none 0 0, Value.slice none 0 0, Value.slice none 0 0]) := by
    rw [e0, hby]
    have := BK.new (w.alloc (Obj.cells #[Value.int IntKind.i64 (n : Int), Value.slice (some ad1) n2 c1, Value.slice (some ad2) n2 c2, Value.slice (some ad3) n2 c3] 53)) 53 [Value.int IntKind.i64 0, Value.slice none 0 0, Value.slice none 0 0, Value.slice none 0 0]
    rw [show (w.alloc (Obj.cells #[Value.int IntKind.i64 (n : Int), Value.slice (some ad1) n2 c1, Value.slice (some ad2) n2 c2, Value.slice (some ad3) n2 c3] 53)).heap.size = w.heap.size + 1 by simp] at this
    exact this
  have HY : Hid (w.heap.size ≤ by_) := by show w.heap.size ≤ by_; omega
  rw [← e0, ← hby, ← hbx]
  clear e0 hbx hby
  refine (iPuzzleOk_any _ _ _ n (h1.below g0) (h2.below g0) (h3.below g0) m1 m1 m1).mono ?_
  rintro e w1 ⟨rfl, b1⟩
  rw [hp]
  have g1 := bnext g0 b1 g0.size
  have K1 := Lib.hid (K0.out.below b1 K0.out.lt)
  have Y1 := Lib.hid (Y0.out.below b1 Y0.out.lt)
  obtain ⟨f0, f1, f2, f3⟩ := K1.out.four
  obtain ⟨x, hx⟩ : ∃ x, tri n + 0 = x := ⟨_, rfl⟩
  have TX : atI (n : Int) 0 = x := atI_eq rfl rfl hx
  have hx1 : tri n ≤ 36 := tri_small (by omega)
  have hx2 : x ≤ 36 := by omega
  have HX : Hid (x = tri n) := by show x = tri n; omega
  clear hx1 hx
  have hmk := run_make_row' (P := Try.prog) 22 3 (.int .i64 0) 8 Try.underlying22 Try.infoInt rfl .i64 .i64 x (by omega) (by omega)
  go_wp2_with (go_at_call 84; refine (at_gen _ _ (by omega) (by omega) (by omega) (by omega)).mono ?_; rintro e w' ⟨rfl, q0, rfl⟩)
  obtain ⟨w3, e3⟩ : ∃ w3 : World, w3 = w1.drewN q0 := ⟨_, rfl⟩
  have HE3 := Lib.hid e3
  rw [← e3]
  clear e3
  go_cut [6] from 19 to 26 (fun v6 wx => Fresh3 w3 wx n x v6)
  case first =>
    go_region
    all_goals
      go_wp2
      go_meet
    all_goals
      obtain ⟨a1, a2, a3, a4, bb⟩ := heap4 w3 _ _ _ _ _ rfl
      exact ⟨_, _, _, _, rfl, by first | exact a1 | exact a2 | exact a3 | exact a4, by first | exact a1 | exact a2 | exact a3 | exact a4, by first | exact a1 | exact a2 | exact a3 | exact a4, by first | exact a1 | exact a2 | exact a3 | exact a4, bb, by omega⟩
  case rest =>
    obtain ⟨g, b1_, b2_, b3_, rfl, kg, z1, z2, z3, bb, u1, u2, u3, u4, d1, d2, d3, d4, d5, d6⟩ := hcut
    have g3 : Below w.heap.size w w3 := by rw [HE3.out]; exact below_drewN g1 _
    have K3 : Hid (BK w3 bx 53 [Value.int IntKind.i64 (n : Int), Value.slice (some ad1) n2 c1, Value.slice (some ad2) n2 c2, Value.slice (some ad3) n2 c3]) := by show BK w3 bx _ _; rw [HE3.out]; exact K1.out
    have Y3 : Hid (BK w3 by_ 53 [Value.int IntKind.i64 0, Value.slice none 0 0, Value.slice none 0 0, Value.slice none 0 0]) := by show BK w3 by_ _ _; rw [HE3.out]; exact Y1.out
    have Kc := Lib.hid (K3.out.below bb K3.out.lt)
    have Yc := Lib.hid (Y3.out.below bb Y3.out.lt)
    have gc := bnext g3 bb g3.size
    have HZ : Hid (OI wc w3.heap.size (.slice (some ⟨b1_, 0, none⟩) x x) (List.replicate x 0) ∧ OI wc w3.heap.size (.slice (some ⟨b2_, 0, none⟩) x x) (List.replicate x 0) ∧ OI wc w3.heap.size (.slice (some ⟨b3_, 0, none⟩) x x) (List.replicate x 0)) :=
      ⟨OI.ofMade z1 u2 (by omega), OI.ofMade z2 u3 (by omega), OI.ofMade z3 u4 (by omega)⟩
    have HX1 : Hid (∀ k, k < n2 → wc.cell? (ad1.add k) = some (.int .i64 (nth L k))) := fun k hk => by
      obtain ⟨ad, e, hc⟩ := (h1.below gc).cell hk
      obtain rfl := Option.some.inj e
      exact hc
    have HX2 : Hid (∀ k, k < n2 → wc.cell? (ad2.add k) = some (.int .i64 (nth R k))) := fun k hk => by
      obtain ⟨ad, e, hc⟩ := (h2.below gc).cell hk
      obtain rfl := Option.some.inj e
      exact hc
    have HX3 : Hid (∀ k, k < n2 → wc.cell? (ad3.add k) = some (.int .i64 (nth B k))) := fun k hk => by
      obtain ⟨ad, e, hc⟩ := (h3.below gc).cell hk
      obtain rfl := Option.some.inj e
      exact hc
    have HD : Hid (w3.heap.size ≤ g ∧ w3.heap.size ≤ b1_ ∧ w3.heap.size ≤ b2_ ∧ w3.heap.size ≤ b3_ ∧ by_ < w3.heap.size ∧ bx < w3.heap.size) := ⟨u1, u2, u3, u4, Y3.out.lt, K3.out.lt⟩
    have HG := Lib.hid kg
    clear kg z1 z2 z3 u1 u2 u3 u4 hmk f0 f1 f2 f3
    have HA : ∀ {wr : World}, Below w3.heap.size wc wr → Below wc.heap.size wc wr → True := fun _ _ => trivial
    go_wp2
    go_loopw [28] (fun i wr => ∃ r : Nat, r ≤ n ∧ i = .int .i64 (r : Int) ∧ Hid (BK wr g 53 [.int .i64 (n : Int), .slice (some ⟨b1_, 0, none⟩) x x, .slice (some ⟨b2_, 0, none⟩) x x, .slice (some ⟨b3_, 0, none⟩) x x]) ∧ OI wr w3.heap.size (.slice (some ⟨b1_, 0, none⟩) x x) (tAll (rotT n) id B r (List.replicate x 0)) ∧ OI wr w3.heap.size (.slice (some ⟨b2_, 0, none⟩) x x) (tAll (rotT n) id L r (List.replicate x 0)) ∧ OI wr w3.heap.size (.slice (some ⟨b3_, 0, none⟩) x x) (tAll (rotT n) id R r (List.replicate x 0)) ∧ Below w3.heap.size wc wr) (fun i _ => n - (intOf i).toNat)
    case atStart => exact ⟨0, Nat.zero_le _, rfl, HG, HZ.out.1, HZ.out.2.1, HZ.out.2.2, Below.refl _ _⟩
    case round =>
      obtain ⟨r, hr, rfl, HGr, o1, o2, o3, hbl⟩ := hrel
      by_cases hlt : r < n
      · have hlt' : r < n := hlt
        go_wp2
        go_loopw [33] (fun i wr => ∃ k : Nat, k ≤ r + 1 ∧ i = .int .i64 (k : Int) ∧ Hid (BK wr g 53 [.int .i64 (n : Int), .slice (some ⟨b1_, 0, none⟩) x x, .slice (some ⟨b2_, 0, none⟩) x x, .slice (some ⟨b3_, 0, none⟩) x x]) ∧ OI wr w3.heap.size (.slice (some ⟨b1_, 0, none⟩) x x) (tRow (rotT n) id B r k (tAll (rotT n) id B r (List.replicate x 0))) ∧ OI wr w3.heap.size (.slice (some ⟨b2_, 0, none⟩) x x) (tRow (rotT n) id L r k (tAll (rotT n) id L r (List.replicate x 0))) ∧ OI wr w3.heap.size (.slice (some ⟨b3_, 0, none⟩) x x) (tRow (rotT n) id R r k (tAll (rotT n) id R r (List.replicate x 0))) ∧ Below w3.heap.size wc wr) (fun i _ => r + 1 - (intOf i).toNat)
        case atStart => exact ⟨0, Nat.zero_le _, rfl, HGr, o1, o2, o3, hbl⟩
        case round =>
          clear o1 o2 o3 hbl HGr
          obtain ⟨k, hk, rfl, HGk, o1, o2, o3, hbl⟩ := hrel
          by_cases hlt2 : k < r + 1
          · obtain ⟨y, hy⟩ : ∃ a, tri r + k = a := ⟨_, rfl⟩
            have ly : y < n2 := by rw [HN.out, ← hy]; exact tri_lt hlt' (by omega)
            obtain ⟨t, ht⟩ : ∃ a, rotT n r k = a := ⟨_, rfl⟩
            have lt : t < x := by rw [HX.out, ← ht]; exact rotT_lt hlt' (by omega)
            have TA : atI (r : Int) (k : Int) = y := atI_eq rfl rfl hy
            have TB : atI ((k : Int) + (n : Int) - 1 - (r : Int)) ((n : Int) - 1 - (r : Int)) = t := atI_eq (r := k + n - 1 - r) (k := n - 1 - r) (by omega) (by omega) ht
            have hk3 : Below wc.heap.size wc wr → True := fun _ => trivial
            obtain ⟨v1, hv1⟩ : ∃ v, v = nth L y := ⟨_, rfl⟩
            obtain ⟨v2, hv2⟩ : ∃ v, v = nth R y := ⟨_, rfl⟩
            obtain ⟨v3, hv3⟩ : ∃ v, v = nth B y := ⟨_, rfl⟩
            have kx : BK wr bx _ _ := Kc.out.below hbl HD.out.2.2.2.2.2
            obtain ⟨s0, s1, s2, s3⟩ := kx.four
            obtain ⟨p0, p1, p2, p3⟩ := HGk.out.four
            have X1 : wr.cell? (ad1.add y) = some (.int .i64 v1) := by rw [hv1]; exact src_cell (h1.below g3) ly ((bb.mono (Nat.le_refl _)).trans hbl)
            have X2 : wr.cell? (ad2.add y) = some (.int .i64 v2) := by rw [hv2]; exact src_cell (h2.below g3) ly ((bb.mono (Nat.le_refl _)).trans hbl)
            have X3 : wr.cell? (ad3.add y) = some (.int .i64 v3) := by rw [hv3]; exact src_cell (h3.below g3) ly ((bb.mono (Nat.le_refl _)).trans hbl)
            have D1 := o1.cellAt lt
            have D2 := o2.cellAt lt
            have D3 := o3.cellAt lt
            have F1 := o1.frozenAt t
            have F2 := o2.frozenAt t
            have F3 := o3.frozenAt t
            obtain ⟨j1, hj1⟩ : ∃ j, j = nth (tRow (rotT n) id B r k (tAll (rotT n) id B r (List.replicate x 0))) t := ⟨_, rfl⟩
            obtain ⟨j2, hj2⟩ : ∃ j, j = nth (tRow (rotT n) id L r k (tAll (rotT n) id L r (List.replicate x 0))) t := ⟨_, rfl⟩
            obtain ⟨j3, hj3⟩ : ∃ j, j = nth (tRow (rotT n) id R r k (tAll (rotT n) id R r (List.replicate x 0))) t := ⟨_, rfl⟩
            rw [← hj1] at D1
            rw [← hj2] at D2
            rw [← hj3] at D3
            have HO : Hid (OI wr w3.heap.size (.slice (some ⟨b1_, 0, none⟩) x x) (tRow (rotT n) id B r k (tAll (rotT n) id B r (List.replicate x 0))) ∧ OI wr w3.heap.size (.slice (some ⟨b2_, 0, none⟩) x x) (tRow (rotT n) id L r k (tAll (rotT n) id L r (List.replicate x 0))) ∧ OI wr w3.heap.size (.slice (some ⟨b3_, 0, none⟩) x x) (tRow (rotT n) id R r k (tAll (rotT n) id R r (List.replicate x 0)))) := ⟨o1, o2, o3⟩
            have S1 : Hid (tRow (rotT n) id B r (k + 1) (tAll (rotT n) id B r (List.replicate x 0)) = (tRow (rotT n) id B r k (tAll (rotT n) id B r (List.replicate x 0))).set t v3) := by show tRow (rotT n) id B r (k + 1) (tAll (rotT n) id B r (List.replicate x 0)) = _; rw [tRow, show rotT n r k = t from ht, hy, ← hv3]; first | done | rfl
            have S2 : Hid (tRow (rotT n) id L r (k + 1) (tAll (rotT n) id L r (List.replicate x 0)) = (tRow (rotT n) id L r k (tAll (rotT n) id L r (List.replicate x 0))).set t v1) := by show tRow (rotT n) id L r (k + 1) (tAll (rotT n) id L r (List.replicate x 0)) = _; rw [tRow, show rotT n r k = t from ht, hy, ← hv1]; first | done | rfl
            have S3 : Hid (tRow (rotT n) id R r (k + 1) (tAll (rotT n) id R r (List.replicate x 0)) = (tRow (rotT n) id R r k (tAll (rotT n) id R r (List.replicate x 0))).set t v2) := by show tRow (rotT n) id R r (k + 1) (tAll (rotT n) id R r (List.replicate x 0)) = _; rw [tRow, show rotT n r k = t from ht, hy, ← hv2]; first | done | rfl
            clear hj1 hj2 hj3 hv1 hv2 hv3 o1 o2 o3 kx hy ht HA hk3
            go_wp2_with (go_at_call 84; refine (at_gen_eq _ _ (by omega) (by omega) (by omega) (by omega)).mono ?_; rintro e w' ⟨rfl, rfl⟩)
            have E1 : b1_ ≠ bx ∧ b2_ ≠ bx ∧ b3_ ≠ bx ∧ b1_ ≠ g ∧ b2_ ≠ g ∧ b3_ ≠ g := by
              obtain ⟨_, _, _, _, _, _⟩ := HD.out
              omega
            obtain ⟨n1x, n2x, n3x, n1g, n2g, n3g⟩ := E1
            have E2 : b1_ ≠ (ad1.add y).block ∧ b2_ ≠ (ad1.add y).block ∧ b3_ ≠ (ad1.add y).block ∧ b1_ ≠ (ad2.add y).block ∧ b2_ ≠ (ad2.add y).block ∧ b3_ ≠ (ad2.add y).block ∧ b1_ ≠ (ad3.add y).block ∧ b2_ ≠ (ad3.add y).block ∧ b3_ ≠ (ad3.add y).block := by
              obtain ⟨_, _, _, _, _, _⟩ := HD.out
              have := h1.lt htp
              have := h2.lt htp
              have := h3.lt htp
              have := g3.size
              rw [block_of_add, block_of_add, block_of_add]
              omega
            obtain ⟨a11, a12, a13, a21, a22, a23, a31, a32, a33⟩ := E2
            go_region_held3 (fun w' => w'.cell? ⟨bx, 1, none⟩ = some (Value.slice (some ad1) n2 c1) ∧ w'.cell? ⟨bx, 2, none⟩ = some (Value.slice (some ad2) n2 c2) ∧ w'.cell? ⟨bx, 3, none⟩ = some (Value.slice (some ad3) n2 c3) ∧ w'.cell? ⟨g, 1, none⟩ = some (Value.slice (some ⟨b1_, 0, none⟩) x x) ∧ w'.cell? ⟨g, 2, none⟩ = some (Value.slice (some ⟨b2_, 0, none⟩) x x) ∧ w'.cell? ⟨g, 3, none⟩ = some (Value.slice (some ⟨b3_, 0, none⟩) x x) ∧ w'.cell? (ad1.add y) = some (.int .i64 v1) ∧ w'.cell? (ad2.add y) = some (.int .i64 v2) ∧ w'.cell? (ad3.add y) = some (.int .i64 v3)) (first | exact ⟨s1, s2, s3, p1, p2, p3, X1, X2, X3⟩ | (simp [World.cell?_setCell_far, *]; done)) (fail)
            obtain ⟨o1, o2, o3⟩ := HO.out
            have r1 := ((o1.stored t v3).1.setOther (g1 := b2_) (j := t) (u := .int .i64 v1) (Ne.symm d4)).setOther (g1 := b3_) (j := t) (u := .int .i64 v2) (Ne.symm d5)
            have r2 := ((o2.setOther (g1 := b1_) (j := t) (u := .int .i64 v3) d4).stored t v1).1.setOther (g1 := b3_) (j := t) (u := .int .i64 v2) (Ne.symm d6)
            have r3 := (((o3.setOther (g1 := b1_) (j := t) (u := .int .i64 v3) d5).setOther (g1 := b2_) (j := t) (u := .int .i64 v1) d6).stored t v2).1
            have rG := ((HGk.out.far n1g t (.int .i64 v3)).far n2g t (.int .i64 v1)).far n3g t (.int .i64 v2)
            have rb := ((hbl.setCell (p := ⟨b1_, t, none⟩) (show _ ≤ b1_ from HD.out.2.1) (.int .i64 v3)).setCell (p := ⟨b2_, t, none⟩) (show _ ≤ b2_ from HD.out.2.2.1) (.int .i64 v1)).setCell (p := ⟨b3_, t, none⟩) (show _ ≤ b3_ from HD.out.2.2.2.1) (.int .i64 v2)
            rw [← S1.out] at r1
            rw [← S2.out] at r2
            rw [← S3.out] at r3
            have HR := Lib.hid (⟨r1, r2, r3⟩ : _ ∧ _ ∧ _)
            have HRG := Lib.hid rG
            clear r1 r2 r3 rG o1 o2 o3 D1 D2 D3 F1 F2 F3 X1 X2 X3 TA TB
            go_wp2
            go_roundw
            case rel => exact ⟨k + 1, by omega, by go_num, HRG, HR.out.1.below (Below.drew (Below.refl _ _)), HR.out.2.1.below (Below.drew (Below.refl _ _)), HR.out.2.2.below (Below.drew (Below.refl _ _)), rb.drew⟩
            case measure => simp [intOf]; omega
          · obtain rfl : k = r + 1 := by omega
            go_wp2
            go_roundw
            case rel => exact ⟨r + 1, by omega, by go_num, HGk, o1, o2, o3, hbl⟩
            case measure => simp [intOf]; omega
      · obtain rfl : r = n := by omega
        obtain ⟨p0, p1, p2, p3⟩ := HGr.out.four
        have yb := Yc.out.below hbl HD.out.2.2.2.2.1
        obtain ⟨y0, y1, y2, y3⟩ := yb.four
        have YB := Lib.hid yb
        have f0 := yb.frozen (j := 0)
        have f1 := yb.frozen (j := 1)
        have f2 := yb.frozen (j := 2)
        have f3 := yb.frozen (j := 3)
        have HO : Hid (OI wr w3.heap.size (.slice (some ⟨b1_, 0, none⟩) x x) (tAll (rotT r) id B r (List.replicate x 0)) ∧ OI wr w3.heap.size (.slice (some ⟨b2_, 0, none⟩) x x) (tAll (rotT r) id L r (List.replicate x 0)) ∧ OI wr w3.heap.size (.slice (some ⟨b3_, 0, none⟩) x x) (tAll (rotT r) id R r (List.replicate x 0))) := ⟨o1, o2, o3⟩
        have ng : by_ ≠ g := by obtain ⟨_, _, _, _, _, _⟩ := HD.out; omega
        clear yb o1 o2 o3
        go_wp2
        obtain ⟨o1, o2, o3⟩ := HO.out
        have far : ∀ {v : Value} {l : List Int}, OI wr w3.heap.size v l → OI ((((wr.setCell ⟨by_, 0, none⟩ (Value.int IntKind.i64 (r : Int))).setCell ⟨by_, 1, none⟩ (Value.slice (some ⟨b1_, 0, none⟩) x x)).setCell ⟨by_, 2, none⟩ (Value.slice (some ⟨b2_, 0, none⟩) x x)).setCell ⟨by_, 3, none⟩ (Value.slice (some ⟨b3_, 0, none⟩) x x)) w3.heap.size v l := fun o =>
          (((o.far by_ 0 _ HD.out.2.2.2.2.1).far by_ 1 _ HD.out.2.2.2.2.1).far by_ 2 _ HD.out.2.2.2.2.1).far by_ 3 _ HD.out.2.2.2.2.1
        have gz := gc.trans (hbl.mono g3.size)
        have bf := (((gz.setCell (p := ⟨by_, 0, none⟩) (show _ ≤ by_ from HY.out) (Value.int IntKind.i64 (r : Int))).setCell (p := ⟨by_, 1, none⟩) (show _ ≤ by_ from HY.out) (Value.slice (some ⟨b1_, 0, none⟩) x x)).setCell (p := ⟨by_, 2, none⟩) (show _ ≤ by_ from HY.out) (Value.slice (some ⟨b2_, 0, none⟩) x x)).setCell (p := ⟨by_, 3, none⟩) (show _ ≤ by_ from HY.out) (Value.slice (some ⟨b3_, 0, none⟩) x x)
        have kf := (((YB.out.set 0 (Value.int IntKind.i64 (r : Int))).set 1 (Value.slice (some ⟨b1_, 0, none⟩) x x)).set 2 (Value.slice (some ⟨b2_, 0, none⟩) x x)).set 3 (Value.slice (some ⟨b3_, 0, none⟩) x x)
        have f1' := far o1
        have f2' := far o2
        have f3' := far o3
        clear far
        obtain ⟨wf, ef⟩ : ∃ wf, wf = ((((wr.setCell ⟨by_, 0, none⟩ (Value.int IntKind.i64 (r : Int))).setCell ⟨by_, 1, none⟩ (Value.slice (some ⟨b1_, 0, none⟩) x x)).setCell ⟨by_, 2, none⟩ (Value.slice (some ⟨b2_, 0, none⟩) x x)).setCell ⟨by_, 3, none⟩ (Value.slice (some ⟨b3_, 0, none⟩) x x)) := ⟨_, rfl⟩
        rw [← ef] at f1' f2' f3' bf kf ⊢
        obtain ⟨k0, k1, k2, k3⟩ := BK.four kf
        clear y0 y1 y2 y3 f0 f1 f2 f3 ef
        refine bodyPost_ret (v := .tuple #[.agg #[.int .i64 (r : Int), .slice (some ⟨b1_, 0, none⟩) x x, .slice (some ⟨b2_, 0, none⟩) x x, .slice (some ⟨b3_, 0, none⟩) x x], .bool true]) (by simp [results, Try.results44, go_sem, k0, k1, k2, k3]) rfl ?_
        have hxe := HX.out
        rw [hxe] at f1' f2' f3' ⊢
        exact ⟨_, _, _, _, _, _, _, _, _, rfl, ⟨f1'.mono g3.size, f2'.mono g3.size, f3'.mono g3.size, .inr (by simp [Value.ownBlock]; omega), .inr (by simp [Value.ownBlock]; omega), .inr (by simp [Value.ownBlock]; omega)⟩, bf⟩
end Go.Proofs.Ytnljlophgolejaa
