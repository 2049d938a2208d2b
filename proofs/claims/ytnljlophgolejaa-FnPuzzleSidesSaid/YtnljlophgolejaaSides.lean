/- The sides of a puzzle: the program's way and the reference's. -/
import Derived.Test.YtnljlophgolejaaPuzO
import Derived.Test.YtnljlophgolejaaWords
import Derived.Deep.RegionHeld3
namespace Go.Proofs.Ytnljlophgolejaa
open Go.RowKit

/-- Values in blocks of their own. -/
def Ap (v u : Value) : Prop := v.ownBlock = none ∨ v.ownBlock ≠ u.ownBlock
theorem Ap.flip {v u : Value} (h : Ap v u) : Ap u v := flip_apart h
theorem Ap.app {w : World} {base H : Nat} {v v' u : Value} {l : List Int} (h : Ap v u) (h5 : v'.ownBlock = v.ownBlock ∨ v'.ownBlock = some H) (hu : OI w base u l) (hH : w.heap.size ≤ H) : Ap v' u := by
  rcases h5 with e | e
  · unfold Ap; rw [e]; exact h
  · refine .inr fun e' => ?_
    have := (hu.lt H (e'.symm.trans e)).2
    omega
theorem Ap.fresh {w : World} {base H : Nat} {v' u : Value} {l : List Int} (h5 : v'.ownBlock = some H) (hu : OI w base u l) (hH : w.heap.size ≤ H) : Ap v' u := by
  refine .inr fun e' => ?_
  have := (hu.lt H (e'.symm.trans h5)).2
  omega

theorem OI.app {w : World} {base : Nat} {v : Value} {l : List Int} {k : Nat} {o : Obj} (h : OI w base v l) : OI ((w.drewN k).alloc o) base v l := OI.alloc (OI.below h (below_drewN (Below.refl _ _) _)) _
theorem below_app {B : Nat} {a w w' : World} {k : Nat} {o : Obj} {row : Option Nat} (h : Below B a w) (hg : ((w.drewN k).alloc o).grownBy w' row) (hB : B ≤ w.heap.size) (hr : ∀ k, row = some k → B ≤ k) : Below B a w' :=
  ((below_drewN h _).alloc hB _).grown hg (by simp; show B ≤ w.heap.size + 1; omega) hr

def revTo (f : Nat → Int) : Nat → List Int
  | 0 => []
  | m + 1 => f m :: revTo f m
theorem revTo_len (f : Nat → Int) (m : Nat) : (revTo f m).length = m := by induction m <;> simp [revTo, *]
theorem revTo_nth (f : Nat → Int) {m j : Nat} (h : j < m) : nth (revTo f m) j = f (m - 1 - j) := by
  induction m generalizing j with
  | zero => omega
  | succ m ih =>
    cases j with
    | zero => simp [revTo, nth]
    | succ j =>
      have := ih (j := j) (by omega)
      rw [show m + 1 - 1 - (j + 1) = m - 1 - j by omega, ← this]
      simp [revTo, nth]
theorem revTo_gen (f : Nat → Int) (n : Nat) : revTo f n = gen (fun r => f (n - 1 - r)) n :=
  agree_all (revTo_len f n) (gen_len _ _) fun j hj => by rw [revTo_nth f hj, nth_gen hj]

/-- The sides. -/
def sideL (n : Nat) (L : List Int) (m : Nat) : List Int := gen (fun r => nth L (tri (n - 1 - r))) m
def sideR (R : List Int) (m : Nat) : List Int := gen (fun r => nth R (tri r + r)) m
def sideB (n : Nat) (B : List Int) (m : Nat) : List Int := gen (fun r => nth B (tri (n - 1) + r)) m

/-- What a function leaves that returns three new slices and a bool. -/
def MakesT (w : World) (a b c : List Int) (ok : Bool) : Ending → World → Prop := fun e w' =>
  ∃ A1 n1 c1 A2 n2 c2 A3 n3 c3, e = .returned (.tuple #[.slice A1 n1 c1, .slice A2 n2 c2, .slice A3 n3 c3, .bool ok]) ∧ Three w' w.heap.size (.slice A1 n1 c1) (.slice A2 n2 c2) (.slice A3 n3 c3) a b c ∧ Below w.heap.size w w'

set_option maxRecDepth 4000 in
set_option maxHeartbeats 4000000 in
theorem iSides_yes {A1 A2 A3 : Option Addr} {n1 n2 n3 : Nat} {L R B : List Int} {w : World} (c1 c2 c3 : Nat) (n : Nat) (h1 : RI w A1 n1 L) (h2 : RI w A2 n2 R) (h3 : RI w A3 n3 B)
    (m1 : n1 ≤ 1000000000) (m2 : n2 ≤ 1000000000) (m3 : n3 ≤ 1000000000) (hp : puzB n L R B true = true) :
    Calls Try.prog 40 #[.agg #[.int .i64 n, .slice A1 n1 c1, .slice A2 n2 c2, .slice A3 n3 c3]] w (MakesT w (sideL n L n) (sideR R n) (sideB n B n) true) := by
  have hp2 : sizesB n L R B = true := by
    have := hp
    unfold puzB at this
    rw [Bool.and_eq_true] at this
    exact this.1
  obtain ⟨hi, hL, hR, hB⟩ := sizesB_iff.1 hp2
  have hi := inB_iff.1 hi
  rw [h1.1, Int.toNat_natCast] at hL
  rw [h2.1, Int.toNat_natCast] at hR
  rw [h3.1, Int.toNat_natCast] at hB
  obtain rfl : n1 = n3 := by omega
  obtain rfl : n2 = n1 := by omega
  have HN : Hid (n2 = tri n) := hB
  have hn1 : 1 ≤ n := by omega
  have hn7 : n ≤ 7 := by omega
  have htp : 0 < n2 := by have := tri_lt (r := 0) (k := 0) (n := n) (by omega) (by omega); omega
  obtain ⟨ad1, e1, -⟩ := h1.2 htp
  obtain ⟨ad2, e2, -⟩ := h2.2 htp
  obtain ⟨ad3, e3, -⟩ := h3.2 htp
  subst e1 e2 e3
  clear hi hL hR hB hp2
  go_enter Try.func40, Try.ntmps40
  go_wp2_with fail
  obtain ⟨w0, e0⟩ : ∃ w0 : World, w0 = w.alloc (Obj.cells #[Value.int IntKind.i64 (n : Int), Value.slice (some ad1) n2 c1, Value.slice (some ad2) n2 c2, Value.slice (some ad3) n2 c3] 53) := ⟨_, rfl⟩
  have g0 : Below w.heap.size w w0 := by rw [e0]; exact (Below.refl _ _).alloc (Nat.le_refl _) _
  obtain ⟨bx, hbx⟩ : ∃ g, g = w.heap.size := ⟨_, rfl⟩
  have K0 : Hid (BK w0 bx 53 [Value.int IntKind.i64 (n : Int), Value.slice (some ad1) n2 c1, Value.slice (some ad2) n2 c2, Value.slice (some ad3) n2 c3]) := by
    rw [e0, hbx]; exact BK.new w _ _
  rw [← e0, ← hbx]
  clear e0 hbx
  refine (iWeightedOk_any _ _ _ n (h1.below g0) (h2.below g0) (h3.below g0) m1 m1 m1).mono ?_
  rintro e w2 ⟨rfl, b1⟩
  rw [hp]
  have g2 := bnext g0 b1 g0.size
  have hb0 := K0.out.below b1 K0.out.lt
  have K1 := Lib.hid (hb0.cell (j := 1) rfl)
  have K2 := Lib.hid (hb0.cell (j := 2) rfl)
  have K3 := Lib.hid (hb0.cell (j := 3) rfl)
  have b0x := hb0.cell (j := 0) rfl
  have KN := Lib.hid b0x
  have HX1 : Hid (∀ k, k < n2 → w2.cell? (ad1.add k) = some (.int .i64 (nth L k))) := fun k hk => by
    obtain ⟨ad, e, hc⟩ := (h1.below g2).cell hk
    obtain rfl := Option.some.inj e
    exact hc
  have HX2 : Hid (∀ k, k < n2 → w2.cell? (ad2.add k) = some (.int .i64 (nth R k))) := fun k hk => by
    obtain ⟨ad, e, hc⟩ := (h2.below g2).cell hk
    obtain rfl := Option.some.inj e
    exact hc
  have HX3 : Hid (∀ k, k < n2 → w2.cell? (ad3.add k) = some (.int .i64 (nth B k))) := fun k hk => by
    obtain ⟨ad, e, hc⟩ := (h3.below g2).cell hk
    obtain rfl := Option.some.inj e
    exact hc
  clear hb0 hp
  go_wp2
  clear b0x
  go_loopw [7, 8, 9, 10, 20] (fun v1 v2 v3 _ i wr => ∃ r : Nat, r ≤ n ∧ i = .int .i64 (r : Int) ∧ OI wr w2.heap.size v1 (sideL n L r) ∧ OI wr w2.heap.size v2 (sideR R r) ∧ OI wr w2.heap.size v3 (sideB n B r) ∧ Hid (Ap v1 v2 ∧ Ap v1 v3 ∧ Ap v2 v3) ∧ Below w2.heap.size w2 wr) (fun _ _ _ _ i _ => n - (intOf i).toNat)
  case atStart =>
    exact ⟨0, Nat.zero_le _, rfl, ((OI.lit w2 _ [] 0 rfl (Nat.le_refl _) (by simp)).alloc _).alloc _, by
        have := (OI.lit (w2.alloc (Obj.cells #[] 3)) w2.heap.size [] 0 rfl (by simp) (by simp)).alloc (Obj.cells #[] 3)
        simpa [sideR, gen, cellsI] using this, by
        have := OI.lit ((w2.alloc (Obj.cells #[] 3)).alloc (Obj.cells #[] 3)) w2.heap.size [] 0 rfl (by simp; omega) (by simp)
        simpa [sideB, gen, cellsI] using this, ⟨.inr (by simp [Value.ownBlock]), .inr (by simp [Value.ownBlock]; omega), .inr (by simp [Value.ownBlock])⟩, (((Below.refl _ _).alloc (Nat.le_refl _) _).alloc (by simp) _).alloc (by simp; omega) _⟩
  case round =>
    obtain ⟨r, hr, rfl, o1, o2, o3, HA, hbl⟩ := hrel
    by_cases hlt : r < n
    · have hlt' : r < n := hlt
      obtain ⟨y1, hy1⟩ : ∃ a, tri (n - 1 - r) = a := ⟨_, rfl⟩
      obtain ⟨y2, hy2⟩ : ∃ a, tri r + r = a := ⟨_, rfl⟩
      obtain ⟨y3, hy3⟩ : ∃ a, tri (n - 1) + r = a := ⟨_, rfl⟩
      have l1 : y1 < n2 := by rw [HN.out, ← hy1]; exact tri_lt (k := 0) (by omega) (by omega)
      have l2 : y2 < n2 := by rw [HN.out, ← hy2]; exact tri_lt hlt' (by omega)
      have l3 : y3 < n2 := by rw [HN.out, ← hy3]; exact tri_lt (by omega) (by omega)
      obtain ⟨x1, hx1⟩ : ∃ v, v = nth L y1 := ⟨_, rfl⟩
      obtain ⟨x2, hx2⟩ : ∃ v, v = nth R y2 := ⟨_, rfl⟩
      obtain ⟨x3, hx3⟩ : ∃ v, v = nth B y3 := ⟨_, rfl⟩
      have X1 : Hid (w2.cell? (ad1.add y1) = some (.int .i64 x1)) := by rw [hx1]; exact HX1.out y1 l1
      have X2 : Hid (w2.cell? (ad2.add y2) = some (.int .i64 x2)) := by rw [hx2]; exact HX2.out y2 l2
      have X3 : Hid (w2.cell? (ad3.add y3) = some (.int .i64 x3)) := by rw [hx3]; exact HX3.out y3 l3
      have T1 : atI ((n : Int) - 1 - (r : Int)) 0 = y1 := atI_eq (r := n - 1 - r) (k := 0) (by omega) rfl hy1
      have T2 : atI (r : Int) (r : Int) = y2 := atI_eq rfl rfl hy2
      have T3 : atI ((n : Int) - 1) (r : Int) = y3 := atI_eq (r := n - 1) (by omega) rfl hy3
      have S1 : Hid (sideL n L (r + 1) = sideL n L r ++ [x1]) := by show sideL n L (r + 1) = _; rw [sideL, sideL, gen_succ, hy1, hx1]
      have S2 : Hid (sideR R (r + 1) = sideR R r ++ [x2]) := by show sideR R (r + 1) = _; rw [sideR, sideR, gen_succ, hy2, hx2]
      have S3 : Hid (sideB n B (r + 1) = sideB n B r ++ [x3]) := by show sideB n B (r + 1) = _; rw [sideB, sideB, gen_succ, hy3, hx3]
      have len1 : (sideL n L r).length = r := gen_len _ _
      have len2 : (sideR R r).length = r := gen_len _ _
      have len3 : (sideB n B r).length = r := gen_len _ _
      have HHN := Lib.hid hbl
      clear hx1 hx2 hx3 hy1 hy2 hy3
      have W1 : IntKind.i64.wrap ((n : Int) - 1) = (n : Int) - 1 := IntWalk.i64_in _ (by omega)
      have W2 : IntKind.i64.wrap ((n : Int) - 1 - (r : Int)) = (n : Int) - 1 - (r : Int) := IntWalk.i64_in _ (by omega)
      have b1x := one_cell hbl K1.out
      have x1c := one_cell hbl X1.out
      go_wp2_with fail
      go_region_held3 (fun w' => w'.cell? ⟨bx, 1, none⟩ = some (.slice (some ad1) n2 c1) ∧ w'.cell? (ad1.add y1) = some (.int .i64 x1)) (first | exact ⟨b1x, x1c⟩ | exact two_cells bb1 K1.out X1.out | exact two_cells (below_drewN bb1 _) K1.out X1.out | exact two_cells bb1.drew K1.out X1.out | exact two_cells ((below_drewN hbl _).alloc hbl.size _) K1.out X1.out | exact two_cells (below_drewN ((below_drewN hbl _).alloc hbl.size _) _) K1.out X1.out | exact two_cells ((below_drewN hbl _).alloc hbl.size _).drew K1.out X1.out) (first | (go_at_call 84; refine (at_gen _ _ (by omega) (by omega) (by omega) (by omega)).mono ?_; rintro e wq1 ⟨rfl, qq1, rfl⟩) | (refine stepAppI rfl _ _ rfl w2.heap.size u7 (sideL n L r) [x1] (some ⟨wr.heap.size, 0, none⟩) 1 1 rfl rfl (by exact OI.app o1) (by exact RI.one _ _) (by first | omega | (simp; omega)) (by have := hbl.size; simp; omega) ?_; intro v1 w8 h11 h12 h13; have bb1 : Below w2.heap.size w2 w8 := below_app hbl h12 hbl.size (fun k hk => (o1.lt k hk).1)))
      obtain ⟨A12, A13, A23⟩ := HA.out
      have p1 : OI w8 w2.heap.size u8 (sideR R r) := OI.kept (by exact OI.app o2) h12 A12.flip
      have p2 : OI w8 w2.heap.size u9 (sideB n B r) := OI.kept (by exact OI.app o3) h12 A13.flip
      have B12 : Ap v1 u8 := A12.app h13 o2 (by simp)
      have B13 : Ap v1 u9 := A13.app h13 o3 (by simp)
      have HB := Lib.hid (⟨B12, B13, A23⟩ : Ap v1 u8 ∧ Ap v1 u9 ∧ Ap u8 u9)
      have HH1 := Lib.hid h11
      clear B12 B13 A12 A13 A23 h13 h12 b1x x1c h11 o1 o2 o3 hbl T1
      have b2x := one_cell bb1 K2.out
      have x2c := one_cell bb1 X2.out
      go_wp2_with fail
      go_region_held3 (fun w' => w'.cell? ⟨bx, 2, none⟩ = some (.slice (some ad2) n2 c2) ∧ w'.cell? (ad2.add y2) = some (.int .i64 x2)) (first | exact ⟨b2x, x2c⟩ | exact two_cells bb2 K2.out X2.out | exact two_cells (below_drewN bb2 _) K2.out X2.out | exact two_cells bb2.drew K2.out X2.out | exact two_cells ((below_drewN bb1 _).alloc bb1.size _) K2.out X2.out | exact two_cells (below_drewN ((below_drewN bb1 _).alloc bb1.size _) _) K2.out X2.out | exact two_cells ((below_drewN bb1 _).alloc bb1.size _).drew K2.out X2.out) (first | (go_at_call 84; refine (at_gen _ _ (by omega) (by omega) (by omega) (by omega)).mono ?_; rintro e wq2 ⟨rfl, qq2, rfl⟩) | (refine stepAppI rfl _ _ rfl w2.heap.size u8 (sideR R r) [x2] (some ⟨w8.heap.size, 0, none⟩) 1 1 rfl rfl (by exact OI.app p1) (by exact RI.one _ _) (by first | omega | (simp; omega)) (by have := bb1.size; simp; omega) ?_; intro v2 w9 h21 h22 h23; have bb2 : Below w2.heap.size w2 w9 := below_app bb1 h22 bb1.size (fun k hk => (p1.lt k hk).1)))
      obtain ⟨A12, A13, A23⟩ := HB.out
      have r1 : OI w9 w2.heap.size v1 (sideL n L r ++ [x1]) := OI.kept (by exact OI.app HH1.out) h22 A12
      have r3 : OI w9 w2.heap.size u9 (sideB n B r) := OI.kept (by exact OI.app p2) h22 A23.flip
      have B12 : Ap v1 v2 := (A12.flip.app h23 HH1.out (by simp)).flip
      have B23 : Ap v2 u9 := A23.app h23 p2 (by simp)
      have HC := Lib.hid (⟨B12, A13, B23⟩ : Ap v1 v2 ∧ Ap v1 u9 ∧ Ap v2 u9)
      have HH2 := Lib.hid h21
      have HR1 := Lib.hid r1
      clear B12 B23 A12 A13 A23 h23 h22 b2x x2c h21 p1 p2 bb1 T2 r1 HH1
      have b3x := one_cell bb2 K3.out
      have x3c := one_cell bb2 X3.out
      have K0x := one_cell bb2 KN.out
      go_wp2_with fail
      go_region_held3 (fun w' => w'.cell? ⟨bx, 3, none⟩ = some (.slice (some ad3) n2 c3) ∧ w'.cell? (ad3.add y3) = some (.int .i64 x3)) (first | exact ⟨b3x, x3c⟩ | exact two_cells bb3 K3.out X3.out | exact two_cells (below_drewN bb3 _) K3.out X3.out | exact two_cells bb3.drew K3.out X3.out | exact two_cells ((below_drewN bb2 _).alloc bb2.size _) K3.out X3.out | exact two_cells (below_drewN ((below_drewN bb2 _).alloc bb2.size _) _) K3.out X3.out | exact two_cells ((below_drewN bb2 _).alloc bb2.size _).drew K3.out X3.out) (first | (go_at_call 84; refine (at_gen _ _ (by omega) (by omega) (by omega) (by omega)).mono ?_; rintro e wq3 ⟨rfl, qq3, rfl⟩) | (refine stepAppI rfl _ _ rfl w2.heap.size u9 (sideB n B r) [x3] (some ⟨w9.heap.size, 0, none⟩) 1 1 rfl rfl (by exact OI.app r3) (by exact RI.one _ _) (by first | omega | (simp; omega)) (by have := bb2.size; simp; omega) ?_; intro v3 w10 h31 h32 h33; have bb3 : Below w2.heap.size w2 w10 := below_app bb2 h32 bb2.size (fun k hk => (r3.lt k hk).1)))
      obtain ⟨A12, A13, A23⟩ := HC.out
      have t1 : OI w10 w2.heap.size v1 (sideL n L r ++ [x1]) := OI.kept (by exact OI.app HR1.out) h32 A13
      have t2 : OI w10 w2.heap.size v2 (sideR R r ++ [x2]) := OI.kept (by exact OI.app HH2.out) h32 A23
      have B13 : Ap v1 v3 := (A13.flip.app h33 HR1.out (by simp)).flip
      have B23 : Ap v2 v3 := (A23.flip.app h33 HH2.out (by simp)).flip
      have HD := Lib.hid (⟨A12, B13, B23⟩ : Ap v1 v2 ∧ Ap v1 v3 ∧ Ap v2 v3)
      have HO := Lib.hid (⟨t1, t2, h31⟩ : OI w10 w2.heap.size v1 (sideL n L r ++ [x1]) ∧ OI w10 w2.heap.size v2 (sideR R r ++ [x2]) ∧ OI w10 w2.heap.size v3 (sideB n B r ++ [x3]))
      clear B13 B23 A12 A13 A23 h33 h32 b3x x3c h31 t1 t2 bb2 T3 HC HH2 HR1 r3
      go_wp2
      go_roundw
      case rel => exact ⟨r + 1, by omega, by go_num, by rw [S1.out]; exact HO.out.1, by rw [S2.out]; exact HO.out.2.1, by rw [S3.out]; exact HO.out.2.2, HD, bb3⟩
      case measure => simp [intOf]; omega
    · obtain rfl : r = n := by omega
      have HO := Lib.hid (⟨o1, o2, o3⟩ : OI wr w2.heap.size u7 (sideL r L r) ∧ OI wr w2.heap.size u8 (sideR R r) ∧ OI wr w2.heap.size u9 (sideB r B r))
      obtain ⟨P1, q1, d1, rfl, -⟩ := o1.form
      obtain ⟨P2, q2, d2, rfl, -⟩ := o2.form
      obtain ⟨P3, q3, d3, rfl, -⟩ := o3.form
      clear o1 o2 o3
      go_wp2
      refine bodyPost_ret (v := .tuple #[.slice P1 q1 d1, .slice P2 q2 d2, .slice P3 q3 d3, .bool true]) (by simp [results, Try.results40, go_sem]; try rfl) rfl ?_
      exact ⟨P1, q1, d1, P2, q2, d2, P3, q3, d3, rfl, ⟨HO.out.1.mono g2.size, HO.out.2.1.mono g2.size, HO.out.2.2.mono g2.size, HA.out⟩, bnext g2 hbl g2.size⟩
end Go.Proofs.Ytnljlophgolejaa

/- The sides of a puzzle, by the reference. -/
namespace Go.Proofs.Ytnljlophgolejaa
open Go.RowKit

theorem three_cells {w W : World} {p q r : Addr} {u u' u'' : Value} (b : Below w.heap.size w W) (x1 : w.cell? p = some u) (x2 : w.cell? q = some u') (x3 : w.cell? r = some u'') : W.cell? p = some u ∧ W.cell? q = some u' ∧ W.cell? r = some u'' := ⟨one_cell b x1, one_cell b x2, one_cell b x3⟩
theorem RI.app {w : World} {A : Option Addr} {n : Nat} {l : List Int} {k : Nat} {o : Obj} (h : RI w A n l) : RI ((w.drewN k).alloc o) A n l := (RI.drewN h k).alloc o
theorem OI.lit1 {w : World} {base k : Nat} (x : Int) (hb : base ≤ w.heap.size) : OI ((w.drewN k).alloc (.cells #[.int .i64 x] 3)) base (.slice (some ⟨w.heap.size, 0, none⟩) 1 1) [x] := OI.lit (w.drewN k) base [x] 1 rfl hb (by simp)
theorem Ap.lit {w : World} {base g H : Nat} {v' u : Value} {l : List Int} {n c : Nat} (h5 : v'.ownBlock = Value.ownBlock (.slice (some ⟨g, 0, none⟩) n c) ∨ v'.ownBlock = some H) (hu : OI w base u l) (hg : w.heap.size ≤ g) (hH : w.heap.size ≤ H) : Ap v' u := by
  rcases h5 with e | e
  · exact Ap.fresh (e.trans rfl) hu hg
  · exact Ap.fresh e hu hH
/-- What a function leaves that returns three new slices. -/
def MakesU (w : World) (a b c : List Int) : Ending → World → Prop := fun e w' =>
  ∃ A1 n1 c1 A2 n2 c2 A3 n3 c3, e = .returned (.tuple #[.slice A1 n1 c1, .slice A2 n2 c2, .slice A3 n3 c3]) ∧ Three w' w.heap.size (.slice A1 n1 c1) (.slice A2 n2 c2) (.slice A3 n3 c3) a b c ∧ Below w.heap.size w w'

set_option maxRecDepth 4000 in
set_option maxHeartbeats 4000000 in
theorem l5Sides_any {A1 A2 A3 : Option Addr} {n1 n2 n3 : Nat} {L R B : List Int} {w : World} (c1 c2 c3 : Nat) (n : Nat) (h1 : RI w A1 n1 L) (h2 : RI w A2 n2 R) (h3 : RI w A3 n3 B)
    (m1 : n1 ≤ 1000000000) (m2 : n2 ≤ 1000000000) (m3 : n3 ≤ 1000000000) (hp : puzB n L R B true = true) :
    Calls Try.prog 54 #[.agg #[.int .i64 n, .slice A1 n1 c1, .slice A2 n2 c2, .slice A3 n3 c3]] w (MakesU w (sideL n L n) (sideR R n) (sideB n B n)) := by
  have hp2 : sizesB n L R B = true := by
    have := hp
    unfold puzB at this
    rw [Bool.and_eq_true] at this
    exact this.1
  obtain ⟨hi, hL, hR, hB⟩ := sizesB_iff.1 hp2
  have hi := inB_iff.1 hi
  rw [h1.1, Int.toNat_natCast] at hL
  rw [h2.1, Int.toNat_natCast] at hR
  rw [h3.1, Int.toNat_natCast] at hB
  obtain rfl : n1 = n3 := by omega
  obtain rfl : n2 = n1 := by omega
  have HN : Hid (n2 = tri n) := hB
  have hn1 : 1 ≤ n := by omega
  have hn7 : n ≤ 7 := by omega
  have htp : 0 < n2 := by have := tri_lt (r := 0) (k := 0) (n := n) (by omega) (by omega); omega
  obtain ⟨ad1, e1, -⟩ := h1.2 htp
  obtain ⟨ad2, e2, -⟩ := h2.2 htp
  obtain ⟨ad3, e3, -⟩ := h3.2 htp
  subst e1 e2 e3
  clear hi hL hR hB hp2
  go_enter Try.func54, Try.ntmps54
  go_wp2
  obtain ⟨w2, e0⟩ : ∃ w2 : World, w2 = w.alloc (Obj.cells #[Value.int IntKind.i64 (n : Int), Value.slice (some ad1) n2 c1, Value.slice (some ad2) n2 c2, Value.slice (some ad3) n2 c3] 53) := ⟨_, rfl⟩
  have g2 : Below w.heap.size w w2 := by rw [e0]; exact (Below.refl _ _).alloc (Nat.le_refl _) _
  obtain ⟨bx, hbx⟩ : ∃ g, g = w.heap.size := ⟨_, rfl⟩
  have hb0 : BK w2 bx 53 [Value.int IntKind.i64 (n : Int), Value.slice (some ad1) n2 c1, Value.slice (some ad2) n2 c2, Value.slice (some ad3) n2 c3] := by
    rw [e0, hbx]; exact BK.new w _ _
  have hsz2 : w.heap.size + 1 = w2.heap.size := by rw [e0]; simp
  rw [← e0, hsz2, ← hbx]
  clear e0
  have K1 := Lib.hid (hb0.cell (j := 1) rfl)
  have K2 := Lib.hid (hb0.cell (j := 2) rfl)
  have K3 := Lib.hid (hb0.cell (j := 3) rfl)
  have KN := Lib.hid (hb0.cell (j := 0) rfl)
  have HX1 : Hid (∀ k, k < n2 → w2.cell? (ad1.add k) = some (.int .i64 (nth L k))) := fun k hk => by
    obtain ⟨ad, e, hc⟩ := (h1.below g2).cell hk
    obtain rfl := Option.some.inj e
    exact hc
  have HX2 : Hid (∀ k, k < n2 → w2.cell? (ad2.add k) = some (.int .i64 (nth R k))) := fun k hk => by
    obtain ⟨ad, e, hc⟩ := (h2.below g2).cell hk
    obtain rfl := Option.some.inj e
    exact hc
  have HX3 : Hid (∀ k, k < n2 → w2.cell? (ad3.add k) = some (.int .i64 (nth B k))) := fun k hk => by
    obtain ⟨ad, e, hc⟩ := (h3.below g2).cell hk
    obtain rfl := Option.some.inj e
    exact hc
  clear hb0 hp hbx hsz2
  go_loopw [5, 6, 7, 8] (fun v1 v2 v3 i wr => ∃ r : Nat, r ≤ n ∧ i = .int .i64 (r : Int) ∧ OI wr w2.heap.size v1 (revTo (fun r => nth L (tri r)) r) ∧ OI wr w2.heap.size v2 (sideR R r) ∧ OI wr w2.heap.size v3 (sideB n B r) ∧ Hid (Ap v1 v2 ∧ Ap v1 v3 ∧ Ap v2 v3) ∧ Below w2.heap.size w2 wr) (fun _ _ _ i _ => n - (intOf i).toNat)
  case atStart =>
    exact ⟨0, Nat.zero_le _, rfl, ((OI.lit w2 _ [] 0 rfl (Nat.le_refl _) (by simp)).alloc _).alloc _, by
        have := (OI.lit (w2.alloc (Obj.cells #[] 3)) w2.heap.size [] 0 rfl (by simp) (by simp)).alloc (Obj.cells #[] 3)
        simpa [sideR, gen, cellsI] using this, by
        have := OI.lit ((w2.alloc (Obj.cells #[] 3)).alloc (Obj.cells #[] 3)) w2.heap.size [] 0 rfl (by simp; omega) (by simp)
        simpa [sideB, gen, cellsI] using this, ⟨.inr (by simp [Value.ownBlock]), .inr (by simp [Value.ownBlock]; omega), .inr (by simp [Value.ownBlock])⟩, (((Below.refl _ _).alloc (Nat.le_refl _) _).alloc (by simp) _).alloc (by simp; omega) _⟩
  case round =>
    obtain ⟨r, hr, rfl, o1, o2, o3, HA, hbl⟩ := hrel
    obtain ⟨P1, q1, d1, rfl, ri1, -⟩ := o1.form
    have K0w := one_cell hbl KN.out
    by_cases hlt : r < n
    · have hlt' : r < n := hlt
      obtain ⟨y1, hy1⟩ : ∃ a, tri r = a := ⟨_, rfl⟩
      obtain ⟨y2, hy2⟩ : ∃ a, tri r + r = a := ⟨_, rfl⟩
      obtain ⟨y3, hy3⟩ : ∃ a, tri (n - 1) + r = a := ⟨_, rfl⟩
      have l1 : y1 < n2 := by rw [HN.out, ← hy1]; exact tri_lt (k := 0) (by omega) (by omega)
      have l2 : y2 < n2 := by rw [HN.out, ← hy2]; exact tri_lt hlt' (by omega)
      have l3 : y3 < n2 := by rw [HN.out, ← hy3]; exact tri_lt (by omega) (by omega)
      obtain ⟨x1, hx1⟩ : ∃ v, v = nth L y1 := ⟨_, rfl⟩
      obtain ⟨x2, hx2⟩ : ∃ v, v = nth R y2 := ⟨_, rfl⟩
      obtain ⟨x3, hx3⟩ : ∃ v, v = nth B y3 := ⟨_, rfl⟩
      have X1 : Hid (w2.cell? (ad1.add y1) = some (.int .i64 x1)) := by rw [hx1]; exact HX1.out y1 l1
      have X2 : Hid (w2.cell? (ad2.add y2) = some (.int .i64 x2)) := by rw [hx2]; exact HX2.out y2 l2
      have X3 : Hid (w2.cell? (ad3.add y3) = some (.int .i64 x3)) := by rw [hx3]; exact HX3.out y3 l3
      have T1 : atI (r : Int) 0 = y1 := atI_eq (r := r) (k := 0) rfl rfl hy1
      have T2 : atI (r : Int) (r : Int) = y2 := atI_eq rfl rfl hy2
      have T3 : atI ((n : Int) - 1) (r : Int) = y3 := atI_eq (r := n - 1) (by omega) rfl hy3
      have S1 : Hid (revTo (fun r => nth L (tri r)) (r + 1) = [x1] ++ revTo (fun r => nth L (tri r)) r) := by show revTo _ (r + 1) = _; rw [revTo, hy1, hx1]; rfl
      have S2 : Hid (sideR R (r + 1) = sideR R r ++ [x2]) := by show sideR R (r + 1) = _; rw [sideR, sideR, gen_succ, hy2, hx2]
      have S3 : Hid (sideB n B (r + 1) = sideB n B r ++ [x3]) := by show sideB n B (r + 1) = _; rw [sideB, sideB, gen_succ, hy3, hx3]
      have len1 : (revTo (fun r => nth L (tri r)) r).length = r := revTo_len _ _
      obtain rfl : r = q1 := by rw [← ri1.1, len1]
      have len2 : (sideR R r).length = r := gen_len _ _
      have len3 : (sideB n B r).length = r := gen_len _ _
      have HHN := Lib.hid hbl
      clear hx1 hx2 hx3 hy1 hy2 hy3
      have W1 : IntKind.i64.wrap ((n : Int) - 1) = (n : Int) - 1 := IntWalk.i64_in _ (by omega)
      have W2 : IntKind.i64.wrap ((n : Int) - 1 - (r : Int)) = (n : Int) - 1 - (r : Int) := IntWalk.i64_in _ (by omega)
      have b1x := one_cell hbl K1.out
      have x1c := one_cell hbl X1.out
      go_wp2_with fail
      go_region_held3 (fun w' => w'.cell? ⟨bx, 1, none⟩ = some (.slice (some ad1) n2 c1) ∧ w'.cell? (ad1.add y1) = some (.int .i64 x1)) (first | exact ⟨b1x, x1c⟩ | exact two_cells bb1 K1.out X1.out | exact two_cells (below_drewN bb1 _) K1.out X1.out | exact two_cells bb1.drew K1.out X1.out | exact two_cells ((below_drewN hbl _).alloc hbl.size _) K1.out X1.out | exact two_cells (below_drewN ((below_drewN hbl _).alloc hbl.size _) _) K1.out X1.out | exact two_cells ((below_drewN hbl _).alloc hbl.size _).drew K1.out X1.out) (first | (go_at_call 93; refine (place_gen _ _ (by omega) (by omega) (by omega) (by omega)).mono ?_; rintro e wq1 ⟨rfl, qq1, rfl⟩) | (refine stepAppI rfl _ _ rfl w2.heap.size (.slice (some ⟨wr.heap.size, 0, none⟩) 1 1) [x1] (revTo (fun r => nth L (tri r)) r) P1 r d1 rfl rfl (by exact OI.lit1 x1 hbl.size) (by exact RI.app ri1) (by first | omega | (simp; omega)) (by have := hbl.size; simp; omega) ?_; intro v1 w8 h11 h12 h13; have bb1 : Below w2.heap.size w2 w8 := below_app hbl h12 hbl.size (fun k hk => by obtain rfl := Option.some.inj hk; exact hbl.size)))
      obtain ⟨A12, A13, A23⟩ := HA.out
      have p1 : OI w8 w2.heap.size u6 (sideR R r) := OI.kept (by exact OI.app o2) h12 (Ap.lit (g := wr.heap.size) (H := wr.heap.size) (v' := .slice (some ⟨wr.heap.size, 0, none⟩) 1 1) (n := 1) (c := 1) (.inl rfl) o2 (Nat.le_refl _) (Nat.le_refl _)).flip
      have p2 : OI w8 w2.heap.size u7 (sideB n B r) := OI.kept (by exact OI.app o3) h12 (Ap.lit (g := wr.heap.size) (H := wr.heap.size) (v' := .slice (some ⟨wr.heap.size, 0, none⟩) 1 1) (n := 1) (c := 1) (.inl rfl) o3 (Nat.le_refl _) (Nat.le_refl _)).flip
      have B12 : Ap v1 u6 := Ap.lit h13 o2 (Nat.le_refl _) (by simp)
      have B13 : Ap v1 u7 := Ap.lit h13 o3 (Nat.le_refl _) (by simp)
      have HB := Lib.hid (⟨B12, B13, A23⟩ : Ap v1 u6 ∧ Ap v1 u7 ∧ Ap u6 u7)
      have HH1 := Lib.hid h11
      clear K0w B12 B13 A12 A13 A23 h13 h12 b1x x1c h11 o1 o2 o3 hbl T1
      have b2x := one_cell bb1 K2.out
      have x2c := one_cell bb1 X2.out
      go_wp2_with fail
      go_region_held3 (fun w' => w'.cell? ⟨bx, 2, none⟩ = some (.slice (some ad2) n2 c2) ∧ w'.cell? (ad2.add y2) = some (.int .i64 x2)) (first | exact ⟨b2x, x2c⟩ | exact two_cells bb2 K2.out X2.out | exact two_cells (below_drewN bb2 _) K2.out X2.out | exact two_cells bb2.drew K2.out X2.out | exact two_cells ((below_drewN bb1 _).alloc bb1.size _) K2.out X2.out | exact two_cells (below_drewN ((below_drewN bb1 _).alloc bb1.size _) _) K2.out X2.out | exact two_cells ((below_drewN bb1 _).alloc bb1.size _).drew K2.out X2.out) (first | (go_at_call 93; refine (place_gen _ _ (by omega) (by omega) (by omega) (by omega)).mono ?_; rintro e wq2 ⟨rfl, qq2, rfl⟩) | (refine stepAppI rfl _ _ rfl w2.heap.size u6 (sideR R r) [x2] (some ⟨w8.heap.size, 0, none⟩) 1 1 rfl rfl (by exact OI.app p1) (by exact RI.one _ _) (by first | omega | (simp; omega)) (by have := bb1.size; simp; omega) ?_; intro v2 w9 h21 h22 h23; have bb2 : Below w2.heap.size w2 w9 := below_app bb1 h22 bb1.size (fun k hk => (p1.lt k hk).1)))
      obtain ⟨A12, A13, A23⟩ := HB.out
      have r1 : OI w9 w2.heap.size v1 ([x1] ++ revTo (fun r => nth L (tri r)) r) := OI.kept (by exact OI.app HH1.out) h22 A12
      have r3 : OI w9 w2.heap.size u7 (sideB n B r) := OI.kept (by exact OI.app p2) h22 A23.flip
      have B12 : Ap v1 v2 := (A12.flip.app h23 HH1.out (by simp)).flip
      have B23 : Ap v2 u7 := A23.app h23 p2 (by simp)
      have HC := Lib.hid (⟨B12, A13, B23⟩ : Ap v1 v2 ∧ Ap v1 u7 ∧ Ap v2 u7)
      have HH2 := Lib.hid h21
      have HR1 := Lib.hid r1
      clear B12 B23 A12 A13 A23 h23 h22 b2x x2c h21 p1 p2 bb1 T2 r1 HH1
      have b3x := one_cell bb2 K3.out
      have x3c := one_cell bb2 X3.out
      have K0x := one_cell bb2 KN.out
      go_wp2_with fail
      go_region_held3 (fun w' => w'.cell? ⟨bx, 0, none⟩ = some (.int .i64 n) ∧ w'.cell? ⟨bx, 3, none⟩ = some (.slice (some ad3) n2 c3) ∧ w'.cell? (ad3.add y3) = some (.int .i64 x3)) (first | exact ⟨K0x, b3x, x3c⟩ | exact three_cells bb3 KN.out K3.out X3.out | exact three_cells (below_drewN bb3 _) KN.out K3.out X3.out | exact three_cells bb3.drew KN.out K3.out X3.out | exact three_cells ((below_drewN bb2 _).alloc bb2.size _) KN.out K3.out X3.out | exact three_cells (below_drewN ((below_drewN bb2 _).alloc bb2.size _) _) KN.out K3.out X3.out | exact three_cells ((below_drewN bb2 _).alloc bb2.size _).drew KN.out K3.out X3.out) (first | (go_at_call 93; refine (place_gen _ _ (by omega) (by omega) (by omega) (by omega)).mono ?_; rintro e wq3 ⟨rfl, qq3, rfl⟩) | (refine stepAppI rfl _ _ rfl w2.heap.size u7 (sideB n B r) [x3] (some ⟨w9.heap.size, 0, none⟩) 1 1 rfl rfl (by exact OI.app r3) (by exact RI.one _ _) (by first | omega | (simp; omega)) (by have := bb2.size; simp; omega) ?_; intro v3 w10 h31 h32 h33; have bb3 : Below w2.heap.size w2 w10 := below_app bb2 h32 bb2.size (fun k hk => (r3.lt k hk).1)))
      obtain ⟨A12, A13, A23⟩ := HC.out
      have t1 : OI w10 w2.heap.size v1 ([x1] ++ revTo (fun r => nth L (tri r)) r) := OI.kept (by exact OI.app HR1.out) h32 A13
      have t2 : OI w10 w2.heap.size v2 (sideR R r ++ [x2]) := OI.kept (by exact OI.app HH2.out) h32 A23
      have B13 : Ap v1 v3 := (A13.flip.app h33 HR1.out (by simp)).flip
      have B23 : Ap v2 v3 := (A23.flip.app h33 HH2.out (by simp)).flip
      have HD := Lib.hid (⟨A12, B13, B23⟩ : Ap v1 v2 ∧ Ap v1 v3 ∧ Ap v2 v3)
      have HO := Lib.hid (⟨t1, t2, h31⟩ : OI w10 w2.heap.size v1 ([x1] ++ revTo (fun r => nth L (tri r)) r) ∧ OI w10 w2.heap.size v2 (sideR R r ++ [x2]) ∧ OI w10 w2.heap.size v3 (sideB n B r ++ [x3]))
      clear B13 B23 A12 A13 A23 h33 h32 b3x x3c h31 t1 t2 bb2 T3 HC HH2 HR1 r3
      go_wp2
      go_roundw
      case rel => exact ⟨r + 1, by omega, by go_num, by rw [S1.out]; exact HO.out.1, by rw [S2.out]; exact HO.out.2.1, by rw [S3.out]; exact HO.out.2.2, HD, bb3⟩
      case measure => simp [intOf]; omega
    · obtain rfl : r = n := by omega
      have HO := Lib.hid (⟨o1, o2, o3⟩ : OI wr w2.heap.size (.slice P1 q1 d1) (revTo (fun r => nth L (tri r)) r) ∧ OI wr w2.heap.size u6 (sideR R r) ∧ OI wr w2.heap.size u7 (sideB r B r))
      obtain ⟨P2, q2, d2, rfl, -⟩ := o2.form
      obtain ⟨P3, q3, d3, rfl, -⟩ := o3.form
      clear o1 o2 o3
      go_wp2
      refine bodyPost_ret (v := .tuple #[.slice P1 q1 d1, .slice P2 q2 d2, .slice P3 q3 d3]) (by simp [results, Try.results54, go_sem]; try rfl) rfl ?_
      exact ⟨P1, q1, d1, P2, q2, d2, P3, q3, d3, rfl, ⟨by rw [sideL, ← revTo_gen (fun r => nth L (tri r))]; exact HO.out.1.mono g2.size, HO.out.2.1.mono g2.size, HO.out.2.2.mono g2.size, HA.out⟩, bnext g2 hbl g2.size⟩
end Go.Proofs.Ytnljlophgolejaa
