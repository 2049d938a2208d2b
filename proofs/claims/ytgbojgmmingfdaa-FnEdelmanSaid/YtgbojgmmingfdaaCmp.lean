/- slices.Compare and slices.Clone at []int; the closures that compare a part's shape with another. -/
import Derived.Test.YtgbojgmmingfdaaPlain
import Derived.Test.YtgbojgmmingfdaaShapes
import Derived.Test.YtgbojgmmingfdaaDraw
import Derived.Test.YtgbojgmmingfdaaWords
namespace Go.Proofs.Ytgbojgmmingfdaa
open Go.RowKit

theorem cmpB_same {a b : List Int} {k : Nat} (ha : k < a.length) (hb : k < b.length) (h : nth a k = nth b k) : cmpB (a.drop k) (b.drop k) = cmpB (a.drop (k + 1)) (b.drop (k + 1)) := by
  unfold cmpB
  rw [lexLt_same ha hb h, drop_nth ha, drop_nth hb, h]
  simp only [List.cons.injEq, true_and]
theorem cmpB_lt {a b : List Int} {k : Nat} (ha : k < a.length) (hb : k < b.length) (h : nth a k < nth b k) : cmpB (a.drop k) (b.drop k) = -1 := by
  unfold cmpB
  rw [lexLt_diff ha hb (by omega), if_pos (by simpa using h)]
theorem cmpB_gt {a b : List Int} {k : Nat} (ha : k < a.length) (hb : k < b.length) (h : nth b k < nth a k) : cmpB (a.drop k) (b.drop k) = 1 := by
  unfold cmpB
  rw [lexLt_diff ha hb (by omega), if_neg (by simp; omega), drop_nth ha, drop_nth hb, if_neg (by simp; omega)]
theorem cmpB_end1 {a b : List Int} {k : Nat} (ha : k = a.length) (hb : k < b.length) : cmpB (a.drop k) (b.drop k) = -1 := by
  unfold cmpB
  rw [lexLt_end (.inl ha) (by omega) (by omega), if_pos (by simp; omega)]
theorem cmpB_end0 {a b : List Int} {k : Nat} (ha : k = a.length) (hb : k = b.length) : cmpB (a.drop k) (b.drop k) = 0 := by
  unfold cmpB
  rw [lexLt_end (.inl ha) (by omega) (by omega), if_neg (by simp; omega), List.drop_eq_nil_of_le (by omega), List.drop_eq_nil_of_le (by omega), if_pos rfl]
theorem cmpB_end2 {a b : List Int} {k : Nat} (ha : k < a.length) (hb : k = b.length) : cmpB (a.drop k) (b.drop k) = 1 := by
  unfold cmpB
  rw [lexLt_end (.inr hb) (by omega) (by omega), if_neg (by simp; omega), drop_nth ha, show b.drop k = [] from List.drop_eq_nil_of_le (by omega), if_neg (by simp)]

theorem isNaN_any {w : World} (a : Int) : Calls Try.prog 185 #[.int .i64 a] w (Gives w (.bool false)) := by
  go_enter Try.func185, Try.ntmps185
  go_wp2
  go_ret
  exact ⟨by simp, Quiet.refl _⟩
theorem icmp_lt {w : World} {a b : Int} (h : a < b) : Calls Try.prog 147 #[.int .i64 a, .int .i64 b] w (Gives w (.int .i64 (-1))) := by
  go_enter Try.func147, Try.ntmps147
  go_wp2_with (go_at_call 185; refine (isNaN_any _).mono ?_; rintro e w' ⟨rfl, q0, rfl⟩)
  go_ret
  exact ⟨rfl, (by first | exact ⟨_, rfl⟩ | exact ⟨_, (World.drewN_drewN _ _ _).symm⟩ | exact Quiet.refl _ | (simp only [World.drewN_drewN]; exact ⟨_, rfl⟩))⟩
theorem icmp_gt {w : World} {a b : Int} (h : b < a) : Calls Try.prog 147 #[.int .i64 a, .int .i64 b] w (Gives w (.int .i64 1)) := by
  have h' : ¬ a < b := by omega
  go_enter Try.func147, Try.ntmps147
  go_wp2_with (go_at_call 185; refine (isNaN_any _).mono ?_; rintro e w' ⟨rfl, q0, rfl⟩)
  go_ret
  exact ⟨rfl, (by first | exact ⟨_, rfl⟩ | exact ⟨_, (World.drewN_drewN _ _ _).symm⟩ | exact Quiet.refl _ | (simp only [World.drewN_drewN]; exact ⟨_, rfl⟩))⟩
theorem icmp_eq {w : World} {a : Int} : Calls Try.prog 147 #[.int .i64 a, .int .i64 a] w (Gives w (.int .i64 0)) := by
  go_enter Try.func147, Try.ntmps147
  go_wp2_with (go_at_call 185; refine (isNaN_any _).mono ?_; rintro e w' ⟨rfl, q0, rfl⟩)
  go_ret
  exact ⟨rfl, (by first | exact ⟨_, rfl⟩ | exact ⟨_, (World.drewN_drewN _ _ _).symm⟩ | exact Quiet.refl _ | (simp only [World.drewN_drewN]; exact ⟨_, rfl⟩))⟩
theorem ret_int {a b : Int} (h : a = b) : Ending.returned (.int .i64 a) = .returned (.int .i64 b) := by rw [h]

theorem compare_any {A C : Option Addr} {n m : Nat} {xs ys : List Int} {w : World} (c d : Nat) (hx : RI w A n xs) (hy : RI w C m ys) (hn : n ≤ 9223372036854775807) (hm : m ≤ 9223372036854775807) :
    Calls Try.prog 82 #[.slice A n c, .slice C m d] w (Gives w (.int .i64 (cmpB xs ys))) := by
  have HL1 := Lib.hid hx.1
  have HL2 := Lib.hid hy.1
  go_enter Try.func82, Try.ntmps82
  go_wp2
  go_loopw [5, 6, 7, 8, 11] (fun _ _ _ _ i wr => ∃ k : Nat, k ≤ n ∧ k ≤ m ∧ i = .int .i64 k ∧ Quiet w wr ∧ Hid (cmpB (xs.drop k) (ys.drop k) = cmpB xs ys)) (fun _ _ _ _ i _ => n - (intOf i).toNat)
  case atStart => exact ⟨0, Nat.zero_le _, Nat.zero_le _, rfl, (by first | exact ⟨_, rfl⟩ | exact ⟨_, (World.drewN_drewN _ _ _).symm⟩ | exact Quiet.refl _ | (simp only [World.drewN_drewN]; exact ⟨_, rfl⟩)), rfl⟩
  case round =>
    obtain ⟨k, hk, hk2, rfl, ⟨q, rfl⟩, HT⟩ := hrel
    by_cases hlt : k < n
    · obtain ⟨ad, hA, hc⟩ := hx.cell hlt
      subst hA
      by_cases hlt2 : k < m
      · obtain ⟨ad', hA', hc'⟩ := hy.cell hlt2
        subst hA'
        obtain ⟨x, hxx⟩ : ∃ x, x = nth xs k := ⟨_, rfl⟩
        obtain ⟨y, hyy⟩ : ∃ y, y = nth ys k := ⟨_, rfl⟩
        rw [← hxx] at hc
        rw [← hyy] at hc'
        have HX := Lib.hid hxx
        have HY := Lib.hid hyy
        clear hxx hyy
        rcases Int.lt_trichotomy x y with h | h | h
        · go_wp2_with (go_at_call 147; refine (icmp_lt h).mono ?_; rintro e w' ⟨rfl, q0, rfl⟩)
          go_ret
          exact ⟨ret_int ((cmpB_lt (by rw [HL1.out]; exact hlt) (by rw [HL2.out]; exact hlt2) (by rw [← HX.out, ← HY.out]; exact h)).symm.trans HT.out), (by first | exact ⟨_, rfl⟩ | exact ⟨_, (World.drewN_drewN _ _ _).symm⟩ | exact Quiet.refl _ | (simp only [World.drewN_drewN]; exact ⟨_, rfl⟩))⟩
        · subst h
          go_wp2_with (go_at_call 147; refine (icmp_eq).mono ?_; rintro e w' ⟨rfl, q0, rfl⟩)
          go_roundw
          case rel => exact ⟨k + 1, by omega, by omega, by go_num, (by first | exact ⟨_, rfl⟩ | exact ⟨_, (World.drewN_drewN _ _ _).symm⟩ | exact Quiet.refl _ | (simp only [World.drewN_drewN]; exact ⟨_, rfl⟩)), (cmpB_same (by rw [HL1.out]; exact hlt) (by rw [HL2.out]; exact hlt2) (by rw [← HX.out, ← HY.out])).symm.trans HT.out⟩
          case measure => simp [intOf]; omega
        · go_wp2_with (go_at_call 147; refine (icmp_gt h).mono ?_; rintro e w' ⟨rfl, q0, rfl⟩)
          go_ret
          exact ⟨ret_int ((cmpB_gt (by rw [HL1.out]; exact hlt) (by rw [HL2.out]; exact hlt2) (by rw [← HX.out, ← HY.out]; exact h)).symm.trans HT.out), (by first | exact ⟨_, rfl⟩ | exact ⟨_, (World.drewN_drewN _ _ _).symm⟩ | exact Quiet.refl _ | (simp only [World.drewN_drewN]; exact ⟨_, rfl⟩))⟩
      · go_wp2
        go_ret
        exact ⟨ret_int ((cmpB_end2 (by rw [HL1.out]; exact hlt) (by rw [HL2.out]; omega)).symm.trans HT.out), (by first | exact ⟨_, rfl⟩ | exact ⟨_, (World.drewN_drewN _ _ _).symm⟩ | exact Quiet.refl _ | (simp only [World.drewN_drewN]; exact ⟨_, rfl⟩))⟩
    · obtain rfl : k = n := by omega
      by_cases hlt2 : k < m
      · go_wp2
        go_ret
        exact ⟨ret_int ((cmpB_end1 HL1.out.symm (by rw [HL2.out]; exact hlt2)).symm.trans HT.out), (by first | exact ⟨_, rfl⟩ | exact ⟨_, (World.drewN_drewN _ _ _).symm⟩ | exact Quiet.refl _ | (simp only [World.drewN_drewN]; exact ⟨_, rfl⟩))⟩
      · go_wp2
        go_ret
        exact ⟨ret_int ((cmpB_end0 HL1.out.symm (by rw [HL2.out]; omega)).symm.trans HT.out), (by first | exact ⟨_, rfl⟩ | exact ⟨_, (World.drewN_drewN _ _ _).symm⟩ | exact Quiet.refl _ | (simp only [World.drewN_drewN]; exact ⟨_, rfl⟩))⟩

theorem clone_any {A : Option Addr} {n : Nat} {l : List Int} {w : World} (c : Nat) (hx : RI w A n l) (hn : n ≤ 1000000000) :
    Calls Try.prog 134 #[.slice A n c] w (Makes w l) := by
  have heq := fun (w : World) (a : Option Addr) (n c : Nat) => Lib.run_eql_slice_nil (P := Try.prog) w 22 3 a n c 0 0 Try.underlying22
  rcases A with _ | ad
  · have hn0 : n = 0 := by
      rcases Nat.eq_zero_or_pos n with h | h
      · exact h
      · obtain ⟨_, e, _⟩ := hx.2 h; cases e
    subst hn0
    obtain rfl : l = [] := List.eq_nil_of_length_eq_zero hx.1
    go_enter Try.func134, Try.ntmps134
    go_wp2
    go_ret
    exact Makes.nil (Below.refl _ _)
  · have HL := Lib.hid hx.1
    go_enter Try.func134, Try.ntmps134
    go_wp2_with (at_builtin; refine wpAppI2 rfl _ _ rfl w.heap.size (.slice (some ⟨w.heap.size, 0, none⟩) 0 0) [] l (some ad) n c rfl rfl (by exact OI.lit w w.heap.size [] 0 rfl (Nat.le_refl _) (by simp)) (by exact hx.alloc _) (by simp; omega) (by simp) ?_; intro A3 n3 c3 w3 h1 h2 h3)
    go_ret
    rw [List.nil_append] at h1
    exact Makes.of h1 (((Below.refl _ _).alloc (Nat.le_refl _) _).grown h2 (by simp) (by simp [Value.ownBlock])) (by rw [HL.out]; omega)

/-- A part's shape is compared with another. -/
theorem partCmp_any {A C : Option Addr} {n m : Nat} {xs ys : List Int} {w : World} (p : Int) (c d : Nat) (hx : RI w A n xs) (hy : RI w C m ys) (hn : n ≤ 9223372036854775807) (hm : m ≤ 9223372036854775807) :
    Calls Try.prog 178 #[.agg #[.slice A n c, .int .i64 p], .slice C m d] w (GivesB w (.int .i64 (cmpB xs ys))) := by
  go_enter Try.func178, Try.ntmps178
  go_wp2_with fail
  refine (compare_any _ _ (hx.alloc _) (hy.alloc _) hn hm).mono ?_
  rintro e w1 ⟨rfl, q, rfl⟩
  go_wp2
  go_ret
  exact ⟨rfl, below_drewN ((Below.refl _ _).alloc (Nat.le_refl _) _) _⟩
end Go.Proofs.Ytgbojgmmingfdaa

/- exchanged and MonomialPoly of the program. -/
namespace Go.Proofs.Ytgbojgmmingfdaa
open Go.RowKit

def swapL (l : List Int) (a b : Nat) : List Int := (l.set a (nth l b)).set b (nth l a)
theorem swapL_len (l : List Int) (a b : Nat) : (swapL l a b).length = l.length := by simp [swapL]
theorem grown_two {w w1 w2 w3 : World} {g : Nat} (b : Below w.heap.size w w1) (h1 : w1.grownBy w2 (some g)) (h2 : w2.grownBy w3 (some g)) (hg : w.heap.size ≤ g) : Below w.heap.size w w3 :=
  (b.grown h1 b.size fun k hk => by injection hk; omega).grown h2 (Nat.le_trans b.size h1.size) fun k hk => by injection hk; omega
set_option maxRecDepth 100000 in
set_option maxHeartbeats 2000000 in
theorem exchanged_any {A : Option Addr} {n : Nat} {l : List Int} {w : World} (c : Nat) (a b : Nat) (hx : RI w A n l) (hn : n ≤ 1000000000) (ha : a < n) (hb : b < n) (hab : a ≠ b) :
    Calls Try.prog 99 #[.slice A n c, .int .i64 (a : Int), .int .i64 (b : Int)] w (Makes w (swapL l a b)) := by
  have HCL : Hid (Calls Try.prog 134 #[.slice A n c] w (Makes w l)) := clone_any c hx hn
  have HLn : Hid (l.length = n) := hx.1
  clear hx
  go_enter Try.func99, Try.ntmps99
  go_wp2_with (go_at_call 134; refine HCL.out.mono ?_; rintro e w1 ⟨A1, n1, c1, rfl, o1, r1, ⟨cp1, le1⟩, b1⟩)
  obtain rfl : n1 = n := r1.1.symm.trans HLn.out
  obtain ⟨g, rfl⟩ : ∃ g, A1 = some ⟨g, 0, none⟩ := by
    rcases o1.2 with ⟨he, hl⟩ | ⟨g, cap, cur, he, _⟩
    · injection he with h1 h2 h3
      omega
    · injection he with h1 h2 h3
      exact ⟨g, h1⟩
  have hg : w.heap.size ≤ g := (o1.lt g rfl).1
  obtain ⟨x, hx⟩ : ∃ x, x = nth l a := ⟨_, rfl⟩
  obtain ⟨y, hy⟩ : ∃ y, y = nth l b := ⟨_, rfl⟩
  have z1 : w1.cell? ⟨g, a, none⟩ = some (.int .i64 x) := by rw [hx]; exact o1.cellAt (by omega)
  have z0 : w1.cell? ⟨g, b, none⟩ = some (.int .i64 y) := by rw [hy]; exact o1.cellAt (by omega)
  have f1 := o1.frozenAt a
  have f0 := o1.frozenAt b
  obtain ⟨r1', r2⟩ := o1.stored a y
  obtain ⟨r3, r4⟩ := r1'.stored b x
  have HF : Hid (OI ((w1.setCell ⟨g, a, none⟩ (.int .i64 y)).setCell ⟨g, b, none⟩ (.int .i64 x)) w.heap.size (.slice (some ⟨g, 0, none⟩) n1 c1) (swapL l a b) ∧ Below w.heap.size w ((w1.setCell ⟨g, a, none⟩ (.int .i64 y)).setCell ⟨g, b, none⟩ (.int .i64 x))) := by
    refine ⟨?_, grown_two b1 r2 r4 hg⟩
    rw [swapL, ← hx, ← hy]
    exact r3
  have han : (a : Int) < (n1 : Int) := by omega
  have hbn : (b : Int) < (n1 : Int) := by omega
  have hne : a ≠ b := hab
  have hne2 : b ≠ a := by omega
  have HL1 : Hid ((swapL l a b).length = n1) := (swapL_len l a b).trans HLn.out
  clear r1 r1' r2 r3 r4 hx hy o1 b1 hg cp1 le1
  go_wp2_with fail
  go_region
  all_goals go_wp2
  go_ret
  have HW : Below w.heap.size w ((w1.setCell ⟨g, a, none⟩ (.int .i64 y)).setCell ⟨g, b, none⟩ (.int .i64 x)).drew := HF.out.2.drew
  exact Makes.of (HF.out.1.below ((Below.refl _ _).drew)) HW (by rw [HL1.out]; omega)
end Go.Proofs.Ytgbojgmmingfdaa

/- slices.BinarySearchFunc over parts. -/
namespace Go.Proofs.Ytgbojgmmingfdaa
open Go.RowKit

/-- Whether the shape stands at its place. -/
def fndB (ps : List (List Int × Int)) (s : List Int) (p : Nat) : Bool := decide (p < ps.length ∧ (nthP ps p).1 = s)
theorem Place.below {ps : List (List Int × Int)} {s : List Int} {p h : Nat} (hp : Place ps s p) (hh : h < ps.length) : cmpB (nthP ps h).1 s < 0 ↔ h < p := by
  rw [cmpB_neg]
  constructor
  · intro h1
    by_cases h2 : h < p
    · exact h2
    · have := hp.hi h (by omega) hh
      rw [this] at h1; cases h1
  · exact hp.lo h

set_option maxRecDepth 100000 in
set_option maxHeartbeats 1000000 in
theorem bin_fill {w : World} {base b n m : Nat} {A0 A : Option Addr} {ps : List (List Int × Int)} {cells : List Value} {s : List Int} {p : Nat} (c0 d : Nat)
    (h : OP w base b (.slice A0 n c0) ps cells) (hx : RI w A m s) (hp : Place ps s p) (hn : n ≤ 1000000000000) (hm : m ≤ 1000000000000) (hl : ∀ k, k < ps.length → (nthP ps k).1.length ≤ 1000000000000) :
    Calls Try.prog 80 #[.slice A0 n c0, .slice A m d, .func (.func 178) #[] #[]] w
      (fun e w' => e = .returned (.tuple #[.int .i64 (p : Int), .bool (fndB ps s p)]) ∧ Below w.heap.size w w') := by
  obtain ⟨A', n', c', hv, hn0, hc, _⟩ := h.form
  obtain ⟨rfl, rfl, rfl⟩ := slice_inj hv
  have hle := hp.le
  rw [hn0] at hle
  have HN := Lib.hid hn0
  clear hv hn0
  go_enter Try.func80, Try.ntmps80
  go_wp2
  go_loopw [9, 10, 11] (fun i j _ wr => ∃ a q : Nat, a ≤ p ∧ p ≤ q ∧ q ≤ n ∧ i = .int .i64 (a : Int) ∧ j = .int .i64 (q : Int) ∧ Below w.heap.size w wr) (fun i j _ _ => (intOf j).toNat - (intOf i).toNat)
  case atStart => exact ⟨0, n, Nat.zero_le _, hle, Nat.le_refl _, rfl, rfl, Below.refl _ _⟩
  case round =>
    obtain ⟨a, q, h1, h2, h3, rfl, rfl, hb⟩ := hrel
    by_cases hlt : a < q
    · have ho := OP.below h hb
      obtain ⟨G, cc, hG, _⟩ := OF.shape ho (by rw [HN.out]; omega)
      obtain ⟨rfl, e2, e3⟩ := slice_inj hG
      clear e2 e3 hG
      have hH1 : a ≤ (a + q) / 2 ∧ (a + q) / 2 < q := by omega
      obtain ⟨hH2, hH3⟩ := hH1
      have hHl : (a + q) / 2 < ps.length := by rw [HN.out]; omega
      obtain ⟨A1, n1, c1, k1, _, k2, _, k4⟩ := OP.cell ho (k := (a + q) / 2) hHl
      have hlen := hl _ hHl
      rw [k2.ri.1] at hlen
      have hb1 := hp.below hHl
      have HB1 := Lib.hid hb1
      clear hb1 hHl
      go_wp2_with fail
      refine (partCmp_any _ _ _ k2.ri (hx.below hb) (by omega) (by omega)).mono ?_
      rintro e w1 ⟨rfl, b1⟩
      have g1 := bnext hb b1 hb.size
      by_cases hlo : (a + q) / 2 < p
      · have hneg := HB1.out.2 hlo
        go_wp2
        go_roundw
        case rel => exact ⟨(a + q) / 2 + 1, q, by omega, h2, h3, by go_num, by go_num, g1⟩
        case measure => simp [intOf]; omega
      · have hneg : ¬ cmpB (nthP ps ((a + q) / 2)).1 s < 0 := fun hh => hlo (HB1.out.1 hh)
        go_wp2
        go_roundw
        case rel => exact ⟨a, (a + q) / 2, h1, by omega, by omega, by go_num, by go_num, g1⟩
        case measure => simp [intOf]; omega
    · obtain rfl : a = q := by omega
      obtain rfl : a = p := by omega
      by_cases hlt : a < n
      · have ho := OP.below h hb
        obtain ⟨G, cc, hG, _⟩ := OF.shape ho (by rw [HN.out]; omega)
        obtain ⟨rfl, e2, e3⟩ := slice_inj hG
        clear e2 e3 hG
        have hHl : a < ps.length := by rw [HN.out]; exact hlt
        obtain ⟨A1, n1, c1, k1, _, k2, _, k4⟩ := OP.cell ho (k := a) hHl
        have hlen := hl _ hHl
        rw [k2.ri.1] at hlen
        have HF : Hid (fndB ps s a = (cmpB (nthP ps a).1 s == 0)) := by
          show fndB ps s a = _
          unfold fndB
          rw [Bool.eq_iff_iff, beq_iff_eq, cmpB_zero, decide_eq_true_eq]
          exact ⟨fun h => h.2, fun h => ⟨hHl, h⟩⟩
        clear hHl
        go_wp2_with fail
        refine (partCmp_any _ _ _ k2.ri (hx.below hb) (by omega) (by omega)).mono ?_
        rintro e w1 ⟨rfl, b1⟩
        have g1 := bnext hb b1 hb.size
        go_wp2
        go_ret2
        exact ⟨by rw [HF.out]; rfl, g1⟩
      · have HF : Hid (fndB ps s a = false) := by
          show fndB ps s a = false
          unfold fndB
          rw [HN.out]
          simp; omega
        go_wp2
        go_ret2
        exact ⟨by rw [HF.out]; rfl, hb⟩

end Go.Proofs.Ytgbojgmmingfdaa
