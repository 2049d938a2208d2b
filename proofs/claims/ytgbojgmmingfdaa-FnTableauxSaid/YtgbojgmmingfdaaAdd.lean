/- l4Add of the reference: a shape is added some times to an ascending list of parts. -/
import Derived.Test.YtgbojgmmingfdaaWords
import Derived.Test.YtgbojgmmingfdaaShapes
namespace Go.Proofs.Ytgbojgmmingfdaa
open Go.RowKit

set_option maxRecDepth 100000 in
set_option maxHeartbeats 1600000 in
theorem l4Add_any {A : Option Addr} {n : Nat} {s : List Int} {v0 : Value} {base b : Nat} {ps : List (List Int × Int)} {cells : List Value} {w : World} (c : Nat) (y : Int) (h : OP w base b v0 ps cells) (hx : RI w A n s)
    (hn : n ≤ 1000000) (hm : ps.length ≤ 100000000000) (hp : SmallP ps) (hy1 : -1000000000000 ≤ y) (hy2 : y ≤ 1000000000000) :
    Calls Try.prog 73 #[v0, .slice A n c, .int .i64 y] w (MakesP w (addP ps s y)) := by
  obtain ⟨A0, m, c0, rfl, hl0, hc0, _⟩ := h.form
  have HL := Lib.hid hl0
  have HS := Lib.hid hx.1
  have HP := Lib.hid hp
  have hm' : m ≤ 100000000000 := by omega
  clear hl0 hp hm
  go_enter Try.func73, Try.ntmps73
  go_wp2
  go_loopw [7, 8, 9] (fun u d i wr => ∃ (k : Nat) (cs : List Value), k ≤ m ∧ i = .int .i64 k ∧ d = .bool (addUp ps s y k).2 ∧ OP wr w.heap.size w.heap.size u (addUp ps s y k).1 cs ∧ Below w.heap.size w wr) (fun _ _ i _ => m - (intOf i).toNat)
  case atStart => exact ⟨0, [], Nat.zero_le _, rfl, rfl, OP.lit w _ _ (Nat.le_refl _), (Below.refl _ _).alloc (Nat.le_refl _) _⟩
  case round =>
    obtain ⟨k, cs, hk, rfl, rfl, ho, hbl⟩ := hrel
    have hsz := hbl.size
    have hlen := (addUp_len ps s y k).1
    have hxr := hx.below hbl
    by_cases hlt : k < m
    · obtain ⟨G, cc, hG, _⟩ := OF.shape h (by rw [HL.out]; omega)
      obtain ⟨rfl, e2, e3⟩ := slice_inj hG
      clear e2 e3 hG
      obtain ⟨A1, n1, c1, k1, _, k2, k3, k4⟩ := OP.cell h (k := k) (by rw [HL.out]; exact hlt)
      obtain ⟨p1, p2, p3⟩ := HP.out k (by rw [HL.out]; exact hlt)
      rw [k2.ri.1] at p1
      have hr0 := k2.ri
      have hri := hr0.below hbl
      obtain ⟨x1, x4⟩ := two_cells hbl k1 k4
      have K1 := Lib.hid k1
      have K4 := Lib.hid k4
      clear k1 k2 k4
      rcases hd : (addUp ps s y k).2 with _ | _
      · have HD := Lib.hid hd
        rcases Bool.eq_false_or_eq_true (lexLt (nthP ps k).1 s) with hl | hl
        · have HLt := Lib.hid hl
          clear hd
          go_wp2_with (go_at_call 143; refine (l1Less_any _ _ hri hxr (by omega) (by omega)).mono ?_; rintro e w' ⟨rfl, q0, rfl⟩)
          go_region_held3 (fun w' => w'.cell? ⟨G, k * 2, none⟩ = some (.slice A1 n1 c1) ∧ w'.cell? ⟨G, k * 2 + 1, none⟩ = some (.int .i64 (nthP ps k).2)) (first | exact ⟨x1, x4⟩ | exact two_cells bb2 K1.out K4.out | exact two_cells (bb2.alloc bb2.size _) K1.out K4.out | exact two_cells bb3 K1.out K4.out) (first
            | (go_at_call 117; refine (l1Ints_any _ (hri.drewN _) (by omega)).mono ?_; rintro e w2 ⟨A2, n2, c2, rfl, o2, r2, cp2, b2⟩; have bb2 := bnext (below_drewN hbl _) b2 hsz)
            | (refine stepAppP rfl _ _ rfl w.heap.size w.heap.size u7 (.slice A2 n2 c2) (addUp ps s y k).1 cs (nthP ps k).1 (nthP ps k).2 rfl rfl (OP.below ho (bnext (Quiet.below ⟨_, rfl⟩) b2 (Nat.le_refl _))) (o2.mono hsz) (apart_new ho.2.1 (Nat.le_refl _) o2) (by first | omega | (simp; omega)) bb2.size ?_; intro v' w' h1 h2 h3; have bb3 := (bb2.alloc bb2.size _).grown h2 (by have := bb2.size; simp; omega) (fun k hk => (OF.lt ho k hk).1)))
          go_wp2
          go_roundw
          case rel => exact ⟨k + 1, cs ++ [.slice A2 n2 c2, .int .i64 (nthP ps k).2], by omega, by go_num, by rw [addUp_less HD.out HLt.out], by rw [addUp_less HD.out HLt.out]; exact h1, bb3⟩
          case measure => simp [intOf]; omega
        · have HLt := Lib.hid hl
          clear hd
          by_cases hs : (nthP ps k).1 = s
          · have HSm := Lib.hid hs
            clear hs
            by_cases hz : (nthP ps k).2 + y = 0
            · have HZ := Lib.hid hz
              have hz1 : ((nthP ps k).2 + y != 0) = false := by simpa using hz
              clear hz
              go_wp2_with (first | (go_at_call 143; refine (l1Less_any _ _ hri hxr (by omega) (by omega)).mono ?_; rintro e w' ⟨rfl, q0, rfl⟩) | (go_at_call 144; refine (l1Same_any true _ _ (hri.drewN _) (hxr.drewN _) (by rw [HSm.out]; simp) (by omega) (by omega)).mono ?_; rintro e w' ⟨rfl, q0, rfl⟩))
              go_roundw
              case rel => exact ⟨k + 1, cs, by omega, by go_num, by rw [addUp_gone HD.out HLt.out HSm.out HZ.out], by rw [addUp_gone HD.out HLt.out HSm.out HZ.out]; exact ho.below (Quiet.below ⟨_, rfl⟩), below_drewN hbl _⟩
              case measure => simp [intOf]; omega
            · have HZ := Lib.hid hz
              have hz1 : ((nthP ps k).2 + y != 0) = true := by simpa using hz
              clear hz
              have hw1 : IntKind.i64.wrap ((nthP ps k).2 + y) = (nthP ps k).2 + y := IntWalk.i64_in _ (by omega)
              have HW1 := Lib.hid hw1
              clear hw1
              go_wp2_with (first | (go_at_call 143; refine (l1Less_any _ _ hri hxr (by omega) (by omega)).mono ?_; rintro e w' ⟨rfl, q0, rfl⟩) | (go_at_call 144; refine (l1Same_any true _ _ (hri.drewN _) (hxr.drewN _) (by rw [HSm.out]; simp) (by omega) (by omega)).mono ?_; rintro e w' ⟨rfl, q0, rfl⟩))
              have hw1 := HW1.out
              go_region_held3 (fun w' => w'.cell? ⟨G, k * 2, none⟩ = some (.slice A1 n1 c1) ∧ w'.cell? ⟨G, k * 2 + 1, none⟩ = some (.int .i64 (nthP ps k).2)) (first | exact ⟨x1, x4⟩ | exact two_cells bb2 K1.out K4.out | exact two_cells (bb2.alloc bb2.size _) K1.out K4.out | exact two_cells bb3 K1.out K4.out) (first
                | (go_at_call 117; refine (l1Ints_any _ (hxr.drewN _) (by omega)).mono ?_; rintro e w2 ⟨A2, n2, c2, rfl, o2, r2, cp2, b2⟩; have bb2 := bnext (below_drewN hbl _) b2 hsz)
                | (refine stepAppP rfl _ _ rfl w.heap.size w.heap.size u7 (.slice A2 n2 c2) (addUp ps s y k).1 cs s ((nthP ps k).2 + y) rfl rfl (OP.below ho (bnext (Quiet.below ⟨_, rfl⟩) b2 (Nat.le_refl _))) (o2.mono hsz) (apart_new ho.2.1 (Nat.le_refl _) o2) (by omega) bb2.size ?_; intro v' w' h1 h2 h3; have bb3 := (bb2.alloc bb2.size _).grown h2 (by have := bb2.size; simp; omega) (fun k hk => (OF.lt ho k hk).1)))
              clear hw1
              go_wp2
              go_roundw
              case rel => exact ⟨k + 1, cs ++ [.slice A2 n2 c2, .int .i64 ((nthP ps k).2 + y)], by omega, by go_num, by rw [addUp_more HD.out HLt.out HSm.out HZ.out], by rw [addUp_more HD.out HLt.out HSm.out HZ.out]; exact h1, bb3⟩
              case measure => simp [intOf]; omega
          · have HSm := Lib.hid hs
            have hsd : false = decide ((nthP ps k).1 = s) := by simp [hs]
            clear hs
            have HSD := Lib.hid hsd
            clear hsd
            go_wp2_with (first
              | (go_at_call 143; refine (l1Less_any _ _ hri hxr (by omega) (by omega)).mono ?_; rintro e w' ⟨rfl, q0, rfl⟩)
              | (go_at_call 144; refine (l1Same_any false _ _ (hri.drewN _) (hxr.drewN _) HSD.out (by omega) (by omega)).mono ?_; rintro e w' ⟨rfl, q0, rfl⟩)
              | (go_at_call 117; refine (l1Ints_any _ (hxr.drewN _) (by omega)).mono ?_; rintro e w4 ⟨A4, n4, c4, rfl, o4, r4, cp4, b4⟩; have bb4 := bnext (below_drewN hbl _) b4 hsz)
              | (at_builtin; refine wpAppP rfl _ _ rfl w.heap.size w.heap.size u7 (.slice A4 n4 c4) (addUp ps s y k).1 cs s y rfl rfl (by exact OP.below ho (bnext (Quiet.below ⟨_, rfl⟩) b4 (Nat.le_refl _))) (by exact o4.mono hsz) (by exact apart_new ho.2.1 (Nat.le_refl _) o4) (by omega) (by exact bb4.size) ?_; intro v5 w5 g1 g2 g3; have bb5 := (bb4.alloc bb4.size _).grown g2 (by have := bb4.size; simp; omega) (fun k hk => (OF.lt ho k hk).1); obtain ⟨y1, y4⟩ := two_cells bb5 K1.out K4.out))
            have hr5 := hr0.below bb5
            have hs5 := bb5.size
            go_region_held3 (fun w' => w'.cell? ⟨G, k * 2, none⟩ = some (.slice A1 n1 c1) ∧ w'.cell? ⟨G, k * 2 + 1, none⟩ = some (.int .i64 (nthP ps k).2)) (first | exact ⟨y1, y4⟩ | exact two_cells bb2 K1.out K4.out | exact two_cells (bb2.alloc bb2.size _) K1.out K4.out | exact two_cells bb3 K1.out K4.out) (first
              | (go_at_call 117; refine (l1Ints_any _ (hr5.drewN _) (by omega)).mono ?_; rintro e w2 ⟨A2, n2, c2, rfl, o2, r2, cp2, b2⟩; have bb2 := bnext (below_drewN bb5 _) b2 hs5)
              | (refine stepAppP rfl _ _ rfl w.heap.size w.heap.size v5 (.slice A2 n2 c2) ((addUp ps s y k).1 ++ [(s, y)]) (cs ++ [.slice A4 n4 c4, .int .i64 y]) (nthP ps k).1 (nthP ps k).2 rfl rfl (OP.below g1 (bnext (Quiet.below ⟨_, rfl⟩) b2 (Nat.le_refl _))) (o2.mono hs5) (apart_new g1.2.1 (Nat.le_refl _) o2) (by simp; omega) bb2.size ?_; intro v' w' h1 h2 h3; have bb3 := (bb2.alloc bb2.size _).grown h2 (by have := bb2.size; simp; omega) (fun k hk => (OF.lt g1 k hk).1)))
            go_wp2
            go_roundw
            case rel => exact ⟨k + 1, (cs ++ [.slice A4 n4 c4, .int .i64 y]) ++ [.slice A2 n2 c2, .int .i64 (nthP ps k).2], by omega, by go_num, by rw [addUp_new HD.out HLt.out (by simpa using HSD.out)], by rw [addUp_new HD.out HLt.out (by simpa using HSD.out)]; exact h1, bb3⟩
            case measure => simp [intOf]; omega
      · have HD := Lib.hid hd
        clear hd
        go_wp2
        go_region_held3 (fun w' => w'.cell? ⟨G, k * 2, none⟩ = some (.slice A1 n1 c1) ∧ w'.cell? ⟨G, k * 2 + 1, none⟩ = some (.int .i64 (nthP ps k).2)) (first | exact ⟨x1, x4⟩ | exact two_cells bb2 K1.out K4.out | exact two_cells (bb2.alloc bb2.size _) K1.out K4.out | exact two_cells bb3 K1.out K4.out) (first
          | (go_at_call 117; refine (l1Ints_any _ (hri.drewN _) (by omega)).mono ?_; rintro e w2 ⟨A2, n2, c2, rfl, o2, r2, cp2, b2⟩; have bb2 := bnext (below_drewN hbl _) b2 hsz)
          | (refine stepAppP rfl _ _ rfl w.heap.size w.heap.size u7 (.slice A2 n2 c2) (addUp ps s y k).1 cs (nthP ps k).1 (nthP ps k).2 rfl rfl (OP.below ho (bnext (Quiet.below ⟨_, rfl⟩) b2 (Nat.le_refl _))) (o2.mono hsz) (apart_new ho.2.1 (Nat.le_refl _) o2) (by first | omega | (simp; omega)) bb2.size ?_; intro v' w' h1 h2 h3; have bb3 := (bb2.alloc bb2.size _).grown h2 (by have := bb2.size; simp; omega) (fun k hk => (OF.lt ho k hk).1)))
        go_wp2
        go_roundw
        case rel => exact ⟨k + 1, cs ++ [.slice A2 n2 c2, .int .i64 (nthP ps k).2], by omega, by go_num, by rw [addUp_keep HD.out], by rw [addUp_keep HD.out]; exact h1, bb3⟩
        case measure => simp [intOf]; omega
    · obtain rfl : k = m := by omega
      rcases hd : (addUp ps s y k).2 with _ | _
      · have HD := Lib.hid (addP_last HL.out hd)
        clear hd
        go_wp2_with (first
          | (go_at_call 117; refine (l1Ints_any _ (by first | exact hxr | exact hxr.drewN _) (by omega)).mono ?_; rintro e w4 ⟨A4, n4, c4, rfl, o4, r4, cp4, b4⟩; have bb4 := bnext hbl b4 hsz)
          | (at_builtin; refine wpAppP rfl _ _ rfl w.heap.size w.heap.size u7 (.slice A4 n4 c4) (addUp ps s y k).1 cs s y rfl rfl (by exact OP.below ho b4) (by exact o4.mono hsz) (by exact apart_new ho.2.1 (Nat.le_refl _) o4) (by omega) (by exact bb4.size) ?_; intro v5 w5 g1 g2 g3; have bb5 := (bb4.alloc bb4.size _).grown g2 (by have := bb4.size; simp; omega) (fun k hk => (OF.lt ho k hk).1)))
        go_ret
        rw [HD.out]
        exact MakesP.of g1 bb5
      · have HD := Lib.hid (addP_done HL.out hd)
        clear hd
        go_wp2
        go_ret
        rw [HD.out]
        exact MakesP.of ho hbl
end Go.Proofs.Ytgbojgmmingfdaa
