/- impl.PartsOk at parts that are right; impl.LrCount. -/
import Derived.Test.YtgbojgmmingfdaaCnt
import Derived.Test.YtgbojgmmingfdaaBytes
import Derived.Test.YtgbojgmmingfdaaGrW
import Derived.Test.YtgbojgmmingfdaaDraw
namespace Go.Proofs.Ytgbojgmmingfdaa
open Go.RowKit

set_option maxHeartbeats 1000000 in
theorem partsOk_any {v : Value} {base b : Nat} {ps : List (List Int × Int)} {cells : List Value} {w : World} (h1 : OP w base b v ps cells) (hn : ps.length ≤ 100000000000) (hl : ∀ k, k < ps.length → (nthP ps k).1.length ≤ 1000000) (hok : ((List.range ps.length).all (pokAt ps)) = true) :
    Calls Try.prog 53 #[v] w (GivesB w (.bool true)) := by
  obtain ⟨A, c, rfl, hc, _⟩ := OF.form h1
  obtain ⟨n, hn'⟩ : ∃ n, n = ps.length := ⟨_, rfl⟩
  have HP : Hid (∀ k, k < n → isShapeB (nthP ps k).1 = true ∧ (nthP ps k).2 ≠ 0 ∧ (k ≠ 0 → lexLt (nthP ps (k - 1)).1 (nthP ps k).1 = true)) := fun k hk => by
    have h := List.all_eq_true.1 hok k (List.mem_range.2 (by omega))
    simp only [pokAt, Bool.and_eq_true, Bool.or_eq_true, decide_eq_true_eq] at h
    exact ⟨h.1, h.2.1, fun h0 => h.2.2.resolve_left h0⟩
  have HLn : Hid (∀ k, k < n → (nthP ps k).1.length ≤ 1000000) := fun k hk => hl k (by omega)
  rw [← hn'] at hn hc ⊢
  have HN := Lib.hid hn'
  rw [← hn'] at h1
  clear hn' hok hl
  have H1 := Lib.hid h1
  clear h1
  go_enter Try.func53, Try.ntmps53
  go_wp2
  go_loopw [3, 4, 7] (fun _ _ i wr => ∃ k : Nat, k ≤ n ∧ i = .int .i64 k ∧ Below w.heap.size w wr) (fun _ _ i _ => n - (intOf i).toNat)
  case atStart => exact ⟨0, Nat.zero_le _, rfl, Below.refl _ _⟩
  case round =>
    obtain ⟨k, hk, rfl, hbl⟩ := hrel
    by_cases hlt : k < n
    · have g1 := OF.below H1.out hbl
      obtain ⟨G, cc, hG, _⟩ := OF.shape g1 (by rw [← HN.out]; omega)
      obtain ⟨rfl, e2, e3⟩ := slice_inj hG
      clear hG e2 e3
      obtain ⟨A1, n1, c1, x1, _, x2, _, x3⟩ := OP.cell g1 (k := k) (by rw [← HN.out]; exact hlt)
      obtain ⟨p1, p2, p3⟩ := HP.out k hlt
      have l1 := HLn.out k hlt
      obtain ⟨y, hy⟩ : ∃ y, y = (nthP ps k).2 := ⟨_, rfl⟩
      rw [← hy] at x3 p2
      have R1 := Lib.hid x2.ri
      have hn1 : n1 ≤ 1000000 := by rw [← R1.out.1]; exact l1
      have hy0 : (y == 0) = false := by simpa using p2
      have P1 := Lib.hid p1
      have P3 := Lib.hid p3
      clear hy x2 p1 p2 p3 l1
      have BX : Hid (BK (wr.alloc (Obj.cells #[.slice A1 n1 c1, .int .i64 y] 47)) wr.heap.size 47 [.slice A1 n1 c1, .int .i64 y]) := BK.new wr _ _
      have bb : Below wr.heap.size wr (wr.alloc (Obj.cells #[.slice A1 n1 c1, .int .i64 y] 47)) := (Below.refl _ _).alloc (Nat.le_refl _) _
      have HB := Lib.hid hbl
      have G1 := Lib.hid g1
      clear g1 hbl
      go_wp2_with fail
      obtain ⟨w1, e1⟩ : ∃ W, W = wr.alloc (Obj.cells #[.slice A1 n1 c1, .int .i64 y] 47) := ⟨_, rfl⟩
      obtain ⟨bx, hbx⟩ : ∃ b, b = wr.heap.size := ⟨_, rfl⟩
      rw [← e1] at BX bb ⊢
      have B1 : Hid (Below wr.heap.size wr w1) := bb
      rw [← hbx] at BX ⊢
      clear bb e1 hbx x1 x3
      have HE : Hid (∀ W, Below w1.heap.size w1 W → Calls Try.prog 92 #[.slice A1 n1 c1] W (Gives W (.bool true))) := fun W bW => by
        have h := iIsShape_any (w := W) c1 ((R1.out.below B1.out).below bW) (by omega)
        rw [P1.out] at h
        exact h
      have q0 := BX.out.cell (j := 0) rfl
      have q1 := BX.out.cell (j := 1) rfl
      have Q0 := Lib.hid q0
      have Q1 := Lib.hid q1
      cases k with
      | zero =>
        rw [show ((0 : Nat) : Int) = 0 from rfl]
        have HEq : Hid (∀ q, Calls Try.prog 92 #[.slice A1 n1 c1] (w1.drewN q) (Gives (w1.drewN q) (.bool true))) := fun q => HE.out _ (below_drewN (Below.refl _ _) q)
        go_wp2_with fail
        go_quiet (first | (go_at_call 92; first | exact qcall (HEq.out _) | exact qcall_add (HEq.out _)))
        go_wp2_with fail
        go_roundw
        case rel => exact ⟨1, by omega, by go_num, below_drewN (bnext HB.out B1.out HB.out.size) _⟩
        case measure => simp [intOf]; omega
      | succ m =>
        have hgt : decide ((0 : Int) < (m : Int) + 1) = true := decide_eq_true (by omega)
        have hgt2 : (0 : Int) < (m : Int) + 1 := by omega
        obtain ⟨A2, n2, c2, z1, _, z2, _, z3⟩ := OP.cell G1.out (k := m) (by rw [← HN.out]; omega)
        have R2 := Lib.hid z2.ri
        have hn2 : n2 ≤ 1000000 := by rw [← R2.out.1]; exact HLn.out m (by omega)
        have z1' := one_cell B1.out z1
        have Z1 := Lib.hid z1'
        clear z1 z2 z3 z1'
        have HC : Hid (∀ W, Below w1.heap.size w1 W → Calls Try.prog 82 #[.slice A2 n2 c2, .slice A1 n1 c1] W (Gives W (.int .i64 (-1)))) := fun W bW => by
          have h := compare_any (w := W) c2 c1 ((R2.out.below B1.out).below bW) ((R1.out.below B1.out).below bW) (by omega) (by omega)
          have h2 := P3.out (by omega)
          rw [show m + 1 - 1 = m by omega] at h2
          rw [show cmpB (nthP ps m).1 (nthP ps (m + 1)).1 = -1 by unfold cmpB; rw [if_pos h2]] at h
          exact h
        have hwr : IntKind.i64.wrap (m : Int) = (m : Int) := IntWalk.i64_in _ (by omega)
        have hwr2 : IntKind.i64.wrap ((m : Int) + 1 - 1) = (m : Int) := by rw [show (m : Int) + 1 - 1 = (m : Int) by omega]; exact hwr
        have hmn : m < n := by omega
        have hmn2 : (m : Int) < (n : Int) := by omega
        have hm0 : (0 : Int) ≤ (m : Int) := by omega
        rw [show ((m + 1 : Nat) : Int) = (m : Int) + 1 from rfl]
        have HEq : Hid (∀ q, Calls Try.prog 92 #[.slice A1 n1 c1] (w1.drewN q) (Gives (w1.drewN q) (.bool true))) := fun q => HE.out _ (below_drewN (Below.refl _ _) q)
        have HCq : Hid (∀ q, Calls Try.prog 82 #[.slice A2 n2 c2, .slice A1 n1 c1] (w1.drewN q) (Gives (w1.drewN q) (.int .i64 (-1)))) := fun q => HC.out _ (below_drewN (Below.refl _ _) q)
        have z1' := Z1.out
        go_wp2_with fail
        go_quiet (first | (go_at_call 92; first | exact qcall (HEq.out _) | exact qcall_add (HEq.out _)) | (go_at_call 82; first | exact qcall (HCq.out _) | exact qcall_add (HCq.out _)))
        go_wp2_with fail
        go_roundw
        case rel => exact ⟨m + 2, by omega, by go_num, below_drewN (bnext HB.out B1.out HB.out.size) _⟩
        case measure => simp [intOf]; omega
    · go_wp2
      go_ret
      exact ⟨rfl, hbl⟩

def lrcB (a b s : List Int) : Int := if shOk a b = true ∧ isShapeB s = true then cntP (shB a b) s else -1
set_option maxHeartbeats 1000000 in
theorem lrCount_any {w : World} {Aa Ab Ac : Option Addr} {na nb nc ba bb : Nat} {a b s : List Int} (ca cb cc : Nat) (ha : OI w ba (.slice Aa na ca) a) (hb : OI w bb (.slice Ab nb cb) b) (hs : RI w Ac nc s) (hna : na ≤ 1000000000) (hnb : nb ≤ 1000000000) (hnc : nc ≤ 1000000) (hl : ∀ k, k < (shB a b).length → (nthP (shB a b) k).1.length ≤ 1000000) (hN : (shB a b).length ≤ 100000000000) :
    Calls Try.prog 51 #[.slice Aa na ca, .slice Ab nb cb, .slice Ac nc cc] w (GivesB w (.int .i64 (lrcB a b s))) := by
  have HS := Lib.hid hs
  have HI : Hid (∀ W, Below w.heap.size w W → Calls Try.prog 92 #[.slice Ac nc cc] W (Gives W (.bool (isShapeB s)))) := fun W bW => iIsShape_any (w := W) cc (HS.out.below bW) (by omega)
  clear hs
  go_enter Try.func51, Try.ntmps51
  go_wp2_with fail
  refine (iSh_any ca cb ha hb hna hnb).mono ?_
  rintro e w1 ⟨A5, n5, c5, cs5, rfl, o5, l5, ⟨cp5, le5⟩, b5⟩
  have HO5 := Lib.hid o5
  clear o5
  rcases h1 : shOk a b with _ | _
  · go_wp2
    go_ret
    exact ⟨ret_int (by rw [lrcB, if_neg (by rw [h1]; simp)]), b5⟩
  · rcases h2 : isShapeB s with _ | _
    · rw [h2] at HI
      go_wp2_with (go_at_call 92; (with_reducible refine (HI.out _ b5).mono ?_); rintro e w2 ⟨rfl, q2⟩)
      go_ret
      exact ⟨ret_int (by rw [lrcB, if_neg (by rw [h2]; simp)]), bnext b5 (q2.below (B := w1.heap.size)) b5.size⟩
    · rw [h2] at HI
      have HL := Lib.hid hl
      have HNN := Lib.hid hN
      clear hl hN
      go_wp2_with (go_at_call 92; (with_reducible refine (HI.out _ b5).mono ?_); rintro e w2 ⟨rfl, q2⟩)
      have b52 := bnext b5 (q2.below (B := w1.heap.size)) b5.size
      have b12 : Below w1.heap.size w1 w2 := q2.below
      clear q2
      go_wp2_with fail
      refine (countOf_any cc (HS.out.below b52) hnc (OF.below HO5.out b12) HL.out HNN.out).mono ?_
      rintro e w3 ⟨rfl, b3⟩
      go_wp2
      go_ret
      exact ⟨ret_int (by rw [lrcB, if_pos ⟨h1, h2⟩]), bnext b52 b3 b52.size⟩
end Go.Proofs.Ytgbojgmmingfdaa
