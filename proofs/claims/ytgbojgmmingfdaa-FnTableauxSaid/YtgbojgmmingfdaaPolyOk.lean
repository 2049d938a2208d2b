/- impl.PolyOk. -/
import Derived.Test.YtgbojgmmingfdaaSortF
namespace Go.Proofs.Ytgbojgmmingfdaa
open Go.RowKit

/-- The slice reads as these terms. -/
def TAt (w : World) (ad : Addr) (k : Nat) (x : List Int × Int) : Prop := ∃ A n c, w.cell? (ad.add (k * 2)) = some (.slice A n c) ∧ w.cell? (ad.add (k * 2 + 1)) = some (.int .i64 x.2) ∧ RI w A n x.1 ∧ n ≤ 9223372036854775807
def RTm (w : World) (A : Option Addr) (n : Nat) (ps : List (List Int × Int)) : Prop := ps.length = n ∧ ∀ k, k < n → ∃ ad, A = some ad ∧ TAt w ad k (nthP ps k)
theorem RTm.below {w w' : World} {A : Option Addr} {n : Nat} {ps : List (List Int × Int)} (h : RTm w A n ps) (b : Below w.heap.size w w') : RTm w' A n ps := by
  refine ⟨h.1, fun k hk => ?_⟩
  obtain ⟨ad, rfl, A, m, c, h1, h2, h3, h4⟩ := h.2 k hk
  exact ⟨ad, rfl, A, m, c, one_cell b h1, one_cell b h2, h3.below b, h4⟩
theorem tadd_form (a : Addr) (i j : Nat) (h : j ≠ 0) : a.add (i + j) = ⟨(a.add i).block, (a.add i).off + j, none⟩ := by
  rw [← add_of_add]
  generalize a.add i = b
  unfold Addr.add
  rw [if_neg h]
theorem TAt.cells {w : World} {ad : Addr} {k : Nat} {x : List Int × Int} (h : TAt w ad k x) : ∃ A n c, w.cell? (ad.add (k * 2)) = some (.slice A n c) ∧ w.cell? ⟨(ad.add (k * 2)).block, (ad.add (k * 2)).off + 1, none⟩ = some (.int .i64 x.2) ∧ RI w A n x.1 ∧ n ≤ 9223372036854775807 := by
  obtain ⟨A, n, c, h1, h2, h3⟩ := h
  rw [tadd_form _ _ _ (by omega)] at h2
  exact ⟨A, n, c, h1, h2, h3⟩
/-- A term that may stand in a polynomial. -/
def termB (p : List Int × Int) : Bool := decide (p.1.length = 7) && (decide (p.2 ≠ 0) && (decide (-1000000 ≤ p.2) && (decide (p.2 ≤ 1000000) && (List.range 7).all fun j => decide (0 ≤ nth p.1 j) && decide (nth p.1 j ≤ 24))))
def stepB (ps : List (List Int × Int)) (k : Nat) : Bool := decide (k = 0) || decide (byT (nthP ps (k - 1)).1 (nthP ps k).1 < 0)
def polyB (ps : List (List Int × Int)) : Bool := decide (ps.length ≤ 600) && (List.range ps.length).all fun k => termB (nthP ps k) && stepB ps k

theorem poly_no {ps : List (List Int × Int)} {k : Nat} (hk : k < ps.length) (h : (termB (nthP ps k) && stepB ps k) = false) : polyB ps = false := by
  rw [polyB]
  have : ((List.range ps.length).all fun k => termB (nthP ps k) && stepB ps k) = false := by
    rw [List.all_eq_false]
    exact ⟨k, List.mem_range.2 hk, by rw [h]; simp⟩
  rw [this, Bool.and_false]
theorem term_no {p : List Int × Int} {j : Nat} (hj : j < 7) (h : (!decide (nth p.1 j < 0) && !decide (24 < nth p.1 j)) = false) : termB p = false := by
  rw [termB]
  have : ((List.range 7).all fun j => decide (0 ≤ nth p.1 j) && decide (nth p.1 j ≤ 24)) = false := by
    rw [List.all_eq_false]
    refine ⟨j, List.mem_range.2 hj, fun h2 => ?_⟩
    simp at h h2
    omega
  rw [this]; simp
theorem term_in {p : List Int × Int} (h : termB p = true) {j : Nat} (hj : j < 7) : 0 ≤ nth p.1 j ∧ nth p.1 j ≤ 24 := by
  simp only [termB, Bool.and_eq_true, List.all_eq_true, List.mem_range, decide_eq_true_eq] at h
  exact h.2.2.2.2 j hj
set_option maxHeartbeats 1000000 in
theorem iPolyOk_any {A : Option Addr} {n : Nat} {ps : List (List Int × Int)} {w : World} (c : Nat) (h : RTm w A n ps) (hn : n ≤ 9223372036854775807) :
    Calls Try.prog 106 #[.slice A n c] w (GivesB w (.bool (polyB ps))) := by
  have HL := Lib.hid h.1
  go_enter Try.func106, Try.ntmps106
  by_cases hbig : n ≤ 600
  case neg =>
    go_wp2
    go_ret
    refine ⟨ret_bool ?_, Below.refl _ _⟩
    rw [polyB, HL.out, decide_eq_false hbig]; rfl
  go_wp2
  go_loopw [3, 4, 6, 12] (fun _ _ _ i wr => ∃ k : Nat, k ≤ n ∧ i = .int .i64 k ∧ Below w.heap.size w wr ∧ Hid (∀ j, j < k → (termB (nthP ps j) && stepB ps j) = true)) (fun _ _ _ i _ => n - (intOf i).toNat)
  case atStart => exact ⟨0, Nat.zero_le _, rfl, Below.refl _ _, fun j hj => by omega⟩
  case round =>
    obtain ⟨k, hk, rfl, hbl, HT⟩ := hrel
    by_cases hlt : k < n
    · have hr := Lib.hid (h.below hbl)
      obtain ⟨ad, hA, hq⟩ := hr.out.2 k hlt
      obtain ⟨A', n', c', x1, x2, x3, x4⟩ := hq.cells
      subst hA
      have X3 := Lib.hid x3
      clear x3 hq
      obtain ⟨z, hz⟩ : ∃ z, z = (nthP ps k).2 := ⟨_, rfl⟩
      rw [← hz] at x2
      have hZ := Lib.hid hz
      clear hz
      have hno : Hid (termB (nthP ps k) = false → Ending.returned (.bool false) = .returned (.bool (polyB ps))) := fun h1 => ret_bool (poly_no (k := k) (by rw [HL.out]; exact hlt) (by rw [h1]; rfl)).symm
      have hlen : Hid ((nthP ps k).1.length = n') := X3.out.1
      by_cases h7 : n' = 7
      case neg =>
        have h7' : ((n' : Int) != 7) = true := by simp; omega
        go_wp2_with fail
        go_ret
        exact ⟨hno.out (by rw [termB, hlen.out, decide_eq_false h7]; rfl), hbl.alloc hbl.size _⟩
      subst h7
      by_cases hz0 : z = 0
      · have hz0' : (z == 0) = true := by simpa using hz0
        have hno' := hno.out (by rw [termB, ← hZ.out, hz0]; simp)
        have HNO := Lib.hid hno'
        subst hz0
        clear hno' hz0'
        go_wp2_with fail
        go_ret
        exact ⟨HNO.out, hbl.alloc hbl.size _⟩
      by_cases hz1 : z < -1000000
      · have HNO := Lib.hid (hno.out (by rw [termB, ← hZ.out, decide_eq_false (show ¬ -1000000 ≤ z by omega)]; simp))
        have hz0' : (z == 0) = false := by simpa using hz0
        have hz1' : decide (z < -1000000) = true := decide_eq_true hz1
        clear hz0 hz1
        go_wp2_with fail
        go_ret
        exact ⟨HNO.out, hbl.alloc hbl.size _⟩
      by_cases hz2 : 1000000 < z
      · have HNO := Lib.hid (hno.out (by rw [termB, ← hZ.out, decide_eq_false (show ¬ z ≤ 1000000 by omega)]; simp))
        have hz0' : (z == 0) = false := by simpa using hz0
        have hz1' : decide (z < -1000000) = false := decide_eq_false hz1
        have hz2' : decide (1000000 < z) = true := decide_eq_true hz2
        clear hz0 hz1 hz2
        go_wp2_with fail
        go_ret
        exact ⟨HNO.out, hbl.alloc hbl.size _⟩
      have hz0' : (z == 0) = false := by simpa using hz0
      have hz1' : decide (z < -1000000) = false := decide_eq_false hz1
      have hz2' : decide (1000000 < z) = false := decide_eq_false hz2
      have HZ : Hid (z ≠ 0 ∧ -1000000 ≤ z ∧ z ≤ 1000000) := ⟨hz0, by omega, by omega⟩
      clear hz0 hz1 hz2
      have BX : Hid (BK (wr.alloc (Obj.cells #[.slice A' 7 c', .int .i64 z] 81)) wr.heap.size 81 [.slice A' 7 c', .int .i64 z]) := BK.new wr _ _
      have bb : Below wr.heap.size wr (wr.alloc (Obj.cells #[.slice A' 7 c', .int .i64 z] 81)) := (Below.refl _ _).alloc (Nat.le_refl _) _
      go_wp2_with fail
      obtain ⟨w1, e1⟩ : ∃ W, W = wr.alloc (Obj.cells #[.slice A' 7 c', .int .i64 z] 81) := ⟨_, rfl⟩
      obtain ⟨bx, hbx⟩ : ∃ b, b = wr.heap.size := ⟨_, rfl⟩
      rw [← e1] at BX bb ⊢
      have B1 : Hid (Below wr.heap.size wr w1) := bb
      rw [← hbx] at BX ⊢
      clear bb e1 hbx
      have hE := Lib.hid (X3.out.below B1.out)
      go_loopw [6, 39] (fun _ i wx => ∃ j : Nat, j ≤ 7 ∧ i = .int .i64 j ∧ Quiet w1 wx ∧ Hid (∀ t, t < j → 0 ≤ nth (nthP ps k).1 t ∧ nth (nthP ps k).1 t ≤ 24)) (fun _ i _ => 7 - (intOf i).toNat)
      case atStart => exact ⟨0, Nat.zero_le _, rfl, (by first | exact ⟨_, rfl⟩ | exact ⟨_, (World.drewN_drewN _ _ _).symm⟩ | exact Quiet.refl _ | (simp only [World.drewN_drewN]; exact ⟨_, rfl⟩)), fun t ht => by omega⟩
      case round =>
        obtain ⟨j, hj, rfl, ⟨q, rfl⟩, HJ⟩ := hrel
        by_cases hj7 : j < 7
        · obtain ⟨ae, hA, hc⟩ := hE.out.cell hj7
          subst hA
          obtain ⟨v, hv⟩ : ∃ v, v = nth (nthP ps k).1 j := ⟨_, rfl⟩
          rw [← hv] at hc
          have HV := Lib.hid hv
          clear hv
          by_cases v0 : v < 0
          · have v0' : decide (v < 0) = true := decide_eq_true v0
            clear v0
            go_wp2_with fail
            go_ret
            exact ⟨hno.out (term_no hj7 (by rw [← HV.out, v0']; rfl)), below_drewN (bnext hbl B1.out hbl.size) _⟩
          by_cases v1 : 24 < v
          · have v0' : decide (v < 0) = false := decide_eq_false v0
            have v1' : decide (24 < v) = true := decide_eq_true v1
            clear v0 v1
            go_wp2_with fail
            go_ret
            exact ⟨hno.out (term_no hj7 (by rw [← HV.out, v0', v1']; rfl)), below_drewN (bnext hbl B1.out hbl.size) _⟩
          have HW : Hid (0 ≤ v ∧ v ≤ 24) := ⟨by omega, by omega⟩
          have v0' : decide (v < 0) = false := decide_eq_false v0
          have v1' : decide (24 < v) = false := decide_eq_false v1
          clear v0 v1
          go_wp2_with fail
          go_roundw
          case rel =>
            refine ⟨j + 1, by omega, by go_num, (by first | exact ⟨_, rfl⟩ | exact ⟨_, (World.drewN_drewN _ _ _).symm⟩ | exact Quiet.refl _ | (simp only [World.drewN_drewN]; exact ⟨_, rfl⟩)), fun t ht => ?_⟩
            by_cases htj : t = j
            · rw [htj, ← HV.out]; exact HW.out
            · exact HJ.out t (by omega)
          case measure => simp [intOf]; omega
        · obtain rfl : j = 7 := by omega
          have HTm : Hid (termB (nthP ps k) = true) := by
            have e1 := hlen.out
            have e2 := HZ.out
            rw [hZ.out] at e2
            show termB (nthP ps k) = true
            rw [termB, decide_eq_true e1, decide_eq_true e2.1, decide_eq_true e2.2.1, decide_eq_true e2.2.2]
            simp only [Bool.true_and, List.all_eq_true, List.mem_range]
            intro t ht
            rw [decide_eq_true (HJ.out t ht).1, decide_eq_true (HJ.out t ht).2]; rfl
          have q0 := BX.out.cell (j := 0) rfl
          have q1 := BX.out.cell (j := 1) rfl
          cases k with
          | zero =>
            go_wp2_with fail
            go_quiet (fail)
            go_wp2_with fail
            go_roundw
            case rel =>
              refine ⟨1, by omega, by go_num, below_drewN (bnext hbl B1.out hbl.size) _, fun t ht => ?_⟩
              obtain rfl : t = 0 := by omega
              rw [HTm.out]; rfl
            case measure => simp [intOf]; omega
          | succ m =>
            obtain ⟨ad2, hA2, hq2⟩ := hr.out.2 m (by omega)
            obtain rfl : ad = ad2 := Option.some.inj hA2
            clear hA2
            obtain ⟨A2, n2, c2, y1, y2, y3, y4⟩ := hq2.cells
            have hp7 : n2 = 7 := by
              have h0 := HT.out m (by omega)
              rw [Bool.and_eq_true, termB, Bool.and_eq_true] at h0
              exact y3.1.symm.trans (of_decide_eq_true h0.1.1)
            subst hp7
            have hTm1 : termB (nthP ps m) = true := by
              have h0 := HT.out m (by omega)
              rw [Bool.and_eq_true] at h0
              exact h0.1
            have z1 := one_cell B1.out y1
            have hE2 := Lib.hid (y3.below B1.out)
            obtain ⟨r, hr0⟩ : ∃ r, r = byT (nthP ps m).1 (nthP ps (m + 1)).1 := ⟨_, rfl⟩
            have HC : Hid (∀ q, Calls Try.prog 137 #[.slice A2 7 c2, .slice A' 7 c'] (w1.drewN q) (Gives (w1.drewN q) (.int .i64 r))) := fun q => by
              rw [hr0]
              refine byT_any _ _ (hE2.out.below (below_drewN (Below.refl _ _) q)) (hE.out.below (below_drewN (Below.refl _ _) q)) fun j hj => ?_
              have a1 := term_in hTm1 hj
              have a2 := HJ.out j hj
              omega
            have HR := Lib.hid hr0
            have hwr : IntKind.i64.wrap (((m + 1 : Nat) : Int) - 1) = (m : Int) := by rw [IntWalk.i64_in _ (by omega)]; omega
            have hpos : decide ((0 : Int) < ((m + 1 : Nat) : Int)) = true := decide_eq_true (by omega)
            clear y1 y2 y3 y4 hq2 hr0
            by_cases hs : r < 0
            · have hs' : decide (0 ≤ r) = false := decide_eq_false (by omega)
              have HSN := Lib.hid hs
              clear hs
              go_wp2_with fail
              go_quiet (first | (go_at_call 137; first | exact qcall (HC.out _) | exact qcall_add (HC.out _)))
              go_wp2_with fail
              go_roundw
              case rel =>
                refine ⟨m + 1 + 1, by omega, by go_num, below_drewN (bnext hbl B1.out hbl.size) _, fun t ht => ?_⟩
                by_cases htm : t < m + 1
                · exact HT.out t htm
                · obtain rfl : t = m + 1 := by omega
                  rw [HTm.out, Bool.true_and, stepB, Nat.add_sub_cancel, ← HR.out, decide_eq_true (HSN.out), Bool.or_true]
              case measure => simp [intOf]; omega
            · have hs' : decide (0 ≤ r) = true := decide_eq_true (by omega)
              have HSP : Hid (¬ r < 0) := hs
              clear hs
              go_wp2_with fail
              go_quiet (first | (go_at_call 137; first | exact qcall (HC.out _) | exact qcall_add (HC.out _)))
              go_wp2_with fail
              go_ret
              exact ⟨ret_bool (poly_no (k := m + 1) (by rw [HL.out]; exact hlt) (by rw [stepB, Nat.add_sub_cancel, ← HR.out, show decide (r < 0) = false from decide_eq_false (by have := HSP.out; omega), show decide (m + 1 = 0) = false from decide_eq_false (Nat.succ_ne_zero m)]; simp)).symm, below_drewN (below_drewN (bnext hbl B1.out hbl.size) _) _⟩
    · go_wp2
      go_ret
      refine ⟨ret_bool ?_, hbl⟩
      rw [polyB, HL.out, decide_eq_true hbig, Bool.true_and]
      refine (List.all_eq_true.2 ?_).symm
      exact fun j hj => HT.out j (by have := List.mem_range.1 hj; omega)
end Go.Proofs.Ytgbojgmmingfdaa
