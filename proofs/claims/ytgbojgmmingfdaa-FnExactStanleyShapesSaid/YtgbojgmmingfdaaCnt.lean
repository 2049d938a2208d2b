/- slices.Equal; the number of times that a shape stands among parts: program and reference. -/
import Derived.Test.YtgbojgmmingfdaaSee
import Derived.Test.YtgbojgmmingfdaaAdd
namespace Go.Proofs.Ytgbojgmmingfdaa
open Go.RowKit

theorem equal_any {A C : Option Addr} {n m : Nat} {xs ys : List Int} {w : World} (b : Bool) (c d : Nat) (hx : RI w A n xs) (hy : RI w C m ys) (hb : b = decide (xs = ys)) (hn : n ≤ 9223372036854775807) (hm : m ≤ 9223372036854775807) :
    Calls Try.prog 79 #[.slice A n c, .slice C m d] w (Gives w (.bool b)) := by
  have HL1 := Lib.hid hx.1
  have HL2 := Lib.hid hy.1
  have HB := Lib.hid hb
  clear hb
  by_cases hnm : n = m
  · subst hnm
    go_enter Try.func79, Try.ntmps79
    go_wp2
    go_loopw [5, 13] (fun _ i wr => ∃ k q : Nat, k ≤ n ∧ i = .int .i64 k ∧ w.drewN q = wr ∧ ∀ j, j < k → nth xs j = nth ys j) (fun _ i _ => n - (intOf i).toNat)
    case atStart => exact ⟨0, 0, Nat.zero_le _, rfl, rfl, by simp⟩
    case round =>
      obtain ⟨k, q, hk, rfl, rfl, ht⟩ := hrel
      have HT := Lib.hid ht
      clear ht
      by_cases hlt : k < n
      · obtain ⟨ad, hA, hc⟩ := hx.cell hlt
        obtain ⟨ad', hA', hc'⟩ := hy.cell hlt
        subst hA hA'
        go_wp2
        go_quiet (fail)
        go_wp2
        · go_ret
          refine ⟨?_, _, (World.drewN_drewN _ _ _).symm⟩
          have : b = false := by
            rw [HB.out]
            rename_i hne
            simp only [decide_eq_false_iff_not]
            intro e
            subst e
            simp at hne
          rw [this]; rfl
        · go_roundw
          case rel =>
            refine ⟨k + 1, _, by omega, by go_num, rfl, ?_⟩
            intro j hj
            rename_i hne
            by_cases hjk : j = k
            · subst hjk; simpa using hne
            · exact HT.out j (by omega)
          case measure => simp [intOf]; omega
      · go_wp2
        go_ret
        refine ⟨?_, _, rfl⟩
        have : b = true := by
          rw [HB.out]
          simp only [decide_eq_true_eq]
          exact agree_all HL1.out HL2.out (fun j hj => HT.out j (by omega))
        rw [this]; rfl
  · go_enter Try.func79, Try.ntmps79
    go_wp2
    go_ret
    refine ⟨?_, Quiet.refl _⟩
    have : b = false := by
      rw [HB.out]
      simp only [decide_eq_false_iff_not]
      intro e
      subst e
      exact hnm (HL1.out.symm.trans HL2.out)
    rw [this]; rfl

/-- How many times a shape stands among parts: the first of its kind. -/
def cntP (ps : List (List Int × Int)) (s : List Int) : Int := match ps with | [] => 0 | x :: r => if x.1 = s then x.2 else cntP r s
theorem cntP_at : ∀ {ps : List (List Int × Int)} {s : List Int} {k : Nat}, (∀ j, j < k → (nthP ps j).1 ≠ s) → k < ps.length → (nthP ps k).1 = s → cntP ps s = (nthP ps k).2
  | [], s, k, _, hk, _ => by simp at hk
  | x :: r, s, 0, _, _, h => by
    have h' : x.1 = s := h
    rw [cntP, if_pos h']; rfl
  | x :: r, s, k + 1, h0, hk, h => by
    have h1 : x.1 ≠ s := h0 0 (by omega)
    rw [cntP, if_neg h1]
    have e : ∀ j, nthP (x :: r) (j + 1) = nthP r j := fun j => by simp [nthP, List.getD]
    rw [e] at h ⊢
    exact cntP_at (fun j hj => by have := h0 (j + 1) (by omega); rw [e] at this; exact this) (by simpa using hk) h
theorem cntP_none : ∀ {ps : List (List Int × Int)} {s : List Int}, (∀ j, j < ps.length → (nthP ps j).1 ≠ s) → cntP ps s = 0
  | [], s, _ => rfl
  | x :: r, s, h0 => by
    have h1 : x.1 ≠ s := h0 0 (by simp)
    rw [cntP, if_neg h1]
    have e : ∀ j, nthP (x :: r) (j + 1) = nthP r j := fun j => by simp [nthP, List.getD]
    exact cntP_none fun j hj => by have := h0 (j + 1) (by simpa using hj); rw [e] at this; exact this
set_option maxHeartbeats 1000000 in
theorem countOf_any {w : World} {base b n : Nat} {A : Option Addr} {s : List Int} {v : Value} {ps : List (List Int × Int)} {cells : List Value} (c : Nat) (hx : RI w A n s) (hn : n ≤ 1000000) (ho : OP w base b v ps cells) (hl : ∀ k, k < ps.length → (nthP ps k).1.length ≤ 1000000) (hN : ps.length ≤ 100000000000) :
    Calls Try.prog 125 #[v, .slice A n c] w (GivesB w (.int .i64 (cntP ps s))) := by
  obtain ⟨A0, n0, c0, rfl, hn0, hc0, hc63⟩ := ho.form
  rw [hn0] at hN
  have HN := Lib.hid hn0
  have HL := Lib.hid hl
  have HX := Lib.hid hx
  have HO := Lib.hid ho
  clear hn0 hl ho
  go_enter Try.func125, Try.ntmps125
  go_wp2
  go_loopw [6, 9] (fun _ i wr => ∃ k : Nat, k ≤ n0 ∧ i = .int .i64 (k : Int) ∧ Below w.heap.size w wr ∧ Hid (∀ j, j < k → (nthP ps j).1 ≠ s)) (fun _ i _ => n0 - (intOf i).toNat)
  case atStart => exact ⟨0, Nat.zero_le _, rfl, Below.refl _ _, fun j hj => by omega⟩
  case round =>
    obtain ⟨k, hk, rfl, hb, ht⟩ := hrel
    by_cases hlt : k < n0
    · have hok := HO.out.below hb
      obtain ⟨G, cc, hGG, _⟩ := OF.shape hok (by rw [HN.out]; omega)
      obtain ⟨rfl, e2, e3⟩ := slice_inj hGG
      clear e2 e3 hGG
      obtain ⟨A4, n4, c4, k1, _, k2, _, k4⟩ := OP.cell hok (k := k) (by rw [HN.out]; exact hlt)
      have hl4 := HL.out k (by rw [HN.out]; exact hlt)
      have hri := k2.ri
      rw [hri.1] at hl4
      have HK := Lib.hid hri
      have HB := Lib.hid hb
      have hs := hb.size
      clear hok k2 hri hb
      rcases hd : decide ((nthP ps k).1 = s) with _ | _
      · have HD := Lib.hid hd
        have HS : Hid (∀ W, Below wr.heap.size wr W → Calls Try.prog 79 #[.slice A4 n4 c4, .slice A n c] W (Gives W (.bool false))) := fun W bW => equal_any false _ _ (HK.out.below bW) ((HX.out.below HB.out).below bW) HD.out.symm (by omega) (by omega)
        clear hd
        go_wp2_with (go_at_call 79; (with_reducible refine (HS.out _ ?_).mono ?_); (exact (Below.refl _ _).alloc (Nat.le_refl _) _); rintro e w' ⟨rfl, q0, rfl⟩)
        go_roundw
        case rel => exact ⟨k + 1, by omega, by go_num, below_drewN (HB.out.alloc hs _) _, fun j hj => by
          by_cases e : j = k
          · subst e; exact of_decide_eq_false HD.out
          · exact ht.out j (by omega)⟩
        case measure => simp [intOf]; omega
      · have HD := Lib.hid hd
        have HS : Hid (∀ W, Below wr.heap.size wr W → Calls Try.prog 79 #[.slice A4 n4 c4, .slice A n c] W (Gives W (.bool true))) := fun W bW => equal_any true _ _ (HK.out.below bW) ((HX.out.below HB.out).below bW) HD.out.symm (by omega) (by omega)
        have HE := Lib.hid (cntP_at ht.out (by rw [HN.out]; exact hlt) (of_decide_eq_true hd))
        clear hd
        go_wp2_with (go_at_call 79; (with_reducible refine (HS.out _ ?_).mono ?_); (exact (Below.refl _ _).alloc (Nat.le_refl _) _); rintro e w' ⟨rfl, q0, rfl⟩)
        go_ret
        rw [HE.out]
        exact ⟨rfl, below_drewN (HB.out.alloc hs _) _⟩
    · obtain rfl : k = n0 := by omega
      have HE := Lib.hid (cntP_none (ps := ps) (s := s) fun j hj => ht.out j (by rw [HN.out] at hj; exact hj))
      go_wp2
      go_ret
      rw [HE.out]
      exact ⟨rfl, hb⟩
end Go.Proofs.Ytgbojgmmingfdaa
