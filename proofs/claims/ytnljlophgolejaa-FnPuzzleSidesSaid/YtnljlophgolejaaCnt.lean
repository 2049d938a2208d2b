/- slices.Equal; the number of times that a shape stands among parts: program and reference. -/
import Derived.Test.YtnljlophgolejaaSee
import Derived.Test.YtnljlophgolejaaAdd
namespace Go.Proofs.Ytnljlophgolejaa
open Go.RowKit

theorem equal_any {A C : Option Addr} {n m : Nat} {xs ys : List Int} {w : World} (b : Bool) (c d : Nat) (hx : RI w A n xs) (hy : RI w C m ys) (hb : b = decide (xs = ys)) (hn : n ≤ 9223372036854775807) (hm : m ≤ 9223372036854775807) :
    Calls Try.prog 59 #[.slice A n c, .slice C m d] w (Gives w (.bool b)) := by
  have HL1 := Lib.hid hx.1
  have HL2 := Lib.hid hy.1
  have HB := Lib.hid hb
  clear hb
  by_cases hnm : n = m
  · subst hnm
    go_enter Try.func59, Try.ntmps59
    go_wp2
    go_loopw [5, 13] (fun _ i wr => ∃ k q : Nat, k ≤ n ∧ i = .int .i64 k ∧ w.drewN q = wr ∧ ∀ j, j < k → nth xs j = nth ys j) (fun _ i _ => n - (intOf i).toNat)
    case atStart => exact ⟨0, 0, Nat.zero_le _, rfl, rfl, by simp⟩
    case round =>
      obtain ⟨k, q, hk, rfl, rfl, ht⟩ := hrel
      have HT := Lib.hid ht
      clear ht
      by_cases hlt : k < n
      · obtain ⟨ad, hA, hc⟩ := hx.cell hlt
        obtain ⟨ad', hA', hc'⟩ := hy.cell hlt
        subst hA hA'
        go_wp2
        go_quiet (fail)
        go_wp2
        · go_ret
          refine ⟨?_, _, (World.drewN_drewN _ _ _).symm⟩
          have : b = false := by
            rw [HB.out]
            rename_i hne
            simp only [decide_eq_false_iff_not]
            intro e
            subst e
            simp at hne
          rw [this]; rfl
        · go_roundw
          case rel =>
            refine ⟨k + 1, _, by omega, by go_num, rfl, ?_⟩
            intro j hj
            rename_i hne
            by_cases hjk : j = k
            · subst hjk; simpa using hne
            · exact HT.out j (by omega)
          case measure => simp [intOf]; omega
      · go_wp2
        go_ret
        refine ⟨?_, _, rfl⟩
        have : b = true := by
          rw [HB.out]
          simp only [decide_eq_true_eq]
          exact agree_all HL1.out HL2.out (fun j hj => HT.out j (by omega))
        rw [this]; rfl
  · go_enter Try.func59, Try.ntmps59
    go_wp2
    go_ret
    refine ⟨?_, Quiet.refl _⟩
    have : b = false := by
      rw [HB.out]
      simp only [decide_eq_false_iff_not]
      intro e
      subst e
      exact hnm (HL1.out.symm.trans HL2.out)
    rw [this]; rfl

/-- How many times a shape stands among parts: the first of its kind. -/
def cntP (ps : List (List Int × Int)) (s : List Int) : Int := match ps with | [] => 0 | x :: r => if x.1 = s then x.2 else cntP r s
theorem cntP_at : ∀ {ps : List (List Int × Int)} {s : List Int} {k : Nat}, (∀ j, j < k → (nthP ps j).1 ≠ s) → k < ps.length → (nthP ps k).1 = s → cntP ps s = (nthP ps k).2
  | [], s, k, _, hk, _ => by simp at hk
  | x :: r, s, 0, _, _, h => by
    have h' : x.1 = s := h
    rw [cntP, if_pos h']; rfl
  | x :: r, s, k + 1, h0, hk, h => by
    have h1 : x.1 ≠ s := h0 0 (by omega)
    rw [cntP, if_neg h1]
    have e : ∀ j, nthP (x :: r) (j + 1) = nthP r j := fun j => by simp [nthP, List.getD]
    rw [e] at h ⊢
    exact cntP_at (fun j hj => by have := h0 (j + 1) (by omega); rw [e] at this; exact this) (by simpa using hk) h
theorem cntP_none : ∀ {ps : List (List Int × Int)} {s : List Int}, (∀ j, j < ps.length → (nthP ps j).1 ≠ s) → cntP ps s = 0
  | [], s, _ => rfl
  | x :: r, s, h0 => by
    have h1 : x.1 ≠ s := h0 0 (by simp)
    rw [cntP, if_neg h1]
    have e : ∀ j, nthP (x :: r) (j + 1) = nthP r j := fun j => by simp [nthP, List.getD]
    exact cntP_none fun j hj => by have := h0 (j + 1) (by simpa using hj); rw [e] at this; exact this
end Go.Proofs.Ytnljlophgolejaa
