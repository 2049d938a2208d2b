/- IntersectionNumber of the program: all ways. -/
import Derived.Test.YtmodpicemlkbjaaInterI
namespace Go.Proofs.Ytmodpicemlkbjaa
open Go.RowKit

set_option maxRecDepth 100000 in
set_option maxHeartbeats 1000000 in
theorem iInter_any {w : World} {base b : Nat} {v : Value} {ls : List (List Int)} {cells : List Value} (k n : Int) (ho : OS w base b v ls cells) (hlens : ∀ s ∈ ls, s.length ≤ 1000000000) :
    Calls Try.prog 17 #[v, .int .i64 k, .int .i64 n] w (GivesB w (.int .i64 (interB ls k n))) := by
  obtain ⟨A0, n0, c0, rfl, hn0, hc0, hc63⟩ := ho.form
  have HBX : Hid (∀ (W : World) (A : Option Addr) (m c : Nat) (l : List Int), RI W A m l → m ≤ 1000000000 → Calls Try.prog 49 #[.slice A m c, .int .i64 k, .int .i64 n] W (Gives W (.bool (inBoxB l k n)))) := fun W A m c l h hn => iIsInBox_any c k n h hn
  have HB0 : Hid (∀ W, Calls Try.prog 62 #[.int .i64 k, .int .i64 n] W (Gives W (.bool (boxB k n)))) := fun W => isBox_any k n
  rcases hb : boxB k n with _ | _
  · have HE := Lib.hid (interB_no (ls := ls) (k := k) (n := n) (by simp [interOk, hb]))
    rw [hb] at HB0
    clear ho
    go_enter Try.func17, Try.ntmps17
    go_wp2_with (go_at_call 62; (with_reducible refine (HB0.out _).mono ?_); rintro e w' ⟨rfl, q0, rfl⟩)
    go_ret
    rw [HE.out]
    exact ⟨rfl, below_drewN (Below.refl _ _) _⟩
  rw [hb] at HB0
  by_cases h12 : 12 < n0
  · have HE := Lib.hid (interB_no (ls := ls) (k := k) (n := n) (by simp [interOk, hb]; omega))
    clear ho
    have hd : decide ((12 : Int) < (n0 : Int)) = true := decide_eq_true (by omega)
    go_enter Try.func17, Try.ntmps17
    go_wp2_with (go_at_call 62; (with_reducible refine (HB0.out _).mono ?_); rintro e w' ⟨rfl, q0, rfl⟩)
    go_ret
    rw [HE.out]
    exact ⟨rfl, below_drewN (Below.refl _ _) _⟩
  by_cases hall : ∀ s ∈ ls, inBoxB s k n = true
  · have h1 := boxB_iff.1 hb
    obtain ⟨K, rfl⟩ := Int.eq_ofNat_of_zero_le h1.2.1
    obtain ⟨M, hM⟩ := Int.eq_ofNat_of_zero_le (a := n - K) (by omega)
    obtain rfl : n = (K : Int) + M := by omega
    have h2 := iInter_main (K := K) (M := M) ho (by omega) (by omega) (by omega) hall (fun s hs => by
      have h3 := (SD.box (hall s hs)).len
      omega)
    have hok : interOk ls K ((K : Int) + M) = true := by
      simp only [interOk, Bool.and_eq_true, decide_eq_true_eq, List.all_eq_true]
      exact ⟨⟨hb, by omega⟩, hall⟩
    rw [interB, if_pos hok]
    exact h2
  · have HE := Lib.hid (interB_no (ls := ls) (k := k) (n := n) (by
      rw [Bool.eq_false_iff]
      intro h
      simp only [interOk, Bool.and_eq_true, List.all_eq_true] at h
      exact hall h.2))
    have HALL := Lib.hid hall
    have HO := Lib.hid ho
    have HN := Lib.hid hn0
    have HLEN := Lib.hid hlens
    have hd : decide ((12 : Int) < (n0 : Int)) = false := decide_eq_false (by omega)
    clear ho hn0 hall hlens
    go_enter Try.func17, Try.ntmps17
    go_wp2_with (go_at_call 62; (with_reducible refine (HB0.out _).mono ?_); rintro e w' ⟨rfl, q0, rfl⟩)
    go_loopw [8, 30] (fun _ i wr => ∃ j : Nat, j ≤ n0 ∧ i = .int .i64 (j : Int) ∧ Quiet w wr ∧ Hid (∀ i, i < j → inBoxB (nthL ls i) k n = true)) (fun _ i _ => n0 - (intOf i).toNat)
    case atStart => exact ⟨0, Nat.zero_le _, rfl, (by first | exact ⟨_, rfl⟩ | exact ⟨_, (World.drewN_drewN _ _ _).symm⟩ | exact Quiet.refl _ | (simp only [World.drewN_drewN]; exact ⟨_, rfl⟩)), fun i hi => by omega⟩
    case round =>
      obtain ⟨j, hj, rfl, hqq, hto⟩ := hrel
      have hB : Below w.heap.size w wr := Quiet.below hqq
      by_cases hlt : j < n0
      · obtain ⟨ad, A', n', c', hA, hc, _, ho', hnc⟩ := OS.cell (HO.out.below hB) hlt
        subst hA
        have hlx := HLEN.out _ (nthL_mem (ls := ls) (k := j) (by rw [HN.out]; exact hlt))
        rw [ho'.ri.1] at hlx
        have HR := Lib.hid ho'.ri
        clear ho'
        rcases hbx : inBoxB (nthL ls j) k n with _ | _
        · have HCX : Hid (∀ W, Below wr.heap.size wr W → Calls Try.prog 49 #[.slice A' n' c', .int .i64 k, .int .i64 n] W (Gives W (.bool false))) := fun W bW => by
            have := HBX.out W A' n' c' _ (HR.out.below bW) hlx
            rw [hbx] at this; exact this
          go_wp2_with (go_at_call 49; (with_reducible refine (HCX.out _ (Below.refl _ _)).mono ?_); rintro e w' ⟨rfl, q1, rfl⟩)
          go_ret
          rw [HE.out]
          exact ⟨rfl, below_drewN hB _⟩
        · have HCX : Hid (∀ W, Below wr.heap.size wr W → Calls Try.prog 49 #[.slice A' n' c', .int .i64 k, .int .i64 n] W (Gives W (.bool true))) := fun W bW => by
            have := HBX.out W A' n' c' _ (HR.out.below bW) hlx
            rw [hbx] at this; exact this
          have HBT := Lib.hid hbx
          clear hbx
          go_wp2_with (go_at_call 49; (with_reducible refine (HCX.out _ (Below.refl _ _)).mono ?_); rintro e w' ⟨rfl, q1, rfl⟩)
          go_roundw
          case rel => obtain ⟨qq, rfl⟩ := hqq; exact ⟨j + 1, by omega, by go_num, (by first | exact ⟨_, rfl⟩ | exact ⟨_, (World.drewN_drewN _ _ _).symm⟩ | exact Quiet.refl _ | (simp only [World.drewN_drewN]; exact ⟨_, rfl⟩)), upTo hto.out HBT.out⟩
          case measure => simp [intOf]; omega
      · exfalso
        refine HALL.out fun s hs => ?_
        obtain ⟨i, hi, e⟩ := List.getElem_of_mem hs
        have := hto.out i (by rw [HN.out] at hi; omega)
        rw [nthL_lt hi, e] at this
        exact this
end Go.Proofs.Ytmodpicemlkbjaa
