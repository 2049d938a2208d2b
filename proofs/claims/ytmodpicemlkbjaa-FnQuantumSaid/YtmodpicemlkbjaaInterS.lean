/- IntersectionNumber of the reference: all ways. -/
import Derived.Test.YtmodpicemlkbjaaInterW
namespace Go.Proofs.Ytmodpicemlkbjaa
open Go.RowKit

theorem interB_no {ls : List (List Int)} {k n : Int} (h : interOk ls k n = false) : interB ls k n = -1 := by simp [interB, h]
set_option maxRecDepth 100000 in
set_option maxHeartbeats 1000000 in
theorem sInter_any {w : World} {base b : Nat} {v : Value} {ls : List (List Int)} {cells : List Value} (k n : Int) (ho : OS w base b v ls cells) (hlens : ∀ s ∈ ls, s.length ≤ 1000000000) :
    Calls Try.prog 15 #[v, .int .i64 k, .int .i64 n] w (GivesB w (.int .i64 (interB ls k n))) := by
  obtain ⟨A0, n0, c0, rfl, hn0, hc0, hc63⟩ := ho.form
  have HBX : Hid (∀ (W : World) (A : Option Addr) (m c : Nat) (l : List Int), RI W A m l → m ≤ 1000000000 → Calls Try.prog 57 #[.slice A m c, .int .i64 k, .int .i64 n] W (Gives W (.bool (inBoxB l k n)))) := fun W A m c l h hn => l4Box_any c k n h hn
  rcases hb : boxB k n with _ | _
  · have HE := Lib.hid (interB_no (ls := ls) (k := k) (n := n) (by simp [interOk, hb]))
    have hnil : inBoxB [] k n = false := inBoxB_box hb
    clear ho
    go_enter Try.func15, Try.ntmps15
    go_wp2_with (go_at_call 57; (with_reducible refine (HBX.out _ _ _ _ [] ?_ (by omega)).mono ?_); (exact (OI.lit w w.heap.size [] 0 rfl (Nat.le_refl _) (by simp)).ri); rintro e w' ⟨rfl, q0, rfl⟩)
    go_ret
    rw [HE.out]
    exact ⟨rfl, below_drewN ((Below.refl _ _).alloc (Nat.le_refl _) _) _⟩
  have hnil : inBoxB [] k n = true := by
    have h1 := boxB_iff.1 hb
    exact inBoxB_iff.2 ⟨hb, by decide, by simp; omega, by simp [nth, List.getD]; omega⟩
  by_cases h12 : 12 < n0
  · have HE := Lib.hid (interB_no (ls := ls) (k := k) (n := n) (by simp [interOk, hb]; omega))
    clear ho
    have hd : decide ((12 : Int) < (n0 : Int)) = true := decide_eq_true (by omega)
    go_enter Try.func15, Try.ntmps15
    go_wp2_with (go_at_call 57; (with_reducible refine (HBX.out _ _ _ _ [] ?_ (by omega)).mono ?_); (exact (OI.lit w w.heap.size [] 0 rfl (Nat.le_refl _) (by simp)).ri); rintro e w' ⟨rfl, q0, rfl⟩)
    go_ret
    rw [HE.out]
    exact ⟨rfl, below_drewN ((Below.refl _ _).alloc (Nat.le_refl _) _) _⟩
  by_cases hall : ∀ s ∈ ls, inBoxB s k n = true
  · have h1 := boxB_iff.1 hb
    obtain ⟨K, rfl⟩ := Int.eq_ofNat_of_zero_le h1.2.1
    obtain ⟨M, hM⟩ := Int.eq_ofNat_of_zero_le (a := n - K) (by omega)
    obtain rfl : n = (K : Int) + M := by omega
    have h2 := sInter_main (K := K) (M := M) ho (by omega) (by omega) (by omega) hall (fun s hs => by
      have h3 := (SD.box (hall s hs)).len
      omega)
    have hok : interOk ls K ((K : Int) + M) = true := by
      simp only [interOk, Bool.and_eq_true, decide_eq_true_eq, List.all_eq_true]
      exact ⟨⟨hb, by omega⟩, hall⟩
    rw [interB, if_pos hok]
    exact h2
  · have HE := Lib.hid (interB_no (ls := ls) (k := k) (n := n) (by
      rw [Bool.eq_false_iff]
      intro h
      simp only [interOk, Bool.and_eq_true, List.all_eq_true] at h
      exact hall h.2))
    have HALL := Lib.hid hall
    have HO := Lib.hid ho
    have HN := Lib.hid hn0
    have HLEN := Lib.hid hlens
    have hd : decide ((12 : Int) < (n0 : Int)) = false := decide_eq_false (by omega)
    clear ho hn0 hall hlens
    go_enter Try.func15, Try.ntmps15
    go_wp2_with (go_at_call 57; (with_reducible refine (HBX.out _ _ _ _ [] ?_ (by omega)).mono ?_); (exact (OI.lit w w.heap.size [] 0 rfl (Nat.le_refl _) (by simp)).ri); rintro e w' ⟨rfl, q0, rfl⟩)
    have ou : OI (((w.alloc (.cells #[] 3)).drewN q0).alloc (.cells #[] 3)) w.heap.size (.slice (some ⟨w.heap.size + 1, 0, none⟩) 0 0) [] := by
      have := OI.lit ((w.alloc (.cells #[] 3)).drewN q0) w.heap.size [] 0 rfl (by simp) (by simp)
      simpa [cellsI] using this
    have op0 := OP.one (base := w.heap.size) ou (by simp; omega)
    obtain ⟨W3, hW3⟩ : ∃ W3, W3 = ((((w.alloc (.cells #[] 3)).drewN q0).alloc (.cells #[] 3)).alloc (.cells #[.slice (some ⟨w.heap.size + 1, 0, none⟩) 0 0, .int .i64 1] 65)) := ⟨_, rfl⟩
    have g3 : Below w.heap.size w W3 := by rw [hW3]; exact (((below_drewN ((Below.refl _ _).alloc (Nat.le_refl _) _) q0).alloc (by simp) _).alloc (by simp; omega) _)
    rw [← hW3] at op0
    have hsz3 : (((w.alloc (.cells #[] 3)).drewN q0).alloc (.cells #[] 3)).heap.size = w.heap.size + 1 + 1 := by simp
    rw [hsz3] at op0
    have HW3 := Lib.hid hW3
    have OP0 := Lib.hid op0
    have G3 := Lib.hid g3
    clear ou op0 hW3 hsz3 g3
    rw [← HW3.out]
    go_loopw [8] (fun i wr => ∃ j : Nat, j ≤ n0 ∧ i = .int .i64 (j : Int) ∧ Quiet W3 wr ∧ Hid (∀ i, i < j → inBoxB (nthL ls i) k n = true)) (fun i _ => n0 - (intOf i).toNat)
    case atStart => exact ⟨0, Nat.zero_le _, rfl, (by first | exact ⟨_, rfl⟩ | exact ⟨_, (World.drewN_drewN _ _ _).symm⟩ | exact Quiet.refl _ | (simp only [World.drewN_drewN]; exact ⟨_, rfl⟩)), fun i hi => by omega⟩
    case round =>
      obtain ⟨j, hj, rfl, hqq, hto⟩ := hrel
      have hB : Below W3.heap.size W3 wr := Quiet.below hqq
      by_cases hlt : j < n0
      · obtain ⟨ad, A', n', c', hA, hc, _, ho', hnc⟩ := OS.cell ((HO.out.below G3.out).below hB) hlt
        subst hA
        have hlx := HLEN.out _ (nthL_mem (ls := ls) (k := j) (by rw [HN.out]; exact hlt))
        rw [ho'.ri.1] at hlx
        have HR := Lib.hid ho'.ri
        clear ho'
        rcases hbx : inBoxB (nthL ls j) k n with _ | _
        · have HCX : Hid (Calls Try.prog 57 #[.slice A' n' c', .int .i64 k, .int .i64 n] wr (Gives wr (.bool false))) := by
            have := HBX.out wr A' n' c' _ HR.out hlx
            rw [hbx] at this; exact this
          go_wp2_with (go_at_call 57; (with_reducible refine HCX.out.mono ?_); rintro e w' ⟨rfl, q1, rfl⟩)
          go_ret
          rw [HE.out]
          exact ⟨rfl, below_drewN (G3.out.trans (hB.mono G3.out.size)) _⟩
        · have HCX : Hid (Calls Try.prog 57 #[.slice A' n' c', .int .i64 k, .int .i64 n] wr (Gives wr (.bool true))) := by
            have := HBX.out wr A' n' c' _ HR.out hlx
            rw [hbx] at this; exact this
          have HBT := Lib.hid hbx
          clear hbx
          go_wp2_with (go_at_call 57; (with_reducible refine HCX.out.mono ?_); rintro e w' ⟨rfl, q1, rfl⟩)
          go_roundw
          case rel => obtain ⟨qq, rfl⟩ := hqq; exact ⟨j + 1, by omega, by go_num, (by first | exact ⟨_, rfl⟩ | exact ⟨_, (World.drewN_drewN _ _ _).symm⟩ | exact Quiet.refl _ | (simp only [World.drewN_drewN]; exact ⟨_, rfl⟩)), upTo hto.out HBT.out⟩
          case measure => simp [intOf]; omega
      · exfalso
        refine HALL.out fun s hs => ?_
        obtain ⟨i, hi, e⟩ := List.getElem_of_mem hs
        have := hto.out i (by rw [HN.out] at hi; omega)
        rw [nthL_lt hi, e] at this
        exact this
end Go.Proofs.Ytmodpicemlkbjaa
