/- The laws' own helpers on shapes with powers: qparts. -/
import Derived.Test.YtbemglmnnehllaaQParts
import Derived.Test.YtbemglmnnehllaaLawF
namespace Go.Proofs.Ytbemglmnnehllaa
open Go.RowKit

set_option maxRecDepth 100000 in
set_option maxHeartbeats 1000000 in
theorem qparts_any {v v' : Value} {base b base' b' : Nat} {ps : List QT} {cells cells' : List Value} {w : World} (h1 : OU w base b v ps cells) (h2 : OU w base' b' v' ps cells') (hn : ps.length ≤ 1000000000) :
    Calls Try.prog 8 #[v, v'] w (GivesB w (.bool true)) := by
  obtain ⟨A, c, rfl, hc, _⟩ := OF.form h1
  obtain ⟨A', c', rfl, hc', _⟩ := OF.form h2
  obtain ⟨n, hn'⟩ : ∃ n, n = ps.length := ⟨_, rfl⟩
  rw [← hn'] at hn hc hc' ⊢
  have HN := Lib.hid hn'
  rw [← hn'] at h1 h2
  clear hn'
  go_enter Try.func8, Try.ntmps8
  go_wp2
  go_loopw [5] (fun i wr => ∃ k : Nat, k ≤ n ∧ i = .int .i64 k ∧ Below w.heap.size w wr) (fun i _ => n - (intOf i).toNat)
  case atStart => exact ⟨0, Nat.zero_le _, rfl, Below.refl _ _⟩
  case round =>
    obtain ⟨k, hk, rfl, hbl⟩ := hrel
    by_cases hlt : k < n
    · have g1 := OF.below h1 hbl
      have g2 := OF.below h2 hbl
      obtain ⟨G, cc, hG, _⟩ := OF.shape g1 (by rw [← HN.out]; omega)
      obtain ⟨G', cc', hG', _⟩ := OF.shape g2 (by rw [← HN.out]; omega)
      obtain ⟨rfl, e2, e3⟩ := slice_inj hG
      obtain ⟨rfl, e2', e3'⟩ := slice_inj hG'
      clear hG hG' e2 e3 e2' e3'
      obtain ⟨A1, n1, c1, x0, x1, _, x2, _, x3⟩ := OU.cell g1 (k := k) (by rw [← HN.out]; exact hlt)
      obtain ⟨A2, n2, c2, y0, y1, _, y2, _, y3⟩ := OU.cell g2 (k := k) (by rw [← HN.out]; exact hlt)
      obtain ⟨p, hp⟩ : ∃ p, p = (nthQ ps k).1 := ⟨_, rfl⟩
      obtain ⟨y, hy⟩ : ∃ y, y = (nthQ ps k).2.2 := ⟨_, rfl⟩
      rw [← hp] at x0 y0
      rw [← hy] at x3 y3
      have hpp : (p != p) = false := by simp
      have hyy : (y != y) = false := by simp
      have HB := Lib.hid hbl
      have HE : Hid (∀ W, Below wr.heap.size wr W → Calls Try.prog 24 #[.slice A1 n1 c1, .slice A2 n2 c2] W (Gives W (.bool true))) := fun W b => ints_any true _ _ (x2.ri.below b) (y2.ri.below b) (by simp) (by have := x2.le; omega) (by have := y2.le; omega)
      have X := Lib.hid (⟨x0, x1, x3, y0, y1, y3⟩ : _ ∧ _ ∧ _ ∧ _ ∧ _ ∧ _)
      clear g1 g2 hp hy x2 y2 x0 x1 x3 y0 y1 y3 hbl
      go_wp2_with fail
      go_region_held3 (fun w' => w'.cell? ⟨G, k * 3, none⟩ = some (.int .i64 p) ∧ w'.cell? ⟨G, k * 3 + 1, none⟩ = some (.slice A1 n1 c1) ∧ w'.cell? ⟨G, k * 3 + 2, none⟩ = some (.int .i64 y) ∧ w'.cell? ⟨G', k * 3, none⟩ = some (.int .i64 p) ∧ w'.cell? ⟨G', k * 3 + 1, none⟩ = some (.slice A2 n2 c2) ∧ w'.cell? ⟨G', k * 3 + 2, none⟩ = some (.int .i64 y)) (first | exact X.out | exact ⟨one_cell b2 X.out.1, one_cell b2 X.out.2.1, one_cell b2 X.out.2.2.1, one_cell b2 X.out.2.2.2.1, one_cell b2 X.out.2.2.2.2.1, one_cell b2 X.out.2.2.2.2.2⟩) (first
        | (go_at_call 24; (with_reducible refine (HE.out _ ?_).mono ?_); (exact ⟨rfl, rfl, rfl, Nat.le_refl _, fun _ _ => rfl⟩); rintro e w2 ⟨rfl, q2⟩; have b2 : Below wr.heap.size wr w2 := (by have b3 := q2.below (B := wr.heap.size); exact ⟨b3.os, b3.tape, b3.output, b3.size, b3.block⟩)))
      go_wp2
      go_roundw
      case rel => exact ⟨k + 1, by omega, by go_num, bnext HB.out b2 HB.out.size⟩
      case measure => simp [intOf]; omega
    · go_wp2
      go_ret
      exact ⟨rfl, hbl⟩
end Go.Proofs.Ytbemglmnnehllaa
