/- What laws over the bytes of a draw use: the bytes opened; big; small functions of the laws. -/
import Derived.Test.YtgbojgmmingfdaaWords
import Derived.Test.YtgbojgmmingfdaaDraw
import Derived.Test.YtgbojgmmingfdaaShapes
import Derived.Test.YtgbojgmmingfdaaCnt
namespace Go.Proofs.Ytgbojgmmingfdaa
open Go.ChangeShapes Go.WideShapes Go.ChangeAt Go.RowKit
open Go.ChangeMaps (open_string shut_string)

theorem open_RB {H : Type} {enc : TypeId × Value → H} {W : World} {base : Nat} {sp : Nat → Bool} {hd : Bool} {a : Option Addr} {len cap : Nat} {d : DataW H} {p : List MemPlace}
    (h : DataW.Trod enc Try.prog W base sp hd 38 (.slice a len cap) d p) : RB W a len := by
  obtain ⟨fuel, hf⟩ := h
  rcases open_ints Try.underlying38 Try.underlying5 (by kernel_rfl) hf with ⟨hcs, _⟩ | ⟨x, l, c, zs, hcs, _, hl, hm, hz, _, hcell, hwz⟩
  · simp [Value.cells] at hcs
    obtain ⟨rfl, rfl, rfl⟩ := hcs
    exact ⟨by omega, fun k hk => by omega⟩
  · simp [Value.cells] at hcs
    obtain ⟨rfl, rfl, rfl⟩ := hcs
    have hlen : len ≤ zs.length := by
      have := hz
      split at this <;> omega
    refine ⟨by unfold maxLen at hm; omega, fun k hk => ⟨x, zs.getD k 0, rfl, hcell k (by omega), ?_⟩⟩
    exact range_u8 hwz k

theorem big_any {w : World} {A : Option Addr} {n : Nat} (c : Nat) : Calls Try.prog 22 #[.slice A n c] w (Gives w (.bool (decide (1048576 < n)))) := by
  go_enter Try.func22, Try.ntmps22
  go_wp2
  go_ret
  have e : decide ((1048576 : Int) < (n : Int)) = decide (1048576 < n) := by simp only [decide_eq_decide]; omega
  exact ⟨by rw [← e]; rfl, Quiet.refl _⟩

theorem reversed_any {w : World} {A : Option Addr} {n : Nat} {l : List Int} (c : Nat) (hx : RI w A n l) (hn : n ≤ 1000000000) :
    Calls Try.prog 47 #[.slice A n c] w (Makes w l.reverse) := by
  have HL := Lib.hid hx.1
  go_enter Try.func47, Try.ntmps47
  go_wp2
  go_loopw [3, 4] (fun u i wr => ∃ k : Nat, k ≤ n ∧ i = .int .i64 ((k : Int) - 1) ∧ OI wr w.heap.size u (l.drop k).reverse ∧ Below w.heap.size w wr) (fun _ i _ => (intOf i + 1).toNat)
  case atStart => exact ⟨n, Nat.le_refl _, rfl, by rw [List.drop_of_length_le (by rw [HL.out]; exact Nat.le_refl _)]; exact OI.lit w w.heap.size [] 0 rfl (Nat.le_refl _) (by simp), (Below.refl _ _).alloc (Nat.le_refl _) _⟩
  case round =>
    obtain ⟨k, hk, rfl, ho, hb⟩ := hrel
    have hsz := hb.size
    by_cases hlt : 0 < k
    · obtain ⟨j, rfl⟩ : ∃ j, k = j + 1 := ⟨k - 1, by omega⟩
      obtain ⟨ad, hA, hc⟩ := (hx.below hb).cell (k := j) (by omega)
      subst hA
      have e1 : ((j + 1 : Nat) : Int) - 1 = (j : Int) := by omega
      rw [e1]
      clear e1
      have HR : Hid ((l.drop j).reverse = (l.drop (j + 1)).reverse ++ [nth l j]) := by
        show (l.drop j).reverse = _
        rw [drop_nth (by rw [HL.out]; omega), List.reverse_cons]
      have hlen : (l.drop (j + 1)).reverse.length + 1 ≤ 1000000000000 := by rw [List.length_reverse, List.length_drop, HL.out]; omega
      go_wp2_with (at_builtin; refine wpApp1 rfl _ _ rfl w.heap.size u3 (l.drop (j + 1)).reverse (nth l j) rfl (by exact ho) rfl hlen (by exact hsz) ?_; intro v' w' h1 h2 h3)
      go_roundw
      case rel => exact ⟨j, by omega, by go_num, by rw [HR.out]; exact h1, hb.grown h2 hsz (fun k hk => (ho.lt k hk).1)⟩
      case measure => simp [intOf]
    · obtain rfl : k = 0 := by omega
      have e : l.drop 0 = l := rfl
      rw [e] at ho
      go_wp2
      go_ret
      exact Makes.of ho hb (by rw [List.length_reverse, HL.out]; omega)

theorem lsum_any {A : Option Addr} {n : Nat} {l : List Int} {w : World} (c : Nat) (hx : RI w A n l) (hs : Small l) (hn : n ≤ 1000000) :
    Calls Try.prog 33 #[.slice A n c] w (Gives w (.int .i64 (sumL l))) := by
  have HL := Lib.hid hx.1
  have HS := Lib.hid hs
  clear hs
  go_enter Try.func33, Try.ntmps33
  go_wp2
  go_loopw [3, 4] (fun s i wr => ∃ k : Nat, k ≤ n ∧ i = .int .i64 k ∧ s = .int .i64 (sumTo l k) ∧ Quiet w wr) (fun _ i _ => n - (intOf i).toNat)
  case atStart => exact ⟨0, Nat.zero_le _, rfl, rfl, (by first | exact ⟨_, rfl⟩ | exact ⟨_, (World.drewN_drewN _ _ _).symm⟩ | exact Quiet.refl _ | (simp only [World.drewN_drewN]; exact ⟨_, rfl⟩))⟩
  case round =>
    obtain ⟨k, hk, rfl, rfl, ⟨q, rfl⟩⟩ := hrel
    by_cases hlt : k < n
    · obtain ⟨ad, hA, hc⟩ := hx.cell hlt
      subst hA
      obtain ⟨b1, b2⟩ := sumTo_bound HS.out (n := k) (by rw [HL.out]; exact hk)
      obtain ⟨b3, b4⟩ := HS.out k (by rw [HL.out]; exact hlt)
      go_wp2
      go_roundw
      case rel => exact ⟨k + 1, by omega, by go_num, rfl, (by first | exact ⟨_, rfl⟩ | exact ⟨_, (World.drewN_drewN _ _ _).symm⟩ | exact Quiet.refl _ | (simp only [World.drewN_drewN]; exact ⟨_, rfl⟩))⟩
      case measure => simp [intOf]; omega
    · obtain rfl : k = n := by omega
      go_wp2
      go_ret
      exact ⟨by unfold sumL; rw [HL.out]; rfl, (by first | exact ⟨_, rfl⟩ | exact ⟨_, (World.drewN_drewN _ _ _).symm⟩ | exact Quiet.refl _ | (simp only [World.drewN_drewN]; exact ⟨_, rfl⟩))⟩
end Go.Proofs.Ytgbojgmmingfdaa

/- Small functions of the laws: at0, bare, parts, countIn. -/
namespace Go.Proofs.Ytgbojgmmingfdaa
open Go.RowKit

set_option maxHeartbeats 1000000 in
theorem parts_any {v v' : Value} {base b base' b' : Nat} {ps : List (List Int × Int)} {cells cells' : List Value} {w : World} (h1 : OP w base b v ps cells) (h2 : OP w base' b' v' ps cells') (hn : ps.length ≤ 100000000000) :
    Calls Try.prog 52 #[v, v'] w (GivesB w (.bool true)) := by
  obtain ⟨A, c, rfl, hc, _⟩ := OF.form h1
  obtain ⟨A', c', rfl, hc', _⟩ := OF.form h2
  obtain ⟨n, hn'⟩ : ∃ n, n = ps.length := ⟨_, rfl⟩
  rw [← hn'] at hn hc hc' ⊢
  have HN := Lib.hid hn'
  rw [← hn'] at h1 h2
  clear hn'
  go_enter Try.func52, Try.ntmps52
  go_wp2
  go_loopw [5] (fun i wr => ∃ k : Nat, k ≤ n ∧ i = .int .i64 k ∧ Below w.heap.size w wr) (fun i _ => n - (intOf i).toNat)
  case atStart => exact ⟨0, Nat.zero_le _, rfl, Below.refl _ _⟩
  case round =>
    obtain ⟨k, hk, rfl, hbl⟩ := hrel
    by_cases hlt : k < n
    · have g1 := OF.below h1 hbl
      have g2 := OF.below h2 hbl
      obtain ⟨G, cc, hG, _⟩ := OF.shape g1 (by rw [← HN.out]; omega)
      obtain ⟨G', cc', hG', _⟩ := OF.shape g2 (by rw [← HN.out]; omega)
      obtain ⟨rfl, e2, e3⟩ := slice_inj hG
      obtain ⟨rfl, e2', e3'⟩ := slice_inj hG'
      clear hG hG' e2 e3 e2' e3'
      obtain ⟨A1, n1, c1, x1, _, x2, _, x3⟩ := OP.cell g1 (k := k) (by rw [← HN.out]; exact hlt)
      obtain ⟨A2, n2, c2, y1, _, y2, _, y3⟩ := OP.cell g2 (k := k) (by rw [← HN.out]; exact hlt)
      obtain ⟨y, hy⟩ : ∃ y, y = (nthP ps k).2 := ⟨_, rfl⟩
      rw [← hy] at x3 y3
      have hyy : (y != y) = false := by simp
      have HB := Lib.hid hbl
      have HE : Hid (∀ W, Below wr.heap.size wr W → Calls Try.prog 30 #[.slice A1 n1 c1, .slice A2 n2 c2] W (Gives W (.bool true))) := fun W b => ints_any true _ _ (x2.ri.below b) (y2.ri.below b) (by simp) (by have := x2.le; omega) (by have := y2.le; omega)
      have X := Lib.hid x1
      have X3 := Lib.hid x3
      have Y := Lib.hid y1
      have Y3 := Lib.hid y3
      clear g1 g2 hy x2 y2 x1 x3 y1 y3 hbl
      go_wp2_with fail
      go_region_held3 (fun w' => w'.cell? ⟨G, k * 2, none⟩ = some (.slice A1 n1 c1) ∧ w'.cell? ⟨G, k * 2 + 1, none⟩ = some (.int .i64 y) ∧ w'.cell? ⟨G', k * 2, none⟩ = some (.slice A2 n2 c2) ∧ w'.cell? ⟨G', k * 2 + 1, none⟩ = some (.int .i64 y)) (first | exact ⟨X.out, X3.out, Y.out, Y3.out⟩ | exact ⟨one_cell b2 X.out, one_cell b2 X3.out, one_cell b2 Y.out, one_cell b2 Y3.out⟩) (first
        | (go_at_call 30; (with_reducible refine (HE.out _ ?_).mono ?_); (exact ⟨rfl, rfl, rfl, Nat.le_refl _, fun _ _ => rfl⟩); rintro e w2 ⟨rfl, q2⟩; have b2 : Below wr.heap.size wr w2 := (by have b3 := q2.below (B := wr.heap.size); exact ⟨b3.os, b3.tape, b3.output, b3.size, b3.block⟩)))
      go_wp2
      go_roundw
      case rel => exact ⟨k + 1, by omega, by go_num, bnext HB.out b2 HB.out.size⟩
      case measure => simp [intOf]; omega
    · go_wp2
      go_ret
      exact ⟨rfl, hbl⟩

set_option maxHeartbeats 1000000 in
theorem countIn_any {w : World} {base b n : Nat} {A : Option Addr} {s : List Int} {v : Value} {ps : List (List Int × Int)} {cells : List Value} (c : Nat) (hx : RI w A n s) (hn : n ≤ 1000000) (ho : OP w base b v ps cells) (hl : ∀ k, k < ps.length → (nthP ps k).1.length ≤ 1000000) (hN : ps.length ≤ 100000000000) :
    Calls Try.prog 27 #[v, .slice A n c] w (Gives w (.int .i64 (cntP ps s))) := by
  obtain ⟨A0, n0, c0, rfl, hn0, hc0, hc63⟩ := ho.form
  rw [hn0] at hN
  have HN := Lib.hid hn0
  have HL := Lib.hid hl
  have HX := Lib.hid hx
  have HO := Lib.hid ho
  clear hn0 hl ho
  go_enter Try.func27, Try.ntmps27
  go_wp2
  go_loopw [5] (fun i wr => ∃ k : Nat, k ≤ n0 ∧ i = .int .i64 (k : Int) ∧ Quiet w wr ∧ Hid (∀ j, j < k → (nthP ps j).1 ≠ s)) (fun i _ => n0 - (intOf i).toNat)
  case atStart => exact ⟨0, Nat.zero_le _, rfl, (by first | exact ⟨_, rfl⟩ | exact ⟨_, (World.drewN_drewN _ _ _).symm⟩ | exact Quiet.refl _ | (simp only [World.drewN_drewN]; exact ⟨_, rfl⟩)), fun j hj => by omega⟩
  case round =>
    obtain ⟨k, hk, rfl, ⟨qq, rfl⟩, ht⟩ := hrel
    by_cases hlt : k < n0
    · have hok := HO.out
      obtain ⟨G, cc, hGG, _⟩ := OF.shape hok (by rw [HN.out]; omega)
      obtain ⟨rfl, e2, e3⟩ := slice_inj hGG
      clear e2 e3 hGG
      obtain ⟨A4, n4, c4, k1, _, k2, _, k4⟩ := OP.cell hok (k := k) (by rw [HN.out]; exact hlt)
      have hl4 := HL.out k (by rw [HN.out]; exact hlt)
      have hri := k2.ri
      rw [hri.1] at hl4
      have HK := Lib.hid hri
      have hk1 : (w.drewN qq).cell? ⟨G, k * 2, none⟩ = some (.slice A4 n4 c4) := k1
      have hk4 : (w.drewN qq).cell? ⟨G, k * 2 + 1, none⟩ = some (.int .i64 (nthP ps k).2) := k4
      clear hok k1 k2 k4 hri
      rcases hd : decide ((nthP ps k).1 = s) with _ | _
      · have HD := Lib.hid hd
        have HS : Hid (∀ q, Calls Try.prog 30 #[.slice A4 n4 c4, .slice A n c] (w.drewN q) (Gives (w.drewN q) (.bool false))) := fun q => ints_any false _ _ (HK.out.drewN q) (HX.out.drewN q) HD.out.symm (by omega) (by omega)
        clear hd
        go_wp2_with (go_at_call 30; (with_reducible refine (HS.out _).mono ?_); rintro e w' ⟨rfl, q0, rfl⟩)
        go_roundw
        case rel => exact ⟨k + 1, by omega, by go_num, (by first | exact ⟨_, rfl⟩ | exact ⟨_, (World.drewN_drewN _ _ _).symm⟩ | exact Quiet.refl _ | (simp only [World.drewN_drewN]; exact ⟨_, rfl⟩)), fun j hj => by
          by_cases e : j = k
          · subst e; exact of_decide_eq_false HD.out
          · exact ht.out j (by omega)⟩
        case measure => simp [intOf]; omega
      · have HD := Lib.hid hd
        have HS : Hid (∀ q, Calls Try.prog 30 #[.slice A4 n4 c4, .slice A n c] (w.drewN q) (Gives (w.drewN q) (.bool true))) := fun q => ints_any true _ _ (HK.out.drewN q) (HX.out.drewN q) HD.out.symm (by omega) (by omega)
        have HE := Lib.hid (cntP_at ht.out (by rw [HN.out]; exact hlt) (of_decide_eq_true hd))
        have hk4' : ∀ q, (w.drewN q).cell? ⟨G, k * 2 + 1, none⟩ = some (.int .i64 (nthP ps k).2) := fun q => hk4
        clear hd
        go_wp2_with (go_at_call 30; (with_reducible refine (HS.out _).mono ?_); rintro e w' ⟨rfl, q0, rfl⟩)
        go_ret
        rw [HE.out]
        exact ⟨rfl, (by first | exact ⟨_, rfl⟩ | exact ⟨_, (World.drewN_drewN _ _ _).symm⟩ | exact Quiet.refl _ | (simp only [World.drewN_drewN]; exact ⟨_, rfl⟩))⟩
    · obtain rfl : k = n0 := by omega
      have HE := Lib.hid (cntP_none (ps := ps) (s := s) fun j hj => ht.out j (by rw [HN.out] at hj; exact hj))
      go_wp2
      go_ret
      rw [HE.out]
      exact ⟨rfl, (by first | exact ⟨_, rfl⟩ | exact ⟨_, (World.drewN_drewN _ _ _).symm⟩ | exact Quiet.refl _ | (simp only [World.drewN_drewN]; exact ⟨_, rfl⟩))⟩
end Go.Proofs.Ytgbojgmmingfdaa
