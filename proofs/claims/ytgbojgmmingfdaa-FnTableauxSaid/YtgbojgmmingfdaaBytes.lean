/- What laws over the bytes of a draw use: the bytes opened; big; small functions of the laws. -/
import Derived.Test.YtgbojgmmingfdaaWords
import Derived.Test.YtgbojgmmingfdaaDraw
import Derived.Test.YtgbojgmmingfdaaShapes
namespace Go.Proofs.Ytgbojgmmingfdaa
open Go.ChangeShapes Go.WideShapes Go.ChangeAt Go.RowKit
open Go.ChangeMaps (open_string shut_string)

theorem open_RB {H : Type} {enc : TypeId × Value → H} {W : World} {base : Nat} {sp : Nat → Bool} {hd : Bool} {a : Option Addr} {len cap : Nat} {d : DataW H} {p : List MemPlace}
    (h : DataW.Trod enc Try.prog W base sp hd 38 (.slice a len cap) d p) : RB W a len := by
  obtain ⟨fuel, hf⟩ := h
  rcases open_ints Try.underlying38 Try.underlying5 (by kernel_rfl) hf with ⟨hcs, _⟩ | ⟨x, l, c, zs, hcs, _, hl, hm, hz, _, hcell, hwz⟩
  · simp [Value.cells] at hcs
    obtain ⟨rfl, rfl, rfl⟩ := hcs
    exact ⟨by omega, fun k hk => by omega⟩
  · simp [Value.cells] at hcs
    obtain ⟨rfl, rfl, rfl⟩ := hcs
    have hlen : len ≤ zs.length := by
      have := hz
      split at this <;> omega
    refine ⟨by unfold maxLen at hm; omega, fun k hk => ⟨x, zs.getD k 0, rfl, hcell k (by omega), ?_⟩⟩
    exact range_u8 hwz k

theorem big_any {w : World} {A : Option Addr} {n : Nat} (c : Nat) : Calls Try.prog 22 #[.slice A n c] w (Gives w (.bool (decide (1048576 < n)))) := by
  go_enter Try.func22, Try.ntmps22
  go_wp2
  go_ret
  have e : decide ((1048576 : Int) < (n : Int)) = decide (1048576 < n) := by simp only [decide_eq_decide]; omega
  exact ⟨by rw [← e]; rfl, Quiet.refl _⟩

theorem reversed_any {w : World} {A : Option Addr} {n : Nat} {l : List Int} (c : Nat) (hx : RI w A n l) (hn : n ≤ 1000000000) :
    Calls Try.prog 47 #[.slice A n c] w (Makes w l.reverse) := by
  have HL := Lib.hid hx.1
  go_enter Try.func47, Try.ntmps47
  go_wp2
  go_loopw [3, 4] (fun u i wr => ∃ k : Nat, k ≤ n ∧ i = .int .i64 ((k : Int) - 1) ∧ OI wr w.heap.size u (l.drop k).reverse ∧ Below w.heap.size w wr) (fun _ i _ => (intOf i + 1).toNat)
  case atStart => exact ⟨n, Nat.le_refl _, rfl, by rw [List.drop_of_length_le (by rw [HL.out]; exact Nat.le_refl _)]; exact OI.lit w w.heap.size [] 0 rfl (Nat.le_refl _) (by simp), (Below.refl _ _).alloc (Nat.le_refl _) _⟩
  case round =>
    obtain ⟨k, hk, rfl, ho, hb⟩ := hrel
    have hsz := hb.size
    by_cases hlt : 0 < k
    · obtain ⟨j, rfl⟩ : ∃ j, k = j + 1 := ⟨k - 1, by omega⟩
      obtain ⟨ad, hA, hc⟩ := (hx.below hb).cell (k := j) (by omega)
      subst hA
      have e1 : ((j + 1 : Nat) : Int) - 1 = (j : Int) := by omega
      rw [e1]
      clear e1
      have HR : Hid ((l.drop j).reverse = (l.drop (j + 1)).reverse ++ [nth l j]) := by
        show (l.drop j).reverse = _
        rw [drop_nth (by rw [HL.out]; omega), List.reverse_cons]
      have hlen : (l.drop (j + 1)).reverse.length + 1 ≤ 1000000000000 := by rw [List.length_reverse, List.length_drop, HL.out]; omega
      go_wp2_with (at_builtin; refine wpApp1 rfl _ _ rfl w.heap.size u3 (l.drop (j + 1)).reverse (nth l j) rfl (by exact ho) rfl hlen (by exact hsz) ?_; intro v' w' h1 h2 h3)
      go_roundw
      case rel => exact ⟨j, by omega, by go_num, by rw [HR.out]; exact h1, hb.grown h2 hsz (fun k hk => (ho.lt k hk).1)⟩
      case measure => simp [intOf]
    · obtain rfl : k = 0 := by omega
      have e : l.drop 0 = l := rfl
      rw [e] at ho
      go_wp2
      go_ret
      exact Makes.of ho hb (by rw [List.length_reverse, HL.out]; omega)

theorem lsum_any {A : Option Addr} {n : Nat} {l : List Int} {w : World} (c : Nat) (hx : RI w A n l) (hs : Small l) (hn : n ≤ 1000000) :
    Calls Try.prog 33 #[.slice A n c] w (Gives w (.int .i64 (sumL l))) := by
  have HL := Lib.hid hx.1
  have HS := Lib.hid hs
  clear hs
  go_enter Try.func33, Try.ntmps33
  go_wp2
  go_loopw [3, 4] (fun s i wr => ∃ k : Nat, k ≤ n ∧ i = .int .i64 k ∧ s = .int .i64 (sumTo l k) ∧ Quiet w wr) (fun _ i _ => n - (intOf i).toNat)
  case atStart => exact ⟨0, Nat.zero_le _, rfl, rfl, (by first | exact ⟨_, rfl⟩ | exact ⟨_, (World.drewN_drewN _ _ _).symm⟩ | exact Quiet.refl _ | (simp only [World.drewN_drewN]; exact ⟨_, rfl⟩))⟩
  case round =>
    obtain ⟨k, hk, rfl, rfl, ⟨q, rfl⟩⟩ := hrel
    by_cases hlt : k < n
    · obtain ⟨ad, hA, hc⟩ := hx.cell hlt
      subst hA
      obtain ⟨b1, b2⟩ := sumTo_bound HS.out (n := k) (by rw [HL.out]; exact hk)
      obtain ⟨b3, b4⟩ := HS.out k (by rw [HL.out]; exact hlt)
      go_wp2
      go_roundw
      case rel => exact ⟨k + 1, by omega, by go_num, rfl, (by first | exact ⟨_, rfl⟩ | exact ⟨_, (World.drewN_drewN _ _ _).symm⟩ | exact Quiet.refl _ | (simp only [World.drewN_drewN]; exact ⟨_, rfl⟩))⟩
      case measure => simp [intOf]; omega
    · obtain rfl : k = n := by omega
      go_wp2
      go_ret
      exact ⟨by unfold sumL; rw [HL.out]; rfl, (by first | exact ⟨_, rfl⟩ | exact ⟨_, (World.drewN_drewN _ _ _).symm⟩ | exact Quiet.refl _ | (simp only [World.drewN_drewN]; exact ⟨_, rfl⟩))⟩
end Go.Proofs.Ytgbojgmmingfdaa
