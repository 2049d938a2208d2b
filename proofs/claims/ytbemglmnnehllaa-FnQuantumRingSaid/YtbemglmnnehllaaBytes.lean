/- What laws over the bytes of a draw use: the bytes opened; big; small functions of the laws. -/
import Derived.Test.YtbemglmnnehllaaWords
import Derived.Test.YtbemglmnnehllaaDraw
import Derived.Test.YtbemglmnnehllaaShapes
namespace Go.Proofs.Ytbemglmnnehllaa
open Go.ChangeShapes Go.WideShapes Go.ChangeAt Go.RowKit
open Go.ChangeMaps (open_string shut_string)

theorem open_RB {H : Type} {enc : TypeId × Value → H} {W : World} {base : Nat} {sp : Nat → Bool} {hd : Bool} {a : Option Addr} {len cap : Nat} {d : DataW H} {p : List MemPlace}
    (h : DataW.Trod enc Try.prog W base sp hd 22 (.slice a len cap) d p) : RB W a len := by
  obtain ⟨fuel, hf⟩ := h
  rcases open_ints Try.underlying22 Try.underlying5 (by kernel_rfl) hf with ⟨hcs, _⟩ | ⟨x, l, c, zs, hcs, _, hl, hm, hz, _, hcell, hwz⟩
  · simp [Value.cells] at hcs
    obtain ⟨rfl, rfl, rfl⟩ := hcs
    exact ⟨by omega, fun k hk => by omega⟩
  · simp [Value.cells] at hcs
    obtain ⟨rfl, rfl, rfl⟩ := hcs
    have hlen : len ≤ zs.length := by
      have := hz
      split at this <;> omega
    refine ⟨by unfold maxLen at hm; omega, fun k hk => ⟨x, zs.getD k 0, rfl, hcell k (by omega), ?_⟩⟩
    exact range_u8 hwz k

theorem big_any {w : World} {A : Option Addr} {n : Nat} (c : Nat) : Calls Try.prog 4 #[.slice A n c] w (Gives w (.bool (decide (1048576 < n)))) := by
  go_enter Try.func4, Try.ntmps4
  go_wp2
  go_ret
  have e : decide ((1048576 : Int) < (n : Int)) = decide (1048576 < n) := by simp only [decide_eq_decide]; omega
  exact ⟨by rw [← e]; rfl, Quiet.refl _⟩

end Go.Proofs.Ytbemglmnnehllaa
