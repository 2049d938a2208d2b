/- Products of the program (where the reference's are not in the seat). -/
import Derived.Test.YtbemglmnnehllaaLayerA
import Derived.Test.YtbemglmnnehllaaGrP
import Derived.Test.YtbemglmnnehllaaPieri
namespace Go.Proofs.Ytbemglmnnehllaa
open Go.RowKit

theorem OI.caps {w : World} {base n c : Nat} {A : Option Addr} {l : List Int} (h : OI w base (.slice A n c) l) : n ≤ c ∧ c ≤ 9223372036854775807 := by
  obtain ⟨A', n', c', hv, _, h1, h2, _⟩ := h.form
  obtain ⟨rfl, rfl, rfl⟩ := slice_inj hv
  exact ⟨h1, h2⟩
theorem fI_nats {l : List Int} (h : ∀ j, 0 ≤ nth l j) : fI (natsOf l) = l := fI_natsOf h

end Go.Proofs.Ytbemglmnnehllaa
