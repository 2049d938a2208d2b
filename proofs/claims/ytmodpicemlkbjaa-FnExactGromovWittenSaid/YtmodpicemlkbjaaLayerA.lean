/- layer of the program, at every rest and row. -/
import Derived.Test.YtmodpicemlkbjaaLayerRow
namespace Go.Proofs.Ytmodpicemlkbjaa

theorem layer_any : ∀ (rest : List Nat) (d : Nat), LayerP rest d := by
  intro rest
  induction rest with
  | nil =>
    intro d
    induction d with
    | zero => exact layer_zero [] (fun c rest' e => by cases e)
    | succ d ih => exact layer_row [] d ih
  | cons c rest ihr =>
    intro d
    induction d with
    | zero => exact layer_zero (c :: rest) (fun c' rest' e d => by injection e with _ e2; subst e2; exact ihr d)
    | succ d ih => exact layer_row (c :: rest) d ih
end Go.Proofs.Ytmodpicemlkbjaa
