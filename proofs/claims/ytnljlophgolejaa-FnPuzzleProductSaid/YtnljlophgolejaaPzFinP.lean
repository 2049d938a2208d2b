/- Puzzles multiply as fillings do, in boxes of at most 6: by the kernel. -/
import Derived.Test.YtnljlophgolejaaPPro
import Derived.Test.YtnljlophgolejaaStrOf
import Derived.Test.YtnljlophgolejaaGrI
import Derived.Test.YtnljlophgolejaaCnt
namespace Go.Proofs.Ytnljlophgolejaa

def chkP1 (K M : Nat) (a b : List Int) : Bool :=
  alikeB (strB a K ((K : Int) + M)) (strB b K ((K : Int) + M)) && (decide (ppB (strB a K ((K : Int) + M)) (strB b K ((K : Int) + M)) = fillB a b K M) &&
    (shapesIn K M).all fun c => decide (cntPz (strB a K ((K : Int) + M)) (strB b K ((K : Int) + M)) (strB c K ((K : Int) + M)) = cntP (fillB a b K M) c))
def chkP (K M : Nat) : Bool := (shapesIn K M).all fun a => (shapesIn K M).all fun b => chkP1 K M a b
set_option maxRecDepth 100000 in
theorem chkP_small : ((List.range 6).all fun K => (List.range (6 - K)).all fun M => decide (K + M < 1) || chkP K M) = true := by decide +kernel
end Go.Proofs.Ytnljlophgolejaa
