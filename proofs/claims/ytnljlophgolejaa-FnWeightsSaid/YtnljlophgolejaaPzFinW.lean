/- Weighted puzzles of strings of at most 5 whose sizes add are the puzzles: by the kernel. -/
import Derived.Test.YtnljlophgolejaaPzFinT
import Derived.Test.YtnljlophgolejaaCountI
namespace Go.Proofs.Ytnljlophgolejaa

def adds (n : Nat) (a b : List Int) (p : PZ) : Bool := decide (sumL (shapeStr (sideB n p.2.2 n)) = sumL (shapeStr a) + sumL (shapeStr b))
def chkW1 (n : Nat) (a b : List Int) : Bool :=
  decide ((spAll true a b).filter (adds n a b) = spAll false a b) && (spAll false a b).all fun p => p.2.2.all fun x => decide (x ≠ 3)
def chkWA (n : Nat) (xs : List (List Int)) : Bool := xs.all fun a => (strs n).all fun b => if alikeB a b = true then chkW1 n a b else true
set_option maxRecDepth 100000 in
theorem chkW_small : ((List.range 6).all fun n => chkWA n (strs n)) = true := by decide +kernel
end Go.Proofs.Ytnljlophgolejaa
