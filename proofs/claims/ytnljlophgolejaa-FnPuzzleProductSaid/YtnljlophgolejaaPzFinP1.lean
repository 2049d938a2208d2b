/- Puzzles multiply as fillings do, in boxes of 6: by the kernel. -/
import Derived.Test.YtnljlophgolejaaPzFinP
namespace Go.Proofs.Ytnljlophgolejaa
set_option maxRecDepth 100000 in
theorem chkP_33a : (((shapesIn 3 3).take 10).all fun a => (shapesIn 3 3).all fun b => chkP1 3 3 a b) = true := by decide +kernel
end Go.Proofs.Ytnljlophgolejaa
