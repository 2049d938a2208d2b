/- Puzzles multiply as fillings do, in boxes of 6: by the kernel. -/
import Derived.Test.YtnljlophgolejaaPzFinP
namespace Go.Proofs.Ytnljlophgolejaa
set_option maxRecDepth 100000 in
theorem chkP_42 : chkP 4 2 = true := by decide +kernel
set_option maxRecDepth 100000 in
theorem chkP_51 : chkP 5 1 = true := by decide +kernel
set_option maxRecDepth 100000 in
theorem chkP_60 : chkP 6 0 = true := by decide +kernel
end Go.Proofs.Ytnljlophgolejaa
