/- Puzzles multiply as fillings do, in boxes of 6: by the kernel. -/
import Derived.Test.YtnljlophgolejaaPzFinP
namespace Go.Proofs.Ytnljlophgolejaa
set_option maxRecDepth 100000 in
theorem chkP_06 : chkP 0 6 = true := by decide +kernel
set_option maxRecDepth 100000 in
theorem chkP_15 : chkP 1 5 = true := by decide +kernel
set_option maxRecDepth 100000 in
theorem chkP_24 : chkP 2 4 = true := by decide +kernel
end Go.Proofs.Ytnljlophgolejaa
