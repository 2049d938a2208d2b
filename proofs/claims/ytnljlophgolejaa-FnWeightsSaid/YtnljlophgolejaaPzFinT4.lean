/- Turns of puzzles of size 6: a quarter of the strings, by the kernel. -/
import Derived.Test.YtnljlophgolejaaPzFinT
namespace Go.Proofs.Ytnljlophgolejaa
set_option maxRecDepth 100000 in
theorem chkT6_4 : chkA 6 (((strs 6).drop 48).take 16) = true := by decide +kernel
end Go.Proofs.Ytnljlophgolejaa
