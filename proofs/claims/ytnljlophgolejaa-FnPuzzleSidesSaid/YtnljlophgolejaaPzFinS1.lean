/- Puzzles of strings of 6: their sides, turned and reflected: some of the strings, by the kernel. -/
import Derived.Test.YtnljlophgolejaaPzFinS
namespace Go.Proofs.Ytnljlophgolejaa
set_option maxRecDepth 100000 in
theorem chkS6_0 : chkSA 6 (((strs 6).drop 0).take 4) = true := by decide +kernel
set_option maxRecDepth 100000 in
theorem chkS6_4 : chkSA 6 (((strs 6).drop 4).take 4) = true := by decide +kernel
set_option maxRecDepth 100000 in
theorem chkS6_8 : chkSA 6 (((strs 6).drop 8).take 4) = true := by decide +kernel
set_option maxRecDepth 100000 in
theorem chkS6_12 : chkSA 6 (((strs 6).drop 12).take 4) = true := by decide +kernel
end Go.Proofs.Ytnljlophgolejaa
