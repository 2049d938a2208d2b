/- Puzzles of strings of 6: their sides, turned and reflected: some of the strings, by the kernel. -/
import Derived.Test.YtnljlophgolejaaPzFinS
namespace Go.Proofs.Ytnljlophgolejaa
set_option maxRecDepth 100000 in
theorem chkS6_16 : chkSA 6 (((strs 6).drop 16).take 4) = true := by decide +kernel
set_option maxRecDepth 100000 in
theorem chkS6_20 : chkSA 6 (((strs 6).drop 20).take 4) = true := by decide +kernel
set_option maxRecDepth 100000 in
theorem chkS6_24 : chkSA 6 (((strs 6).drop 24).take 4) = true := by decide +kernel
set_option maxRecDepth 100000 in
theorem chkS6_28 : chkSA 6 (((strs 6).drop 28).take 4) = true := by decide +kernel
end Go.Proofs.Ytnljlophgolejaa
