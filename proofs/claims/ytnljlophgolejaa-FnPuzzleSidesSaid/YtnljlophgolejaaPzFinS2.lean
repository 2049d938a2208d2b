/- Puzzles of strings of 6: their sides, turned and reflected: some of the strings, by the kernel. -/
import Derived.Test.YtnljlophgolejaaPzFinS
namespace Go.Proofs.Ytnljlophgolejaa
set_option maxRecDepth 100000 in
theorem chkS6_32 : chkSA 6 (((strs 6).drop 32).take 4) = true := by decide +kernel
set_option maxRecDepth 100000 in
theorem chkS6_36 : chkSA 6 (((strs 6).drop 36).take 4) = true := by decide +kernel
set_option maxRecDepth 100000 in
theorem chkS6_40 : chkSA 6 (((strs 6).drop 40).take 4) = true := by decide +kernel
set_option maxRecDepth 100000 in
theorem chkS6_44 : chkSA 6 (((strs 6).drop 44).take 4) = true := by decide +kernel
end Go.Proofs.Ytnljlophgolejaa
