/- Puzzles of strings of 6: their sides, turned and reflected: some of the strings, by the kernel. -/
import Derived.Test.YtnljlophgolejaaPzFinS
namespace Go.Proofs.Ytnljlophgolejaa
set_option maxRecDepth 100000 in
theorem chkS6_48 : chkSA 6 (((strs 6).drop 48).take 4) = true := by decide +kernel
set_option maxRecDepth 100000 in
theorem chkS6_52 : chkSA 6 (((strs 6).drop 52).take 4) = true := by decide +kernel
set_option maxRecDepth 100000 in
theorem chkS6_56 : chkSA 6 (((strs 6).drop 56).take 4) = true := by decide +kernel
set_option maxRecDepth 100000 in
theorem chkS6_60 : chkSA 6 (((strs 6).drop 60).take 4) = true := by decide +kernel
end Go.Proofs.Ytnljlophgolejaa
