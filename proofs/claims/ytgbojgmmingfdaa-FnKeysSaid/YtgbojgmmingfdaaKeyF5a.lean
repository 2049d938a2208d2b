/- FnKeys: shapes of at most five rows, by the kernel (printed by keyf_gen.py). -/
import Derived.Test.YtgbojgmmingfdaaKeyF
namespace Go.Proofs.Ytgbojgmmingfdaa
theorem keyG_0 : keyFB 5 [] = true := by decide +kernel
theorem keyG_2 : keyFB 5 [2] = true := by decide +kernel
theorem keyG_4 : keyFB 5 [3] = true := by decide +kernel
theorem keyG_6 : keyFB 5 [1,1,1] = true := by decide +kernel
theorem keyG_8 : keyFB 5 [3,1] = true := by decide +kernel
theorem keyG_10 : keyFB 5 [2,1,1] = true := by decide +kernel
theorem keyG_12 : keyFB 5 [4,1] = true := by decide +kernel
theorem keyG_14 : keyFB 5 [3,1,1] = true := by decide +kernel
theorem keyG_16 : keyFB 5 [2,1,1,1] = true := by decide +kernel
theorem keyG_18 : keyFB 5 [4,2] = true := by decide +kernel
theorem keyG_20 : keyFB 5 [3,3] = true := by decide +kernel
theorem keyG_22 : keyFB 5 [3,1,1,1] = true := by decide +kernel
theorem keyG_24 : keyFB 5 [2,2,1,1] = true := by decide +kernel
theorem keyG_26 : keyFB 5 [4,3] = true := by decide +kernel
theorem keyG_28 : keyFB 5 [4,1,1,1] = true := by decide +kernel
theorem keyG_30 : keyFB 5 [3,2,2] = true := by decide +kernel
theorem keyG_32 : keyFB 5 [3,1,1,1,1] = true := by decide +kernel
theorem keyG_34 : keyFB 5 [2,2,1,1,1] = true := by decide +kernel
theorem keyG_36 : keyFB 5 [4,3,1] = true := by decide +kernel
theorem keyG_38 : keyFB 5 [4,2,1,1] = true := by decide +kernel
theorem keyG_40 : keyFB 5 [3,3,2] = true := by decide +kernel
theorem keyG_42 : keyFB 5 [3,2,2,1] = true := by decide +kernel
theorem keyG_44 : keyFB 5 [2,2,2,2] = true := by decide +kernel
end Go.Proofs.Ytgbojgmmingfdaa
