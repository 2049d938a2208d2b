/- FnKeys: shapes of at most five rows, by the kernel (printed by keyf_gen.py). -/
import Derived.Test.YtgbojgmmingfdaaKeyF
namespace Go.Proofs.Ytgbojgmmingfdaa
theorem keyG_1 : keyFB 5 [1] = true := by decide +kernel
theorem keyG_3 : keyFB 5 [1,1] = true := by decide +kernel
theorem keyG_5 : keyFB 5 [2,1] = true := by decide +kernel
theorem keyG_7 : keyFB 5 [4] = true := by decide +kernel
theorem keyG_9 : keyFB 5 [2,2] = true := by decide +kernel
theorem keyG_11 : keyFB 5 [1,1,1,1] = true := by decide +kernel
theorem keyG_13 : keyFB 5 [3,2] = true := by decide +kernel
theorem keyG_15 : keyFB 5 [2,2,1] = true := by decide +kernel
theorem keyG_17 : keyFB 5 [1,1,1,1,1] = true := by decide +kernel
theorem keyG_19 : keyFB 5 [4,1,1] = true := by decide +kernel
theorem keyG_21 : keyFB 5 [3,2,1] = true := by decide +kernel
theorem keyG_23 : keyFB 5 [2,2,2] = true := by decide +kernel
theorem keyG_25 : keyFB 5 [2,1,1,1,1] = true := by decide +kernel
theorem keyG_27 : keyFB 5 [4,2,1] = true := by decide +kernel
theorem keyG_29 : keyFB 5 [3,3,1] = true := by decide +kernel
theorem keyG_31 : keyFB 5 [3,2,1,1] = true := by decide +kernel
theorem keyG_33 : keyFB 5 [2,2,2,1] = true := by decide +kernel
theorem keyG_35 : keyFB 5 [4,4] = true := by decide +kernel
theorem keyG_37 : keyFB 5 [4,2,2] = true := by decide +kernel
theorem keyG_39 : keyFB 5 [4,1,1,1,1] = true := by decide +kernel
theorem keyG_41 : keyFB 5 [3,3,1,1] = true := by decide +kernel
theorem keyG_43 : keyFB 5 [3,2,1,1,1] = true := by decide +kernel
theorem keyG_45 : keyFB 5 [2,2,2,1,1] = true := by decide +kernel
end Go.Proofs.Ytgbojgmmingfdaa
