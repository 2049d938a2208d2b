/- FnLr: finite checks by the kernel (printed by lr_gen.py). -/
import Derived.Test.YtgbojgmmingfdaaCnt
namespace Go.Proofs.Ytgbojgmmingfdaa
theorem lrM_1 : ((shapesIn 3 2).all fun b => lrMulF [1] b) = true := by decide +kernel
theorem lrM_5 : ((shapesIn 3 2).all fun b => lrMulF [2,1] b) = true := by decide +kernel
theorem lrM_9 : ((shapesIn 3 2).all fun b => lrMulF [2,2] b) = true := by decide +kernel
theorem lrM_13 : ((shapesIn 3 2).all fun b => lrMulF [4,1] b) = true := by decide +kernel
theorem lrM_17 : ((shapesIn 3 2).all fun b => lrMulF [2,1,1,1] b) = true := by decide +kernel
theorem lrM_21 : ((shapesIn 3 2).all fun b => lrMulF [4,1,1] b) = true := by decide +kernel
theorem lrM_25 : ((shapesIn 3 2).all fun b => lrMulF [2,2,2] b) = true := by decide +kernel
theorem lrM_29 : ((shapesIn 3 2).all fun b => lrMulF [5,2] b) = true := by decide +kernel
theorem lrM_33 : ((shapesIn 3 2).all fun b => lrMulF [4,1,1,1] b) = true := by decide +kernel
theorem lrM_37 : ((shapesIn 3 2).all fun b => lrMulF [2,2,2,1] b) = true := by decide +kernel
theorem lrM_41 : ((shapesIn 3 2).all fun b => lrMulF [6,1,1] b) = true := by decide +kernel
theorem lrM_45 : ((shapesIn 3 2).all fun b => lrMulF [4,4] b) = true := by decide +kernel
theorem lrM_49 : ((shapesIn 3 2).all fun b => lrMulF [3,3,2] b) = true := by decide +kernel
end Go.Proofs.Ytgbojgmmingfdaa
