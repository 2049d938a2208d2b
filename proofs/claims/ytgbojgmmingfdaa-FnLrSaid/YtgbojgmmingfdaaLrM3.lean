/- FnLr: finite checks by the kernel (printed by lr_gen.py). -/
import Derived.Test.YtgbojgmmingfdaaCnt
namespace Go.Proofs.Ytgbojgmmingfdaa
theorem lrM_2 : ((shapesIn 3 2).all fun b => lrMulF [2] b) = true := by decide +kernel
theorem lrM_6 : ((shapesIn 3 2).all fun b => lrMulF [1,1,1] b) = true := by decide +kernel
theorem lrM_10 : ((shapesIn 3 2).all fun b => lrMulF [2,1,1] b) = true := by decide +kernel
theorem lrM_14 : ((shapesIn 3 2).all fun b => lrMulF [3,2] b) = true := by decide +kernel
theorem lrM_18 : ((shapesIn 3 2).all fun b => lrMulF [6] b) = true := by decide +kernel
theorem lrM_22 : ((shapesIn 3 2).all fun b => lrMulF [3,3] b) = true := by decide +kernel
theorem lrM_26 : ((shapesIn 3 2).all fun b => lrMulF [2,2,1,1] b) = true := by decide +kernel
theorem lrM_30 : ((shapesIn 3 2).all fun b => lrMulF [5,1,1] b) = true := by decide +kernel
theorem lrM_34 : ((shapesIn 3 2).all fun b => lrMulF [3,3,1] b) = true := by decide +kernel
theorem lrM_38 : ((shapesIn 3 2).all fun b => lrMulF [8] b) = true := by decide +kernel
theorem lrM_42 : ((shapesIn 3 2).all fun b => lrMulF [5,3] b) = true := by decide +kernel
theorem lrM_46 : ((shapesIn 3 2).all fun b => lrMulF [4,3,1] b) = true := by decide +kernel
theorem lrM_50 : ((shapesIn 3 2).all fun b => lrMulF [3,3,1,1] b) = true := by decide +kernel
end Go.Proofs.Ytgbojgmmingfdaa
