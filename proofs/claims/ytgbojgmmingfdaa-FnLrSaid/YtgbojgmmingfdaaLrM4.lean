/- FnLr: finite checks by the kernel (printed by lr_gen.py). -/
import Derived.Test.YtgbojgmmingfdaaCnt
namespace Go.Proofs.Ytgbojgmmingfdaa
theorem lrM_3 : ((shapesIn 3 2).all fun b => lrMulF [1,1] b) = true := by decide +kernel
theorem lrM_7 : ((shapesIn 3 2).all fun b => lrMulF [4] b) = true := by decide +kernel
theorem lrM_11 : ((shapesIn 3 2).all fun b => lrMulF [1,1,1,1] b) = true := by decide +kernel
theorem lrM_15 : ((shapesIn 3 2).all fun b => lrMulF [3,1,1] b) = true := by decide +kernel
theorem lrM_19 : ((shapesIn 3 2).all fun b => lrMulF [5,1] b) = true := by decide +kernel
theorem lrM_23 : ((shapesIn 3 2).all fun b => lrMulF [3,2,1] b) = true := by decide +kernel
theorem lrM_27 : ((shapesIn 3 2).all fun b => lrMulF [7] b) = true := by decide +kernel
theorem lrM_31 : ((shapesIn 3 2).all fun b => lrMulF [4,3] b) = true := by decide +kernel
theorem lrM_35 : ((shapesIn 3 2).all fun b => lrMulF [3,2,2] b) = true := by decide +kernel
theorem lrM_39 : ((shapesIn 3 2).all fun b => lrMulF [7,1] b) = true := by decide +kernel
theorem lrM_43 : ((shapesIn 3 2).all fun b => lrMulF [5,2,1] b) = true := by decide +kernel
theorem lrM_47 : ((shapesIn 3 2).all fun b => lrMulF [4,2,2] b) = true := by decide +kernel
theorem lrM_51 : ((shapesIn 3 2).all fun b => lrMulF [3,2,2,1] b) = true := by decide +kernel
end Go.Proofs.Ytgbojgmmingfdaa
