/- FnLr: finite checks by the kernel (printed by lr_gen.py). -/
import Derived.Test.YtgbojgmmingfdaaCnt
namespace Go.Proofs.Ytgbojgmmingfdaa
theorem lrQ_3 : ((shapesIn 3 2).all fun b => lrPairF [1,1] b) = true := by decide +kernel
theorem lrQ_7 : ((shapesIn 3 2).all fun b => lrPairF [4] b) = true := by decide +kernel
theorem lrQ_11 : ((shapesIn 3 2).all fun b => lrPairF [1,1,1,1] b) = true := by decide +kernel
theorem lrQ_15 : ((shapesIn 3 2).all fun b => lrPairF [3,1,1] b) = true := by decide +kernel
theorem lrQ_19 : ((shapesIn 3 2).all fun b => lrPairF [5,1] b) = true := by decide +kernel
theorem lrQ_23 : ((shapesIn 3 2).all fun b => lrPairF [3,2,1] b) = true := by decide +kernel
theorem lrQ_27 : ((shapesIn 3 2).all fun b => lrPairF [7] b) = true := by decide +kernel
theorem lrQ_31 : ((shapesIn 3 2).all fun b => lrPairF [4,3] b) = true := by decide +kernel
theorem lrQ_35 : ((shapesIn 3 2).all fun b => lrPairF [3,2,2] b) = true := by decide +kernel
theorem lrQ_39 : ((shapesIn 3 2).all fun b => lrPairF [7,1] b) = true := by decide +kernel
theorem lrQ_43 : ((shapesIn 3 2).all fun b => lrPairF [5,2,1] b) = true := by decide +kernel
theorem lrQ_47 : ((shapesIn 3 2).all fun b => lrPairF [4,2,2] b) = true := by decide +kernel
theorem lrQ_51 : ((shapesIn 3 2).all fun b => lrPairF [3,2,2,1] b) = true := by decide +kernel
end Go.Proofs.Ytgbojgmmingfdaa
