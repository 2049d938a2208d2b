/- FnLr: finite checks by the kernel (printed by lr_gen.py). -/
import Derived.Test.YtgbojgmmingfdaaCnt
namespace Go.Proofs.Ytgbojgmmingfdaa
theorem lrQ_1 : ((shapesIn 3 2).all fun b => lrPairF [1] b) = true := by decide +kernel
theorem lrQ_5 : ((shapesIn 3 2).all fun b => lrPairF [2,1] b) = true := by decide +kernel
theorem lrQ_9 : ((shapesIn 3 2).all fun b => lrPairF [2,2] b) = true := by decide +kernel
theorem lrQ_13 : ((shapesIn 3 2).all fun b => lrPairF [4,1] b) = true := by decide +kernel
theorem lrQ_17 : ((shapesIn 3 2).all fun b => lrPairF [2,1,1,1] b) = true := by decide +kernel
theorem lrQ_21 : ((shapesIn 3 2).all fun b => lrPairF [4,1,1] b) = true := by decide +kernel
theorem lrQ_25 : ((shapesIn 3 2).all fun b => lrPairF [2,2,2] b) = true := by decide +kernel
theorem lrQ_29 : ((shapesIn 3 2).all fun b => lrPairF [5,2] b) = true := by decide +kernel
theorem lrQ_33 : ((shapesIn 3 2).all fun b => lrPairF [4,1,1,1] b) = true := by decide +kernel
theorem lrQ_37 : ((shapesIn 3 2).all fun b => lrPairF [2,2,2,1] b) = true := by decide +kernel
theorem lrQ_41 : ((shapesIn 3 2).all fun b => lrPairF [6,1,1] b) = true := by decide +kernel
theorem lrQ_45 : ((shapesIn 3 2).all fun b => lrPairF [4,4] b) = true := by decide +kernel
theorem lrQ_49 : ((shapesIn 3 2).all fun b => lrPairF [3,3,2] b) = true := by decide +kernel
end Go.Proofs.Ytgbojgmmingfdaa
