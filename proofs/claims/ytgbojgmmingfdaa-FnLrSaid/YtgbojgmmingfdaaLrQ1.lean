/- FnLr: finite checks by the kernel (printed by lr_gen.py). -/
import Derived.Test.YtgbojgmmingfdaaCnt
namespace Go.Proofs.Ytgbojgmmingfdaa
theorem lrQ_0 : ((shapesIn 3 2).all fun b => lrPairF [] b) = true := by decide +kernel
theorem lrQ_4 : ((shapesIn 3 2).all fun b => lrPairF [3] b) = true := by decide +kernel
theorem lrQ_8 : ((shapesIn 3 2).all fun b => lrPairF [3,1] b) = true := by decide +kernel
theorem lrQ_12 : ((shapesIn 3 2).all fun b => lrPairF [5] b) = true := by decide +kernel
theorem lrQ_16 : ((shapesIn 3 2).all fun b => lrPairF [2,2,1] b) = true := by decide +kernel
theorem lrQ_20 : ((shapesIn 3 2).all fun b => lrPairF [4,2] b) = true := by decide +kernel
theorem lrQ_24 : ((shapesIn 3 2).all fun b => lrPairF [3,1,1,1] b) = true := by decide +kernel
theorem lrQ_28 : ((shapesIn 3 2).all fun b => lrPairF [6,1] b) = true := by decide +kernel
theorem lrQ_32 : ((shapesIn 3 2).all fun b => lrPairF [4,2,1] b) = true := by decide +kernel
theorem lrQ_36 : ((shapesIn 3 2).all fun b => lrPairF [3,2,1,1] b) = true := by decide +kernel
theorem lrQ_40 : ((shapesIn 3 2).all fun b => lrPairF [6,2] b) = true := by decide +kernel
theorem lrQ_44 : ((shapesIn 3 2).all fun b => lrPairF [5,1,1,1] b) = true := by decide +kernel
theorem lrQ_48 : ((shapesIn 3 2).all fun b => lrPairF [4,2,1,1] b) = true := by decide +kernel
theorem lrQ_52 : ((shapesIn 3 2).all fun b => lrPairF [2,2,2,2] b) = true := by decide +kernel
end Go.Proofs.Ytgbojgmmingfdaa
