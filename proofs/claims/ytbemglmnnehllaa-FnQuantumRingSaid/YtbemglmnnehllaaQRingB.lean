/- Quantum products of three: the greatest box, by the kernel. -/
import Derived.Test.YtbemglmnnehllaaQRing
namespace Go.Proofs.Ytbemglmnnehllaa
set_option maxRecDepth 100000 in
theorem boxF_33 : boxF 3 3 = true := by decide +kernel
end Go.Proofs.Ytbemglmnnehllaa
