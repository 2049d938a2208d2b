/- l4Add of the reference: a shape is added some times to an ascending list of parts. -/
import Derived.Test.YtbemglmnnehllaaWords
import Derived.Test.YtbemglmnnehllaaShapes
namespace Go.Proofs.Ytbemglmnnehllaa
open Go.RowKit

end Go.Proofs.Ytbemglmnnehllaa
