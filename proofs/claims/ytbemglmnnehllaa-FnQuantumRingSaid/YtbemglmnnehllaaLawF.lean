/- Small functions of the laws: at0, bare, parts, countIn. -/
import Derived.Test.YtbemglmnnehllaaBytes
import Derived.Test.YtbemglmnnehllaaCnt
namespace Go.Proofs.Ytbemglmnnehllaa
open Go.RowKit

end Go.Proofs.Ytbemglmnnehllaa
