import Derived.Shelf.Strconv.Clone
import Derived.Test.YtafmhoeammbemaaDoorProg
namespace Go.Proofs
open Go.Shelf
open Go.RowKit
end Go.Proofs
