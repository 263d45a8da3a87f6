/- The walks of matrix.scalar and sum, with their closures. -/
import Derived.Test.YteoemijgdcpopaaDoorB6
import Derived.RangeFuncBox
import Derived.Shelf.Abstract
namespace Go.Proofs.YteoemijgdcpopaaDoor
open Go.RowKit Go.Shelf

end Go.Proofs.YteoemijgdcpopaaDoor
