/- The rule of a region that draws its order, in a fence, by an invariant of what has come up. -/
import Derived.Test.YtfcjmpgbohgoeaaMap
import Derived.OrdersIn
import Derived.OwnWalkIn
namespace Go.Tk
set_option linter.unusedVariables false
set_option linter.unusedSimpArgs false
open Go.RowKit

end Go.Tk
