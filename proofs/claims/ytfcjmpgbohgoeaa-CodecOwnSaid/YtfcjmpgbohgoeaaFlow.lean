/- A region that draws its order, each of whose operations leaves one value whatever came up before it; calls, guards, and worlds that are known by what holds in them. -/
import Derived.Test.YtfcjmpgbohgoeaaSsa
import Derived.Orders
namespace Go.Tk
set_option linter.unusedVariables false
set_option linter.unusedSimpArgs false
open Go.RowKit

/-! ### the same, over values alone -/
section
variable {P : Program} {v u : Value} {R : World → Prop} {w : World} {f : FuncId} {args : Array Value}
end
end Go.Tk
