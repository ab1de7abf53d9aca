/- append to a row of one's own, as one step of a region that draws. -/
import Derived.Test.YtfcjmpgbohgoeaaRowAt
import Derived.Deep.RegionLaw
import Derived.Deep.RegionHeldLaw
namespace Go.Tk
set_option linter.unusedVariables false
set_option linter.unusedSimpArgs false
open Go.RowKit Go.Lib

end Go.Tk
