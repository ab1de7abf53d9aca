/- CODEC: which records may be, and which are too long. -/
import Derived.Test.YtfcjmpgbohgoeaaCo16
namespace Go.Proofs.Ytfcjmpgbohgoeaa
open Go.RowKit Go.Lib Go.Tk Go.Shelf Go.Vc
set_option linter.unusedVariables false
set_option linter.unusedSimpArgs false
attribute [-go_sem] loadCellsFrom
end Go.Proofs.Ytfcjmpgbohgoeaa
