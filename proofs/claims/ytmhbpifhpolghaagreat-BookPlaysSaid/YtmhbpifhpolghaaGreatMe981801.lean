/- Ho1, Ho2, Ho3. -/
import Derived.Test.YtmhbpifhpolghaaGreatM775458c
set_option maxRecDepth 100000
set_option linter.unusedVariables false
set_option linter.unusedSimpArgs false
set_option linter.unusedSectionVars false
section
namespace Go.Proofs.YtmhbpifhpolghaaGreat
open Go.RowKit Go.Lib Go.Tk Go.Shelf Go.Vc Go.Sx
structure HR where
  out : List OutV
  e : Int
  b : BookV
def noS : SV := .tup []
def backO (o : OwnV) : OwnV := { o with away := false, asked := false }
end Go.Proofs.YtmhbpifhpolghaaGreat
end
