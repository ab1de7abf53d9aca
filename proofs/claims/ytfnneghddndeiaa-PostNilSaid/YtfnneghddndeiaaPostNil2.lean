/- POST, PostNil: at an act as it comes in. -/
import Derived.Test.YtfnneghddndeiaaPostNil
import Derived.Test.YtfnneghddndeiaaPostAct
namespace Go.Proofs.Ytfnneghddndeiaa
open Go.RowKit Go.Lib Go.Tk

theorem postNil_act (x : PAct) (w0 : World) (_ok : PActOk x) : Calls Try.prog 5 #[.agg (encAct x).toArray] w0 fun e w' => e = .returned (.bool true) ∧ Below w0.heap.size w0 w' :=
  postNil_any x.dO x.who x.num x.m w0
end Go.Proofs.Ytfnneghddndeiaa
