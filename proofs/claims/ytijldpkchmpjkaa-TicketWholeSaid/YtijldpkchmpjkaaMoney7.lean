/- MONEY 7: every input; the known amounts; MoneyTells. -/
import Derived.Test.YtijldpkchmpjkaaRows
import Derived.Test.YtijldpkchmpjkaaMoney6
namespace Go.Proofs.Ytijldpkchmpjkaa
open Go.RowKit Go.Lib Go.Tk
theorem part_any (a n f : Int) (w : World) :
    Calls Try.prog 20 #[.int .i64 a, .int .i64 n, .int .i64 f] w fun e w' => e = .returned (.tuple #[.int .i64 (partW a n f), .int .i64 (partR a n f), .int .i64 (partE a n f)]) ∧ Below w.heap.size w w' := by
  by_cases h : PartOk a n f
  · exact part_good a n f w h
  · exact part_bad a n f w h
theorem rpart_any (a n f : Int) (w : World) :
    Calls Try.prog 37 #[.int .i64 a, .int .i64 n, .int .i64 f] w fun e w' => e = .returned (.tuple #[.int .i64 (partW a n f), .int .i64 (partR a n f), .int .i64 (partE a n f)]) ∧ w = w' := by
  by_cases h : PartOk a n f
  · exact rpart_good a n f w h
  · exact rpart_bad a n f w h

theorem wf64 {a : Int} (h : (Lit.int .i64 a).wf = true) : -9223372036854775808 ≤ a ∧ a ≤ 9223372036854775807 := by
  simpa [Lit.wf, IntKind.min, IntKind.max, IntKind.signed, IntKind.bits] using h

end Go.Proofs.Ytijldpkchmpjkaa
