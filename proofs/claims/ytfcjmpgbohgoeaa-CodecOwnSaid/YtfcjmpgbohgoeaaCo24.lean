/- CODEC: the walk of CodecApart. -/
import Derived.Test.YtfcjmpgbohgoeaaCo23
namespace Go.Proofs.Ytfcjmpgbohgoeaa
open Go.RowKit Go.Lib Go.Tk Go.Shelf Go.Vc
set_option linter.unusedVariables false
set_option linter.unusedSimpArgs false
attribute [-go_sem] loadCellsFrom
theorem put_pos {r : RecV} (hi : RecIn r) (h : putE r = 0) : 10 ≤ (putB r).length := by
 have h1 := recBy_len r
 have h2 : 10 ≤ sizeV r := by
  have h3 := sumC_ge r.cmd.taxes
  unfold sizeV
  split
  · omega
  · split <;> omega
 rw [putB_eq h hi]; omega
end Go.Proofs.Ytfcjmpgbohgoeaa
