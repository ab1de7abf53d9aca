/- PostOnce: what is closed of the statement, apart. -/
import Derived.Test.YtfnneghddndeiaaRows
import Derived.Test.YtfnneghddndeiaaChecked
import Derived.ProofKit
import Derived.OpenShut
import Derived.ShutString
import Derived.ChangeOld
import Derived.Below
namespace Go.Proofs.Ytfnneghddndeiaa.postOnceF
open Go
set_option maxRecDepth 100000
theorem closed : joinedFacts Try.pinned.checked.prog 3 Try.f3 Rows.postOnceSpec Rows.postOnceRow = true := by kernel_rfl
theorem inst : Try.f3.isInstance Try.pinned.checked.prog Rows.postOnceRow.origin Rows.postOnceRow.targs := of_decide_eq_true (by kernel_rfl)
theorem wrap : Try.f3.isWrapper Try.pinned.checked.prog Rows.postOnceRow.wrapper Rows.postOnceRow.mainSum := by
  unfold Func.isWrapper
  first | (rw [if_pos (by decide +kernel)]; kernel_rfl) | (rw [if_neg (by decide +kernel)]; exact ⟨rfl, rfl⟩)
end Go.Proofs.Ytfnneghddndeiaa.postOnceF
