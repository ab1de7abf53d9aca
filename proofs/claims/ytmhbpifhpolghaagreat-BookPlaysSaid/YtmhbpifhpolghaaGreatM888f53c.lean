/- Bi1, Bi2, SxQ2, Bi3. -/
import Derived.Test.YtmhbpifhpolghaaGreatM81af217
set_option maxRecDepth 100000
set_option linter.unusedVariables false
set_option linter.unusedSimpArgs false
set_option linter.unusedSectionVars false
section
namespace Go.Proofs.YtmhbpifhpolghaaGreat
open Go.RowKit Go.Lib Go.Tk Go.Shelf Go.Vc Go.Sx
end Go.Proofs.YtmhbpifhpolghaaGreat
end
section
namespace Go.Sx
open Go.RowKit Go.Tk Go.Lib Go.Shelf Go.Vc
variable {P : Program}
theorem row_q {E size n : Nat} {v : Value} {xs : List Value} {S : Nat → Prop} {w : World} (h : (rowC E size v n xs).at_ S w) : (qcC E size v n xs).at_ S w := by
  refine ⟨h.1, ?_⟩
  obtain ⟨hl, h1 | ⟨g, cap, cur, hv, hb, h1, h2, h3, h4⟩⟩ := h.2
  · exact ⟨hl, .inl h1⟩
  · exact ⟨hl, .inr ⟨g, 0, cap, cur, by rw [hv, Nat.zero_mul], hb, h1, h2, by rw [Nat.zero_add, h3]; exact Nat.le_refl _, by rw [Nat.zero_mul, List.drop_zero]; exact h4⟩⟩
noncomputable local instance : DecidableEq Value := Classical.typeDecidableEq Value
end Go.Sx
end
section
namespace Go.Proofs.YtmhbpifhpolghaaGreat
open Go.RowKit Go.Lib Go.Tk Go.Shelf Go.Vc Go.Sx
end Go.Proofs.YtmhbpifhpolghaaGreat
end
