/- Rows of one's own: appended to (saying where the new one lies), stored into, handed to a sort of structs. -/
import Derived.Test.YtfcjmpgbohgoeaaBase
import Derived.Maps.AppendAt
import Derived.Laws.OwnMore
namespace Go.Tk
set_option linter.unusedVariables false
set_option linter.unusedSimpArgs false
open Go.RowKit Go.Lib

/-- two rows of one's own do not meet -/
def Apart (v u : Value) : Prop := v.ownBlock = none ∨ u.ownBlock = none ∨ v.ownBlock ≠ u.ownBlock
theorem Apart.symm {v u : Value} (h : Apart v u) : Apart u v := by
  rcases h with h | h | h
  · exact .inr (.inl h)
  · exact .inl h
  · exact .inr (.inr (Ne.symm h))
theorem Apart.nil (u : Value) : Apart (.slice none 0 0) u := .inl rfl

section
variable {w w' : World} {base : Nat} {e e' : TypeId} {size size' : Nat} {v v' u : Value} {n m : Nat} {xs ys : List Value}
end

end Go.Tk
