/- A block known whole, or a part of it, loaded in one step. -/
import Derived.Test.YtfnneghddndeiaaRowS
import Derived.Shelf.SlicesQ.Load
import Derived.Test.YtfnneghddndeiaaRows
namespace Go.Proofs.Ytfnneghddndeiaa
open Go.RowKit Go.Lib Go.Tk Go.Shelf

theorem box_part {w : World} {b off n : Nat} {vs : Array Value} (h : Box w b vs) (part : Array Value) (hn : part.size = n) (hp : ∀ j v, part[j]? = some v → vs[off + j]? = some v) :
    Sem.run Try.prog (loadCellsFrom ⟨b, off, none⟩ 0 n #[]) w = .ok part w := by
  have := run_loadCellsFrom_list Try.prog w (Addr.mk b off none) part.toList n (by simpa using hn) (fun j v hj => by
    have : (Addr.mk b off none).add j = ⟨b, off + j, none⟩ := by
      unfold Addr.add
      split
      · rename_i e; subst e; rfl
      · simp
    rw [this]
    exact h.cell _ (hp j v (by simpa using hj)))
  simpa using this
theorem box_whole {w : World} {b n : Nat} {vs : Array Value} (h : Box w b vs) (hn : vs.size = n) : Sem.run Try.prog (loadCellsFrom ⟨b, 0, none⟩ 0 n #[]) w = .ok vs w :=
  box_part h vs hn (fun j v hj => by simpa using hj)
end Go.Proofs.Ytfnneghddndeiaa
