/- CODEC: the walk of CodecSizes. -/
import Derived.Test.YtfcjmpgbohgoeaaCo16
namespace Go.Proofs.Ytfcjmpgbohgoeaa
open Go.RowKit Go.Lib Go.Tk Go.Shelf Go.Vc
set_option linter.unusedVariables false
set_option linter.unusedSimpArgs false
attribute [-go_sem] loadCellsFrom
theorem not_great {r : RecV} (h : greatV r = false) : (r.cmd.name.size ≤ 600 ∧ r.cmd.legs.length ≤ 600 ∧ r.cmd.taxes.length ≤ 600) ∧ ∀ t ∈ r.cmd.taxes, t.code.size ≤ 600 := by
 unfold greatV at h
 simp only [Bool.or_eq_false_iff, decide_eq_false_iff_not] at h
 obtain ⟨⟨⟨h1, h2⟩, h3⟩, h4⟩ := h
 refine ⟨⟨by omega, by omega, by omega⟩, fun t ht => ?_⟩
 have := List.any_eq_false.1 h4 t ht
 unfold hugeT at this
 simp at this; omega
theorem sumC_le : ∀ (l : List TaxV), (∀ t ∈ l, t.code.size ≤ 600) → sumC l ≤ 600 * l.length
 | [], _ => by simp [sumC]
 | t :: l, h => by
  have h1 := sumC_le l (fun t ht => h t (List.mem_cons_of_mem _ ht))
  have h2 := h t List.mem_cons_self
  unfold sumC; simp only [List.length_cons]; omega
end Go.Proofs.Ytfcjmpgbohgoeaa
