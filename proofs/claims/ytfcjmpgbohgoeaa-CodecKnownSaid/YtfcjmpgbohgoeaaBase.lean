/- Small laws on memory that all texts of this proof lean on: rows of cells, what a call leaves alone, append. -/
import Derived.WalkKit
import Derived.WalkSpells
import Derived.WalkLawsBesides
import Derived.Lib.Hide
import Derived.Laws.AppendOwnNone
namespace Go.Tk
set_option linter.unusedVariables false
set_option linter.unusedSimpArgs false
open Go.RowKit Go.Lib

/-- a slice's cells, as a list of values -/
def Row (w : World) (a : Option Addr) (vs : List Value) : Prop :=
  ∀ i, i < vs.length → ∃ b off, a = some ⟨b, off, none⟩ ∧ w.cell? ⟨b, off + i, none⟩ = some (vs.getD i undef)

theorem Row.nil {w : World} {a : Option Addr} : Row w a [] := fun i hi => by simp at hi

theorem Row.int {k : IntKind} {w : World} {a : Option Addr} {xs : List Int} (h : Row w a (xs.map (.int k))) (i : Nat) (hi : i < xs.length) :
    ∃ b off, a = some ⟨b, off, none⟩ ∧ w.cell? ⟨b, off + i, none⟩ = some (.int k (xs.getD i 0)) := by
  obtain ⟨b, off, ha, hc⟩ := h i (by simpa using hi)
  refine ⟨b, off, ha, ?_⟩
  rw [hc]; simp [List.getD_eq_getElem?_getD, hi]

theorem lt_of_cell {w : World} {b o : Nat} {v : Value} (h : w.cell? ⟨b, o, none⟩ = some v) : b < w.heap.size := by
  unfold World.cell? at h
  rcases Nat.lt_or_ge b w.heap.size with h1 | h1
  · exact h1
  · simp [Array.getElem?_eq_none h1] at h

theorem Row.kept {w w' : World} (h : Below w.heap.size w w') {a : Option Addr} {vs : List Value} (hr : Row w a vs) : Row w' a vs := by
  intro i hi
  obtain ⟨b, off, ha, hc⟩ := hr i hi
  exact ⟨b, off, ha, by rw [h.cell (p := ⟨b, off + i, none⟩) (lt_of_cell hc)]; exact hc⟩

/-- what a slice of integers that came in holds -/
def IsRow (k : IntKind) (w : World) (a : Option Addr) (len cap : Nat) (zs : List Int) : Prop :=
  (a = none ∧ len = 0 ∧ cap = 0 ∧ zs = []) ∨
  ∃ x, a = some x ∧ len ≤ cap ∧ cap ≤ maxLen ∧ zs.length = cap ∧ (∀ i, i < zs.length → w.cell? (x.add i) = some (.int k (zs.getD i 0))) ∧ ∀ n ∈ zs, (Lit.int k n).wf = true

theorem IsRow.row {k : IntKind} {w : World} {a : Option Addr} {len cap : Nat} {zs : List Int} (h : IsRow k w a len cap zs) :
    ∃ xs : List Int, xs.length = len ∧ Row w a (xs.map (.int k)) ∧ len ≤ maxLen ∧ (a = none → cap = 0) ∧ ∀ n ∈ xs, (Lit.int k n).wf = true := by
  rcases h with ⟨rfl, rfl, rfl, rfl⟩ | ⟨x, rfl, hl, hm, hz, hcell, hwz⟩
  · exact ⟨[], rfl, Row.nil, Nat.zero_le _, fun _ => rfl, by simp⟩
  · refine ⟨zs.take len, by simp [hz]; omega, ?_, Nat.le_trans hl hm, by simp, fun n hn => hwz n (List.mem_of_mem_take hn)⟩
    intro i hi
    simp only [List.length_map, List.length_take] at hi
    obtain ⟨b, off, spot⟩ := x
    have h0 := hcell 0 (by omega)
    have hspot : spot = none := by simpa [Addr.add] using World.cell?_spot h0
    subst hspot
    have hc := hcell i (by omega)
    have : (Addr.add ⟨b, off, none⟩ i) = ⟨b, off + i, none⟩ := by
      unfold Addr.add
      split
      · rename_i h; subst h; rfl
      · rfl
    rw [this] at hc
    refine ⟨b, off, rfl, ?_⟩
    have hlen : i < zs.length := by omega
    rw [hc]
    simp [List.getD_eq_getElem?_getD, hlen, show i < len by omega]
end Go.Tk
