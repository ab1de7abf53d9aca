/- Small laws on memory that all texts of this proof lean on: rows of cells, what a call leaves alone, append. -/
import Derived.WalkKit
import Derived.WalkSpells
import Derived.WalkLawsBesides
import Derived.Lib.Hide
import Derived.Laws.AppendOwnNone
namespace Go.Tk
set_option linter.unusedVariables false
set_option linter.unusedSimpArgs false
open Go.RowKit Go.Lib
theorem bt {A B C : World} (h : Below A.heap.size A B) (k : Below B.heap.size B C) : Below A.heap.size A C := h.trans (k.mono h.size)
def Row (w : World) (a : Option Addr) (vs : List Value) : Prop :=
  ∀ i, i < vs.length → ∃ b off, a = some ⟨b, off, none⟩ ∧ w.cell? ⟨b, off + i, none⟩ = some (vs.getD i undef)
theorem Row.nil {w : World} {a : Option Addr} : Row w a [] := fun i hi => by simp at hi
theorem Row.int {k : IntKind} {w : World} {a : Option Addr} {xs : List Int} (h : Row w a (xs.map (.int k))) (i : Nat) (hi : i < xs.length) :
    ∃ b off, a = some ⟨b, off, none⟩ ∧ w.cell? ⟨b, off + i, none⟩ = some (.int k (xs.getD i 0)) := by
  obtain ⟨b, off, ha, hc⟩ := h i (by simpa using hi)
  refine ⟨b, off, ha, ?_⟩
  rw [hc]; simp [List.getD_eq_getElem?_getD, hi]
theorem row_new {w : World} {n : Nat} {vs : List Value} {E : TypeId} {fz : Nat × Nat} (hn : n = w.heap.size) : Row (w.alloc (.cells vs.toArray E fz)) (some ⟨n, 0, none⟩) vs := by
  subst hn
  intro i hi
  refine ⟨_, _, rfl, ?_⟩
  show (match (w.heap.push (.cells vs.toArray E fz))[w.heap.size]? with | some (.cells c _ _) => _ | _ => _) = _
  rw [Array.getElem?_push_size]
  simp [List.getD_eq_getElem?_getD, hi]
theorem lt_of_cell {w : World} {b o : Nat} {v : Value} (h : w.cell? ⟨b, o, none⟩ = some v) : b < w.heap.size := by
  unfold World.cell? at h
  rcases Nat.lt_or_ge b w.heap.size with h1 | h1
  · exact h1
  · simp [Array.getElem?_eq_none h1] at h
theorem Row.kept {w w' : World} (h : Below w.heap.size w w') {a : Option Addr} {vs : List Value} (hr : Row w a vs) : Row w' a vs := by
  intro i hi
  obtain ⟨b, off, ha, hc⟩ := hr i hi
  exact ⟨b, off, ha, by rw [h.cell (p := ⟨b, off + i, none⟩) (lt_of_cell hc)]; exact hc⟩
theorem row_of_owns {w : World} {base : Nat} {e : TypeId} {size : Nat} {v : Value} {n : Nat} {xs : List Value} (h : w.ownsRow base e size v n xs) :
    ∃ a cap, v = .slice a n cap ∧ Row w a xs ∧ n ≤ maxLen := by
  obtain ⟨hl, h | ⟨g, cap, cur, hv, hg, hh, hn, hc, hs, ht⟩⟩ := h
  · obtain ⟨rfl, rfl⟩ := h
    have : xs = [] := List.length_eq_zero_iff.1 (by simpa using hl)
    subst this
    exact ⟨none, 0, rfl, Row.nil, Nat.zero_le _⟩
  · refine ⟨_, cap, hv, ?_, Nat.le_trans hn hc⟩
    intro i hi
    refine ⟨g, 0, rfl, ?_⟩
    have hlt : i < n * size := by omega
    have : cur[0 + i]? = some (xs.getD i undef) := by
      rw [← ht]
      simp only [Nat.zero_add]
      rw [← Array.getElem?_toList, List.getD_eq_getElem?_getD, List.getElem?_take_of_lt hlt]
      have : i < cur.toList.length := by
        have := congrArg List.length ht
        rw [List.length_take] at this; omega
      simp [List.getElem?_eq_getElem this]
    unfold World.cell?
    simp only [hh]
    simpa using this
def IsRow (k : IntKind) (w : World) (a : Option Addr) (len cap : Nat) (zs : List Int) : Prop :=
  (a = none ∧ len = 0 ∧ cap = 0 ∧ zs = []) ∨
  ∃ x, a = some x ∧ len ≤ cap ∧ cap ≤ maxLen ∧ zs.length = cap ∧ (∀ i, i < zs.length → w.cell? (x.add i) = some (.int k (zs.getD i 0))) ∧ ∀ n ∈ zs, (Lit.int k n).wf = true
theorem IsRow.row {k : IntKind} {w : World} {a : Option Addr} {len cap : Nat} {zs : List Int} (h : IsRow k w a len cap zs) :
    ∃ xs : List Int, xs.length = len ∧ Row w a (xs.map (.int k)) ∧ len ≤ maxLen ∧ (a = none → cap = 0) ∧ ∀ n ∈ xs, (Lit.int k n).wf = true := by
  rcases h with ⟨rfl, rfl, rfl, rfl⟩ | ⟨x, rfl, hl, hm, hz, hcell, hwz⟩
  · exact ⟨[], rfl, Row.nil, Nat.zero_le _, fun _ => rfl, by simp⟩
  · refine ⟨zs.take len, by simp [hz]; omega, ?_, Nat.le_trans hl hm, by simp, fun n hn => hwz n (List.mem_of_mem_take hn)⟩
    intro i hi
    simp only [List.length_map, List.length_take] at hi
    obtain ⟨b, off, spot⟩ := x
    have h0 := hcell 0 (by omega)
    have hspot : spot = none := by simpa [Addr.add] using World.cell?_spot h0
    subst hspot
    have hc := hcell i (by omega)
    have : (Addr.add ⟨b, off, none⟩ i) = ⟨b, off + i, none⟩ := by
      unfold Addr.add
      split
      · rename_i h; subst h; rfl
      · rfl
    rw [this] at hc
    refine ⟨b, off, rfl, ?_⟩
    have hlen : i < zs.length := by omega
    rw [hc]
    simp [List.getD_eq_getElem?_getD, hlen, show i < len by omega]
end Go.Tk
