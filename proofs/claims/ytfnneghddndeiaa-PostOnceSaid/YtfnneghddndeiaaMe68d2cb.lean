/- SxB, SxC, SxD. -/
import Derived.Test.YtfnneghddndeiaaSxA
set_option maxRecDepth 100000
set_option linter.unusedVariables false
set_option linter.unusedSimpArgs false
set_option linter.unusedSectionVars false
section
namespace Go.Sx
open Go.RowKit Go.Tk Go.Lib Go.Shelf Go.Vc
theorem load_elt {P : Program} {o : Oper} {x : Operand} {t E size n p b j : Nat} {xs : List Value} {cs : List SV} {u : SV} (ho : o.op = .load t x) (hu : partAt P t cs j = some u) (hc : ∀ ε i v, cs[i]? = some v → xs[b + i]? = some (v.den ε)) :
    (∀ z ∈ [x], z ∈ o.op.operands) ∧ OpOK P o [x] [.elt 0 0 p b j] [((0, 0), .row E size n (.shal xs) [])] [] u [] := by
  refine ⟨fun z hz => by rw [ho]; simp [Op.operands]; simpa using hz, fun ε ρ R w hx hM => ?_⟩
  simp only [List.map_cons, List.map_nil, SV.dens, SV.den, List.cons.injEq, and_true] at hx
  have hM : Mem (rowC E size (asSl (ε 0 0).2) n xs :: R) w := hM
  have := partAt_load (P := P) (w := w) (ρ := ρ) (o := o) (x := x) (B := (adOf (ε 0 0).2).block) (O := (adOf (ε 0 0).2).off + b) (ε := ε) hu (fun i u hi => by
    have h := row_at (hM.owns 0 rfl) (hc ε i u hi)
    rw [adOf_asSl, ← Nat.add_assoc] at h
    exact h) ho (hx.trans (by simp [Nat.add_assoc]))
  exact res_ok this ⟨ε 1, by rw [eset_self], by rw [eset_self]; exact hM⟩
theorem cells_at {α : Type} {enc : α → List Value} {size : Nat} (hk : ∀ x, (enc x).length = size) : ∀ {l : List α} {i : Nat} {x : α} {j : Nat} {v : Value}, l[i]? = some x → (enc x)[j]? = some v → (cellsL enc l)[i * size + j]? = some v
  | [], i, x, j, v, h, _ => by cases h
  | y :: l, 0, x, j, v, h, hv => by
    have e : y = x := by simpa using h
    subst e
    have hl := (List.getElem?_eq_some_iff.1 hv).1
    rw [Nat.zero_mul, Nat.zero_add]
    show (enc y ++ cellsL enc l)[j]? = _
    rw [List.getElem?_append_left hl]; exact hv
  | y :: l, i + 1, x, j, v, h, hv => by
    have ih := cells_at hk (l := l) (i := i) h hv
    show (enc y ++ cellsL enc l)[(i + 1) * size + j]? = _
    rw [List.getElem?_append_right (by rw [hk, Nat.add_mul]; omega), hk, show (i + 1) * size + j - size = i * size + j by rw [Nat.add_mul]; omega]
    exact ih
end Go.Sx
end
section
namespace Go.Sx
open Go.RowKit Go.Tk Go.Lib Go.Shelf Go.Vc
def adR (a : Option Addr) (k : Nat) : Value := .pointer (some ((a.getD ⟨0, 0, none⟩).add k))
end Go.Sx
end
section
namespace Go.Sx
open Go.RowKit Go.Tk Go.Lib Go.Shelf Go.Vc
theorem mem_filter {ε : Env} {p : Nm × SC → Bool} {w : World} : ∀ {H : Heap} {R : List Chunk}, Mem (hden ε H ++ R) w → Mem (hden ε (H.filter p) ++ R) w
  | [], R, h => h
  | e :: H, R, h => by
    have h : Mem (e.2.den ε e.1.1 e.1.2 :: (hden ε H ++ R)) w := h
    rw [List.filter_cons]
    cases p e with
    | false => exact mem_filter h.tail
    | true =>
      have ih := mem_filter (p := p) (H := H) (R := e.2.den ε e.1.1 e.1.2 :: R) (mem_perm List.perm_middle.symm h)
      exact mem_perm List.perm_middle ih
end Go.Sx
end
