/- SX: operations on what is open, by contract. -/
import Derived.Test.YtfcjmpgbohgoeaaSxA
namespace Go.Sx
set_option linter.unusedVariables false
set_option linter.unusedSimpArgs false
open Go.RowKit Go.Tk Go.Lib Go.Shelf Go.Vc
/-- structures compared -/
theorem eq_agg {P : Program} {o : Oper} {x y : Operand} {t t' : Nat} {cs ds : List SV} {xs ys : Array Value} {b : Bool} (ho : o.op = .binOp .eql t x y t') (hg : P.eqGuardType P.depth t = false) (h1 : ∀ ε, (SV.agg cs).den ε = .agg xs) (h2 : ∀ ε, (SV.agg ds).den ε = .agg ys) (he : ∀ w, (Op.equalIn 10000 t (.agg xs) (.agg ys)).run P w = .ok b w) :
    (∀ z ∈ [x, y], z ∈ o.op.operands) ∧ OpOK P o [x, y] [.agg cs, .agg ds] [] [] (.val (.bool b)) [] := by
  refine ⟨fun z hz => by rw [ho]; simp [Op.operands]; simpa using hz, fun ε ρ R w hx hM => ?_⟩
  simp only [List.map_cons, List.map_nil, SV.dens, List.cons.injEq, and_true] at hx
  exact res_ok (x_eqA ho (hx.1.trans (h1 ε)) (hx.2.trans (h2 ε)) hg (he w)) ⟨ε 1, by simp only [SV.den], by rw [eset_self]; exact hM⟩
theorem ne_agg {P : Program} {o : Oper} {x y : Operand} {t t' : Nat} {cs ds : List SV} {xs ys : Array Value} {b : Bool} (ho : o.op = .binOp .neq t x y t') (hg : P.eqGuardType P.depth t = false) (h1 : ∀ ε, (SV.agg cs).den ε = .agg xs) (h2 : ∀ ε, (SV.agg ds).den ε = .agg ys) (he : ∀ w, (Op.equalIn 10000 t (.agg xs) (.agg ys)).run P w = .ok b w) :
    (∀ z ∈ [x, y], z ∈ o.op.operands) ∧ OpOK P o [x, y] [.agg cs, .agg ds] [] [] (.val (.bool (!b))) [] := by
  refine ⟨fun z hz => by rw [ho]; simp [Op.operands]; simpa using hz, fun ε ρ R w hx hM => ?_⟩
  simp only [List.map_cons, List.map_nil, SV.dens, List.cons.injEq, and_true] at hx
  exact res_ok (x_neA ho (hx.1.trans (h1 ε)) (hx.2.trans (h2 ε)) hg (he w) rfl) ⟨ε 1, by simp only [SV.den], by rw [eset_self]; exact hM⟩
/-- an element of an open row, as far as it is known -/
theorem load_elt {P : Program} {o : Oper} {x : Operand} {t E size n p b j : Nat} {xs : List Value} {cs : List SV} {u : SV} (ho : o.op = .load t x) (hu : partAt P t cs j = some u) (hc : ∀ ε i v, cs[i]? = some v → xs[b + i]? = some (v.den ε)) :
    (∀ z ∈ [x], z ∈ o.op.operands) ∧ OpOK P o [x] [.elt 0 0 p b j] [((0, 0), .row E size n (.shal xs) [])] [] u [] := by
  refine ⟨fun z hz => by rw [ho]; simp [Op.operands]; simpa using hz, fun ε ρ R w hx hM => ?_⟩
  simp only [List.map_cons, List.map_nil, SV.dens, SV.den, List.cons.injEq, and_true] at hx
  have hM : Mem (rowC E size (asSl (ε 0 0).2) n xs :: R) w := hM
  have := partAt_load (P := P) (w := w) (ρ := ρ) (o := o) (x := x) (B := (adOf (ε 0 0).2).block) (O := (adOf (ε 0 0).2).off + b) (ε := ε) hu (fun i u hi => by
    have h := row_at (hM.owns 0 rfl) (hc ε i u hi)
    rw [adOf_asSl, ← Nat.add_assoc] at h
    exact h) ho (hx.trans (by simp [Nat.add_assoc]))
  exact res_ok this ⟨ε 1, by rw [eset_self], by rw [eset_self]; exact hM⟩
theorem cells_at {α : Type} {enc : α → List Value} {size : Nat} (hk : ∀ x, (enc x).length = size) : ∀ {l : List α} {i : Nat} {x : α} {j : Nat} {v : Value}, l[i]? = some x → (enc x)[j]? = some v → (cellsL enc l)[i * size + j]? = some v
  | [], i, x, j, v, h, _ => by cases h
  | y :: l, 0, x, j, v, h, hv => by
    have e : y = x := by simpa using h
    subst e
    have hl := (List.getElem?_eq_some_iff.1 hv).1
    rw [Nat.zero_mul, Nat.zero_add]
    show (enc y ++ cellsL enc l)[j]? = _
    rw [List.getElem?_append_left hl]; exact hv
  | y :: l, i + 1, x, j, v, h, hv => by
    have ih := cells_at hk (l := l) (i := i) h hv
    show (enc y ++ cellsL enc l)[(i + 1) * size + j]? = _
    rw [List.getElem?_append_right (by rw [hk, Nat.add_mul]; omega), hk, show (i + 1) * size + j - size = i * size + j by rw [Nat.add_mul]; omega]
    exact ih
end Go.Sx
