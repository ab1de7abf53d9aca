/- RegInv, Ssa, Flow. -/
import Derived.Test.YtfcjmpgbohgoeaaMap
import Derived.OrdersIn
import Derived.OwnWalkIn
import Derived.Orders
section
namespace Go.Tk
set_option linter.unusedVariables false
set_option linter.unusedSimpArgs false
open Go.RowKit

end Go.Tk
end
section
namespace Go.Tk
set_option linter.unusedVariables false
set_option linter.unusedSimpArgs false
open Go.RowKit

/-- the frame in which all operations have left their values -/
def ssaAct (V : Nat → Value) : List Oper → Nat → Act → Act
  | [], _, a => a
  | o :: l, i, a => ssaAct V l (i + 1) (a.put o.dst (V i))

theorem any_mem {α : Type} {l : Array α} {p : α → Bool} (h : l.any p = true) : ∃ e ∈ l, p e = true := by
  obtain ⟨k, hk, h⟩ := Array.any_eq_true.1 h
  exact ⟨l[k], Array.getElem_mem hk, h⟩

theorem ssaAct_old (V : Nat → Value) (d : Nat) : ∀ (l : List Oper) (i : Nat) (a : Act), (∀ o ∈ l, o.dst ≠ some d) → (ssaAct V l i a).tmps[d]? = a.tmps[d]?
  | [], _, _, _ => rfl
  | o :: l, i, a, h => by
    refine (ssaAct_old V d l (i + 1) _ (fun o ho => h o (List.mem_cons_of_mem _ ho))).trans ?_
    have := h o List.mem_cons_self
    cases hd : o.dst with
    | none => rfl
    | some e =>
      have hne : e ≠ d := fun he => this (by rw [hd, he])
      simp [Act.put, Array.getElem?_setIfInBounds_ne hne]
theorem ssaAct_got (V : Nat → Value) : ∀ (l : List Oper) (i : Nat) (a : Act) (j : Nat) (o : Oper) (d : Nat), l[j]? = some o → o.dst = some d → d < a.tmps.size → (∀ j' o', l[j']? = some o' → o'.dst = some d → j' = j) → (ssaAct V l i a).tmps[d]? = some (V (i + j))
  | [], _, _, j, o, d, h, _, _, _ => by simp at h
  | o :: l, i, a, 0, o', d, h, hd, hlt, hu => by
    simp only [List.getElem?_cons_zero, Option.some.injEq] at h
    subst h
    refine (ssaAct_old V d l (i + 1) _ (fun o' ho' e => ?_)).trans ?_
    · obtain ⟨k, hk⟩ := List.getElem?_of_mem ho'
      have := hu (k + 1) o' (by simpa using hk) e
      omega
    · rw [hd]
      simp [Act.put, hlt]
  | o :: l, i, a, j + 1, o', d, h, hd, hlt, hu => by
    have := ssaAct_got V l (i + 1) (a.put o.dst (V i)) j o' d (by simpa using h) hd (by cases o.dst <;> simpa [Act.put] using hlt) (fun j' o'' h1 h2 => by
      have := hu (j' + 1) o'' (by simpa using h1) h2
      omega)
    rw [show i + (j + 1) = i + 1 + j from by omega]
    exact this

theorem listed_set {l : Array Bool} {i j : Nat} (hi : i < l.size) : (l.setIfInBounds i true).getD j false = true ↔ j = i ∨ l.getD j false = true := by
  by_cases h : i = j
  · subst h; simp [hi]
  · simp [Array.getElem?_setIfInBounds_ne h, Ne.symm h]

end Go.Tk
end
section
namespace Go.Tk
set_option linter.unusedVariables false
set_option linter.unusedSimpArgs false
open Go.RowKit

/-! ### the same, over values alone -/
section
variable {P : Program} {v u : Value} {R : World → Prop} {w : World} {f : FuncId} {args : Array Value}
end
end Go.Tk
end
