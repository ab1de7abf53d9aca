/- RowAt, Arg. -/
import Derived.Test.YtfcjmpgbohgoeaaBase
import Derived.Maps.AppendAt
import Derived.Laws.OwnMore
import Derived.Deep.Slices
section
namespace Go.Tk
set_option linter.unusedVariables false
set_option linter.unusedSimpArgs false
open Go.RowKit Go.Lib

/-- two rows of one's own do not meet -/
def Apart (v u : Value) : Prop := v.ownBlock = none ∨ u.ownBlock = none ∨ v.ownBlock ≠ u.ownBlock
theorem Apart.symm {v u : Value} (h : Apart v u) : Apart u v := by
  rcases h with h | h | h
  · exact .inr (.inl h)
  · exact .inl h
  · exact .inr (.inr (Ne.symm h))
theorem Apart.nil (u : Value) : Apart (.slice none 0 0) u := .inl rfl

section
variable {w w' : World} {base : Nat} {e e' : TypeId} {size size' : Nat} {v v' u : Value} {n m : Nat} {xs ys : List Value}
end

end Go.Tk
end
section
namespace Go.Tk
set_option linter.unusedVariables false
set_option linter.unusedSimpArgs false
open Go.RowKit Go.Lib Go.Deep
variable {H : Type} {enc : TypeId × Value → H} {P : Program} {w : World} {base : Nat} {spare : Nat → Bool} {held : Bool}

theorem cells?_row {a : Addr} {n : Nat} {cs : List Value} (h : w.cells? base a n = some cs) (hn : 0 < n) : ∃ b off, a = ⟨b, off, none⟩ ∧ cs.length = n ∧ ∀ j, j < n → w.cell? ⟨b, off + j, none⟩ = some (cs.getD j undef) := by
  obtain ⟨_, hl, hc⟩ := World.cells?_some h
  obtain ⟨b, off, spot⟩ := a
  have h0 := hc 0 hn
  have h0' : w.cell? (Addr.add ⟨b, off, spot⟩ 0) = some (cs.getD 0 undef) := by
    rw [h0, List.getD_eq_getElem?_getD]
    cases hcs : cs[0]? with
    | none => rw [List.getElem?_eq_none_iff] at hcs; omega
    | some v => rfl
  have hspot : spot = none := by simpa [Addr.add] using World.cell?_spot h0'
  subst hspot
  refine ⟨b, off, rfl, hl, fun j hj => ?_⟩
  have := hc j hj
  have he : (Addr.add ⟨b, off, none⟩ j) = ⟨b, off + j, none⟩ := by
    unfold Addr.add
    split
    · rename_i h; subst h; rfl
    · rfl
  rw [he] at this
  rw [this, List.getD_eq_getElem?_getD]
  cases hcs : cs[j]? with
  | none => rw [List.getElem?_eq_none_iff] at hcs; omega
  | some v => rfl

theorem flatten_get {size : Nat} (hs : 0 < size) : ∀ (rows : List (List Value)), (∀ r ∈ rows, r.length = size) → ∀ i, i < rows.flatten.length → rows.flatten.getD i undef = (rows.getD (i / size) []).getD (i % size) undef
  | [], _, i, h => by simp at h
  | r :: rs, hr, i, h => by
    have hl := hr r (by simp)
    rw [List.flatten_cons]
    by_cases hi : i < size
    · rw [Nat.div_eq_of_lt hi, Nat.mod_eq_of_lt hi]
      simp only [List.getD_eq_getElem?_getD, List.getElem?_cons_zero, Option.getD_some]
      rw [List.getElem?_append_left (by omega)]
    · have ih := flatten_get hs rs (fun x hx => hr x (by simp [hx])) (i - size) (by rw [List.flatten_cons, List.length_append] at h; omega)
      have e1 : i / size = (i - size) / size + 1 := by rw [Nat.div_eq_sub_div hs (by omega)]
      have e2 : i % size = (i - size) % size := Nat.mod_eq_sub_mod (by omega)
      rw [e1, e2]
      simp only [List.getD_eq_getElem?_getD, List.getElem?_cons_succ] at ih ⊢
      rw [← ih, List.getElem?_append_right (by omega), hl]

theorem flatten_len {size : Nat} : ∀ (rows : List (List Value)), (∀ r ∈ rows, r.length = size) → rows.flatten.length = rows.length * size
  | [], _ => by simp
  | r :: rs, hr => by
    rw [List.flatten_cons, List.length_append, flatten_len rs (fun x hx => hr x (by simp [hx])), hr r (by simp), List.length_cons, Nat.add_mul]; omega

end Go.Tk
end
