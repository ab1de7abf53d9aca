/- Rows of structs: a list of things, each laid in so many cells. -/
import Derived.Test.YtfnneghddndeiaaM04c5eb4
import Derived.Test.YtfnneghddndeiaaArg
import Derived.Deep.MidRow
namespace Go.Tk
set_option linter.unusedVariables false
set_option linter.unusedSimpArgs false
open Go.RowKit Go.Lib
def cellsL {α : Type} (enc : α → List Value) (l : List α) : List Value := (l.map enc).flatten
theorem cellsL_snoc {α : Type} (enc : α → List Value) (l : List α) (x : α) : cellsL enc (l ++ [x]) = cellsL enc l ++ enc x := by simp [cellsL]
theorem cellsL_len {α : Type} {enc : α → List Value} {size : Nat} (hk : ∀ x, (enc x).length = size) (l : List α) : (cellsL enc l).length = l.length * size := by
  unfold cellsL
  rw [flatten_len _ (fun r hr => by obtain ⟨x, _, rfl⟩ := List.mem_map.1 hr; exact hk x), List.length_map]
theorem cellsL_one {α : Type} {enc : α → List Value} (h1 : ∀ x, ∀ v ∈ enc x, v.oneCell' = true) (l : List α) : ∀ v ∈ cellsL enc l, v.oneCell' = true := by
  intro v hv
  unfold cellsL at hv
  obtain ⟨r, hr, hv⟩ := List.mem_flatten.1 hv
  obtain ⟨x, _, rfl⟩ := List.mem_map.1 hr
  exact h1 x v hv
theorem cellsL_get {α : Type} {enc : α → List Value} {size : Nat} (hk : ∀ x, (enc x).length = size) (l : List α) (k j : Nat) (hkl : k < l.length) (hj : j < size) : (cellsL enc l).getD (k * size + j) undef = (enc l[k]).getD j undef := by
  have hlt : k * size + j < ((l.map enc).flatten).length := by
    have := cellsL_len hk l
    unfold cellsL at this
    rw [this]
    have h2 : (k + 1) * size ≤ l.length * size := Nat.mul_le_mul_right size hkl
    rw [Nat.add_mul, Nat.one_mul] at h2; omega
  unfold cellsL
  rw [flatten_get (size := size) (by omega) _ (fun r hr => by obtain ⟨x, _, rfl⟩ := List.mem_map.1 hr; exact hk x) _ hlt]
  have e1 : (k * size + j) / size = k := by
    rw [Nat.mul_comm, Nat.mul_add_div (by omega), Nat.div_eq_of_lt hj, Nat.add_zero]
  have e2 : (k * size + j) % size = j := by
    rw [Nat.mul_comm, Nat.mul_add_mod, Nat.mod_eq_of_lt hj]
  rw [e1, e2]
  simp [List.getD_eq_getElem?_getD, hkl]
theorem Row.thing {α : Type} {enc : α → List Value} {size : Nat} (hk : ∀ x, (enc x).length = size) {w : World} {a : Option Addr} {l : List α} (h : Row w a (cellsL enc l)) {k : Nat} (hkl : k < l.length) (hs : 0 < size) :
    ∃ b off, a = some ⟨b, off, none⟩ ∧ ∀ j, j < size → w.cell? ⟨b, off + (k * size + j), none⟩ = some ((enc l[k]).getD j undef) := by
  have hlen := cellsL_len hk l
  have h2 : (k + 1) * size ≤ l.length * size := Nat.mul_le_mul_right size hkl
  rw [Nat.add_mul, Nat.one_mul] at h2
  obtain ⟨b, off, hab, _⟩ := h (k * size) (by omega)
  refine ⟨b, off, hab, fun j hj => ?_⟩
  obtain ⟨b', off', hab', hc⟩ := h (k * size + j) (by omega)
  rw [hab] at hab'
  cases hab'
  rw [hc, cellsL_get hk l k j hkl hj]
theorem Row.append {w : World} {a : Option Addr} {xs ys : List Value} (h : Row w a (xs ++ ys)) : Row w a xs := by
  intro i hi
  obtain ⟨b, off, hab, hc⟩ := h i (by simp; omega)
  refine ⟨b, off, hab, ?_⟩
  rw [hc]
  simp [List.getD_eq_getElem?_getD, List.getElem?_append_left hi]
theorem listOf {α : Type} {enc : α → List Value} {Q : List Value → Prop} (hQ : ∀ r, Q r → ∃ x, enc x = r) (rows : List (List Value)) (h : ∀ r ∈ rows, Q r) : ∃ l : List α, l.map enc = rows := by
  induction rows with
  | nil => exact ⟨[], rfl⟩
  | cons r rs ih =>
    obtain ⟨x, hx⟩ := hQ r (h r (by simp))
    obtain ⟨l, hl⟩ := ih (fun r hr => h r (by simp [hr]))
    exact ⟨x :: l, by rw [List.map_cons, hx, hl]⟩
theorem drewN_below (w : World) (n : Nat) : Below w.heap.size w (w.drewN n) := ⟨rfl, rfl, rfl, Nat.le_refl _, fun _ _ => rfl⟩
theorem ba_beq (a b : ByteArray) : (a == b) = decide (a = b) := by
  cases a with | mk x => cases b with | mk y =>
  show ByteArray.beq ⟨x⟩ ⟨y⟩ = _
  unfold ByteArray.beq
  rw [Bool.eq_iff_iff]; simp
theorem cell_new {w : World} {vs : Array Value} {E : TypeId} {fz : Nat × Nat} {b i : Nat} (hb : b = w.heap.size) : (w.alloc (.cells vs E fz)).cell? ⟨b, i, none⟩ = vs[i]? := by
  subst hb
  unfold World.cell? World.alloc
  simp
theorem below_alloc (w : World) (o : Obj) : Below w.heap.size w (w.alloc o) := (Below.refl _ _).alloc (Nat.le_refl _) _
theorem grownBy_setCell' (w : World) (b o : Nat) (u : Value) : w.grownBy (w.setCell ⟨b, o, none⟩ u) (some b) :=
  ⟨rfl, rfl, rfl, by simp, fun k _ hne => Below.heap_setCell w _ _ _ (by intro e; exact hne (by rw [e]))⟩
def Box (w : World) (b : Nat) (vs : Array Value) : Prop := ∃ E, w.heap[b]? = some (.cells vs E (0, 0))
theorem Box.new {w : World} {vs : Array Value} {E : TypeId} {b : Nat} (hb : b = w.heap.size) : Box (w.alloc (.cells vs E)) b vs := by
  subst hb
  refine ⟨E, ?_⟩
  unfold World.alloc
  simp
theorem Box.lt {w : World} {b : Nat} {vs : Array Value} (h : Box w b vs) : b < w.heap.size := by
  obtain ⟨E, h⟩ := h
  rcases Nat.lt_or_ge b w.heap.size with l | l
  · exact l
  · rw [Array.getElem?_eq_none l] at h; cases h
theorem Box.cell {w : World} {b : Nat} {vs : Array Value} (h : Box w b vs) (i : Nat) {v : Value} (hi : vs[i]? = some v) : w.cell? ⟨b, i, none⟩ = some v := by
  obtain ⟨E, h⟩ := h
  unfold World.cell?
  simp only [h]
  simpa using hi
theorem Box.free {w : World} {b : Nat} {vs : Array Value} (h : Box w b vs) (i : Nat) : w.frozen? ⟨b, i, none⟩ = false := by
  obtain ⟨E, h⟩ := h
  unfold World.frozen?
  simp only [h]
  simp
theorem Box.kept {w w' : World} {b : Nat} {vs : Array Value} (h : Box w b vs) (hb : Below w.heap.size w w') : Box w' b vs := by
  have hl := h.lt
  obtain ⟨E, h⟩ := h
  exact ⟨E, by rw [hb.block b hl]; exact h⟩
theorem Box.grown {w w' : World} {b : Nat} {vs : Array Value} {row : Option Nat} (h : Box w b vs) (hg : w.grownBy w' row) (hr : row ≠ some b) : Box w' b vs := by
  have hl := h.lt
  obtain ⟨E, h⟩ := h
  exact ⟨E, by rw [hg.block b hl (by intro e; exact hr e.symm)]; exact h⟩
theorem Box.set {w : World} {b : Nat} {vs : Array Value} (h : Box w b vs) (i : Nat) (u : Value) : Box (w.setCell ⟨b, i, none⟩ u) b (vs.setIfInBounds i u) := by
  obtain ⟨E, h⟩ := h
  refine ⟨E, ?_⟩
  unfold World.setCell
  simp only [Array.getElem?_modify, if_true, h, Option.map_some]
  rfl
theorem Box.other {w : World} {b b' i : Nat} {u : Value} {vs : Array Value} (h : Box w b vs) (hne : b' ≠ b) : Box (w.setCell ⟨b', i, none⟩ u) b vs := by
  obtain ⟨E, h⟩ := h
  exact ⟨E, by rw [Below.heap_setCell w _ _ _ (Ne.symm hne)]; exact h⟩
theorem Box.there {w : World} {b : Nat} {vs : Array Value} (h : Box w b vs) {n : Nat} (hn : n ≤ vs.size) : w.there b 0 n := fun j hj => by
  refine ⟨?_, h.free _⟩
  rw [Nat.zero_add, h.cell j (v := vs[j]) (by simp)]; rfl
theorem Row.grown {w w' : World} {row : Option Nat} (hg : w.grownBy w' row) {a : Option Addr} {vs : List Value} (h : Row w a vs) (hne : ∀ x, a = some x → row ≠ some x.block) : Row w' a vs := by
  intro i hi
  obtain ⟨b, off, ha, hc⟩ := h i hi
  refine ⟨b, off, ha, hg.cell hc ?_⟩
  intro e; exact hne _ ha e.symm
end Go.Tk
