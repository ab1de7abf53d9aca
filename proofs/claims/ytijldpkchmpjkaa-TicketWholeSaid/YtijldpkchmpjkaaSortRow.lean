/- A row of one's own, handed to the library's sort of structs, and read behind it. -/
import Derived.Test.YtijldpkchmpjkaaRowAt
import Derived.Shelf.SlSortCmp.KitK
namespace Go.Tk
open Go.RowKit Go.Lib Go.Sort Go.Proofs
variable {α : Type} [Inhabited α] {enc : α → List Value} {k : Nat}

theorem flat_get (hk : ∀ x, (enc x).length = k) (d : Array α) (t : Nat) (h : t < d.size * k) : ((d.toList.map enc).flatten).getD t undef = (flatK enc k d)[t]! := by
  have k0 : 0 < k := by
    rcases Nat.eq_zero_or_pos k with e | e
    · subst e; simp at h
    · exact e
  rw [get_flatK _ _ _ _ h]
  have hq : t / k < d.size := (Nat.div_lt_iff_lt_mul k0).2 h
  have e1 : ∀ (l : List α) (t : Nat), t < l.length * k → ((l.map enc).flatten)[t]? = ((l[t / k]?).map fun x => (enc x).getD (t % k) undef) := by
    intro l
    induction l with
    | nil => intro t h; simp at h
    | cons x l ih =>
      intro t h
      rw [List.map_cons, List.flatten_cons]
      by_cases ht : t < k
      · rw [List.getElem?_append_left (by rw [hk]; exact ht), Nat.div_eq_of_lt ht, Nat.mod_eq_of_lt ht]
        simp [List.getD_eq_getElem?_getD, hk, ht]
      · have h2 : t < l.length * k + k := by rw [List.length_cons, Nat.add_mul, Nat.one_mul] at h; exact h
        have e1 : t / k = (t - k) / k + 1 := Nat.div_eq_sub_div k0 (by omega)
        have e2 : t % k = (t - k) % k := Nat.mod_eq_sub_mod (by omega)
        rw [List.getElem?_append_right (by rw [hk]; omega), hk, ih (t - k) (by omega), e1, e2]
        simp
  rw [List.getD_eq_getElem?_getD, e1 d.toList t (by simpa using h)]
  have hm := Nat.mod_lt t k0
  have hz : d[t / k]! = d[t / k] := getElem!_pos d _ hq
  rw [hz]
  have : d.toList[t / k]? = some d[t / k] := by simp [hq]
  rw [this]
  simp only [Option.map_some, Option.getD_some]
  rw [getElem!_pos _ _ (by rw [hk]; exact hm)]
  simp [List.getD_eq_getElem?_getD, hk, hm]

omit [Inhabited α] in
theorem flat_len (hk : ∀ x, (enc x).length = k) (d : Array α) : ((d.toList.map enc).flatten).length = d.size * k := by
  have : ∀ l : List α, ((l.map enc).flatten).length = l.length * k := by
    intro l
    induction l with
    | nil => simp
    | cons x l ih => rw [List.map_cons, List.flatten_cons, List.length_append, ih, hk, List.length_cons, Nat.add_mul]; omega
  simpa using this d.toList

theorem holdsK_of_owns {w : World} {base : Nat} {e : TypeId} {g n cap : Nat} (hk : ∀ x, (enc x).length = k) (d : Array α) (hn : d.size = n) (h : w.ownsRow base e k (.slice (some ⟨g, 0, none⟩) n cap) n ((d.toList.map enc).flatten)) : HoldsK enc k w g 0 d := by
  subst hn
  intro j hj
  have hj' : j < d.size * k := by simpa using hj
  refine ⟨?_, h.frozenAt (0 + j)⟩
  rw [Nat.zero_add, h.cellAt j hj', ← flat_get hk d j hj', List.getD_eq_getElem?_getD]
  have : j < ((d.toList.map enc).flatten).length := by rw [flat_len hk]; exact hj'
  rw [List.getElem?_eq_getElem this]; rfl

theorem row_of_holdsK {w : World} {g : Nat} (hk : ∀ x, (enc x).length = k) (d : Array α) (h : HoldsK enc k w g 0 d) : Row w (some ⟨g, 0, none⟩) ((d.toList.map enc).flatten) := by
  intro i hi
  rw [flat_len hk] at hi
  refine ⟨g, 0, rfl, ?_⟩
  rw [(h i (by simpa using hi)).1, flat_get hk d i hi]; rfl

theorem swk_grown {w0 w : World} {g off : Nat} {d : Array α} (h : SWK enc k w0 g off d w) : w0.grownBy w (some g) := by
  obtain ⟨n, os, rfl⟩ := h
  refine ⟨rfl, rfl, rfl, ?_, fun j hj hne => ?_⟩
  · unfold sortWorldK; rw [size_grow, size_putRowK]; exact Nat.le_add_right _ _
  · unfold sortWorldK
    rw [heap_grow_old _ _ (by rw [size_putRowK]; exact hj)]
    unfold putRowK putRow mapBlock
    rw [Array.getElem?_modify, if_neg (by intro e; exact hne (by rw [e]))]
    rfl
end Go.Tk
