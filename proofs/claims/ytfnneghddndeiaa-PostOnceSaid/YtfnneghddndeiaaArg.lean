/- Arguments opened: what the reading of a struct, or of a slice of structs, says of cells. -/
import Derived.Test.YtfnneghddndeiaaBase
import Derived.Deep.Slices
namespace Go.Tk
set_option linter.unusedVariables false
set_option linter.unusedSimpArgs false
open Go.RowKit Go.Lib Go.Deep
variable {H : Type} {enc : TypeId × Value → H} {P : Program} {w : World} {base : Nat} {spare : Nat → Bool} {held : Bool}
theorem cells?_row {a : Addr} {n : Nat} {cs : List Value} (h : w.cells? base a n = some cs) (hn : 0 < n) : ∃ b off, a = ⟨b, off, none⟩ ∧ cs.length = n ∧ ∀ j, j < n → w.cell? ⟨b, off + j, none⟩ = some (cs.getD j undef) := by
  obtain ⟨_, hl, hc⟩ := World.cells?_some h
  obtain ⟨b, off, spot⟩ := a
  have h0 := hc 0 hn
  have h0' : w.cell? (Addr.add ⟨b, off, spot⟩ 0) = some (cs.getD 0 undef) := by
    rw [h0, List.getD_eq_getElem?_getD]
    cases hcs : cs[0]? with
    | none => rw [List.getElem?_eq_none_iff] at hcs; omega
    | some v => rfl
  have hspot : spot = none := by simpa [Addr.add] using World.cell?_spot h0'
  subst hspot
  refine ⟨b, off, rfl, hl, fun j hj => ?_⟩
  have := hc j hj
  have he : (Addr.add ⟨b, off, none⟩ j) = ⟨b, off + j, none⟩ := by
    unfold Addr.add
    split
    · rename_i h; subst h; rfl
    · rfl
  rw [he] at this
  rw [this, List.getD_eq_getElem?_getD]
  cases hcs : cs[j]? with
  | none => rw [List.getElem?_eq_none_iff] at hcs; omega
  | some v => rfl
theorem flatten_get {size : Nat} (hs : 0 < size) : ∀ (rows : List (List Value)), (∀ r ∈ rows, r.length = size) → ∀ i, i < rows.flatten.length → rows.flatten.getD i undef = (rows.getD (i / size) []).getD (i % size) undef
  | [], _, i, h => by simp at h
  | r :: rs, hr, i, h => by
    have hl := hr r (by simp)
    rw [List.flatten_cons]
    by_cases hi : i < size
    · rw [Nat.div_eq_of_lt hi, Nat.mod_eq_of_lt hi]
      simp only [List.getD_eq_getElem?_getD, List.getElem?_cons_zero, Option.getD_some]
      rw [List.getElem?_append_left (by omega)]
    · have ih := flatten_get hs rs (fun x hx => hr x (by simp [hx])) (i - size) (by rw [List.flatten_cons, List.length_append] at h; omega)
      have e1 : i / size = (i - size) / size + 1 := by rw [Nat.div_eq_sub_div hs (by omega)]
      have e2 : i % size = (i - size) % size := Nat.mod_eq_sub_mod (by omega)
      rw [e1, e2]
      simp only [List.getD_eq_getElem?_getD, List.getElem?_cons_succ] at ih ⊢
      rw [← ih, List.getElem?_append_right (by omega), hl]
theorem flatten_len {size : Nat} : ∀ (rows : List (List Value)), (∀ r ∈ rows, r.length = size) → rows.flatten.length = rows.length * size
  | [], _ => by simp
  | r :: rs, hr => by
    rw [List.flatten_cons, List.length_append, flatten_len rs (fun x hx => hr x (by simp [hx])), hr r (by simp), List.length_cons, Nat.add_mul]; omega
theorem slice_rows {t e : TypeId} {fuel size : Nat} {v : Value} {x : DataW H × List MemPlace} (Q : List Value → Prop) (ht : P.underlying t = some (.slice e)) (hsz : P.cellsOf e = size) (hs : 0 < size)
    (hQ : ∀ n cs y, cs.length = size → DataW.trod enc P w base spare held n e cs = some y → Q cs) (h : DataW.trod enc P w base spare held fuel t [v] = some x) :
    ∃ (a : Option Addr) (len cap : Nat) (rows : List (List Value)), v = .slice a len cap ∧ rows.length = len ∧ (∀ r ∈ rows, r.length = size ∧ Q r) ∧ Row w a rows.flatten ∧ (a = none → cap = 0) ∧ len ≤ maxLen ∧ len ≤ cap := by
  rcases open_slice ht h with ⟨hcs, _⟩ | ⟨a, len, cap, m, n, D, Pl, hcs, hb, hl, hm, hmm, _, hx⟩
  · simp only [List.cons.injEq, and_true] at hcs
    exact ⟨none, 0, 0, [], hcs, rfl, by simp, Row.nil, fun _ => rfl, Nat.zero_le _, Nat.le_refl _⟩
  · simp only [List.cons.injEq, and_true] at hcs
    have hle : len ≤ m := by rw [hmm]; split <;> omega
    rw [hsz] at hx
    obtain ⟨V, hV⟩ := choose_lt (α := List Value) (p := fun i cs => w.cells? base (a.add (i * size)) size = some cs ∧ DataW.trod enc P w base spare held n e cs = some (D i, Pl i)) hx
    have hlen : ∀ i, i < m → (V i).length = size := fun i hi => by
      obtain ⟨_, _, _, h1, _⟩ := cells?_row (hV i hi).1 hs; exact h1
    refine ⟨some a, len, cap, (List.range len).map V, hcs, by simp, ?_, ?_, by simp, Nat.le_trans hl hm, hl⟩
    · intro r hr
      obtain ⟨i, hi, rfl⟩ := List.mem_map.1 hr
      have hi' : i < len := by simpa using hi
      exact ⟨hlen i (by omega), hQ _ _ _ (hlen i (by omega)) (hV i (by omega)).2⟩
    · have hrows : ∀ r ∈ (List.range len).map V, r.length = size := by
        intro r hr
        obtain ⟨i, hi, rfl⟩ := List.mem_map.1 hr
        exact hlen i (by have : i < len := by simpa using hi
                         omega)
      intro i hi
      have hi2 := hi
      rw [flatten_len _ hrows] at hi2
      simp only [List.length_map, List.length_range] at hi2
      have hq : i / size < len := (Nat.div_lt_iff_lt_mul hs).2 hi2
      have hqm : i / size < m := Nat.lt_of_lt_of_le hq hle
      rw [flatten_get hs _ hrows i hi]
      obtain ⟨b, off, hab, _, hc⟩ := cells?_row (hV (i / size) hqm).1 hs
      have h00 : 0 < len := Nat.lt_of_le_of_lt (Nat.zero_le _) hq
      obtain ⟨b0, off0, hab0, _, _⟩ := cells?_row (hV 0 (Nat.lt_of_lt_of_le h00 hle)).1 hs
      have ha0 : a = ⟨b0, off0, none⟩ := by
        rw [← hab0]; simp [Addr.add]
      subst ha0
      have hmod := Nat.mod_lt i hs
      have hdm := Nat.div_add_mod i size
      refine ⟨b0, off0, rfl, ?_⟩
      have hadd : (Addr.add ⟨b0, off0, none⟩ (i / size * size)) = ⟨b0, off0 + i / size * size, none⟩ := by
        unfold Addr.add
        split
        · rename_i h0; rw [h0]; rfl
        · rfl
      rw [hadd] at hab
      cases hab
      have := hc (i % size) hmod
      have e : off0 + i / size * size + i % size = off0 + i := by rw [Nat.mul_comm]; omega
      rw [e] at this
      rw [this]
      simp [List.getD_eq_getElem?_getD, hq]
theorem struct_fields {t : TypeId} {fs : Array Field} {fuel : Nat} {cs : List Value} {x : DataW H × List MemPlace} (ht : P.underlying t = some (.struct fs)) (h : DataW.trod enc P w base spare held fuel t cs = some x) :
    cs.length = P.cellsOf t ∧ ∃ n, ∀ f ∈ fs.toList, ∃ y, DataW.trod enc P w base spare held n f.type ((cs.drop f.offset).take (P.cellsOf f.type)) = some y := by
  cases fuel with
  | zero => simp [DataW.trod] at h
  | succ n =>
    have h' := h
    unfold DataW.trod at h'
    rw [ht] at h'
    have key : (if cs.length = P.cellsOf t then (fs.toList.mapM fun f => DataW.trod enc P w base spare held n f.type ((cs.drop f.offset).take (P.cellsOf f.type))).map fun xs => (DataW.agg (xs.map (·.1)), xs.flatMap (·.2)) else none) = some x := by
      rcases cs with _ | ⟨c, _ | ⟨c2, r⟩⟩ <;> simpa using h'
    by_cases hl : cs.length = P.cellsOf t
    · rw [if_pos hl] at key
      obtain ⟨xs, hxs, _⟩ := Option.map_eq_some_iff.1 key
      refine ⟨hl, n, fun f hf => ?_⟩
      obtain ⟨i, hi, hfi⟩ := List.getElem_of_mem hf
      have hg := mapM_some_get hxs i f (by rw [List.getElem?_eq_getElem hi, hfi])
      have hlx := mapM_some_length hxs
      have hi2 : i < xs.length := by omega
      exact ⟨xs[i], by rw [hg, List.getElem?_eq_getElem hi2]⟩
    · rw [if_neg hl] at key; cases key
theorem int_cell {t : TypeId} {k : IntKind} {fuel : Nat} {cs : List Value} {x : DataW H × List MemPlace} (ht : P.underlying t = some (.int k)) (h : DataW.trod enc P w base spare held fuel t cs = some x) :
    ∃ n, cs = [.int k n] ∧ (Lit.int k n).wf = true := by
  obtain ⟨n, h1, _, h2⟩ := DataW.trod_int ht h
  exact ⟨n, h1, h2⟩
end Go.Tk
