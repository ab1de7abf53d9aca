/- Arg, RowS, Fr, StepApp, Lay. -/
import Derived.Deep.Slices
import Derived.Test.YtmhbpifhpolghaaGreatMb4bbac2
import Derived.Deep.MidRow
import Derived.Deep.RegionLaw
import Derived.Deep.RegionHeldLaw
set_option maxRecDepth 100000
set_option linter.unusedVariables false
set_option linter.unusedSimpArgs false
set_option linter.unusedSectionVars false
section
namespace Go.Tk
open Go.RowKit Go.Lib Go.Deep
variable {H : Type} {enc : TypeId × Value → H} {P : Program} {w : World} {base : Nat} {spare : Nat → Bool} {held : Bool}
theorem cells?_row {a : Addr} {n : Nat} {cs : List Value} (h : w.cells? base a n = some cs) (hn : 0 < n) : ∃ b off, a = ⟨b, off, none⟩ ∧ cs.length = n ∧ ∀ j, j < n → w.cell? ⟨b, off + j, none⟩ = some (cs.getD j undef) := by
  obtain ⟨_, hl, hc⟩ := World.cells?_some h
  obtain ⟨b, off, spot⟩ := a
  have h0 := hc 0 hn
  have h0' : w.cell? (Addr.add ⟨b, off, spot⟩ 0) = some (cs.getD 0 undef) := by
    rw [h0, List.getD_eq_getElem?_getD]
    cases hcs : cs[0]? with
    | none => rw [List.getElem?_eq_none_iff] at hcs; omega
    | some v => rfl
  have hspot : spot = none := by simpa [Addr.add] using World.cell?_spot h0'
  subst hspot
  refine ⟨b, off, rfl, hl, fun j hj => ?_⟩
  have := hc j hj
  have he : (Addr.add ⟨b, off, none⟩ j) = ⟨b, off + j, none⟩ := by
    unfold Addr.add
    split
    · rename_i h; subst h; rfl
    · rfl
  rw [he] at this
  rw [this, List.getD_eq_getElem?_getD]
  cases hcs : cs[j]? with
  | none => rw [List.getElem?_eq_none_iff] at hcs; omega
  | some v => rfl
theorem flatten_get {size : Nat} (hs : 0 < size) : ∀ (rows : List (List Value)), (∀ r ∈ rows, r.length = size) → ∀ i, i < rows.flatten.length → rows.flatten.getD i undef = (rows.getD (i / size) []).getD (i % size) undef
  | [], _, i, h => by simp at h
  | r :: rs, hr, i, h => by
    have hl := hr r (by simp)
    rw [List.flatten_cons]
    by_cases hi : i < size
    · rw [Nat.div_eq_of_lt hi, Nat.mod_eq_of_lt hi]
      simp only [List.getD_eq_getElem?_getD, List.getElem?_cons_zero, Option.getD_some]
      rw [List.getElem?_append_left (by omega)]
    · have ih := flatten_get hs rs (fun x hx => hr x (by simp [hx])) (i - size) (by rw [List.flatten_cons, List.length_append] at h; omega)
      have e1 : i / size = (i - size) / size + 1 := by rw [Nat.div_eq_sub_div hs (by omega)]
      have e2 : i % size = (i - size) % size := Nat.mod_eq_sub_mod (by omega)
      rw [e1, e2]
      simp only [List.getD_eq_getElem?_getD, List.getElem?_cons_succ] at ih ⊢
      rw [← ih, List.getElem?_append_right (by omega), hl]
theorem flatten_len {size : Nat} : ∀ (rows : List (List Value)), (∀ r ∈ rows, r.length = size) → rows.flatten.length = rows.length * size
  | [], _ => by simp
  | r :: rs, hr => by
    rw [List.flatten_cons, List.length_append, flatten_len rs (fun x hx => hr x (by simp [hx])), hr r (by simp), List.length_cons, Nat.add_mul]; omega
theorem slice_rows {t e : TypeId} {fuel size : Nat} {v : Value} {x : DataW H × List MemPlace} (Q : List Value → Prop) (ht : P.underlying t = some (.slice e)) (hsz : P.cellsOf e = size) (hs : 0 < size)
    (hQ : ∀ n cs y, cs.length = size → DataW.trod enc P w base spare held n e cs = some y → Q cs) (h : DataW.trod enc P w base spare held fuel t [v] = some x) :
    ∃ (a : Option Addr) (len cap : Nat) (rows : List (List Value)), v = .slice a len cap ∧ rows.length = len ∧ (∀ r ∈ rows, r.length = size ∧ Q r) ∧ Row w a rows.flatten ∧ (a = none → cap = 0) ∧ len ≤ maxLen ∧ len ≤ cap := by
  rcases open_slice ht h with ⟨hcs, _⟩ | ⟨a, len, cap, m, n, D, Pl, hcs, hb, hl, hm, hmm, _, hx⟩
  · simp only [List.cons.injEq, and_true] at hcs
    exact ⟨none, 0, 0, [], hcs, rfl, by simp, Row.nil, fun _ => rfl, Nat.zero_le _, Nat.le_refl _⟩
  · simp only [List.cons.injEq, and_true] at hcs
    have hle : len ≤ m := by rw [hmm]; split <;> omega
    rw [hsz] at hx
    obtain ⟨V, hV⟩ := choose_lt (α := List Value) (p := fun i cs => w.cells? base (a.add (i * size)) size = some cs ∧ DataW.trod enc P w base spare held n e cs = some (D i, Pl i)) hx
    have hlen : ∀ i, i < m → (V i).length = size := fun i hi => by
      obtain ⟨_, _, _, h1, _⟩ := cells?_row (hV i hi).1 hs; exact h1
    refine ⟨some a, len, cap, (List.range len).map V, hcs, by simp, ?_, ?_, by simp, Nat.le_trans hl hm, hl⟩
    · intro r hr
      obtain ⟨i, hi, rfl⟩ := List.mem_map.1 hr
      have hi' : i < len := by simpa using hi
      exact ⟨hlen i (by omega), hQ _ _ _ (hlen i (by omega)) (hV i (by omega)).2⟩
    · have hrows : ∀ r ∈ (List.range len).map V, r.length = size := by
        intro r hr
        obtain ⟨i, hi, rfl⟩ := List.mem_map.1 hr
        exact hlen i (by have : i < len := by simpa using hi
                         omega)
      intro i hi
      have hi2 := hi
      rw [flatten_len _ hrows] at hi2
      simp only [List.length_map, List.length_range] at hi2
      have hq : i / size < len := (Nat.div_lt_iff_lt_mul hs).2 hi2
      have hqm : i / size < m := Nat.lt_of_lt_of_le hq hle
      rw [flatten_get hs _ hrows i hi]
      obtain ⟨b, off, hab, _, hc⟩ := cells?_row (hV (i / size) hqm).1 hs
      have h00 : 0 < len := Nat.lt_of_le_of_lt (Nat.zero_le _) hq
      obtain ⟨b0, off0, hab0, _, _⟩ := cells?_row (hV 0 (Nat.lt_of_lt_of_le h00 hle)).1 hs
      have ha0 : a = ⟨b0, off0, none⟩ := by
        rw [← hab0]; simp [Addr.add]
      subst ha0
      have hmod := Nat.mod_lt i hs
      have hdm := Nat.div_add_mod i size
      refine ⟨b0, off0, rfl, ?_⟩
      have hadd : (Addr.add ⟨b0, off0, none⟩ (i / size * size)) = ⟨b0, off0 + i / size * size, none⟩ := by
        unfold Addr.add
        split
        · rename_i h0; rw [h0]; rfl
        · rfl
      rw [hadd] at hab
      cases hab
      have := hc (i % size) hmod
      have e : off0 + i / size * size + i % size = off0 + i := by rw [Nat.mul_comm]; omega
      rw [e] at this
      rw [this]
      simp [List.getD_eq_getElem?_getD, hq]
theorem struct_fields {t : TypeId} {fs : Array Field} {fuel : Nat} {cs : List Value} {x : DataW H × List MemPlace} (ht : P.underlying t = some (.struct fs)) (h : DataW.trod enc P w base spare held fuel t cs = some x) :
    cs.length = P.cellsOf t ∧ ∃ n, ∀ f ∈ fs.toList, ∃ y, DataW.trod enc P w base spare held n f.type ((cs.drop f.offset).take (P.cellsOf f.type)) = some y := by
  cases fuel with
  | zero => simp [DataW.trod] at h
  | succ n =>
    have h' := h
    unfold DataW.trod at h'
    rw [ht] at h'
    have key : (if cs.length = P.cellsOf t then (fs.toList.mapM fun f => DataW.trod enc P w base spare held n f.type ((cs.drop f.offset).take (P.cellsOf f.type))).map fun xs => (DataW.agg (xs.map (·.1)), xs.flatMap (·.2)) else none) = some x := by
      rcases cs with _ | ⟨c, _ | ⟨c2, r⟩⟩ <;> simpa using h'
    by_cases hl : cs.length = P.cellsOf t
    · rw [if_pos hl] at key
      obtain ⟨xs, hxs, _⟩ := Option.map_eq_some_iff.1 key
      refine ⟨hl, n, fun f hf => ?_⟩
      obtain ⟨i, hi, hfi⟩ := List.getElem_of_mem hf
      have hg := mapM_some_get hxs i f (by rw [List.getElem?_eq_getElem hi, hfi])
      have hlx := mapM_some_length hxs
      have hi2 : i < xs.length := by omega
      exact ⟨xs[i], by rw [hg, List.getElem?_eq_getElem hi2]⟩
    · rw [if_neg hl] at key; cases key
theorem int_cell {t : TypeId} {k : IntKind} {fuel : Nat} {cs : List Value} {x : DataW H × List MemPlace} (ht : P.underlying t = some (.int k)) (h : DataW.trod enc P w base spare held fuel t cs = some x) :
    ∃ n, cs = [.int k n] ∧ (Lit.int k n).wf = true := by
  obtain ⟨n, h1, _, h2⟩ := DataW.trod_int ht h
  exact ⟨n, h1, h2⟩
theorem bool_cell {t : TypeId} {fuel : Nat} {cs : List Value} {x : DataW H × List MemPlace} (ht : P.underlying t = some .bool) (h : DataW.trod enc P w base spare held fuel t cs = some x) :
    ∃ b, cs = [.bool b] := by
  obtain ⟨n, h1, _⟩ := DataW.trod_bool ht h
  exact ⟨n, h1⟩
theorem string_cell {t : TypeId} {fuel : Nat} {cs : List Value} {x : DataW H × List MemPlace} (ht : P.underlying t = some .string) (h : DataW.trod enc P w base spare held fuel t cs = some x) :
    ∃ s : ByteArray, cs = [.string s] ∧ s.size ≤ maxLen := by
  obtain ⟨n, h1, _, h2⟩ := DataW.trod_string ht h
  exact ⟨n, h1, h2⟩
end Go.Tk
end
section
namespace Go.Tk
open Go.RowKit Go.Lib
def cellsL {α : Type} (enc : α → List Value) (l : List α) : List Value := (l.map enc).flatten
theorem cellsL_snoc {α : Type} (enc : α → List Value) (l : List α) (x : α) : cellsL enc (l ++ [x]) = cellsL enc l ++ enc x := by simp [cellsL]
theorem cellsL_append {α : Type} (enc : α → List Value) (l m : List α) : cellsL enc (l ++ m) = cellsL enc l ++ cellsL enc m := by simp [cellsL]
theorem cellsL_len {α : Type} {enc : α → List Value} {size : Nat} (hk : ∀ x, (enc x).length = size) (l : List α) : (cellsL enc l).length = l.length * size := by
  unfold cellsL
  rw [flatten_len _ (fun r hr => by obtain ⟨x, _, rfl⟩ := List.mem_map.1 hr; exact hk x), List.length_map]
theorem cellsL_one {α : Type} {enc : α → List Value} (h1 : ∀ x, ∀ v ∈ enc x, v.oneCell' = true) (l : List α) : ∀ v ∈ cellsL enc l, v.oneCell' = true := by
  intro v hv
  unfold cellsL at hv
  obtain ⟨r, hr, hv⟩ := List.mem_flatten.1 hv
  obtain ⟨x, _, rfl⟩ := List.mem_map.1 hr
  exact h1 x v hv
theorem cellsL_get {α : Type} {enc : α → List Value} {size : Nat} (hk : ∀ x, (enc x).length = size) (l : List α) (k j : Nat) (hkl : k < l.length) (hj : j < size) : (cellsL enc l).getD (k * size + j) undef = (enc l[k]).getD j undef := by
  have hlt : k * size + j < ((l.map enc).flatten).length := by
    have := cellsL_len hk l
    unfold cellsL at this
    rw [this]
    have h2 : (k + 1) * size ≤ l.length * size := Nat.mul_le_mul_right size hkl
    rw [Nat.add_mul, Nat.one_mul] at h2; omega
  unfold cellsL
  rw [flatten_get (size := size) (by omega) _ (fun r hr => by obtain ⟨x, _, rfl⟩ := List.mem_map.1 hr; exact hk x) _ hlt]
  have e1 : (k * size + j) / size = k := by
    rw [Nat.mul_comm, Nat.mul_add_div (by omega), Nat.div_eq_of_lt hj, Nat.add_zero]
  have e2 : (k * size + j) % size = j := by
    rw [Nat.mul_comm, Nat.mul_add_mod, Nat.mod_eq_of_lt hj]
  rw [e1, e2]
  simp [List.getD_eq_getElem?_getD, hkl]
theorem Row.thing {α : Type} {enc : α → List Value} {size : Nat} (hk : ∀ x, (enc x).length = size) {w : World} {a : Option Addr} {l : List α} (h : Row w a (cellsL enc l)) {k : Nat} (hkl : k < l.length) (hs : 0 < size) :
    ∃ b off, a = some ⟨b, off, none⟩ ∧ ∀ j, j < size → w.cell? ⟨b, off + (k * size + j), none⟩ = some ((enc l[k]).getD j undef) := by
  have hlen := cellsL_len hk l
  have h2 : (k + 1) * size ≤ l.length * size := Nat.mul_le_mul_right size hkl
  rw [Nat.add_mul, Nat.one_mul] at h2
  obtain ⟨b, off, hab, _⟩ := h (k * size) (by omega)
  refine ⟨b, off, hab, fun j hj => ?_⟩
  obtain ⟨b', off', hab', hc⟩ := h (k * size + j) (by omega)
  rw [hab] at hab'
  cases hab'
  rw [hc, cellsL_get hk l k j hkl hj]
theorem Row.append {w : World} {a : Option Addr} {xs ys : List Value} (h : Row w a (xs ++ ys)) : Row w a xs := by
  intro i hi
  obtain ⟨b, off, hab, hc⟩ := h i (by simp; omega)
  refine ⟨b, off, hab, ?_⟩
  rw [hc]
  simp [List.getD_eq_getElem?_getD, List.getElem?_append_left hi]
theorem listOf {α : Type} {enc : α → List Value} {Q : List Value → Prop} (hQ : ∀ r, Q r → ∃ x, enc x = r) (rows : List (List Value)) (h : ∀ r ∈ rows, Q r) : ∃ l : List α, l.map enc = rows := by
  induction rows with
  | nil => exact ⟨[], rfl⟩
  | cons r rs ih =>
    obtain ⟨x, hx⟩ := hQ r (h r (by simp))
    obtain ⟨l, hl⟩ := ih (fun r hr => h r (by simp [hr]))
    exact ⟨x :: l, by rw [List.map_cons, hx, hl]⟩
theorem drewN_below (w : World) (n : Nat) : Below w.heap.size w (w.drewN n) := ⟨rfl, rfl, rfl, Nat.le_refl _, fun _ _ => rfl⟩
theorem ba_beq (a b : ByteArray) : (a == b) = decide (a = b) := by
  cases a with | mk x => cases b with | mk y =>
  show ByteArray.beq ⟨x⟩ ⟨y⟩ = _
  unfold ByteArray.beq
  rw [Bool.eq_iff_iff]; simp
theorem ba_eq (a : ByteArray) : (a == a) = true := by rw [ba_beq]; exact decide_eq_true rfl
theorem toList_loop (bs : ByteArray) : ∀ (n i : Nat) (r : List UInt8), bs.size - i = n → ByteArray.toList.loop bs i r = r.reverse ++ bs.data.toList.drop i := by
  intro n
  induction n with
  | zero =>
    intro i r h
    unfold ByteArray.toList.loop
    have : ¬ i < bs.size := by omega
    simp [this]
    have : bs.data.size ≤ i := by simpa using (show bs.size ≤ i by omega)
    omega
  | succ n ih =>
    intro i r h
    unfold ByteArray.toList.loop
    have hi : i < bs.size := by omega
    simp only [hi, if_true]
    rw [ih (i+1) _ (by omega)]
    have hl : i < bs.data.toList.length := by simpa using hi
    rw [List.drop_eq_getElem_cons hl]
    simp only [ByteArray.get!, List.reverse_cons, List.append_assoc, List.singleton_append]
    congr 2
    exact getElem!_pos bs.data i (by simpa using hi)
theorem ba_toList (a : ByteArray) : a.toList = a.data.toList := by
  unfold ByteArray.toList; rw [toList_loop a _ 0 [] rfl]; simp
theorem ba_toList_ne {a b : ByteArray} (h : a ≠ b) : a.toList ≠ b.toList := by
  rw [ba_toList, ba_toList]; intro e
  apply h; cases a; cases b; simp at e; rw [e]
theorem cell_new {w : World} {vs : Array Value} {E : TypeId} {fz : Nat × Nat} {b i : Nat} (hb : b = w.heap.size) : (w.alloc (.cells vs E fz)).cell? ⟨b, i, none⟩ = vs[i]? := by
  subst hb
  unfold World.cell? World.alloc
  simp
theorem below_alloc (w : World) (o : Obj) : Below w.heap.size w (w.alloc o) := (Below.refl _ _).alloc (Nat.le_refl _) _
def Box (w : World) (b : Nat) (vs : Array Value) : Prop := ∃ E, w.heap[b]? = some (.cells vs E (0, 0))
theorem Box.new {w : World} {vs : Array Value} {E : TypeId} {b : Nat} (hb : b = w.heap.size) : Box (w.alloc (.cells vs E)) b vs := by
  subst hb
  refine ⟨E, ?_⟩
  unfold World.alloc
  simp
theorem Box.lt {w : World} {b : Nat} {vs : Array Value} (h : Box w b vs) : b < w.heap.size := by
  obtain ⟨E, h⟩ := h
  rcases Nat.lt_or_ge b w.heap.size with l | l
  · exact l
  · rw [Array.getElem?_eq_none l] at h; cases h
theorem Box.cell {w : World} {b : Nat} {vs : Array Value} (h : Box w b vs) (i : Nat) {v : Value} (hi : vs[i]? = some v) : w.cell? ⟨b, i, none⟩ = some v := by
  obtain ⟨E, h⟩ := h
  unfold World.cell?
  simp only [h]
  simpa using hi
theorem Box.free {w : World} {b : Nat} {vs : Array Value} (h : Box w b vs) (i : Nat) : w.frozen? ⟨b, i, none⟩ = false := by
  obtain ⟨E, h⟩ := h
  unfold World.frozen?
  simp only [h]
  simp
theorem Box.kept {w w' : World} {b : Nat} {vs : Array Value} (h : Box w b vs) (hb : Below w.heap.size w w') : Box w' b vs := by
  have hl := h.lt
  obtain ⟨E, h⟩ := h
  exact ⟨E, by rw [hb.block b hl]; exact h⟩
theorem Box.grown {w w' : World} {b : Nat} {vs : Array Value} {row : Option Nat} (h : Box w b vs) (hg : w.grownBy w' row) (hr : row ≠ some b) : Box w' b vs := by
  have hl := h.lt
  obtain ⟨E, h⟩ := h
  exact ⟨E, by rw [hg.block b hl (by intro e; exact hr e.symm)]; exact h⟩
theorem Box.set {w : World} {b : Nat} {vs : Array Value} (h : Box w b vs) (i : Nat) (u : Value) : Box (w.setCell ⟨b, i, none⟩ u) b (vs.setIfInBounds i u) := by
  obtain ⟨E, h⟩ := h
  refine ⟨E, ?_⟩
  unfold World.setCell
  simp only [Array.getElem?_modify, if_true, h, Option.map_some]
  rfl
theorem Box.other {w : World} {b b' i : Nat} {u : Value} {vs : Array Value} (h : Box w b vs) (hne : b' ≠ b) : Box (w.setCell ⟨b', i, none⟩ u) b vs := by
  obtain ⟨E, h⟩ := h
  exact ⟨E, by rw [Below.heap_setCell w _ _ _ (Ne.symm hne)]; exact h⟩
theorem Box.there {w : World} {b : Nat} {vs : Array Value} (h : Box w b vs) {n : Nat} (hn : n ≤ vs.size) : w.there b 0 n := fun j hj => by
  refine ⟨?_, h.free _⟩
  rw [Nat.zero_add, h.cell j (v := vs[j]) (by simp)]; rfl
theorem Row.grown {w w' : World} {row : Option Nat} (hg : w.grownBy w' row) {a : Option Addr} {vs : List Value} (h : Row w a vs) (hne : ∀ x, a = some x → row ≠ some x.block) : Row w' a vs := by
  intro i hi
  obtain ⟨b, off, ha, hc⟩ := h i hi
  refine ⟨b, off, ha, hg.cell hc ?_⟩
  intro e; exact hne _ ha e.symm
structure Fr (S : Nat → Prop) (w w' : World) : Prop where
  os : w'.os = w.os
  tape : w'.tape = w.tape
  output : w'.output = w.output
  size : w.heap.size ≤ w'.heap.size
  block : ∀ b, b < w.heap.size → ¬ S b → w'.heap[b]? = w.heap[b]?
theorem Fr.refl (S : Nat → Prop) (w : World) : Fr S w w := ⟨rfl, rfl, rfl, Nat.le_refl _, fun _ _ _ => rfl⟩
theorem Fr.mono {S T : Nat → Prop} {w w' : World} (h : Fr S w w') (hs : ∀ b, b < w.heap.size → S b → T b) : Fr T w w' :=
  ⟨h.os, h.tape, h.output, h.size, fun b hb ht => h.block b hb (fun s => ht (hs b hb s))⟩
theorem Fr.trans {S T : Nat → Prop} {w w' w'' : World} (h : Fr S w w') (k : Fr T w' w'') (hs : ∀ b, b < w.heap.size → T b → S b) : Fr S w w'' :=
  ⟨k.os.trans h.os, k.tape.trans h.tape, k.output.trans h.output, Nat.le_trans h.size k.size, fun b hb hn => (k.block b (Nat.lt_of_lt_of_le hb h.size) (fun t => hn (hs b hb t))).trans (h.block b hb hn)⟩
theorem Fr.below {S : Nat → Prop} {n : Nat} {w w' : World} (h : Fr S w w') (hs : ∀ b, b < w.heap.size → S b → n ≤ b) (hn : n ≤ w.heap.size) : Below n w w' :=
  ⟨h.os, h.tape, h.output, h.size, fun b hb => h.block b (Nat.lt_of_lt_of_le hb hn) (fun s => by have := hs b (Nat.lt_of_lt_of_le hb hn) s; omega)⟩
theorem fr_below {w w' : World} (S : Nat → Prop) (h : Below w.heap.size w w') : Fr S w w' := ⟨h.os, h.tape, h.output, h.size, fun b hb _ => h.block b hb⟩
theorem Fr.set {S : Nat → Prop} {w w' : World} (h : Fr S w w') (b o : Nat) (u : Value) (hs : S b) : Fr S w (w'.setCell ⟨b, o, none⟩ u) :=
  ⟨h.os, h.tape, h.output, by simpa using h.size, fun k hk hn => (Below.heap_setCell w' _ _ _ (fun e => hn (by rw [e]; exact hs))).trans (h.block k hk hn)⟩
theorem Fr.alloc {S : Nat → Prop} {w w' : World} (h : Fr S w w') (o : Obj) : Fr S w (w'.alloc o) := h.trans (fr_below (fun _ => False) (below_alloc w' o)) (fun _ _ f => False.elim f)
theorem Fr.grown {S : Nat → Prop} {w w' w'' : World} {row : Option Nat} (h : Fr S w w') (hg : w'.grownBy w'' row) (hs : ∀ g, row = some g → S g) : Fr S w w'' :=
  h.trans (T := fun b => row = some b) ⟨hg.os, hg.tape, hg.output, hg.size, fun b hb hn => hg.block b hb (fun e => hn e.symm)⟩ (fun b _ e => hs b e)
theorem Fr.kept {S : Nat → Prop} {w w' w'' : World} (h : Fr S w w') (k : Below w'.heap.size w' w'') : Fr S w w'' := h.trans (fr_below (fun _ => False) k) (fun _ _ f => False.elim f)
theorem Box.fr {S : Nat → Prop} {w w' : World} {b : Nat} {vs : Array Value} (h : Box w b vs) (f : Fr S w w') (hn : ¬ S b) : Box w' b vs := by
  have hl := h.lt
  obtain ⟨E, h⟩ := h
  exact ⟨E, by rw [f.block b hl hn]; exact h⟩
theorem Row.fr {S : Nat → Prop} {w w' : World} {a : Option Addr} {vs : List Value} (h : Row w a vs) (f : Fr S w w') (hn : ∀ x, a = some x → ¬ S x.block) : Row w' a vs := by
  intro i hi
  obtain ⟨b, off, ha, hc⟩ := h i hi
  refine ⟨b, off, ha, ?_⟩
  rw [← hc]
  exact World.cell?_of_block (f.block b (lt_of_cell hc) (hn _ ha))
theorem ownsRow_fr {S : Nat → Prop} {w w' : World} {base : Nat} {e : TypeId} {size : Nat} {v : Value} {n : Nat} {xs : List Value} (h : w.ownsRow base e size v n xs) (f : Fr S w w') (hn : ∀ g, v.ownBlock = some g → ¬ S g) : w'.ownsRow base e size v n xs := by
  have hlt := h.lt
  obtain ⟨hl, h | ⟨g, cap, cur, hv, hg, hh, h2⟩⟩ := h
  · exact ⟨hl, .inl h⟩
  · refine ⟨hl, .inr ⟨g, cap, cur, hv, hg, ?_, h2⟩⟩
    have e : v.ownBlock = some g := by rw [hv]; rfl
    rw [f.block g (hlt g e).2 (hn g e)]; exact hh
section
variable {P : Program} {k : TypeId} {κ : Type} {K : KeyKind P k κ}
theorem MapAt.fr {S : Nat → Prop} {w w' : World} {b : Nat} {L : List (κ × Value)} (h : MapAt K w b L) (f : Fr S w w') (hn : ¬ S b) : MapAt K w' b L := h.same (f.block b h.lt hn)
end
theorem own_slice {w : World} {base : Nat} {E : TypeId} {size n : Nat} {v : Value} {xs : List Value} (h : w.ownsRow base E size v n xs) : ∃ a c, v = .slice a n c ∧ Row w a xs ∧ (a = none → c = 0) ∧ (∀ x, a = some x → base ≤ x.block) := by
  obtain ⟨hl, h1 | ⟨g, cap, cur, hv, h2⟩⟩ := h
  · obtain ⟨rfl, rfl⟩ := h1
    have : xs = [] := List.length_eq_zero_iff.1 (by simpa using hl)
    subst this
    exact ⟨none, 0, rfl, Row.nil, fun _ => rfl, fun x h => by cases h⟩
  · subst hv
    obtain ⟨a, c, hv, hr, _⟩ := row_of_owns (w := w) (base := base) (e := E) (size := size) (v := .slice (some ⟨g, 0, none⟩) n cap) ⟨hl, .inr ⟨g, cap, cur, rfl, h2⟩⟩
    cases hv
    exact ⟨_, _, rfl, hr, (fun h => by cases h), fun x h => by cases h; exact h2.1⟩
structure Lay (w0 w : World) (F : Nat → Nat → Prop) : Prop where
  lo : ∀ i k, F i k → w0.heap.size ≤ k
  hi : ∀ i k, F i k → k < w.heap.size
  apart : ∀ i j k, i ≠ j → F i k → ¬ F j k
  below : Below w0.heap.size w0 w
theorem Lay.kept {w0 w w' : World} {F : Nat → Nat → Prop} (h : Lay w0 w F) (hb : Below w.heap.size w w') : Lay w0 w' F :=
  ⟨h.lo, fun i k hk => Nat.lt_of_lt_of_le (h.hi i k hk) hb.size, h.apart, h.below.trans (hb.mono h.below.size)⟩
theorem Lay.congr {w0 w : World} {F G : Nat → Nat → Prop} (h : Lay w0 w F) (e : ∀ i k, G i k → F i k) : Lay w0 w G :=
  ⟨fun i k hk => h.lo i k (e i k hk), fun i k hk => h.hi i k (e i k hk), fun i j k hij hi hj => h.apart i j k hij (e i k hi) (e j k hj), h.below⟩
theorem Lay.step {w0 w w' : World} {F : Nat → Nat → Prop} (h : Lay w0 w F) (i : Nat) (G : Nat → Prop) (hf : Fr (F i) w w') (hG : ∀ k, G k → (F i k ∨ w.heap.size ≤ k) ∧ k < w'.heap.size) :
    Lay w0 w' (fun j => if j = i then G else F j) := by
  have lo : ∀ k, G k → w0.heap.size ≤ k := fun k hk => by
    rcases (hG k hk).1 with h1 | h1
    · exact h.lo i k h1
    · exact Nat.le_trans h.below.size h1
  refine ⟨fun j k hk => ?_, fun j k hk => ?_, fun a b k hab ha hb => ?_, h.below.trans (hf.below (fun b _ hb => h.lo i b hb) h.below.size)⟩
  · by_cases e : j = i
    · simp only [if_pos e] at hk; exact lo k hk
    · simp only [if_neg e] at hk; exact h.lo j k hk
  · by_cases e : j = i
    · simp only [if_pos e] at hk; exact (hG k hk).2
    · simp only [if_neg e] at hk; exact Nat.lt_of_lt_of_le (h.hi j k hk) hf.size
  · by_cases ea : a = i
    · have eb : b ≠ i := fun e => hab (ea.trans e.symm)
      simp only [if_pos ea] at ha
      simp only [if_neg eb] at hb
      rcases (hG k ha).1 with h1 | h1
      · exact h.apart i b k (fun e => eb e.symm) h1 hb
      · have := h.hi b k hb; omega
    · simp only [if_neg ea] at ha
      by_cases eb : b = i
      · simp only [if_pos eb] at hb
        rcases (hG k hb).1 with h1 | h1
        · exact h.apart a i k ea ha h1
        · have := h.hi a k ha; omega
      · simp only [if_neg eb] at hb
        exact h.apart a b k hab ha hb
theorem Lay.row {w0 w w' : World} {F : Nat → Nat → Prop} (h : Lay w0 w F) {i j : Nat} (hij : i ≠ j) (hf : Fr (F i) w w') {base : Nat} {e : TypeId} {size : Nat} {v : Value} {n : Nat} {xs : List Value}
    (hr : w.ownsRow base e size v n xs) (hF : ∀ k, v.ownBlock = some k → F j k) : w'.ownsRow base e size v n xs := ownsRow_fr hr hf (fun g hg hi => h.apart i j g hij hi (hF g hg))
end Go.Tk
end
