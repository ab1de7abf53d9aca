/- RowS, Fr, StepApp, Lay. -/
import Derived.Test.YtdnaegleifhmgaaGreatM12d9068
import Derived.Deep.MidRow
import Derived.Test.YtdnaegleifhmgaaGreatM642530e
import Derived.Deep.RegionLaw
import Derived.Deep.RegionHeldLaw
set_option maxRecDepth 100000
set_option linter.unusedVariables false
set_option linter.unusedSimpArgs false
set_option linter.unusedSectionVars false
section
namespace Go.Tk
open Go.RowKit Go.Lib
def cellsL {α : Type} (enc : α → List Value) (l : List α) : List Value := (l.map enc).flatten
theorem cellsL_len {α : Type} {enc : α → List Value} {size : Nat} (hk : ∀ x, (enc x).length = size) (l : List α) : (cellsL enc l).length = l.length * size := by
  unfold cellsL
  rw [flatten_len _ (fun r hr => by obtain ⟨x, _, rfl⟩ := List.mem_map.1 hr; exact hk x), List.length_map]
theorem cellsL_get {α : Type} {enc : α → List Value} {size : Nat} (hk : ∀ x, (enc x).length = size) (l : List α) (k j : Nat) (hkl : k < l.length) (hj : j < size) : (cellsL enc l).getD (k * size + j) undef = (enc l[k]).getD j undef := by
  have hlt : k * size + j < ((l.map enc).flatten).length := by
    have := cellsL_len hk l
    unfold cellsL at this
    rw [this]
    have h2 : (k + 1) * size ≤ l.length * size := Nat.mul_le_mul_right size hkl
    rw [Nat.add_mul, Nat.one_mul] at h2; omega
  unfold cellsL
  rw [flatten_get (size := size) (by omega) _ (fun r hr => by obtain ⟨x, _, rfl⟩ := List.mem_map.1 hr; exact hk x) _ hlt]
  have e1 : (k * size + j) / size = k := by
    rw [Nat.mul_comm, Nat.mul_add_div (by omega), Nat.div_eq_of_lt hj, Nat.add_zero]
  have e2 : (k * size + j) % size = j := by
    rw [Nat.mul_comm, Nat.mul_add_mod, Nat.mod_eq_of_lt hj]
  rw [e1, e2]
  simp [List.getD_eq_getElem?_getD, hkl]
theorem Row.thing {α : Type} {enc : α → List Value} {size : Nat} (hk : ∀ x, (enc x).length = size) {w : World} {a : Option Addr} {l : List α} (h : Row w a (cellsL enc l)) {k : Nat} (hkl : k < l.length) (hs : 0 < size) :
    ∃ b off, a = some ⟨b, off, none⟩ ∧ ∀ j, j < size → w.cell? ⟨b, off + (k * size + j), none⟩ = some ((enc l[k]).getD j undef) := by
  have hlen := cellsL_len hk l
  have h2 : (k + 1) * size ≤ l.length * size := Nat.mul_le_mul_right size hkl
  rw [Nat.add_mul, Nat.one_mul] at h2
  obtain ⟨b, off, hab, _⟩ := h (k * size) (by omega)
  refine ⟨b, off, hab, fun j hj => ?_⟩
  obtain ⟨b', off', hab', hc⟩ := h (k * size + j) (by omega)
  rw [hab] at hab'
  cases hab'
  rw [hc, cellsL_get hk l k j hkl hj]
theorem Row.append {w : World} {a : Option Addr} {xs ys : List Value} (h : Row w a (xs ++ ys)) : Row w a xs := by
  intro i hi
  obtain ⟨b, off, hab, hc⟩ := h i (by simp; omega)
  refine ⟨b, off, hab, ?_⟩
  rw [hc]
  simp [List.getD_eq_getElem?_getD, List.getElem?_append_left hi]
theorem listOf {α : Type} {enc : α → List Value} {Q : List Value → Prop} (hQ : ∀ r, Q r → ∃ x, enc x = r) (rows : List (List Value)) (h : ∀ r ∈ rows, Q r) : ∃ l : List α, l.map enc = rows := by
  induction rows with
  | nil => exact ⟨[], rfl⟩
  | cons r rs ih =>
    obtain ⟨x, hx⟩ := hQ r (h r (by simp))
    obtain ⟨l, hl⟩ := ih (fun r hr => h r (by simp [hr]))
    exact ⟨x :: l, by rw [List.map_cons, hx, hl]⟩
theorem drewN_below (w : World) (n : Nat) : Below w.heap.size w (w.drewN n) := ⟨rfl, rfl, rfl, Nat.le_refl _, fun _ _ => rfl⟩
theorem ba_beq (a b : ByteArray) : (a == b) = decide (a = b) := by
  cases a with | mk x => cases b with | mk y =>
  show ByteArray.beq ⟨x⟩ ⟨y⟩ = _
  unfold ByteArray.beq
  rw [Bool.eq_iff_iff]; simp
theorem cell_new {w : World} {vs : Array Value} {E : TypeId} {fz : Nat × Nat} {b i : Nat} (hb : b = w.heap.size) : (w.alloc (.cells vs E fz)).cell? ⟨b, i, none⟩ = vs[i]? := by
  subst hb
  unfold World.cell? World.alloc
  simp
theorem below_alloc (w : World) (o : Obj) : Below w.heap.size w (w.alloc o) := (Below.refl _ _).alloc (Nat.le_refl _) _
def Box (w : World) (b : Nat) (vs : Array Value) : Prop := ∃ E, w.heap[b]? = some (.cells vs E (0, 0))
theorem Box.new {w : World} {vs : Array Value} {E : TypeId} {b : Nat} (hb : b = w.heap.size) : Box (w.alloc (.cells vs E)) b vs := by
  subst hb
  refine ⟨E, ?_⟩
  unfold World.alloc
  simp
theorem Box.lt {w : World} {b : Nat} {vs : Array Value} (h : Box w b vs) : b < w.heap.size := by
  obtain ⟨E, h⟩ := h
  rcases Nat.lt_or_ge b w.heap.size with l | l
  · exact l
  · rw [Array.getElem?_eq_none l] at h; cases h
theorem Box.cell {w : World} {b : Nat} {vs : Array Value} (h : Box w b vs) (i : Nat) {v : Value} (hi : vs[i]? = some v) : w.cell? ⟨b, i, none⟩ = some v := by
  obtain ⟨E, h⟩ := h
  unfold World.cell?
  simp only [h]
  simpa using hi
theorem Box.free {w : World} {b : Nat} {vs : Array Value} (h : Box w b vs) (i : Nat) : w.frozen? ⟨b, i, none⟩ = false := by
  obtain ⟨E, h⟩ := h
  unfold World.frozen?
  simp only [h]
  simp
theorem Box.kept {w w' : World} {b : Nat} {vs : Array Value} (h : Box w b vs) (hb : Below w.heap.size w w') : Box w' b vs := by
  have hl := h.lt
  obtain ⟨E, h⟩ := h
  exact ⟨E, by rw [hb.block b hl]; exact h⟩
theorem Box.grown {w w' : World} {b : Nat} {vs : Array Value} {row : Option Nat} (h : Box w b vs) (hg : w.grownBy w' row) (hr : row ≠ some b) : Box w' b vs := by
  have hl := h.lt
  obtain ⟨E, h⟩ := h
  exact ⟨E, by rw [hg.block b hl (by intro e; exact hr e.symm)]; exact h⟩
theorem Box.set {w : World} {b : Nat} {vs : Array Value} (h : Box w b vs) (i : Nat) (u : Value) : Box (w.setCell ⟨b, i, none⟩ u) b (vs.setIfInBounds i u) := by
  obtain ⟨E, h⟩ := h
  refine ⟨E, ?_⟩
  unfold World.setCell
  simp only [Array.getElem?_modify, if_true, h, Option.map_some]
  rfl
theorem Box.other {w : World} {b b' i : Nat} {u : Value} {vs : Array Value} (h : Box w b vs) (hne : b' ≠ b) : Box (w.setCell ⟨b', i, none⟩ u) b vs := by
  obtain ⟨E, h⟩ := h
  exact ⟨E, by rw [Below.heap_setCell w _ _ _ (Ne.symm hne)]; exact h⟩
theorem Box.there {w : World} {b : Nat} {vs : Array Value} (h : Box w b vs) {n : Nat} (hn : n ≤ vs.size) : w.there b 0 n := fun j hj => by
  refine ⟨?_, h.free _⟩
  rw [Nat.zero_add, h.cell j (v := vs[j]) (by simp)]; rfl
theorem Row.grown {w w' : World} {row : Option Nat} (hg : w.grownBy w' row) {a : Option Addr} {vs : List Value} (h : Row w a vs) (hne : ∀ x, a = some x → row ≠ some x.block) : Row w' a vs := by
  intro i hi
  obtain ⟨b, off, ha, hc⟩ := h i hi
  refine ⟨b, off, ha, hg.cell hc ?_⟩
  intro e; exact hne _ ha e.symm
end Go.Tk
end
section
namespace Go.Tk
open Go.RowKit Go.Lib
structure Fr (S : Nat → Prop) (w w' : World) : Prop where
  os : w'.os = w.os
  tape : w'.tape = w.tape
  output : w'.output = w.output
  size : w.heap.size ≤ w'.heap.size
  block : ∀ b, b < w.heap.size → ¬ S b → w'.heap[b]? = w.heap[b]?
theorem Fr.refl (S : Nat → Prop) (w : World) : Fr S w w := ⟨rfl, rfl, rfl, Nat.le_refl _, fun _ _ _ => rfl⟩
theorem Fr.mono {S T : Nat → Prop} {w w' : World} (h : Fr S w w') (hs : ∀ b, b < w.heap.size → S b → T b) : Fr T w w' :=
  ⟨h.os, h.tape, h.output, h.size, fun b hb ht => h.block b hb (fun s => ht (hs b hb s))⟩
theorem Fr.trans {S T : Nat → Prop} {w w' w'' : World} (h : Fr S w w') (k : Fr T w' w'') (hs : ∀ b, b < w.heap.size → T b → S b) : Fr S w w'' :=
  ⟨k.os.trans h.os, k.tape.trans h.tape, k.output.trans h.output, Nat.le_trans h.size k.size, fun b hb hn => (k.block b (Nat.lt_of_lt_of_le hb h.size) (fun t => hn (hs b hb t))).trans (h.block b hb hn)⟩
theorem Fr.below {S : Nat → Prop} {n : Nat} {w w' : World} (h : Fr S w w') (hs : ∀ b, b < w.heap.size → S b → n ≤ b) (hn : n ≤ w.heap.size) : Below n w w' :=
  ⟨h.os, h.tape, h.output, h.size, fun b hb => h.block b (Nat.lt_of_lt_of_le hb hn) (fun s => by have := hs b (Nat.lt_of_lt_of_le hb hn) s; omega)⟩
theorem fr_below {w w' : World} (S : Nat → Prop) (h : Below w.heap.size w w') : Fr S w w' := ⟨h.os, h.tape, h.output, h.size, fun b hb _ => h.block b hb⟩
theorem Fr.set {S : Nat → Prop} {w w' : World} (h : Fr S w w') (b o : Nat) (u : Value) (hs : S b) : Fr S w (w'.setCell ⟨b, o, none⟩ u) :=
  ⟨h.os, h.tape, h.output, by simpa using h.size, fun k hk hn => (Below.heap_setCell w' _ _ _ (fun e => hn (by rw [e]; exact hs))).trans (h.block k hk hn)⟩
theorem Fr.alloc {S : Nat → Prop} {w w' : World} (h : Fr S w w') (o : Obj) : Fr S w (w'.alloc o) := h.trans (fr_below (fun _ => False) (below_alloc w' o)) (fun _ _ f => False.elim f)
theorem Fr.grown {S : Nat → Prop} {w w' w'' : World} {row : Option Nat} (h : Fr S w w') (hg : w'.grownBy w'' row) (hs : ∀ g, row = some g → S g) : Fr S w w'' :=
  h.trans (T := fun b => row = some b) ⟨hg.os, hg.tape, hg.output, hg.size, fun b hb hn => hg.block b hb (fun e => hn e.symm)⟩ (fun b _ e => hs b e)
theorem Fr.kept {S : Nat → Prop} {w w' w'' : World} (h : Fr S w w') (k : Below w'.heap.size w' w'') : Fr S w w'' := h.trans (fr_below (fun _ => False) k) (fun _ _ f => False.elim f)
theorem Box.fr {S : Nat → Prop} {w w' : World} {b : Nat} {vs : Array Value} (h : Box w b vs) (f : Fr S w w') (hn : ¬ S b) : Box w' b vs := by
  have hl := h.lt
  obtain ⟨E, h⟩ := h
  exact ⟨E, by rw [f.block b hl hn]; exact h⟩
theorem Row.fr {S : Nat → Prop} {w w' : World} {a : Option Addr} {vs : List Value} (h : Row w a vs) (f : Fr S w w') (hn : ∀ x, a = some x → ¬ S x.block) : Row w' a vs := by
  intro i hi
  obtain ⟨b, off, ha, hc⟩ := h i hi
  refine ⟨b, off, ha, ?_⟩
  rw [← hc]
  exact World.cell?_of_block (f.block b (lt_of_cell hc) (hn _ ha))
theorem ownsRow_fr {S : Nat → Prop} {w w' : World} {base : Nat} {e : TypeId} {size : Nat} {v : Value} {n : Nat} {xs : List Value} (h : w.ownsRow base e size v n xs) (f : Fr S w w') (hn : ∀ g, v.ownBlock = some g → ¬ S g) : w'.ownsRow base e size v n xs := by
  have hlt := h.lt
  obtain ⟨hl, h | ⟨g, cap, cur, hv, hg, hh, h2⟩⟩ := h
  · exact ⟨hl, .inl h⟩
  · refine ⟨hl, .inr ⟨g, cap, cur, hv, hg, ?_, h2⟩⟩
    have e : v.ownBlock = some g := by rw [hv]; rfl
    rw [f.block g (hlt g e).2 (hn g e)]; exact hh
section
variable {P : Program} {k : TypeId} {κ : Type} {K : KeyKind P k κ}
theorem MapAt.fr {S : Nat → Prop} {w w' : World} {b : Nat} {L : List (κ × Value)} (h : MapAt K w b L) (f : Fr S w w') (hn : ¬ S b) : MapAt K w' b L := h.same (f.block b h.lt hn)
end
end Go.Tk
end
section
namespace Go.Tk
open Go.RowKit Go.Lib
end Go.Tk
end
section
namespace Go.Tk
open Go.RowKit Go.Lib
structure Lay (w0 w : World) (F : Nat → Nat → Prop) : Prop where
  lo : ∀ i k, F i k → w0.heap.size ≤ k
  hi : ∀ i k, F i k → k < w.heap.size
  apart : ∀ i j k, i ≠ j → F i k → ¬ F j k
  below : Below w0.heap.size w0 w
theorem Lay.kept {w0 w w' : World} {F : Nat → Nat → Prop} (h : Lay w0 w F) (hb : Below w.heap.size w w') : Lay w0 w' F :=
  ⟨h.lo, fun i k hk => Nat.lt_of_lt_of_le (h.hi i k hk) hb.size, h.apart, h.below.trans (hb.mono h.below.size)⟩
theorem Lay.congr {w0 w : World} {F G : Nat → Nat → Prop} (h : Lay w0 w F) (e : ∀ i k, G i k → F i k) : Lay w0 w G :=
  ⟨fun i k hk => h.lo i k (e i k hk), fun i k hk => h.hi i k (e i k hk), fun i j k hij hi hj => h.apart i j k hij (e i k hi) (e j k hj), h.below⟩
theorem Lay.step {w0 w w' : World} {F : Nat → Nat → Prop} (h : Lay w0 w F) (i : Nat) (G : Nat → Prop) (hf : Fr (F i) w w') (hG : ∀ k, G k → (F i k ∨ w.heap.size ≤ k) ∧ k < w'.heap.size) :
    Lay w0 w' (fun j => if j = i then G else F j) := by
  have lo : ∀ k, G k → w0.heap.size ≤ k := fun k hk => by
    rcases (hG k hk).1 with h1 | h1
    · exact h.lo i k h1
    · exact Nat.le_trans h.below.size h1
  refine ⟨fun j k hk => ?_, fun j k hk => ?_, fun a b k hab ha hb => ?_, h.below.trans (hf.below (fun b _ hb => h.lo i b hb) h.below.size)⟩
  · by_cases e : j = i
    · simp only [if_pos e] at hk; exact lo k hk
    · simp only [if_neg e] at hk; exact h.lo j k hk
  · by_cases e : j = i
    · simp only [if_pos e] at hk; exact (hG k hk).2
    · simp only [if_neg e] at hk; exact Nat.lt_of_lt_of_le (h.hi j k hk) hf.size
  · by_cases ea : a = i
    · have eb : b ≠ i := fun e => hab (ea.trans e.symm)
      simp only [if_pos ea] at ha
      simp only [if_neg eb] at hb
      rcases (hG k ha).1 with h1 | h1
      · exact h.apart i b k (fun e => eb e.symm) h1 hb
      · have := h.hi b k hb; omega
    · simp only [if_neg ea] at ha
      by_cases eb : b = i
      · simp only [if_pos eb] at hb
        rcases (hG k hb).1 with h1 | h1
        · exact h.apart a i k ea ha h1
        · have := h.hi a k ha; omega
      · simp only [if_neg eb] at hb
        exact h.apart a b k hab ha hb
theorem Lay.row {w0 w w' : World} {F : Nat → Nat → Prop} (h : Lay w0 w F) {i j : Nat} (hij : i ≠ j) (hf : Fr (F i) w w') {base : Nat} {e : TypeId} {size : Nat} {v : Value} {n : Nat} {xs : List Value}
    (hr : w.ownsRow base e size v n xs) (hF : ∀ k, v.ownBlock = some k → F j k) : w'.ownsRow base e size v n xs := ownsRow_fr hr hf (fun g hg hi => h.apart i j g hij hi (hF g hg))
end Go.Tk
end
