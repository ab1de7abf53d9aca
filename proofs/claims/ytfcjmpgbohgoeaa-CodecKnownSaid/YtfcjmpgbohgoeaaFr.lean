/- What a call leaves alone: all blocks but those of a set. -/
import Derived.Test.YtfcjmpgbohgoeaaRowS
import Derived.Test.YtfcjmpgbohgoeaaMap
namespace Go.Tk
set_option linter.unusedVariables false
set_option linter.unusedSimpArgs false
open Go.RowKit Go.Lib

/-- all blocks that were there lie as they lay, but those of S -/
structure Fr (S : Nat → Prop) (w w' : World) : Prop where
  os : w'.os = w.os
  tape : w'.tape = w.tape
  output : w'.output = w.output
  size : w.heap.size ≤ w'.heap.size
  block : ∀ b, b < w.heap.size → ¬ S b → w'.heap[b]? = w.heap[b]?
theorem Fr.refl (S : Nat → Prop) (w : World) : Fr S w w := ⟨rfl, rfl, rfl, Nat.le_refl _, fun _ _ _ => rfl⟩
theorem Fr.mono {S T : Nat → Prop} {w w' : World} (h : Fr S w w') (hs : ∀ b, b < w.heap.size → S b → T b) : Fr T w w' :=
  ⟨h.os, h.tape, h.output, h.size, fun b hb ht => h.block b hb (fun s => ht (hs b hb s))⟩
theorem Fr.trans {S T : Nat → Prop} {w w' w'' : World} (h : Fr S w w') (k : Fr T w' w'') (hs : ∀ b, b < w.heap.size → T b → S b) : Fr S w w'' :=
  ⟨k.os.trans h.os, k.tape.trans h.tape, k.output.trans h.output, Nat.le_trans h.size k.size, fun b hb hn => (k.block b (Nat.lt_of_lt_of_le hb h.size) (fun t => hn (hs b hb t))).trans (h.block b hb hn)⟩
theorem Fr.below {S : Nat → Prop} {n : Nat} {w w' : World} (h : Fr S w w') (hs : ∀ b, b < w.heap.size → S b → n ≤ b) (hn : n ≤ w.heap.size) : Below n w w' :=
  ⟨h.os, h.tape, h.output, h.size, fun b hb => h.block b (Nat.lt_of_lt_of_le hb hn) (fun s => by have := hs b (Nat.lt_of_lt_of_le hb hn) s; omega)⟩
theorem fr_below {w w' : World} (S : Nat → Prop) (h : Below w.heap.size w w') : Fr S w w' := ⟨h.os, h.tape, h.output, h.size, fun b hb _ => h.block b hb⟩
theorem Fr.set {S : Nat → Prop} {w w' : World} (h : Fr S w w') (b o : Nat) (u : Value) (hs : S b) : Fr S w (w'.setCell ⟨b, o, none⟩ u) :=
  ⟨h.os, h.tape, h.output, by simpa using h.size, fun k hk hn => (Below.heap_setCell w' _ _ _ (fun e => hn (by rw [e]; exact hs))).trans (h.block k hk hn)⟩
theorem Fr.alloc {S : Nat → Prop} {w w' : World} (h : Fr S w w') (o : Obj) : Fr S w (w'.alloc o) := h.trans (fr_below (fun _ => False) (below_alloc w' o)) (fun _ _ f => False.elim f)
theorem Fr.grown {S : Nat → Prop} {w w' w'' : World} {row : Option Nat} (h : Fr S w w') (hg : w'.grownBy w'' row) (hs : ∀ g, row = some g → S g) : Fr S w w'' :=
  h.trans (T := fun b => row = some b) ⟨hg.os, hg.tape, hg.output, hg.size, fun b hb hn => hg.block b hb (fun e => hn e.symm)⟩ (fun b _ e => hs b e)
theorem Fr.kept {S : Nat → Prop} {w w' w'' : World} (h : Fr S w w') (k : Below w'.heap.size w' w'') : Fr S w w'' := h.trans (fr_below (fun _ => False) k) (fun _ _ f => False.elim f)

theorem Box.fr {S : Nat → Prop} {w w' : World} {b : Nat} {vs : Array Value} (h : Box w b vs) (f : Fr S w w') (hn : ¬ S b) : Box w' b vs := by
  have hl := h.lt
  obtain ⟨E, h⟩ := h
  exact ⟨E, by rw [f.block b hl hn]; exact h⟩
theorem Row.fr {S : Nat → Prop} {w w' : World} {a : Option Addr} {vs : List Value} (h : Row w a vs) (f : Fr S w w') (hn : ∀ x, a = some x → ¬ S x.block) : Row w' a vs := by
  intro i hi
  obtain ⟨b, off, ha, hc⟩ := h i hi
  refine ⟨b, off, ha, ?_⟩
  rw [← hc]
  exact World.cell?_of_block (f.block b (lt_of_cell hc) (hn _ ha))
theorem ownsRow_fr {S : Nat → Prop} {w w' : World} {base : Nat} {e : TypeId} {size : Nat} {v : Value} {n : Nat} {xs : List Value} (h : w.ownsRow base e size v n xs) (f : Fr S w w') (hn : ∀ g, v.ownBlock = some g → ¬ S g) : w'.ownsRow base e size v n xs := by
  have hlt := h.lt
  obtain ⟨hl, h | ⟨g, cap, cur, hv, hg, hh, h2⟩⟩ := h
  · exact ⟨hl, .inl h⟩
  · refine ⟨hl, .inr ⟨g, cap, cur, hv, hg, ?_, h2⟩⟩
    have e : v.ownBlock = some g := by rw [hv]; rfl
    rw [f.block g (hlt g e).2 (hn g e)]; exact hh
section
variable {P : Program} {k : TypeId} {κ : Type} {K : KeyKind P k κ}
theorem MapAt.fr {S : Nat → Prop} {w w' : World} {b : Nat} {L : List (κ × Value)} (h : MapAt K w b L) (f : Fr S w w') (hn : ¬ S b) : MapAt K w' b L := h.same (f.block b h.lt hn)
end
end Go.Tk
