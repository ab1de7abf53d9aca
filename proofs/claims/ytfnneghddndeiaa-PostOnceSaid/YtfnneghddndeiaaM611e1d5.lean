/- Fr, StepApp, Lay. -/
import Derived.Test.YtfnneghddndeiaaRowS
import Derived.Test.YtfnneghddndeiaaMap
import Derived.Test.YtfnneghddndeiaaM04c5eb4
import Derived.Deep.RegionLaw
import Derived.Deep.RegionHeldLaw
set_option maxRecDepth 100000
set_option linter.unusedVariables false
set_option linter.unusedSimpArgs false
set_option linter.unusedSectionVars false
section
namespace Go.Tk
open Go.RowKit Go.Lib
structure Fr (S : Nat → Prop) (w w' : World) : Prop where
  os : w'.os = w.os
  tape : w'.tape = w.tape
  output : w'.output = w.output
  size : w.heap.size ≤ w'.heap.size
  block : ∀ b, b < w.heap.size → ¬ S b → w'.heap[b]? = w.heap[b]?
theorem Fr.refl (S : Nat → Prop) (w : World) : Fr S w w := ⟨rfl, rfl, rfl, Nat.le_refl _, fun _ _ _ => rfl⟩
theorem Fr.mono {S T : Nat → Prop} {w w' : World} (h : Fr S w w') (hs : ∀ b, b < w.heap.size → S b → T b) : Fr T w w' :=
  ⟨h.os, h.tape, h.output, h.size, fun b hb ht => h.block b hb (fun s => ht (hs b hb s))⟩
theorem Fr.trans {S T : Nat → Prop} {w w' w'' : World} (h : Fr S w w') (k : Fr T w' w'') (hs : ∀ b, b < w.heap.size → T b → S b) : Fr S w w'' :=
  ⟨k.os.trans h.os, k.tape.trans h.tape, k.output.trans h.output, Nat.le_trans h.size k.size, fun b hb hn => (k.block b (Nat.lt_of_lt_of_le hb h.size) (fun t => hn (hs b hb t))).trans (h.block b hb hn)⟩
theorem Fr.below {S : Nat → Prop} {n : Nat} {w w' : World} (h : Fr S w w') (hs : ∀ b, b < w.heap.size → S b → n ≤ b) (hn : n ≤ w.heap.size) : Below n w w' :=
  ⟨h.os, h.tape, h.output, h.size, fun b hb => h.block b (Nat.lt_of_lt_of_le hb hn) (fun s => by have := hs b (Nat.lt_of_lt_of_le hb hn) s; omega)⟩
theorem fr_below {w w' : World} (S : Nat → Prop) (h : Below w.heap.size w w') : Fr S w w' := ⟨h.os, h.tape, h.output, h.size, fun b hb _ => h.block b hb⟩
theorem Fr.set {S : Nat → Prop} {w w' : World} (h : Fr S w w') (b o : Nat) (u : Value) (hs : S b) : Fr S w (w'.setCell ⟨b, o, none⟩ u) :=
  ⟨h.os, h.tape, h.output, by simpa using h.size, fun k hk hn => (Below.heap_setCell w' _ _ _ (fun e => hn (by rw [e]; exact hs))).trans (h.block k hk hn)⟩
theorem Fr.alloc {S : Nat → Prop} {w w' : World} (h : Fr S w w') (o : Obj) : Fr S w (w'.alloc o) := h.trans (fr_below (fun _ => False) (below_alloc w' o)) (fun _ _ f => False.elim f)
theorem Fr.grown {S : Nat → Prop} {w w' w'' : World} {row : Option Nat} (h : Fr S w w') (hg : w'.grownBy w'' row) (hs : ∀ g, row = some g → S g) : Fr S w w'' :=
  h.trans (T := fun b => row = some b) ⟨hg.os, hg.tape, hg.output, hg.size, fun b hb hn => hg.block b hb (fun e => hn e.symm)⟩ (fun b _ e => hs b e)
theorem Fr.kept {S : Nat → Prop} {w w' w'' : World} (h : Fr S w w') (k : Below w'.heap.size w' w'') : Fr S w w'' := h.trans (fr_below (fun _ => False) k) (fun _ _ f => False.elim f)
theorem Box.fr {S : Nat → Prop} {w w' : World} {b : Nat} {vs : Array Value} (h : Box w b vs) (f : Fr S w w') (hn : ¬ S b) : Box w' b vs := by
  have hl := h.lt
  obtain ⟨E, h⟩ := h
  exact ⟨E, by rw [f.block b hl hn]; exact h⟩
theorem Row.fr {S : Nat → Prop} {w w' : World} {a : Option Addr} {vs : List Value} (h : Row w a vs) (f : Fr S w w') (hn : ∀ x, a = some x → ¬ S x.block) : Row w' a vs := by
  intro i hi
  obtain ⟨b, off, ha, hc⟩ := h i hi
  refine ⟨b, off, ha, ?_⟩
  rw [← hc]
  exact World.cell?_of_block (f.block b (lt_of_cell hc) (hn _ ha))
theorem ownsRow_fr {S : Nat → Prop} {w w' : World} {base : Nat} {e : TypeId} {size : Nat} {v : Value} {n : Nat} {xs : List Value} (h : w.ownsRow base e size v n xs) (f : Fr S w w') (hn : ∀ g, v.ownBlock = some g → ¬ S g) : w'.ownsRow base e size v n xs := by
  have hlt := h.lt
  obtain ⟨hl, h | ⟨g, cap, cur, hv, hg, hh, h2⟩⟩ := h
  · exact ⟨hl, .inl h⟩
  · refine ⟨hl, .inr ⟨g, cap, cur, hv, hg, ?_, h2⟩⟩
    have e : v.ownBlock = some g := by rw [hv]; rfl
    rw [f.block g (hlt g e).2 (hn g e)]; exact hh
section
variable {P : Program} {k : TypeId} {κ : Type} {K : KeyKind P k κ}
theorem MapAt.fr {S : Nat → Prop} {w w' : World} {b : Nat} {L : List (κ × Value)} (h : MapAt K w b L) (f : Fr S w w') (hn : ¬ S b) : MapAt K w' b L := h.same (f.block b h.lt hn)
end
end Go.Tk
end
section
namespace Go.Tk
open Go.RowKit Go.Lib
theorem step_append_row {P : Program} {ops : Array Oper} {o : Oper} {a : Act} {w : World} {K : Act → World → Prop} {Q : Exit → Act → World → Prop} {E : Prop}
    (hg : o.guard = none) (s x : Operand) (t : TypeId) (hop : o.op = Op.call { callee := Callee.builtin Builtin.append, args := #[s, x], argTypes := #[t, t] })
    (base : Nat) (e : TypeId) (z : Value) (size bytes : Nat) (ht : P.underlying t = some (.slice e)) (hinfo : (P.info? e).map (fun i => (i.zero, i.size, i.bytes)) = some (some z, size, bytes))
    (hzs : z.cells.size = size) (hsz : 0 < size)
    (v : Value) (n : Nat) (xs : List Value) (hs : a.eval s = v) (hown : w.ownsRow base e size v n xs)
    (ad : Addr) (m c : Nat) (news : List Value) (hx : a.eval x = .slice (some ad) m c) (hr : Row w (some ad) news) (hl : news.length = m * size) (h1 : ∀ u ∈ news, u.oneCell' = true)
    (h63 : n + m ≤ maxLen) (hbytes : (n + m) * bytes ≤ 140737488355328) (hbase : base ≤ w.heap.size)
    (hK : ∀ v' w', w'.ownsRow base e size v' (n + m) (xs ++ news) → w.grownBy w' v.ownBlock → (v'.ownBlock = v.ownBlock ∨ v'.ownBlock = some w.heap.size) → K (a.put o.dst v') w') :
    if Region.wanted o (yielded ops a.tmps) = true then Oper.wp P o a w K Q else E := by
  have hw : Region.wanted o (yielded ops a.tmps) = true := by simp [Region.wanted, hg]
  rw [if_pos hw]
  obtain ⟨i0, hi, hz0, hz1, hz2⟩ := info_parts hinfo
  have hnews : ∀ j u, news[j]? = some u → w.cell? (ad.add j) = some u := by
    intro j u hj
    have hjl : j < news.length := by
      rcases Nat.lt_or_ge j news.length with h | h
      · exact h
      · simp [List.getElem?_eq_none h] at hj
    obtain ⟨b, off, hab, hcell⟩ := hr j hjl
    cases hab
    have : (Addr.add ⟨b, off, none⟩ j) = ⟨b, off + j, none⟩ := by
      unfold Addr.add
      split
      · rename_i h; subst h; rfl
      · rfl
    rw [this, hcell, List.getD_eq_getElem?_getD, hj]; rfl
  obtain ⟨v', w', hrun, h2, h3, -, h5⟩ := run_append_own_at (P := P) w base t o.type e i0 z size bytes ht hi hz0 hz1 hz2 hzs hsz v n xs hown ad m c news hl hnews h1 h63 hbytes hbase
  unfold Oper.wp
  simp [execOp, hop, resolve, invoke, builtin, hs, hx, hrun, Result.andThen]
  exact hK v' w' h2 h3 h5
theorem own_slice {w : World} {base : Nat} {E : TypeId} {size n : Nat} {v : Value} {xs : List Value} (h : w.ownsRow base E size v n xs) : ∃ a c, v = .slice a n c ∧ Row w a xs ∧ (a = none → c = 0) ∧ (∀ x, a = some x → base ≤ x.block) := by
  obtain ⟨hl, h1 | ⟨g, cap, cur, hv, h2⟩⟩ := h
  · obtain ⟨rfl, rfl⟩ := h1
    have : xs = [] := List.length_eq_zero_iff.1 (by simpa using hl)
    subst this
    exact ⟨none, 0, rfl, Row.nil, fun _ => rfl, fun x h => by cases h⟩
  · subst hv
    obtain ⟨a, c, hv, hr, _⟩ := row_of_owns (w := w) (base := base) (e := E) (size := size) (v := .slice (some ⟨g, 0, none⟩) n cap) ⟨hl, .inr ⟨g, cap, cur, rfl, h2⟩⟩
    cases hv
    exact ⟨_, _, rfl, hr, (fun h => by cases h), fun x h => by cases h; exact h2.1⟩
end Go.Tk
end
section
namespace Go.Tk
open Go.RowKit Go.Lib
structure Lay (w0 w : World) (F : Nat → Nat → Prop) : Prop where
  lo : ∀ i k, F i k → w0.heap.size ≤ k
  hi : ∀ i k, F i k → k < w.heap.size
  apart : ∀ i j k, i ≠ j → F i k → ¬ F j k
  below : Below w0.heap.size w0 w
theorem Lay.kept {w0 w w' : World} {F : Nat → Nat → Prop} (h : Lay w0 w F) (hb : Below w.heap.size w w') : Lay w0 w' F :=
  ⟨h.lo, fun i k hk => Nat.lt_of_lt_of_le (h.hi i k hk) hb.size, h.apart, h.below.trans (hb.mono h.below.size)⟩
theorem Lay.congr {w0 w : World} {F G : Nat → Nat → Prop} (h : Lay w0 w F) (e : ∀ i k, G i k → F i k) : Lay w0 w G :=
  ⟨fun i k hk => h.lo i k (e i k hk), fun i k hk => h.hi i k (e i k hk), fun i j k hij hi hj => h.apart i j k hij (e i k hi) (e j k hj), h.below⟩
theorem Lay.step {w0 w w' : World} {F : Nat → Nat → Prop} (h : Lay w0 w F) (i : Nat) (G : Nat → Prop) (hf : Fr (F i) w w') (hG : ∀ k, G k → (F i k ∨ w.heap.size ≤ k) ∧ k < w'.heap.size) :
    Lay w0 w' (fun j => if j = i then G else F j) := by
  have lo : ∀ k, G k → w0.heap.size ≤ k := fun k hk => by
    rcases (hG k hk).1 with h1 | h1
    · exact h.lo i k h1
    · exact Nat.le_trans h.below.size h1
  refine ⟨fun j k hk => ?_, fun j k hk => ?_, fun a b k hab ha hb => ?_, h.below.trans (hf.below (fun b _ hb => h.lo i b hb) h.below.size)⟩
  · by_cases e : j = i
    · simp only [if_pos e] at hk; exact lo k hk
    · simp only [if_neg e] at hk; exact h.lo j k hk
  · by_cases e : j = i
    · simp only [if_pos e] at hk; exact (hG k hk).2
    · simp only [if_neg e] at hk; exact Nat.lt_of_lt_of_le (h.hi j k hk) hf.size
  · by_cases ea : a = i
    · have eb : b ≠ i := fun e => hab (ea.trans e.symm)
      simp only [if_pos ea] at ha
      simp only [if_neg eb] at hb
      rcases (hG k ha).1 with h1 | h1
      · exact h.apart i b k (fun e => eb e.symm) h1 hb
      · have := h.hi b k hb; omega
    · simp only [if_neg ea] at ha
      by_cases eb : b = i
      · simp only [if_pos eb] at hb
        rcases (hG k hb).1 with h1 | h1
        · exact h.apart a i k ea ha h1
        · have := h.hi a k ha; omega
      · simp only [if_neg eb] at hb
        exact h.apart a b k hab ha hb
theorem Lay.row {w0 w w' : World} {F : Nat → Nat → Prop} (h : Lay w0 w F) {i j : Nat} (hij : i ≠ j) (hf : Fr (F i) w w') {base : Nat} {e : TypeId} {size : Nat} {v : Value} {n : Nat} {xs : List Value}
    (hr : w.ownsRow base e size v n xs) (hF : ∀ k, v.ownBlock = some k → F j k) : w'.ownsRow base e size v n xs := ownsRow_fr hr hf (fun g hg hi => h.apart i j g hij hi (hF g hg))
end Go.Tk
end
