/- Maps by value: what a map's block holds, as a list of keys and values, and what the operations do to it. -/
import Derived.Test.YtfcjmpgbohgoeaaBase
import Derived.Maps.Own
import Derived.Maps.OwnOps
import Derived.Maps.OwnSet
import Derived.Maps.RangeRun
import Derived.Maps.RangeWalk
namespace Go.Tk
set_option linter.unusedVariables false
set_option linter.unusedSimpArgs false
open Go.RowKit Go.Lib Go.Maps
open Go.ChangeMaps (setBlock heap_setBlock_same)

/-- what the laws need of a key's type: its values by a Lean type -/
structure KeyKind (P : Program) (k : TypeId) (κ : Type) where
  kv : κ → Value
  ok : κ → Prop
  inj : ∀ {x y : κ}, kv x = kv y → x = y
  keyed : Keyed P k
  reads : ∀ {x : κ}, ok x → ∃ l, keyOf P k (kv x) = some l

variable {P : Program} {k : TypeId} {κ : Type} [DecidableEq κ]

/-- block b is a map that holds just L -/
def MapAt (K : KeyKind P k κ) (w : World) (b : Nat) (L : List (κ × Value)) : Prop :=
  ∃ es clock, w.heap[b]? = some (.map es clock) ∧ (es.toList.map fun e => (e.key, e.val)).Perm (L.map fun p => (K.kv p.1, p.2)) ∧
    (L.map (·.1)).Nodup ∧ (∀ p ∈ L, K.ok p.1) ∧ (es.toList.map (·.born)).Nodup ∧ ∀ e ∈ es.toList, e.born < clock

omit [DecidableEq κ] in
theorem MapAt.lt {K : KeyKind P k κ} {w : World} {b : Nat} {L : List (κ × Value)} (h : MapAt K w b L) : b < w.heap.size := by
  obtain ⟨es, clock, hb, _⟩ := h
  exact (Array.getElem?_eq_some_iff.1 hb).1

omit [DecidableEq κ] in
theorem MapAt.same {K : KeyKind P k κ} {w w' : World} {b : Nat} {L : List (κ × Value)} (h : MapAt K w b L) (hb : w'.heap[b]? = w.heap[b]?) : MapAt K w' b L := by
  obtain ⟨es, clock, h1, r⟩ := h
  exact ⟨es, clock, hb.trans h1, r⟩

omit [DecidableEq κ] in
theorem MapAt.kept {K : KeyKind P k κ} {w w' : World} {b : Nat} {L : List (κ × Value)} (h : MapAt K w b L) (hb : Below w.heap.size w w') : MapAt K w' b L :=
  h.same (hb.block b h.lt)

omit [DecidableEq κ] in
theorem set_perm' {α : Type} : ∀ {l : List α} {j : Nat} {a b : α}, l[j]? = some a → ∃ r, l.Perm (a :: r) ∧ (l.set j b).Perm (b :: r)
  | [], j, _, _, h => by simp at h
  | x :: l, 0, a, b, h => by
    simp only [List.getElem?_cons_zero, Option.some.injEq] at h
    subst h; exact ⟨l, List.Perm.refl _, List.Perm.refl _⟩
  | x :: l, j + 1, a, b, h => by
    obtain ⟨r, h1, h2⟩ := set_perm' (l := l) (j := j) (a := a) (b := b) (by simpa using h)
    exact ⟨x :: r, (h1.cons x).trans (List.Perm.swap _ _ _), (h2.cons x).trans (List.Perm.swap _ _ _)⟩

section
variable {w : World} {ops : Array Oper} {rest : List Oper} {o : Oper} {a : Act} {Q : Exit → Act → World → Prop} {K : KeyKind P k κ} {b : Nat} {L : List (κ × Value)} {e : TypeId}

end

/-! ### A map literal: its entries are laid in whatever order -/
/-- the rule of a region that draws its order, by an invariant of what has come up -/
theorem wpAny_inv {ops : Array Oper} {Q : Exit → Act → World → Prop} {md : Region.Mode} (I : Array Bool → Act → World → Prop)
    (hstep : ∀ (listed : Array Bool) (a : Act) (w : World), listed.size = ops.size → I listed a w → ∀ i ∈ Region.ready md ops listed, wpOp P ops Q i (I (listed.setIfInBounds i true)) a w)
    (hend : ∀ (listed : Array Bool) (a : Act) (w : World), listed.size = ops.size → I listed a w → Region.ready md ops listed = [] → Q .normal a w) :
    ∀ (fuel : Nat) (listed : Array Bool) (a : Act) (w : World), listed.size = ops.size → (listed.toList.filter (fun b => !b)).length ≤ fuel → I listed a w → wpAny P md ops Q fuel listed a w
  | 0, listed, a, w, hs, hf, hI => by
    have hall : ∀ i, i < listed.size → listed[i]? = some true := by
      intro i hi
      have h0 : listed.toList.filter (fun b => !b) = [] := List.length_eq_zero_iff.1 (Nat.le_zero.1 hf)
      have h1 := List.filter_eq_nil_iff.1 h0 listed[i] (by simp)
      simp at h1
      rw [Array.getElem?_eq_getElem hi, h1]
    have hr : Region.ready md ops listed = [] := by
      unfold Region.ready
      rw [List.filter_eq_nil_iff]
      intro i hi
      have := hall i (by rw [hs]; simpa using hi)
      simp [this]
    exact ⟨hr, hend listed a w hs hI hr⟩
  | fuel + 1, listed, a, w, hs, hf, hI => by
    refine ⟨fun hr => hend listed a w hs hI hr, fun i hi => ?_⟩
    refine wpOp_mono (fun a' w' h => ?_) (hstep listed a w hs hI i hi)
    refine wpAny_inv I hstep hend fuel _ a' w' (by simpa using hs) ?_ h
    have hm := hi
    unfold Region.ready at hm
    obtain ⟨h1, h2⟩ := List.mem_filter.1 hm
    have hlt : i < listed.size := by rw [hs]; simpa using h1
    have hfalse : listed[i] = false := by
      simp only [Bool.and_eq_true, Bool.not_eq_true'] at h2
      have := h2.1
      simpa [hlt] using this
    rw [Array.toList_setIfInBounds]
    obtain ⟨r, p1, p2⟩ := set_perm' (l := listed.toList) (j := i) (a := false) (b := true) (by simp [hlt, hfalse])
    have q1 := (p1.filter (fun b => !b)).length_eq
    have q2 := (p2.filter (fun b => !b)).length_eq
    simp at q1 q2
    simp only [q2]
    omega

/-! ### Keys of structs of integers -/
omit k in
/-! ### Ranging -/
/-- block r is an iterator over the map in block b, which holds L; the entries 'left' are still to come -/
def Ranging (K : KeyKind P k κ) (w : World) (r b : Nat) (L left : List (κ × Value)) : Prop :=
  ∃ es clock since seen, r ≠ b ∧ w.heap[r]? = some (.mapIter (some b) since seen clock) ∧ w.heap[b]? = some (.map es clock) ∧
    (es.toList.map fun e => (e.key, e.val)).Perm (L.map fun p => (K.kv p.1, p.2)) ∧ (L.map (·.1)).Nodup ∧ (∀ p ∈ L, K.ok p.1) ∧ (es.toList.map (·.born)).Nodup ∧
    (∀ e ∈ es.toList, e.born < clock) ∧ (∀ e ∈ es.toList, e.born < since) ∧ since ≤ clock ∧
    ((leftOf es seen).toList.map fun e => (e.key, e.val)).Perm (left.map fun p => (K.kv p.1, p.2)) ∧ (∀ p ∈ left, p ∈ L)

omit [DecidableEq κ] in
theorem Ranging.map {K : KeyKind P k κ} {w : World} {r b : Nat} {L left : List (κ × Value)} (h : Ranging K w r b L left) : MapAt K w b L := by
  obtain ⟨es, clock, since, seen, _, _, hb, h1, h2, h3, h4, h5, _⟩ := h
  exact ⟨es, clock, hb, h1, h2, h3, h4, h5⟩

omit [DecidableEq κ] in
theorem Ranging.same {K : KeyKind P k κ} {w w' : World} {r b : Nat} {L left : List (κ × Value)} (h : Ranging K w r b L left) (hr : w'.heap[r]? = w.heap[r]?) (hb : w'.heap[b]? = w.heap[b]?) : Ranging K w' r b L left := by
  obtain ⟨es, clock, since, seen, hne, h1, h2, rest⟩ := h
  exact ⟨es, clock, since, seen, hne, hr.trans h1, hb.trans h2, rest⟩

omit [DecidableEq κ] in
theorem Ranging.lt {K : KeyKind P k κ} {w : World} {r b : Nat} {L left : List (κ × Value)} (h : Ranging K w r b L left) : r < w.heap.size ∧ b < w.heap.size := by
  obtain ⟨es, clock, since, seen, hne, h1, h2, rest⟩ := h
  exact ⟨(Array.getElem?_eq_some_iff.1 h1).1, (Array.getElem?_eq_some_iff.1 h2).1⟩

omit [DecidableEq κ] in
theorem Ranging.kept {K : KeyKind P k κ} {w w' : World} {r b : Nat} {L left : List (κ × Value)} (h : Ranging K w r b L left) (hb : Below w.heap.size w w') : Ranging K w' r b L left :=
  h.same (hb.block r h.lt.1) (hb.block b h.lt.2)

omit [DecidableEq κ] in
theorem MapAt.range {K : KeyKind P k κ} {w : World} {b : Nat} {L : List (κ × Value)} (h : MapAt K w b L) {t e : TypeId} (ht : P.underlying t = some (.map k e)) :
    ∃ w', (Instr.range t (.map (some b))).run P w = .ok (.pointer (some ⟨w.heap.size, 0, none⟩)) w' ∧ Ranging K w' w.heap.size b L L ∧ Below w.heap.size w w' := by
  have hlt := h.lt
  obtain ⟨es, clock, hb, h1, h2, h3, h4, h5⟩ := h
  refine ⟨_, run_range_map w t k e b es clock ht hb, ⟨es, clock, clock, #[], by omega, (MapKept.heap_alloc w _).1, ((MapKept.heap_alloc w _).2 b hlt).trans hb, h1, h2, h3, h4, h5, h5, Nat.le_refl _, ?_, fun p hp => hp⟩, (Below.refl _ _).alloc (Nat.le_refl _) _⟩
  have : leftOf es #[] = es := by unfold leftOf; simp
  rw [this]; exact h1

omit [DecidableEq κ] in
theorem leftOf_push {es : Array MapEntry} {seen : Array Nat} {e : MapEntry} (hn : (es.toList.map (·.born)).Nodup) (he : e ∈ (leftOf es seen).toList) :
    (leftOf es seen).toList.Perm (e :: (leftOf es (seen.push e.born)).toList) := by
  unfold leftOf at *
  simp only [Array.toList_filter] at *
  obtain ⟨h1, h2⟩ := List.mem_filter.1 he
  generalize es.toList = l at *
  clear he
  induction l with
  | nil => simp at h1
  | cons x r ih =>
    simp only [List.map_cons, List.nodup_cons] at hn
    rcases List.mem_cons.1 h1 with rfl | h1
    · have hr : r.filter (fun y => !(seen.push e.born).contains y.born) = r.filter (fun y => !seen.contains y.born) := by
        apply List.filter_congr
        intro y hy
        have hne : y.born ≠ e.born := fun e' => hn.1 (by rw [← e']; exact List.mem_map_of_mem (f := (·.born)) hy)
        rw [contains_push]; simp [hne]
      have hc : (seen.push e.born).contains e.born = true := by rw [contains_push]; simp
      rw [List.filter_cons, List.filter_cons, if_pos h2, hc]
      simp only [Bool.not_true, Bool.false_eq_true, if_false]
      rw [hr]
    · have hne : x.born ≠ e.born := fun e' => hn.1 (by rw [e']; exact List.mem_map_of_mem (f := (·.born)) h1)
      have := ih hn.2 h1
      have hc : (seen.push e.born).contains x.born = seen.contains x.born := by rw [contains_push]; simp [hne]
      rw [List.filter_cons, List.filter_cons, hc]
      cases seen.contains x.born
      · simp only [Bool.not_false, if_true]
        exact (this.cons x).trans (List.Perm.swap _ _ _)
      · simpa using this

omit [DecidableEq κ] in
theorem perm_head : ∀ {l : List (κ × Value)} {f : κ × Value → Value × Value} {x : Value × Value} {r : List (Value × Value)}, (x :: r).Perm (l.map f) → ∃ p l', f p = x ∧ l.Perm (p :: l') ∧ r.Perm (l'.map f) := by
  intro l f x r h
  obtain ⟨p, hp, hx⟩ := List.mem_map.1 (h.mem_iff.1 (List.mem_cons_self))
  obtain ⟨s, t, rfl⟩ := List.append_of_mem hp
  refine ⟨p, s ++ t, hx, List.perm_middle, ?_⟩
  have h2 : (x :: r).Perm (x :: (s ++ t).map f) := by
    refine h.trans ?_
    rw [← hx]
    simp only [List.map_append, List.map_cons]
    exact List.perm_middle
  exact List.Perm.cons_inv h2

omit [DecidableEq κ] in
theorem Ranging.next {K : KeyKind P k κ} {w : World} {r b : Nat} {L left : List (κ × Value)} (h : Ranging K w r b L left) (ty : TypeId) :
    (left = [] ∧ (Instr.next (.pointer (some ⟨r, 0, none⟩)) false ty).run P w = .ok (.tuple #[.bool false]) w) ∨
    ∃ p left' w', left.Perm (p :: left') ∧ p ∈ L ∧ (Instr.next (.pointer (some ⟨r, 0, none⟩)) false ty).run P w = .ok (.tuple #[.bool true, K.kv p.1, p.2]) w' ∧ Ranging K w' r b L left' ∧ w.grownBy w' (some r) ∧
      (Instr.entry (.pointer (some ⟨r, 0, none⟩))).run P w' = .ok (.tuple #[K.kv p.1, p.2]) w' := by
  obtain ⟨es, clock, since, seen, hne, hr, hb, h1, h2, h3, h4, h5, h6, h7, h8, h9⟩ := h
  rcases run_next_at w ty r b since clock seen es clock hr hb h6 h7 with ⟨h0, hrun⟩ | ⟨e, he, w1, hw1, hrun⟩
  · left
    refine ⟨?_, hrun⟩
    have : left.length = 0 := by
      have := h8.length_eq
      simp only [List.length_map] at this
      rw [← this]; simpa using h0
    exact List.length_eq_zero_iff.1 this
  · right
    obtain ⟨p, left', hp, hl, hrest⟩ := perm_head (((leftOf_push h4 he).map fun e => (e.key, e.val)).symm.trans h8)
    simp only [Prod.mk.injEq] at hp
    have hw1h : w1.heap = w.heap := by rcases hw1 with rfl | rfl <;> rfl
    have hb1 : (setBlock w1 r (.mapIter (some b) since (seen.push e.born) clock)).heap[b]? = some (.map es clock) := by
      simp only [setBlock, hw1h, Array.getElem?_setIfInBounds]
      rw [if_neg hne]; exact hb
    have hlt := (Array.getElem?_eq_some_iff.1 hr).1
    have hr1 : (setBlock w1 r (.mapIter (some b) since (seen.push e.born) clock)).heap[r]? = some (.mapIter (some b) since (seen.push e.born) clock) := by
      simp [setBlock, hw1h, hlt]
    refine ⟨p, left', _, hl, h9 p (hl.mem_iff.2 (List.mem_cons_self)), ?_, ⟨es, clock, since, _, hne, hr1, hb1, h1, h2, h3, h4, h5, h6, h7, hrest, fun q hq => h9 q (hl.mem_iff.2 (List.mem_cons_of_mem _ hq))⟩, ?_, ?_⟩
    · rw [hrun, hp.1, hp.2]
    · refine ⟨?_, ?_, ?_, by simp [setBlock, hw1h], fun i _ hi => ?_⟩
      · rcases hw1 with rfl | rfl <;> rfl
      · rcases hw1 with rfl | rfl <;> rfl
      · rcases hw1 with rfl | rfl <;> rfl
      · simp only [setBlock, hw1h, Array.getElem?_setIfInBounds]
        rw [if_neg (fun e => hi (by rw [e]))]
    · rw [run_entry_at _ r b since seen es clock e hr1 hb1 (mem_left he).1 h4, hp.1, hp.2]

section
variable {w : World} {ops : Array Oper} {rest : List Oper} {o : Oper} {a : Act} {Q : Exit → Act → World → Prop} {K : KeyKind P k κ} {b : Nat} {L : List (κ × Value)} {e : TypeId}
omit [DecidableEq κ] in
end
end Go.Tk
