/- Memory as things side by side: each has blocks of its own; what is done to one leaves the others. -/
import Derived.Test.YtmhbpifhpolghaaGreatM03a5973
import Derived.Shelf.SlicesQ.Load
namespace Go.Vc
set_option linter.unusedVariables false
set_option linter.unusedSimpArgs false
open Go.RowKit Go.Tk Go.Lib Go.Shelf
structure Keep (S : Nat → Prop) (w w' : World) : Prop where
  os : w'.os = w.os
  tape : w'.tape = w.tape
  output : w'.output = w.output
  size : w.heap.size ≤ w'.heap.size
  block : ∀ k, S k → k < w.heap.size → w'.heap[k]? = w.heap[k]?
structure Chunk where
  at_ : (Nat → Prop) → World → Prop
  stable : ∀ {S : Nat → Prop} {w w' : World}, Keep S w w' → (∀ k, S k → k < w.heap.size) → at_ S w → at_ S w'
structure Lies (cs : List Chunk) (F : Nat → Nat → Prop) (w : World) : Prop where
  has : ∀ (i : Nat) (c : Chunk), cs[i]? = some c → c.at_ (F i) w
  hi : ∀ i k, i < cs.length → F i k → k < w.heap.size
  apart : ∀ i j k, i < cs.length → j < cs.length → i ≠ j → F i k → ¬ F j k
def Mem (cs : List Chunk) (w : World) : Prop := ∃ F, Lies cs F w
theorem Mem.nil (w : World) : Mem [] w := ⟨fun _ _ => False, fun i c h => by simp at h, fun i k h => by simp at h, fun i j k h => by simp at h⟩
theorem Mem.keep {cs : List Chunk} {w w' : World} (h : Mem cs w) (os : w'.os = w.os) (tape : w'.tape = w.tape) (output : w'.output = w.output) (size : w.heap.size ≤ w'.heap.size) (block : ∀ k, k < w.heap.size → w'.heap[k]? = w.heap[k]?) : Mem cs w' := by
  obtain ⟨F, h⟩ := h
  exact ⟨F, fun i c hc => c.stable ⟨os, tape, output, size, fun k _ hk => block k hk⟩ (fun k hk => h.hi i k (List.getElem?_eq_some_iff.1 hc).1 hk) (h.has i c hc), fun i k hi hk => Nat.lt_of_lt_of_le (h.hi i k hi hk) size, h.apart⟩
theorem Mem.kept {cs : List Chunk} {w w' : World} (h : Mem cs w) (hb : Below w.heap.size w w') : Mem cs w' := h.keep hb.os hb.tape hb.output hb.size hb.block
theorem Mem.drew {cs : List Chunk} {w : World} (h : Mem cs w) : Mem cs w.drew := h.keep rfl rfl rfl (Nat.le_refl _) (fun _ _ => rfl)
theorem Mem.drewN {cs : List Chunk} {w : World} (h : Mem cs w) (n : Nat) : Mem cs (w.drewN n) := h.kept (drewN_below w n)
theorem Mem.pick {cs : List Chunk} {w : World} (h : Mem cs w) (is : List Nat) (hn : is.Nodup) : Mem (is.filterMap (fun i => cs[i]?)) w := by
  obtain ⟨F, h⟩ := h
  suffices H : ∀ (is : List Nat), is.Nodup → ∃ G : Nat → Nat, (∀ j c, (is.filterMap (fun i => cs[i]?))[j]? = some c → G j ∈ is ∧ cs[G j]? = some c) ∧ ∀ j j', j < (is.filterMap (fun i => cs[i]?)).length → j' < (is.filterMap (fun i => cs[i]?)).length → j ≠ j' → G j ≠ G j' by
    obtain ⟨G, g1, g2⟩ := H is hn
    have g3 : ∀ j, j < (is.filterMap (fun i => cs[i]?)).length → G j < cs.length := fun j hj => (List.getElem?_eq_some_iff.1 (g1 j _ (List.getElem?_eq_getElem hj)).2).1
    exact ⟨fun j => F (G j), fun j c hj => h.has _ _ (g1 j c hj).2, fun j k hj hk => h.hi _ k (g3 j hj) hk, fun j j' k hj hj' hne hk => h.apart _ _ k (g3 j hj) (g3 j' hj') (g2 j j' hj hj' hne) hk⟩
  intro is
  induction is with
  | nil => exact fun _ => ⟨id, fun j c h => by simp at h, fun j j' h => by simp at h⟩
  | cons i l ih =>
    intro hn
    rw [List.nodup_cons] at hn
    obtain ⟨G, g1, g2⟩ := ih hn.2
    rw [List.filterMap_cons]
    cases hi : cs[i]? with
    | none => exact ⟨G, fun j c hj => ⟨List.mem_cons_of_mem _ (g1 j c hj).1, (g1 j c hj).2⟩, g2⟩
    | some c0 =>
      have gm : ∀ j, j < (l.filterMap (fun i => cs[i]?)).length → G j ∈ l := fun j hj => (g1 j _ (List.getElem?_eq_getElem hj)).1
      refine ⟨fun j => match j with | 0 => i | j + 1 => G j, fun j c hj => ?_, fun j j' hj hj' hne => ?_⟩
      · cases j with
        | zero => simp at hj; subst hj; exact ⟨List.mem_cons_self, hi⟩
        | succ j => have := g1 j c (by simpa using hj); exact ⟨List.mem_cons_of_mem _ this.1, this.2⟩
      · cases j with
        | zero =>
          cases j' with
          | zero => exact absurd rfl hne
          | succ j' => exact fun e => hn.1 (by have := gm j' (by simpa using hj'); exact (show i = G j' from e) ▸ this)
        | succ j =>
          cases j' with
          | zero => exact fun e => hn.1 (by have := gm j (by simpa using hj); exact (show G j = i from e) ▸ this)
          | succ j' => exact g2 j j' (by simpa using hj) (by simpa using hj') (fun e => hne (by rw [e]))
theorem Mem.step {cs : List Chunk} {w w' : World} (h : Mem cs w) (i : Nat) {c c' : Chunk} (hi : cs[i]? = some c)
    (hs : ∀ S, c.at_ S w → (∀ k, S k → k < w.heap.size) → Fr S w w' ∧ ∃ S', c'.at_ S' w' ∧ ∀ k, S' k → (S k ∨ w.heap.size ≤ k) ∧ k < w'.heap.size) : Mem (cs.set i c') w' := by
  obtain ⟨F, h⟩ := h
  have hl := (List.getElem?_eq_some_iff.1 hi).1
  obtain ⟨hf, S', h1, h2⟩ := hs (F i) (h.has i c hi) (fun k hk => h.hi i k hl hk)
  refine ⟨fun j => if j = i then S' else F j, fun j d hj => ?_, fun j k hj hk => ?_, fun a b k ha hb hab hka hkb => ?_⟩
  · by_cases e : j = i
    · subst e
      rw [List.getElem?_set_self hl] at hj
      cases hj
      rw [if_pos rfl]; exact h1
    · rw [List.getElem?_set_ne (fun x => e x.symm)] at hj
      rw [if_neg e]
      have hjl := (List.getElem?_eq_some_iff.1 hj).1
      exact d.stable ⟨hf.os, hf.tape, hf.output, hf.size, fun k hk hkl => hf.block k hkl (fun hk' => h.apart j i k hjl hl e hk hk')⟩ (fun k hk => h.hi j k hjl hk) (h.has j d hj)
  · rw [List.length_set] at hj
    by_cases e : j = i
    · rw [if_pos e] at hk; exact (h2 k hk).2
    · rw [if_neg e] at hk; exact Nat.lt_of_lt_of_le (h.hi j k hj hk) hf.size
  · rw [List.length_set] at ha hb
    by_cases ea : a = i
    · subst ea
      have eb : b ≠ a := fun e => hab e.symm
      rw [if_pos rfl] at hka
      rw [if_neg eb] at hkb
      rcases (h2 k hka).1 with h3 | h3
      · exact h.apart a b k ha hb hab h3 hkb
      · have := h.hi b k hb hkb; omega
    · rw [if_neg ea] at hka
      by_cases eb : b = i
      · subst eb
        rw [if_pos rfl] at hkb
        rcases (h2 k hkb).1 with h3 | h3
        · exact h.apart a b k ha hb hab hka h3
        · have := h.hi a k ha hka; omega
      · rw [if_neg eb] at hkb
        exact h.apart a b k ha hb hab hka hkb
theorem Mem.fresh {cs : List Chunk} {w w' : World} (h : Mem cs w) {c : Chunk} (hb : Below w.heap.size w w') (S : Nat → Prop) (hc : c.at_ S w') (hS : ∀ k, S k → w.heap.size ≤ k ∧ k < w'.heap.size) : Mem (c :: cs) w' := by
  obtain ⟨F, h⟩ := h
  refine ⟨fun j => match j with | 0 => S | j + 1 => F j, fun j d hj => ?_, fun j k hj hk => ?_, fun a b k ha hb' hab hka hkb => ?_⟩
  · cases j with
    | zero => simp at hj; subst hj; exact hc
    | succ j =>
      have hj : cs[j]? = some d := by simpa using hj
      exact d.stable ⟨hb.os, hb.tape, hb.output, hb.size, fun k _ hk => hb.block k hk⟩ (fun k hk => h.hi j k (List.getElem?_eq_some_iff.1 hj).1 hk) (h.has j d hj)
  · cases j with
    | zero => exact (hS k hk).2
    | succ j => exact Nat.lt_of_lt_of_le (h.hi j k (by simpa using hj) hk) hb.size
  · cases a with
    | zero =>
      cases b with
      | zero => exact hab rfl
      | succ b => have := h.hi b k (by simpa using hb') hkb; have := (hS k hka).1; omega
    | succ a =>
      cases b with
      | zero => have := h.hi a k (by simpa using ha) hka; have := (hS k hkb).1; omega
      | succ b => exact h.apart a b k (by simpa using ha) (by simpa using hb') (fun e => hab (by rw [e])) hka hkb
def noFz (fz : Nat × Nat) (n : Nat) : Prop := ∀ o, o < n → ¬ (fz.1 ≤ o ∧ o < fz.2)
theorem noFz_none (n : Nat) : noFz (0, 0) n := fun o _ h => by simp at h
def BoxE (q : Option TypeId) (w : World) (b : Nat) (vs : Array Value) : Prop := ∃ E fz, (∀ x, q = some x → E = x) ∧ w.heap[b]? = some (.cells vs E fz) ∧ noFz fz vs.size
theorem BoxE.lt {q : Option TypeId} {w : World} {b : Nat} {vs : Array Value} (h : BoxE q w b vs) : b < w.heap.size := by
  obtain ⟨E, fz, -, h, -⟩ := h; exact (Array.getElem?_eq_some_iff.1 h).1
theorem BoxE.cell {q : Option TypeId} {w : World} {b : Nat} {vs : Array Value} (h : BoxE q w b vs) (i : Nat) {v : Value} (hi : vs[i]? = some v) : w.cell? ⟨b, i, none⟩ = some v := by
  obtain ⟨E, fz, -, h, -⟩ := h
  unfold World.cell?
  simp only [h]
  simpa using hi
theorem BoxE.free {q : Option TypeId} {w : World} {b : Nat} {vs : Array Value} (h : BoxE q w b vs) (i : Nat) (hi : i < vs.size) : w.frozen? ⟨b, i, none⟩ = false := by
  obtain ⟨E, fz, -, h, hn⟩ := h
  unfold World.frozen?
  simp only [h]
  have := hn i hi
  simp only [Bool.and_eq_false_iff, decide_eq_false_iff_not]
  by_cases h1 : fz.1 ≤ i
  · exact .inr (fun h2 => this ⟨h1, h2⟩)
  · exact .inl h1
theorem BoxE.set {q : Option TypeId} {w : World} {b : Nat} {vs : Array Value} (h : BoxE q w b vs) (i : Nat) (u : Value) : BoxE q (w.setCell ⟨b, i, none⟩ u) b (vs.setIfInBounds i u) := by
  obtain ⟨E, fz, h1, h2, h3⟩ := h
  refine ⟨E, fz, h1, ?_, by simpa using h3⟩
  simp only [World.setCell, Array.getElem?_modify, h2]
  simp
theorem BoxE.of {w : World} {b : Nat} {vs : Array Value} (h : Box w b vs) : BoxE none w b vs := by
  obtain ⟨E, h⟩ := h; exact ⟨E, _, (fun x hx => by cases hx), h, noFz_none _⟩
def boxE (q : Option TypeId) (b : Nat) (vs : Array Value) : Chunk where
  at_ S w := S b ∧ BoxE q w b vs
  stable hk hi h := ⟨h.1, by obtain ⟨E, fz, h1, h2, h3⟩ := h.2; exact ⟨E, fz, h1, by rw [hk.block b h.1 (hi b h.1)]; exact h2, h3⟩⟩
abbrev boxC (b : Nat) (vs : Array Value) : Chunk := boxE none b vs
def RowF (E : TypeId) (size : Nat) (w : World) (v : Value) (n : Nat) (xs : List Value) : Prop :=
  xs.length = n * size ∧ ((v = .slice none 0 0 ∧ n = 0) ∨ ∃ g cap cur, v = .slice (some ⟨g, 0, none⟩) n cap ∧ BoxE (some E) w g cur ∧ n ≤ cap ∧ cap ≤ maxLen ∧ cur.size = cap * size ∧ cur.toList.take (n * size) = xs)
theorem RowF.row {E : TypeId} {size : Nat} {w : World} {v : Value} {n : Nat} {xs : List Value} (h : RowF E size w v n xs) : ∃ a c, v = .slice a n c ∧ Row w a xs ∧ n ≤ c ∧ c ≤ maxLen ∧ (a = none → c = 0) := by
  obtain ⟨hl, ⟨h1, h2⟩ | ⟨g, cap, cur, hv, hb, h1, h2, h3, h4⟩⟩ := h
  · subst h2
    have : xs = [] := List.length_eq_zero_iff.1 (by simpa using hl)
    subst this
    exact ⟨none, 0, h1, Row.nil, Nat.le_refl _, Nat.zero_le _, fun _ => rfl⟩
  · refine ⟨_, cap, hv, fun i hi => ⟨g, 0, rfl, ?_⟩, h1, h2, fun h => by cases h⟩
    rw [Nat.zero_add]
    refine hb.cell i ?_
    have : xs[i]? = cur[i]? := by
      rw [← h4, List.getElem?_take_of_lt (by rw [← hl]; exact hi)]; simp
    rw [← this, List.getD_eq_getElem?_getD, List.getElem?_eq_getElem hi]; rfl
theorem RowF.of {E : TypeId} {size base : Nat} {w : World} {v : Value} {n : Nat} {xs : List Value} (h : w.ownsRow base E size v n xs) : RowF E size w v n xs := by
  obtain ⟨hl, ⟨h1, h2⟩ | ⟨g, cap, cur, hv, hg, hh, h1, h2, h3, h4⟩⟩ := h
  · exact ⟨hl, .inl ⟨h1, h2⟩⟩
  · exact ⟨hl, .inr ⟨g, cap, cur, hv, ⟨E, _, fun x hx => by cases hx; rfl, hh, noFz_none _⟩, h1, h2, h3, h4⟩⟩
theorem RowF.lt {E : TypeId} {size : Nat} {w : World} {v : Value} {n : Nat} {xs : List Value} (h : RowF E size w v n xs) {g : Nat} (hg : v.ownBlock = some g) : g < w.heap.size := by
  obtain ⟨hl, ⟨h1, h2⟩ | ⟨g', cap, cur, hv, hb, -⟩⟩ := h
  · subst h1; cases hg
  · subst hv; cases hg; exact hb.lt
def rowC (E : TypeId) (size : Nat) (v : Value) (n : Nat) (xs : List Value) : Chunk where
  at_ S w := (∀ g, v.ownBlock = some g → S g) ∧ RowF E size w v n xs
  stable {S w w'} hk hi h := ⟨h.1, by
    obtain ⟨hl, h1 | ⟨g, cap, cur, hv, ⟨E', fz, e1, e2, e3⟩, h2⟩⟩ := h.2
    · exact ⟨hl, .inl h1⟩
    · have e : S g := h.1 g (by rw [hv]; rfl)
      exact ⟨hl, .inr ⟨g, cap, cur, hv, ⟨E', fz, e1, by rw [hk.block g e (hi g e)]; exact e2, e3⟩, h2⟩⟩⟩
section
variable {P : Program} {k : TypeId} {κ : Type}
def mapC (K : KeyKind P k κ) (b : Nat) (L : List (κ × Value)) : Chunk where
  at_ S w := S b ∧ MapAt K w b L
  stable hk hi h := ⟨h.1, h.2.same (hk.block b h.1 (hi b h.1))⟩
end
def oldC (w0 : World) : Chunk where
  at_ S w := (∀ k, k < w0.heap.size → S k) ∧ Below w0.heap.size w0 w
  stable hk hi h := ⟨h.1, h.2.trans ⟨hk.os, hk.tape, hk.output, hk.size, fun k hk' => hk.block k (h.1 k hk') (hi k (h.1 k hk'))⟩⟩
def pureC (p : Prop) : Chunk where
  at_ _ _ := p
  stable _ _ h := h
def exC {X : Type} (f : X → Chunk) : Chunk where
  at_ S w := ∃ x, (f x).at_ S w
  stable hk hi h := by obtain ⟨x, h⟩ := h; exact ⟨x, (f x).stable hk hi h⟩
def allC (cs : List Chunk) : Chunk where
  at_ S w := ∃ F : Nat → Nat → Prop, (∀ i k, i < cs.length → F i k → S k) ∧ (∀ (i : Nat) (c : Chunk), cs[i]? = some c → c.at_ (F i) w) ∧ ∀ i j k, i < cs.length → j < cs.length → i ≠ j → F i k → ¬ F j k
  stable hk hi h := by
    obtain ⟨F, h1, h2, h3⟩ := h
    refine ⟨F, h1, fun i c hc => ?_, h3⟩
    have hl := (List.getElem?_eq_some_iff.1 hc).1
    exact c.stable ⟨hk.os, hk.tape, hk.output, hk.size, fun k h4 h5 => hk.block k (h1 i k hl h4) h5⟩ (fun k h4 => hi k (h1 i k hl h4)) (h2 i c hc)
theorem Mem.old (w : World) : Mem [oldC w] w := ⟨fun _ k => k < w.heap.size, fun i c hc => by
    have : i = 0 := by have := (List.getElem?_eq_some_iff.1 hc).1; simpa using this
    subst this; cases hc; exact ⟨fun _ h => h, Below.refl _ _⟩, fun _ _ _ h => h, fun i j k hi hj hij => absurd (show i = j by simp at hi hj; omega) hij⟩
theorem Mem.below {cs : List Chunk} {w0 w : World} (h : Mem cs w) (i : Nat) (hi : cs[i]? = some (oldC w0)) : Below w0.heap.size w0 w := by
  obtain ⟨F, h⟩ := h; exact (h.has i _ hi).2
theorem Mem.box {cs : List Chunk} {w : World} (h : Mem cs w) (i : Nat) {q : Option TypeId} {b : Nat} {vs : Array Value} (hi : cs[i]? = some (boxE q b vs)) : BoxE q w b vs := by
  obtain ⟨F, h⟩ := h; exact (h.has i _ hi).2
theorem Mem.owns {cs : List Chunk} {w : World} (h : Mem cs w) (i : Nat) {E : TypeId} {size n : Nat} {v : Value} {xs : List Value} (hi : cs[i]? = some (rowC E size v n xs)) : RowF E size w v n xs := by
  obtain ⟨F, h⟩ := h; exact (h.has i _ hi).2
theorem Mem.map {P : Program} {k : TypeId} {κ : Type} {K : KeyKind P k κ} {cs : List Chunk} {w : World} (h : Mem cs w) (i : Nat) {b : Nat} {L : List (κ × Value)} (hi : cs[i]? = some (mapC K b L)) : MapAt K w b L := by
  obtain ⟨F, h⟩ := h; exact (h.has i _ hi).2
theorem Mem.of {cs : List Chunk} {w : World} (h : Mem cs w) (i : Nat) {c : Chunk} (hi : cs[i]? = some c) {φ : Prop} (hφ : ∀ S, c.at_ S w → φ) : φ := by
  obtain ⟨F, h⟩ := h; exact hφ _ (h.has i _ hi)
theorem Mem.ex {X : Type} {f : X → Chunk} {cs : List Chunk} {w : World} (h : Mem (exC f :: cs) w) : ∃ x, Mem (f x :: cs) w := by
  obtain ⟨F, h⟩ := h
  obtain ⟨x, hx⟩ := h.has 0 _ rfl
  refine ⟨x, F, fun i c hc => ?_, h.hi, h.apart⟩
  cases i with
  | zero => cases hc; exact hx
  | succ i => exact h.has (i + 1) c hc
theorem Mem.in_ex {X : Type} {f : X → Chunk} {cs : List Chunk} {w : World} (x : X) (h : Mem (f x :: cs) w) : Mem (exC f :: cs) w := by
  obtain ⟨F, h⟩ := h
  refine ⟨F, fun i c hc => ?_, h.hi, h.apart⟩
  cases i with
  | zero => cases hc; exact ⟨x, h.has 0 _ rfl⟩
  | succ i => exact h.has (i + 1) c hc
theorem Mem.all {l cs : List Chunk} {w : World} (h : Mem (allC l :: cs) w) : Mem (l ++ cs) w := by
  obtain ⟨F, h⟩ := h
  obtain ⟨G, g1, g2, g3⟩ := h.has 0 _ rfl
  refine ⟨fun i => if i < l.length then G i else F (i - l.length + 1), fun i c hc => ?_, fun i k hi hk => ?_, fun i j k hi hj hij hki hkj => ?_⟩
  · by_cases e : i < l.length
    · rw [List.getElem?_append_left e] at hc
      rw [if_pos e]; exact g2 i c hc
    · rw [List.getElem?_append_right (by omega)] at hc
      rw [if_neg e]; exact h.has _ c (by simpa using hc)
  · by_cases e : i < l.length
    · rw [if_pos e] at hk; exact h.hi 0 k (by simp) (g1 i k e hk)
    · rw [if_neg e] at hk; exact h.hi _ k (by simp at hi ⊢; omega) hk
  · simp only [List.length_append] at hi hj
    by_cases ei : i < l.length
    · rw [if_pos ei] at hki
      by_cases ej : j < l.length
      · rw [if_pos ej] at hkj; exact g3 i j k ei ej hij hki hkj
      · rw [if_neg ej] at hkj
        exact h.apart 0 _ k (by simp) (by simp; omega) (by omega) (g1 i k ei hki) hkj
    · rw [if_neg ei] at hki
      by_cases ej : j < l.length
      · rw [if_pos ej] at hkj
        exact h.apart _ 0 k (by simp; omega) (by simp) (by omega) hki (g1 j k ej hkj)
      · rw [if_neg ej] at hkj
        exact h.apart _ _ k (by simp; omega) (by simp; omega) (by omega) hki hkj
theorem Mem.in_all {l cs : List Chunk} {w : World} (h : Mem (l ++ cs) w) : Mem (allC l :: cs) w := by
  obtain ⟨F, h⟩ := h
  refine ⟨fun i => match i with | 0 => fun k => ∃ j, j < l.length ∧ F j k | i + 1 => F (i + l.length), fun i c hc => ?_, fun i k hi hk => ?_, fun i j k hi hj hij hki hkj => ?_⟩
  · cases i with
    | zero =>
      cases hc
      refine ⟨F, fun i k hi hk => ⟨i, hi, hk⟩, fun i c hc => h.has i c ?_, fun i j k hi hj => h.apart i j k (by simp; omega) (by simp; omega)⟩
      rw [List.getElem?_append_left (List.getElem?_eq_some_iff.1 hc).1]; exact hc
    | succ i => exact h.has _ c (by rw [List.getElem?_append_right (by omega)]; simpa using hc)
  · cases i with
    | zero => obtain ⟨j, hj, hk⟩ := hk; exact h.hi j k (by simp; omega) hk
    | succ i => exact h.hi _ k (by simp at hi ⊢; omega) hk
  · cases i with
    | zero =>
      obtain ⟨i, hi', hki⟩ := hki
      cases j with
      | zero => exact hij rfl
      | succ j => exact h.apart i _ k (by simp; omega) (by simp at hj ⊢; omega) (by omega) hki hkj
    | succ i =>
      cases j with
      | zero =>
        obtain ⟨j, hj', hkj⟩ := hkj
        exact h.apart _ j k (by simp at hi ⊢; omega) (by simp; omega) (by omega) hki hkj
      | succ j => exact h.apart _ _ k (by simp at hi ⊢; omega) (by simp at hj ⊢; omega) (by omega) hki hkj
theorem Mem.in_pure {p : Prop} {cs : List Chunk} {w : World} (hp : p) (h : Mem cs w) : Mem (pureC p :: cs) w := by
  obtain ⟨F, h⟩ := h
  refine ⟨fun j => match j with | 0 => fun _ => False | j + 1 => F j, fun j d hj => ?_, fun j k hj hk => ?_, fun a b k ha hb' hab hka hkb => ?_⟩
  · cases j with
    | zero => cases hj; exact hp
    | succ j => exact h.has j d hj
  · cases j with
    | zero => exact hk.elim
    | succ j => exact h.hi j k (by simpa using hj) hk
  · cases a with
    | zero => exact hka.elim
    | succ a =>
      cases b with
      | zero => exact hkb.elim
      | succ b => exact h.apart a b k (by simpa using ha) (by simpa using hb') (fun e => hab (by rw [e])) hka hkb
theorem Mem.pure {p : Prop} {cs : List Chunk} {w : World} (h : Mem (pureC p :: cs) w) : p := by obtain ⟨F, h⟩ := h; exact h.has 0 _ rfl
def Rd (c : Chunk) (a : Option Addr) (xs : List Value) : Prop := ∀ S w, c.at_ S w → Row w a xs
theorem rd_old {w0 : World} {a : Option Addr} {xs : List Value} (h : Row w0 a xs) : Rd (oldC w0) a xs := fun _ _ hw => h.kept hw.2
theorem rd_row {E : TypeId} {size n c : Nat} {a : Option Addr} {xs : List Value} : Rd (rowC E size (.slice a n c) n xs) a xs := fun S w hw => by
  obtain ⟨a', c', hv, hr, -⟩ := hw.2.row
  cases hv; exact hr
theorem Rd.row {c : Chunk} {a : Option Addr} {xs : List Value} (h : Rd c a xs) {cs : List Chunk} {w : World} (hm : Mem cs w) (i : Nat) (hi : cs[i]? = some c) : Row w a xs := by
  obtain ⟨F, hm⟩ := hm; exact h _ _ (hm.has i c hi)
theorem Mem.alloc {cs : List Chunk} {w : World} (h : Mem cs w) (vs : Array Value) (E : TypeId) : Mem (boxC w.heap.size vs :: cs) (w.alloc (.cells vs E)) :=
  h.fresh (below_alloc _ _) (fun k => k = w.heap.size) ⟨rfl, ⟨E, (0, 0), (fun _ h => by cases h), show (w.heap.push _)[w.heap.size]? = _ from Array.getElem?_push_size, noFz_none _⟩⟩ (fun k hk => by subst hk; exact ⟨Nat.le_refl _, by simp⟩)
theorem Mem.made {P : Program} {k : TypeId} {κ : Type} (K : KeyKind P k κ) {cs : List Chunk} {w : World} (h : Mem cs w) : Mem (mapC K w.heap.size [] :: cs) (w.alloc (.map #[] 0)) :=
  h.fresh (below_alloc _ _) (fun k => k = w.heap.size) ⟨rfl, MapAt.made K w⟩ (fun k hk => by subst hk; exact ⟨Nat.le_refl _, by simp⟩)
theorem Mem.noRow {cs : List Chunk} {w : World} (h : Mem cs w) (E : TypeId) (size : Nat) : Mem (rowC E size (.slice .none 0 0) 0 [] :: cs) w := by
  have := h.fresh (w' := w) (c := rowC E size (.slice Option.none 0 0) 0 []) (Below.refl _ _) (fun _ => False) ⟨(fun g hg => by cases hg), by simp, .inl ⟨rfl, rfl⟩⟩ (fun k hk => hk.elim)
  exact this
def over (vs : Array Value) (off : Nat) (cells : List Value) : Array Value := (vs.toList.take off ++ cells ++ vs.toList.drop (off + cells.length)).toArray
theorem over_cons {vs : Array Value} {off : Nat} {v : Value} {l : List Value} (h : off < vs.size) : over (vs.setIfInBounds off v) (off + 1) l = over vs off (v :: l) := by
  unfold over
  congr 1
  rw [Array.toList_setIfInBounds]
  have e1 : (vs.toList.set off v).take (off + 1) = vs.toList.take off ++ [v] := by
    rw [List.take_succ_eq_append_getElem (by simpa using h), List.take_set_of_le (Nat.le_refl _)]
    simp
  have e2 : (vs.toList.set off v).drop (off + 1 + l.length) = vs.toList.drop (off + (v :: l).length) := by
    rw [List.drop_set_of_lt (by omega)]
    congr 1
    simp; omega
  rw [e1, e2]; simp
theorem run_storeCells (P : Program) {q : Option TypeId} {b : Nat} : ∀ (cells : List Value) (off i : Nat) (vs : Array Value) (w : World), BoxE q w b vs → off + i + cells.length ≤ vs.size → cells.all (·.oneCell') = true →
    ∃ w', Sem.run P (storeCells ⟨b, off, .none⟩ cells i) w = .ok () w' ∧ Fr (fun k => k = b) w w' ∧ BoxE q w' b (over vs (off + i) cells)
  | [], off, i, vs, w, h, _, _ => ⟨w, rfl, Fr.refl _ _, by
      have : over vs (off + i) [] = vs := by unfold over; simp
      rw [this]; exact h⟩
  | v :: l, off, i, vs, w, h, hl, h1 => by
    rw [List.all_cons, Bool.and_eq_true] at h1
    have hl' : off + i < vs.size := by simp at hl; omega
    have ha : (Addr.mk b off .none).add i = ⟨b, off + i, .none⟩ := by
      unfold Addr.add
      split
      · rename_i e; subst e; rfl
      · rfl
    obtain ⟨w', h4, h2, h3⟩ := run_storeCells P l off (i + 1) (vs.setIfInBounds (off + i) v) (w.setCell ⟨b, off + i, .none⟩ v) (h.set _ _) (by simp at hl ⊢; omega) h1.2
    refine ⟨w', ?_, ((Fr.refl (fun k => k = b) w).set b (off + i) v rfl).trans h2 (fun _ _ e => e), ?_⟩
    · unfold storeCells
      have c := h.cell (off + i) (Array.getElem?_eq_getElem hl')
      have f := h.free (off + i) hl'
      simp only [ha]
      rw [Sem.run_bind, run_store _ _ _ _ _ h1.1, c]
      simp [f, Result.andThen, h4]
    · rw [← Nat.add_assoc, over_cons hl'] at h3
      exact h3
section
attribute [-go_sem] Value.cells
theorem Mem.store {P : Program} {cs : List Chunk} {w : World} (h : Mem cs w) (i : Nat) {q : Option TypeId} {b : Nat} {vs : Array Value} (hi : cs[i]? = some (boxE q b vs)) (t : TypeId) (off : Nat) (v : Value) (cells : List Value) (hv : v.cells = cells.toArray)
    (ht : (P.info? t).map (·.size) = some cells.length) (hl : off + cells.length ≤ vs.size) (h1 : cells.all (·.oneCell') = true) :
    ∃ w', Sem.run P (Instr.storeAt t (.pointer (some ⟨b, off, .none⟩)) v) w = .ok () w' ∧ Mem (cs.set i (boxE q b (over vs off cells))) w' := by
  have hb := h.of i hi (φ := BoxE q w b vs) (fun S hS => hS.2)
  obtain ⟨w', h4, h2, h3⟩ := run_storeCells P cells off 0 vs w hb (by simpa using hl) h1
  refine ⟨w', ?_, h.step i hi (fun S hS hlt => ⟨h2.mono (fun k _ e => by rw [e]; exact hS.1), fun k => k = b, ⟨rfl, h3⟩, fun k hk => ⟨.inl (by rw [hk]; exact hS.1), by rw [hk]; exact h3.lt⟩⟩)⟩
  obtain ⟨i0, hi0, hs0⟩ := Option.map_eq_some_iff.1 ht
  have hv2 : v.cells.size = cells.length := by rw [hv]; simp
  have hv3 : v.cells.toList = cells := by rw [hv]
  simp [Instr.storeAt, Instr.sureAddr, storeVar, sizeOf, typeInfo, go_sem, hi0, hs0, hv2, hv3, h4]
end
theorem Mem.perm1 {cs : List Chunk} {w : World} (h : Mem cs w) (i : Nat) {c : Chunk} (hi : cs[i]? = some c) : Mem (c :: cs.eraseIdx i) w := by
  obtain ⟨F, h⟩ := h
  have hil := (List.getElem?_eq_some_iff.1 hi).1
  have hge : ∀ j, (cs.eraseIdx i)[j]? = if j < i then cs[j]? else cs[j + 1]? := fun j => List.getElem?_eraseIdx
  have hlen : (cs.eraseIdx i).length + 1 = cs.length := by rw [List.length_eraseIdx]; simp [hil]; omega
  refine ⟨fun j => match j with | 0 => F i | j + 1 => if j < i then F j else F (j + 1), fun j d hj => ?_, fun j k hj hk => ?_, fun a b k ha hb hab hka hkb => ?_⟩
  · cases j with
    | zero => cases hj; exact h.has i c hi
    | succ j =>
      have hj : (cs.eraseIdx i)[j]? = some d := hj
      rw [hge] at hj
      show d.at_ (if j < i then F j else F (j + 1)) w
      by_cases e : j < i
      · rw [if_pos e] at hj ⊢; exact h.has j d hj
      · rw [if_neg e] at hj ⊢; exact h.has _ d hj
  · cases j with
    | zero => exact h.hi i k hil hk
    | succ j =>
      simp at hj
      have hk : (if j < i then F j else F (j + 1)) k := hk
      by_cases e : j < i
      · rw [if_pos e] at hk; exact h.hi j k (by omega) hk
      · rw [if_neg e] at hk; exact h.hi _ k (by omega) hk
  · have key : ∀ j, j < (cs.eraseIdx i).length → ∃ j', j' < cs.length ∧ j' ≠ i ∧ (if j < i then F j else F (j + 1)) = F j' ∧ (j' = j ∧ j < i ∨ j' = j + 1 ∧ ¬ j < i) := fun j hj => by
      by_cases e : j < i
      · exact ⟨j, by omega, by omega, if_pos e, .inl ⟨rfl, e⟩⟩
      · exact ⟨j + 1, by omega, by omega, if_neg e, .inr ⟨rfl, e⟩⟩
    cases a with
    | zero =>
      cases b with
      | zero => exact hab rfl
      | succ b =>
        obtain ⟨j', h1, h2, h3, -⟩ := key b (by simpa using hb)
        have hkb : (if b < i then F b else F (b + 1)) k := hkb
        rw [h3] at hkb
        exact h.apart i j' k hil h1 (fun e => h2 e.symm) hka hkb
    | succ a =>
      obtain ⟨a', a1, a2, a3, a4⟩ := key a (by simpa using ha)
      have hka : (if a < i then F a else F (a + 1)) k := hka
      rw [a3] at hka
      cases b with
      | zero => exact h.apart a' i k a1 hil a2 hka hkb
      | succ b =>
        obtain ⟨b', b1, b2, b3, b4⟩ := key b (by simpa using hb)
        have hkb : (if b < i then F b else F (b + 1)) k := hkb
        rw [b3] at hkb
        exact h.apart a' b' k a1 b1 (by omega) hka hkb
theorem Mem.front {cs : List Chunk} {w : World} (h : Mem cs w) (i : Nat) {c : Chunk} (hi : cs[i]? = some c) : Mem (c :: cs.eraseIdx i) w := h.perm1 i hi
theorem Mem.tail {cs : List Chunk} {c : Chunk} {w : World} (h : Mem (c :: cs) w) : Mem cs w := by
  obtain ⟨F, h⟩ := h
  exact ⟨fun j => F (j + 1), fun i d hd => h.has (i + 1) d hd, fun i k hi hk => h.hi (i + 1) k (by simp; omega) hk, fun i j k hi hj hij => h.apart (i + 1) (j + 1) k (by simp; omega) (by simp; omega) (by omega)⟩
theorem Mem.erase {cs : List Chunk} {w : World} (h : Mem cs w) (i : Nat) {c : Chunk} (hi : cs[i]? = some c) : Mem (cs.eraseIdx i) w := (h.perm1 i hi).tail
theorem Mem.weaken {cs : List Chunk} {c c' : Chunk} {w : World} (h : Mem (c :: cs) w) (hc : ∀ S, c.at_ S w → c'.at_ S w) : Mem (c' :: cs) w := by
  obtain ⟨F, h⟩ := h
  refine ⟨F, fun i d hd => ?_, h.hi, h.apart⟩
  cases i with
  | zero => cases hd; exact hc _ (h.has 0 c rfl)
  | succ i => exact h.has (i + 1) d hd
structure Apps (P : Program) (ts : Array TypeId) (ty e : TypeId) (size : Nat) (z src : Value) (n m : Nat) (news : List Value) (w : World) : Prop where
  len : news.length = m * size
  one : news.all (·.oneCell') = true
  nil0 : m = 0 → (Builtin.append_ ts ty #[.slice none 0 0, src]).run P w = .ok (.slice none 0 0) w
  nil : n = 0 → 0 < m → (Builtin.append_ ts ty #[.slice none 0 0, src]).run P w = .ok (.slice (some ⟨w.heap.size, 0, none⟩) m (grownCap w m 0 e)) (w.drew.alloc (.cells (news.toArray ++ Builtin.zeroCells z.cells (grownCap w m 0 e - m)) e))
  room : ∀ (g cap : Nat) (w' : World), n + m ≤ cap → (storeCells ⟨g, n * size, none⟩ news).run P w = .ok () w' → (Builtin.append_ ts ty #[.slice (some ⟨g, 0, none⟩) n cap, src]).run P w = .ok (.slice (some ⟨g, 0, none⟩) (n + m) cap) w'
  grow : ∀ (g cap : Nat) (olds : List Value), olds.length = n * size → (∀ (j : Nat) v, olds[j]? = some v → w.cell? ((Addr.mk g 0 none).add j) = some v) → n ≤ cap → cap < n + m →
    (Builtin.append_ ts ty #[.slice (some ⟨g, 0, none⟩) n cap, src]).run P w = .ok (.slice (some ⟨w.heap.size, 0, none⟩) (n + m) (grownCap w (n + m) cap e))
        (w.drew.alloc (.cells (olds.toArray ++ news.toArray ++ Builtin.zeroCells z.cells (grownCap w (n + m) cap e - (n + m))) e))
theorem Mem.apps {P : Program} {cs : List Chunk} {w : World} (h : Mem cs w) (i : Nat) {e : TypeId} {size n : Nat} {v : Value} {xs : List Value} (hi : cs[i]? = some (rowC e size v n xs)) {ts : Array TypeId} {ty : TypeId} {z src : Value} {m : Nat} {news : List Value}
    (A : Apps P ts ty e size z src n m news w) (hzs : z.cells.size = size) (h63 : n + m ≤ maxLen) :
    ∃ v' w', (Builtin.append_ ts ty #[v, src]).run P w = .ok v' w' ∧ Mem (cs.set i (rowC e size v' (n + m) (xs ++ news))) w' := by
  have hown := h.owns i hi
  have hlen : (xs ++ news).length = (n + m) * size := by rw [List.length_append, hown.1, A.len, Nat.add_mul]
  have grown : ∀ (old : Nat), old < n + m → Mem (cs.set i (rowC e size (.slice (some ⟨w.heap.size, 0, Option.none⟩) (n + m) (grownCap w (n + m) old e)) (n + m) (xs ++ news))) (w.drew.alloc (.cells (xs.toArray ++ news.toArray ++ Builtin.zeroCells z.cells (grownCap w (n + m) old e - (n + m))) e)) := by
    intro old ho
    have hge := grownCap_ge w (n + m) old e
    have hcm : grownCap w (n + m) old e ≤ maxLen := grownCap_le_maxLen w (n + m) old e h63
    refine h.step i hi (fun S hS hlt => ⟨(fr_below _ (drewN_below w 1)).trans (fr_below S (below_alloc w.drew _)) (fun _ _ h => h), fun k => k = w.heap.size, ⟨fun g hg => by cases hg; rfl, hlen, .inr ⟨_, _, _, rfl, ⟨e, (0, 0), (fun x hx => by cases hx; rfl), show (w.heap.push _)[w.heap.size]? = _ from Array.getElem?_push_size, noFz_none _⟩, hge, hcm, ?_, ?_⟩⟩, fun k hk => ⟨.inr (by rw [hk]; exact Nat.le_refl _), by rw [hk]; simp⟩⟩)
    · simp only [Array.size_append, List.size_toArray, Builtin.zeroCells, Array.size_map, Array.size_range, hzs, hown.1, A.len, ← Nat.add_mul]
      congr 1
      omega
    · simp only [Array.toList_append, List.append_assoc]
      rw [← List.append_assoc, ← hlen]
      exact List.take_left
  rcases hown.2 with ⟨hv, hn⟩ | ⟨g, cap, cur, hv, hb, hnc, hcm, hcs, htake⟩
  · subst hv
    subst hn
    have hx : xs = [] := List.length_eq_zero_iff.1 (by simpa using hown.1)
    subst hx
    by_cases hm : m = 0
    · subst hm
      have hnn : news = [] := List.length_eq_zero_iff.1 (by simpa using A.len)
      subst hnn
      refine ⟨_, w, A.nil0 rfl, ?_⟩
      have : cs.set i (rowC e size (.slice Option.none 0 0) (0 + 0) ([] ++ [])) = cs := by
        obtain ⟨hil, he⟩ := List.getElem?_eq_some_iff.1 hi
        exact (congrArg (cs.set i) he.symm).trans (List.set_getElem_self hil)
      rw [this]; exact h
    · have hg := grown 0 (by omega)
      simp only [Nat.zero_add, List.nil_append, Array.empty_append] at hg ⊢
      exact ⟨_, _, A.nil rfl (by omega), hg⟩
  · subst hv
    by_cases hroom : n + m ≤ cap
    · obtain ⟨w', h4, h2, h3⟩ := run_storeCells P news (n * size) 0 cur w hb (by rw [A.len, hcs, Nat.add_zero, ← Nat.add_mul]; exact Nat.mul_le_mul_right _ hroom) A.one
      refine ⟨_, _, A.room g cap w' hroom h4, h.step i hi (fun S hS hlt => ⟨h2.mono (fun k _ e => by rw [e]; exact hS.1 g rfl), fun k => k = g, ⟨fun g' hg => by cases hg; rfl, hlen, .inr ⟨g, cap, _, rfl, h3, hroom, hcm, ?_, ?_⟩⟩, fun k hk => ⟨.inl (by rw [hk]; exact hS.1 g rfl), by rw [hk]; exact h3.lt⟩⟩)⟩
      · have : n * size + news.length ≤ cur.size := by rw [A.len, hcs, ← Nat.add_mul]; exact Nat.mul_le_mul_right _ hroom
        unfold over
        simp [List.length_take]
        omega
      · unfold over
        rw [Nat.add_zero, htake, ← hlen]
        exact List.take_left
    · have holds : ∀ (j : Nat) v, xs[j]? = some v → w.cell? ((Addr.mk g 0 none).add j) = some v := fun j v hj => by
        have ha : (Addr.mk g 0 none).add j = ⟨g, j, Option.none⟩ := by
          unfold Addr.add
          split
          · rename_i e; subst e; rfl
          · simp
        rw [ha]
        refine hb.cell j ?_
        have hjl := (List.getElem?_eq_some_iff.1 hj).1
        rw [← htake, List.getElem?_take_of_lt (by rw [← hown.1]; exact hjl)] at hj
        simpa using hj
      exact ⟨_, _, A.grow g cap xs hown.1 holds hnc (by omega), grown cap (by omega)⟩
theorem apps_slice {P : Program} {w : World} (t ty e : TypeId) (size bytes n : Nat) (z : Value) (ht : P.underlying t = some (.slice e)) (hinfo : (P.info? e).map (fun i => (i.zero, i.size, i.bytes)) = some (some z, size, bytes)) (hzs : z.cells.size = size) (hsz : 0 < size)
    (ad : Addr) (m c : Nat) (news : List Value) (hr : Row w (some ad) news) (hl : news.length = m * size) (h1 : ∀ u ∈ news, u.oneCell' = true) (h63 : n + m ≤ maxLen) (hbytes : (n + m) * bytes ≤ 140737488355328) :
    Apps P #[t, t] ty e size z (.slice (some ad) m c) n m news w := by
  obtain ⟨i, hi, hz, hz1, hz2⟩ := info_parts hinfo
  subst hz1
  subst hz2
  have hsmall : n + m ≤ 9223372036854775807 := by simp only [maxLen] at h63; omega
  have hnews : ∀ (j : Nat) u, news[j]? = some u → w.cell? (ad.add j) = some u := by
    intro j u hj
    have hjl := (List.getElem?_eq_some_iff.1 hj).1
    obtain ⟨b, off, hab, hcell⟩ := hr j hjl
    cases hab
    have : (Addr.add ⟨b, off, none⟩ j) = ⟨b, off + j, none⟩ := by
      unfold Addr.add
      split
      · rename_i h; subst h; rfl
      · rfl
    rw [this, hcell, List.getD_eq_getElem?_getD, hj]; rfl
  have hf := run_firstCells_some (P := P) w i.size m ad m c news hl hnews
  refine ⟨hl, List.all_eq_true.2 h1, fun hm => ?_, fun hn hm => ?_, fun g cap w' hroom hst => ?_, fun g cap olds hlo holds hnc hgr => ?_⟩
  · subst hm
    have hn : news = [] := List.eq_nil_of_length_eq_zero (by simpa using hl)
    subst hn
    simp [Builtin.append_, run_underlying ht, sizeOf, typeInfo, hi, Builtin.lenOf, Builtin.firstCells, loadCells, loadCellsFrom]
  · subst hn
    exact run_append_nil (P := P) w t ty e i z ht hi hz ad m c news hl hnews hm (by omega) (by have hb := hbytes; simp only [Nat.zero_add] at hb; omega)
  · simp [Builtin.append_, run_underlying ht, sizeOf, typeInfo, hi, Builtin.lenOf, hroom, hf, Addr.add_lit, hst]
  · have hnc2 : Builtin.nextslicecap (n + m) cap * i.bytes ≤ 281474976710656 := by
      have h2 := nextslicecap_le (need := n + m) (old := cap) (by omega)
      have h3 : Builtin.nextslicecap (n + m) cap * i.bytes ≤ 2 * (n + m) * i.bytes := Nat.mul_le_mul_right _ h2
      have h4 : 2 * (n + m) * i.bytes = 2 * ((n + m) * i.bytes) := Nat.mul_assoc _ _ _
      omega
    exact run_append_grow (P := P) w t ty e i z ht hi hz ⟨g, 0, none⟩ n cap olds hlo holds ad m c news hl hnews hgr (by omega) hnc2
theorem Mem.append {P : Program} {cs : List Chunk} {w : World} (h : Mem cs w) (i : Nat) {e : TypeId} {size n : Nat} {v : Value} {xs : List Value} (hi : cs[i]? = some (rowC e size v n xs)) (t : TypeId) (bytes : Nat) (z : Value)
    (ht : P.underlying t = some (.slice e)) (hinfo : (P.info? e).map (fun i => (i.zero, i.size, i.bytes)) = some (some z, size, bytes)) (hzs : z.cells.size = size) (hsz : 0 < size)
    (ad : Addr) (m c : Nat) (news : List Value) (hr : Row w (some ad) news) (hl : news.length = m * size) (h1 : ∀ u ∈ news, u.oneCell' = true) (h63 : n + m ≤ maxLen) (hbytes : (n + m) * bytes ≤ 140737488355328) :
    ∃ v' w', (Builtin.append_ #[t, t] t #[v, .slice (some ad) m c]).run P w = .ok v' w' ∧ Mem (cs.set i (rowC e size v' (n + m) (xs ++ news))) w' :=
  h.apps i hi (apps_slice t t e size bytes n z ht hinfo hzs hsz ad m c news hr hl h1 h63 hbytes) hzs h63
end Go.Vc
