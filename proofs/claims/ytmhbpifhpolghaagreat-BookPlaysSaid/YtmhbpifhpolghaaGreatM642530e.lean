/- Base, Map. -/
import Derived.WalkKit
import Derived.WalkSpells
import Derived.WalkLawsBesides
import Derived.Lib.Hide
import Derived.Laws.AppendOwnNone
import Derived.Maps.Own
import Derived.Maps.OwnOps
import Derived.Maps.OwnSet
import Derived.Maps.RangeRun
import Derived.Maps.RangeWalk
set_option maxRecDepth 100000
set_option linter.unusedVariables false
set_option linter.unusedSimpArgs false
set_option linter.unusedSectionVars false
section
namespace Go.Tk
open Go.RowKit Go.Lib
theorem ret_bool {a b : Bool} (h : a = b) : Ending.returned (.bool a) = .returned (.bool b) := by rw [h]
theorem ret_i {k : IntKind} {a b : Int} (h : a = b) : Ending.returned (.int k a) = .returned (.int k b) := by rw [h]
theorem ret_i2 {k l : IntKind} {a b c d : Int} (h : (a, b) = (c, d)) : Ending.returned (.tuple #[.int k a, .int l b]) = .returned (.tuple #[.int k c, .int l d]) := by
  cases h; rfl
theorem ret_i3 {k l m : IntKind} {a b c a' b' c' : Int} (h1 : a = a') (h2 : b = b') (h3 : c = c') : Ending.returned (.tuple #[.int k a, .int l b, .int m c]) = .returned (.tuple #[.int k a', .int l b', .int m c']) := by
  rw [h1, h2, h3]
theorem bt {A B C : World} (h : Below A.heap.size A B) (k : Below B.heap.size B C) : Below A.heap.size A C := h.trans (k.mono h.size)
def Row (w : World) (a : Option Addr) (vs : List Value) : Prop :=
  ∀ i, i < vs.length → ∃ b off, a = some ⟨b, off, none⟩ ∧ w.cell? ⟨b, off + i, none⟩ = some (vs.getD i undef)
theorem Row.nil {w : World} {a : Option Addr} : Row w a [] := fun i hi => by simp at hi
theorem Row.int {k : IntKind} {w : World} {a : Option Addr} {xs : List Int} (h : Row w a (xs.map (.int k))) (i : Nat) (hi : i < xs.length) :
    ∃ b off, a = some ⟨b, off, none⟩ ∧ w.cell? ⟨b, off + i, none⟩ = some (.int k (xs.getD i 0)) := by
  obtain ⟨b, off, ha, hc⟩ := h i (by simpa using hi)
  refine ⟨b, off, ha, ?_⟩
  rw [hc]; simp [List.getD_eq_getElem?_getD, hi]
theorem row_new {w : World} {n : Nat} {vs : List Value} {E : TypeId} {fz : Nat × Nat} (hn : n = w.heap.size) : Row (w.alloc (.cells vs.toArray E fz)) (some ⟨n, 0, none⟩) vs := by
  subst hn
  intro i hi
  refine ⟨_, _, rfl, ?_⟩
  show (match (w.heap.push (.cells vs.toArray E fz))[w.heap.size]? with | some (.cells c _ _) => _ | _ => _) = _
  rw [Array.getElem?_push_size]
  simp [List.getD_eq_getElem?_getD, hi]
theorem row_lit {w : World} {vs : List Value} {E : TypeId} {fz : Nat × Nat} : Row (w.alloc (.cells vs.toArray E fz)) (some ⟨w.heap.size, 0, none⟩) vs := row_new rfl
theorem lt_of_cell {w : World} {b o : Nat} {v : Value} (h : w.cell? ⟨b, o, none⟩ = some v) : b < w.heap.size := by
  unfold World.cell? at h
  rcases Nat.lt_or_ge b w.heap.size with h1 | h1
  · exact h1
  · simp [Array.getElem?_eq_none h1] at h
theorem Row.kept {w w' : World} (h : Below w.heap.size w w') {a : Option Addr} {vs : List Value} (hr : Row w a vs) : Row w' a vs := by
  intro i hi
  obtain ⟨b, off, ha, hc⟩ := hr i hi
  exact ⟨b, off, ha, by rw [h.cell (p := ⟨b, off + i, none⟩) (lt_of_cell hc)]; exact hc⟩
theorem drop_step {xs : List Int} {k : Nat} (h : k < xs.length) : xs.drop k = xs.getD k 0 :: xs.drop (k + 1) := by
  rw [List.drop_eq_getElem_cons h]; simp [List.getD_eq_getElem?_getD, h]
theorem row_of_owns {w : World} {base : Nat} {e : TypeId} {size : Nat} {v : Value} {n : Nat} {xs : List Value} (h : w.ownsRow base e size v n xs) :
    ∃ a cap, v = .slice a n cap ∧ Row w a xs ∧ n ≤ maxLen := by
  obtain ⟨hl, h | ⟨g, cap, cur, hv, hg, hh, hn, hc, hs, ht⟩⟩ := h
  · obtain ⟨rfl, rfl⟩ := h
    have : xs = [] := List.length_eq_zero_iff.1 (by simpa using hl)
    subst this
    exact ⟨none, 0, rfl, Row.nil, Nat.zero_le _⟩
  · refine ⟨_, cap, hv, ?_, Nat.le_trans hn hc⟩
    intro i hi
    refine ⟨g, 0, rfl, ?_⟩
    have hlt : i < n * size := by omega
    have : cur[0 + i]? = some (xs.getD i undef) := by
      rw [← ht]
      simp only [Nat.zero_add]
      rw [← Array.getElem?_toList, List.getD_eq_getElem?_getD, List.getElem?_take_of_lt hlt]
      have : i < cur.toList.length := by
        have := congrArg List.length ht
        rw [List.length_take] at this; omega
      simp [List.getElem?_eq_getElem this]
    unfold World.cell?
    simp only [hh]
    simpa using this
def IsRow (k : IntKind) (w : World) (a : Option Addr) (len cap : Nat) (zs : List Int) : Prop :=
  (a = none ∧ len = 0 ∧ cap = 0 ∧ zs = []) ∨
  ∃ x, a = some x ∧ len ≤ cap ∧ cap ≤ maxLen ∧ zs.length = cap ∧ (∀ i, i < zs.length → w.cell? (x.add i) = some (.int k (zs.getD i 0))) ∧ ∀ n ∈ zs, (Lit.int k n).wf = true
theorem IsRow.row {k : IntKind} {w : World} {a : Option Addr} {len cap : Nat} {zs : List Int} (h : IsRow k w a len cap zs) :
    ∃ xs : List Int, xs.length = len ∧ Row w a (xs.map (.int k)) ∧ len ≤ maxLen ∧ (a = none → cap = 0) ∧ ∀ n ∈ xs, (Lit.int k n).wf = true := by
  rcases h with ⟨rfl, rfl, rfl, rfl⟩ | ⟨x, rfl, hl, hm, hz, hcell, hwz⟩
  · exact ⟨[], rfl, Row.nil, Nat.zero_le _, fun _ => rfl, by simp⟩
  · refine ⟨zs.take len, by simp [hz]; omega, ?_, Nat.le_trans hl hm, by simp, fun n hn => hwz n (List.mem_of_mem_take hn)⟩
    intro i hi
    simp only [List.length_map, List.length_take] at hi
    obtain ⟨b, off, spot⟩ := x
    have h0 := hcell 0 (by omega)
    have hspot : spot = none := by simpa [Addr.add] using World.cell?_spot h0
    subst hspot
    have hc := hcell i (by omega)
    have : (Addr.add ⟨b, off, none⟩ i) = ⟨b, off + i, none⟩ := by
      unfold Addr.add
      split
      · rename_i h; subst h; rfl
      · rfl
    rw [this] at hc
    refine ⟨b, off, rfl, ?_⟩
    have hlen : i < zs.length := by omega
    rw [hc]
    simp [List.getD_eq_getElem?_getD, hlen, show i < len by omega]
end Go.Tk
end
section
namespace Go.Tk
open Go.RowKit Go.Lib Go.Maps
open Go.ChangeMaps (setBlock heap_setBlock_same)
structure KeyKind (P : Program) (k : TypeId) (κ : Type) where
  kv : κ → Value
  ok : κ → Prop
  inj : ∀ {x y : κ}, kv x = kv y → x = y
  keyed : Keyed P k
  reads : ∀ {x : κ}, ok x → ∃ l, keyOf P k (kv x) = some l
variable {P : Program} {k : TypeId} {κ : Type} [DecidableEq κ]
def lk (L : List (κ × Value)) (x : κ) : Option Value := (L.find? (fun p => decide (p.1 = x))).map (·.2)
def putL (L : List (κ × Value)) (x : κ) (v : Value) : List (κ × Value) := (x, v) :: L.filter (fun p => !decide (p.1 = x))
def MapAt (K : KeyKind P k κ) (w : World) (b : Nat) (L : List (κ × Value)) : Prop :=
  ∃ es clock, w.heap[b]? = some (.map es clock) ∧ (es.toList.map fun e => (e.key, e.val)).Perm (L.map fun p => (K.kv p.1, p.2)) ∧
    (L.map (·.1)).Nodup ∧ (∀ p ∈ L, K.ok p.1) ∧ (es.toList.map (·.born)).Nodup ∧ ∀ e ∈ es.toList, e.born < clock
omit [DecidableEq κ] in
theorem MapAt.lt {K : KeyKind P k κ} {w : World} {b : Nat} {L : List (κ × Value)} (h : MapAt K w b L) : b < w.heap.size := by
  obtain ⟨es, clock, hb, _⟩ := h
  exact (Array.getElem?_eq_some_iff.1 hb).1
omit [DecidableEq κ] in
theorem MapAt.same {K : KeyKind P k κ} {w w' : World} {b : Nat} {L : List (κ × Value)} (h : MapAt K w b L) (hb : w'.heap[b]? = w.heap[b]?) : MapAt K w' b L := by
  obtain ⟨es, clock, h1, r⟩ := h
  exact ⟨es, clock, hb.trans h1, r⟩
omit [DecidableEq κ] in
theorem MapAt.kept {K : KeyKind P k κ} {w w' : World} {b : Nat} {L : List (κ × Value)} (h : MapAt K w b L) (hb : Below w.heap.size w w') : MapAt K w' b L :=
  h.same (hb.block b h.lt)
omit [DecidableEq κ] in
theorem MapAt.made (K : KeyKind P k κ) (w : World) : MapAt K (w.alloc (.map #[] 0)) w.heap.size [] :=
  ⟨#[], 0, (MapKept.heap_alloc w _).1, by simp, by simp, by simp, by simp, by simp⟩
omit [DecidableEq κ] in
theorem MapAt.perm {K : KeyKind P k κ} {w : World} {b : Nat} {L L' : List (κ × Value)} (h : MapAt K w b L) (hp : L.Perm L') : MapAt K w b L' := by
  obtain ⟨es, clock, h1, h2, h3, h4, h5⟩ := h
  exact ⟨es, clock, h1, h2.trans (hp.map _), (hp.map _).nodup_iff.1 h3, fun p hp' => h4 p (hp.mem_iff.2 hp'), h5⟩
omit [DecidableEq κ] in
theorem perm_of_nodup : ∀ {es : List MapEntry} {kv : κ → Value} {L : List (κ × Value)}, (es.map fun e => (e.key, e.val)).Perm (L.map fun p => (kv p.1, p.2)) → ∀ e ∈ es, ∃ p ∈ L, e.key = kv p.1 ∧ e.val = p.2 := by
  intro es kv L h e he
  have h1 : (e.key, e.val) ∈ es.map fun e => (e.key, e.val) := List.mem_map_of_mem (f := fun e : MapEntry => (e.key, e.val)) he
  have h2 := h.mem_iff.1 h1
  obtain ⟨p, hp, hpe⟩ := List.mem_map.1 h2
  simp only [Prod.mk.injEq] at hpe
  exact ⟨p, hp, hpe.1.symm, hpe.2.symm⟩
omit [DecidableEq κ] in
theorem nodup_eq {L : List (κ × Value)} (h : (L.map (·.1)).Nodup) {p q : κ × Value} (hp : p ∈ L) (hq : q ∈ L) (he : p.1 = q.1) : p = q := by
  induction L with
  | nil => simp at hp
  | cons x r ih =>
    simp only [List.map_cons, List.nodup_cons] at h
    rcases List.mem_cons.1 hp with h1 | h1 <;> rcases List.mem_cons.1 hq with h2 | h2
    · rw [h1, h2]
    · exact absurd (List.mem_map_of_mem (f := (·.1)) h2) (by show q.1 ∉ _; rw [← he, h1]; exact h.1)
    · exact absurd (List.mem_map_of_mem (f := (·.1)) h1) (by show p.1 ∉ _; rw [he, h2]; exact h.1)
    · exact ih h.2 h1 h2
theorem lk_some {L : List (κ × Value)} (h : (L.map (·.1)).Nodup) {x : κ} {v : Value} : lk L x = some v ↔ (x, v) ∈ L := by
  unfold lk
  constructor
  · intro h1
    obtain ⟨p, hp, hv⟩ := Option.map_eq_some_iff.1 h1
    have h2 := List.mem_of_find?_eq_some hp
    have h3 := List.find?_some hp
    simp only [decide_eq_true_eq] at h3
    obtain ⟨a, b⟩ := p
    simp only at h3 hv
    subst h3; subst hv; exact h2
  · intro h1
    cases hf : L.find? (fun p => decide (p.1 = x)) with
    | none => have := List.find?_eq_none.1 hf _ h1; simp at this
    | some p =>
      have h2 := List.mem_of_find?_eq_some hf
      have h3 := List.find?_some hf
      simp only [decide_eq_true_eq] at h3
      rw [nodup_eq h h2 h1 h3]; rfl
theorem lk_none {L : List (κ × Value)} {x : κ} : lk L x = none ↔ ∀ p ∈ L, p.1 ≠ x := by
  unfold lk
  rw [Option.map_eq_none_iff, List.find?_eq_none]
  simp
theorem findKey_at {K : KeyKind P k κ} {w : World} {es : Array MapEntry} {L : List (κ × Value)} (hp : (es.toList.map fun e => (e.key, e.val)).Perm (L.map fun p => (K.kv p.1, p.2)))
    (hnd : (L.map (·.1)).Nodup) (hok : ∀ p ∈ L, K.ok p.1) {x : κ} (hx : K.ok x) :
    ((Instr.findKey k (K.kv x) es.toList).run P w = .ok none w ∧ lk L x = none ∧ ∀ e ∈ es.toList, e.key ≠ K.kv x) ∨
    ∃ j e, (Instr.findKey k (K.kv x) es.toList).run P w = .ok (some (j, e.val)) w ∧ es.toList[j]? = some e ∧ e.key = K.kv x ∧ lk L x = some e.val := by
  obtain ⟨lx, hlx⟩ := K.reads hx
  have hk : ∀ e ∈ es.toList, ∃ l, keyOf P k e.key = some l := by
    intro e he
    obtain ⟨p, hpL, hkey, _⟩ := perm_of_nodup hp e he
    rw [hkey]; exact K.reads (hok p hpL)
  rcases K.keyed.find w hlx es.toList hk with ⟨hrun, hno⟩ | ⟨j, e, hrun, hj, hkey⟩
  · refine .inl ⟨hrun, lk_none.2 ?_, hno⟩
    intro p hpL hpx
    have h1 : (K.kv p.1, p.2) ∈ L.map fun p => (K.kv p.1, p.2) := List.mem_map_of_mem (f := fun p : κ × Value => (K.kv p.1, p.2)) hpL
    obtain ⟨e, he, hee⟩ := List.mem_map.1 (hp.mem_iff.2 h1)
    simp only [Prod.mk.injEq] at hee
    exact hno e he (by rw [hee.1, hpx])
  · refine .inr ⟨j, e, hrun, hj, hkey, ?_⟩
    obtain ⟨p, hpL, h1, h2⟩ := perm_of_nodup hp e (List.mem_of_getElem? hj)
    have : p.1 = x := K.inj (h1.symm.trans hkey)
    rw [lk_some hnd, h2]
    obtain ⟨a, b⟩ := p
    simp only at this
    subst this; exact hpL
theorem MapAt.lookup {K : KeyKind P k κ} {w : World} {b : Nat} {L : List (κ × Value)} (h : MapAt K w b L) {t e : TypeId} (ht : P.underlying t = some (.map k e)) {z : Value} (hz : ∀ w, (zeroValue e).run P w = .ok z w)
    {x : κ} (hx : K.ok x) (c : Bool) :
    (Instr.lookup t (.map (some b)) (K.kv x) c).run P w = .ok (if c then .tuple #[(lk L x).getD z, .bool (lk L x).isSome] else (lk L x).getD z) w := by
  obtain ⟨es, clock, hb, hp, hnd, hok, _⟩ := h
  obtain ⟨lx, hlx⟩ := K.reads hx
  have hchk := K.keyed.check w es.isEmpty hlx
  rcases findKey_at (w := w) hp hnd hok hx with ⟨hrun, hl, _⟩ | ⟨j, e', hrun, hj, hkey, hl⟩
  · simp [Instr.lookup, run_underlying ht, MapKept.run_getObj_map hb, hchk, hrun, hl, hz, Result.andThen]
  · simp [Instr.lookup, run_underlying ht, MapKept.run_getObj_map hb, hchk, hrun, hl, Result.andThen]
theorem filter_perm : ∀ {L : List (κ × Value)}, (L.map (·.1)).Nodup → ∀ {x : κ} {v : Value}, (x, v) ∈ L → L.Perm ((x, v) :: L.filter (fun p => !decide (p.1 = x)))
  | [], _, _, _, h => by simp at h
  | q :: r, hnd, x, v, h => by
    simp only [List.map_cons, List.nodup_cons] at hnd
    rcases List.mem_cons.1 h with rfl | h
    · have : r.filter (fun p => !decide (p.1 = x)) = r := by
        rw [List.filter_eq_self]
        intro p hp
        have : p.1 ≠ x := fun e => hnd.1 (by rw [← e]; exact List.mem_map_of_mem (f := (·.1)) hp)
        simp [this]
      simp [this]
    · have hne : q.1 ≠ x := fun e => hnd.1 (by rw [e]; exact List.mem_map_of_mem (f := (·.1)) h)
      have := filter_perm hnd.2 h
      rw [List.filter_cons]
      simp only [hne, decide_false, Bool.not_false, if_true]
      exact (this.cons q).trans (List.Perm.swap _ _ _)
theorem putL_nodup {L : List (κ × Value)} (h : (L.map (·.1)).Nodup) (x : κ) (v : Value) : ((putL L x v).map (·.1)).Nodup := by
  unfold putL
  simp only [List.map_cons, List.nodup_cons]
  constructor
  · intro hm
    obtain ⟨p, hp, he⟩ := List.mem_map.1 hm
    have := (List.mem_filter.1 hp).2
    simp [he] at this
  · exact List.Nodup.sublist (List.filter_sublist.map _) h
theorem set_perm' {α : Type} : ∀ {l : List α} {j : Nat} {a b : α}, l[j]? = some a → ∃ r, l.Perm (a :: r) ∧ (l.set j b).Perm (b :: r)
  | [], j, _, _, h => by simp at h
  | x :: l, 0, a, b, h => by
    simp only [List.getElem?_cons_zero, Option.some.injEq] at h
    subst h; exact ⟨l, List.Perm.refl _, List.Perm.refl _⟩
  | x :: l, j + 1, a, b, h => by
    obtain ⟨r, h1, h2⟩ := set_perm' (l := l) (j := j) (a := a) (b := b) (by simpa using h)
    exact ⟨x :: r, (h1.cons x).trans (List.Perm.swap _ _ _), (h2.cons x).trans (List.Perm.swap _ _ _)⟩
theorem MapAt.update {K : KeyKind P k κ} {w : World} {b : Nat} {L : List (κ × Value)} (h : MapAt K w b L) {t e : TypeId} (ht : P.underlying t = some (.map k e)) {x : κ} (hx : K.ok x) (v : Value) :
    ∃ w', (Instr.mapUpdate t (.map (some b)) (K.kv x) v).run P w = .ok () w' ∧ MapAt K w' b (putL L x v) ∧ w.grownBy w' (some b) := by
  obtain ⟨es, clock, hb, hp, hnd, hok, hbn, hbc⟩ := h
  obtain ⟨lx, hlx⟩ := K.reads hx
  have hchk := K.keyed.check w false hlx
  have hst := K.keyed.stays w hlx
  have hgrow : ∀ o, w.grownBy (setBlock w b o) (some b) := fun o =>
    ⟨rfl, rfl, rfl, by simp [setBlock], fun i _ hi => Go.ChangeMaps.heap_setBlock_other hb _ (fun e => hi (by rw [e]))⟩
  have hok' : ∀ p ∈ putL L x v, K.ok p.1 := by
    intro p hp'
    rcases List.mem_cons.1 hp' with rfl | h
    · exact hx
    · exact hok p (List.mem_filter.1 h).1
  rcases findKey_at (w := w) hp hnd hok hx with ⟨hrun, hl, hno⟩ | ⟨j, e', hrun, hj, hkey, hl⟩
  · refine ⟨setBlock w b (.map (es.push ⟨K.kv x, v, clock⟩) (clock + 1)), ?_, ⟨_, _, heap_setBlock_same hb _, ?_, putL_nodup hnd x v, hok', ?_, ?_⟩, hgrow _⟩
    · simp [Instr.mapUpdate, run_underlying ht, MapKept.run_getObj_map hb, hchk, hrun, MapKept.run_setObj_map _ hb, Result.andThen, setBlock]
    · have hf : L.filter (fun p => !decide (p.1 = x)) = L := by
        rw [List.filter_eq_self]
        intro p hp'
        simp [lk_none.1 hl p hp']
      unfold putL
      rw [hf, Array.toList_push, List.map_append, List.map_singleton, List.map_cons]
      exact List.perm_append_comm.trans (hp.cons _)
    · rw [Array.toList_push, List.map_append, List.map_singleton, List.nodup_append]
      refine ⟨hbn, by simp, ?_⟩
      intro a ha c hc
      simp only [List.mem_singleton] at hc
      subst hc
      obtain ⟨e0, he0, rfl⟩ := List.mem_map.1 ha
      exact Nat.ne_of_lt (hbc e0 he0)
    · intro e0 he0
      rw [Array.toList_push] at he0
      rcases List.mem_append.1 he0 with h | h
      · exact Nat.lt_succ_of_lt (hbc e0 h)
      · simp only [List.mem_singleton] at h; subst h; exact Nat.lt_succ_self _
  · have hlt : j < es.size := by
      have := (List.getElem?_eq_some_iff.1 hj).1; simpa using this
    have hje : es[j]? = some e' := by simpa using hj
    have hmod : (es.modify j fun e => { e with key := K.kv x, val := v }) = es.setIfInBounds j { e' with key := K.kv x, val := v } := by
      apply Array.ext_getElem?
      intro i
      rw [Array.getElem?_modify, Array.getElem?_setIfInBounds]
      split
      · rename_i h; subst h; rw [hje]; simp
      · rfl
    have hkey' : ((es[j]?).map (·.key)).getD (K.kv x) = K.kv x := by rw [hje]; exact hkey
    refine ⟨setBlock w b (.map (es.modify j fun e => { e with key := K.kv x, val := v }) clock), ?_, ⟨_, _, heap_setBlock_same hb _, ?_, putL_nodup hnd x v, hok', ?_, ?_⟩, hgrow _⟩
    · simp [Instr.mapUpdate, run_underlying ht, MapKept.run_getObj_map hb, hchk, hrun, MapKept.run_setObj_map _ hb, Result.andThen, setBlock, hkey', hst]
    · rw [hmod, Array.toList_setIfInBounds, List.map_set]
      have hjm : (es.toList.map fun e => (e.key, e.val))[j]? = some (K.kv x, e'.val) := by rw [List.getElem?_map, hj]; simp [hkey]
      obtain ⟨r, h1, h2⟩ := set_perm' (b := (K.kv x, v)) hjm
      have hmem := (lk_some hnd).1 hl
      have h3 := (filter_perm hnd hmem).map fun p => (K.kv p.1, p.2)
      have h4 : r.Perm ((L.filter (fun p => !decide (p.1 = x))).map fun p => (K.kv p.1, p.2)) := List.Perm.cons_inv (h1.symm.trans (hp.trans h3))
      exact h2.trans (h4.cons _)
    · rw [hmod, Array.toList_setIfInBounds, List.map_set]
      have : (es.toList.map (·.born)).set j e'.born = es.toList.map (·.born) := by
        apply List.ext_getElem?
        intro i
        rw [List.getElem?_set]
        split
        · rename_i h; subst h
          rw [List.getElem?_map, hj]; simp [hlt]
        · rfl
      rw [this]; exact hbn
    · intro e0 he0
      rw [hmod, Array.toList_setIfInBounds] at he0
      rcases List.mem_or_eq_of_mem_set he0 with h | rfl
      · exact hbc e0 h
      · exact hbc e' (List.mem_of_getElem? hj)
section
variable {w : World} {ops : Array Oper} {rest : List Oper} {o : Oper} {a : Act} {Q : Exit → Act → World → Prop} {K : KeyKind P k κ} {b : Nat} {L : List (κ × Value)} {e : TypeId}
end
theorem wpAny_inv {ops : Array Oper} {Q : Exit → Act → World → Prop} {md : Region.Mode} (I : Array Bool → Act → World → Prop)
    (hstep : ∀ (listed : Array Bool) (a : Act) (w : World), listed.size = ops.size → I listed a w → ∀ i ∈ Region.ready md ops listed, wpOp P ops Q i (I (listed.setIfInBounds i true)) a w)
    (hend : ∀ (listed : Array Bool) (a : Act) (w : World), listed.size = ops.size → I listed a w → Region.ready md ops listed = [] → Q .normal a w) :
    ∀ (fuel : Nat) (listed : Array Bool) (a : Act) (w : World), listed.size = ops.size → (listed.toList.filter (fun b => !b)).length ≤ fuel → I listed a w → wpAny P md ops Q fuel listed a w
  | 0, listed, a, w, hs, hf, hI => by
    have hall : ∀ i, i < listed.size → listed[i]? = some true := by
      intro i hi
      have h0 : listed.toList.filter (fun b => !b) = [] := List.length_eq_zero_iff.1 (Nat.le_zero.1 hf)
      have h1 := List.filter_eq_nil_iff.1 h0 listed[i] (by simp)
      simp at h1
      rw [Array.getElem?_eq_getElem hi, h1]
    have hr : Region.ready md ops listed = [] := by
      unfold Region.ready
      rw [List.filter_eq_nil_iff]
      intro i hi
      have := hall i (by rw [hs]; simpa using hi)
      simp [this]
    exact ⟨hr, hend listed a w hs hI hr⟩
  | fuel + 1, listed, a, w, hs, hf, hI => by
    refine ⟨fun hr => hend listed a w hs hI hr, fun i hi => ?_⟩
    refine wpOp_mono (fun a' w' h => ?_) (hstep listed a w hs hI i hi)
    refine wpAny_inv I hstep hend fuel _ a' w' (by simpa using hs) ?_ h
    have hm := hi
    unfold Region.ready at hm
    obtain ⟨h1, h2⟩ := List.mem_filter.1 hm
    have hlt : i < listed.size := by rw [hs]; simpa using h1
    have hfalse : listed[i] = false := by
      simp only [Bool.and_eq_true, Bool.not_eq_true'] at h2
      have := h2.1
      simpa [hlt] using this
    rw [Array.toList_setIfInBounds]
    obtain ⟨r, p1, p2⟩ := set_perm' (l := listed.toList) (j := i) (a := false) (b := true) (by simp [hlt, hfalse])
    have q1 := (p1.filter (fun b => !b)).length_eq
    have q2 := (p2.filter (fun b => !b)).length_eq
    simp at q1 q2
    simp only [q2]
    omega
omit k in
theorem tkKeyInt {t : TypeId} {q : IntKind} (h : P.underlying t = some (.int q)) (d : Nat) {a : Int} (ha : (Lit.int q a).wf = true) : P.keyLits (d + 1) t [.int q a] = some [.int q a] := by
  simp [Program.keyLits, h, ha]
theorem tkKeyStruct {t : TypeId} {fs : Array Field} (h : P.underlying t = some (.struct fs)) (d : Nat) (cs : List Value) (hl : cs.length = P.cellsOf t) (hn : fs.all (·.name != "_") = true) :
    P.keyLits (d + 1) t cs = (fs.toList.mapM fun f => P.keyLits d f.type ((cs.drop f.offset).take (P.cellsOf f.type))).map List.flatten := by
  simp only [Program.keyLits, h]
  rw [if_pos ⟨hl, hn⟩]
def Ranging (K : KeyKind P k κ) (w : World) (r b : Nat) (L left : List (κ × Value)) : Prop :=
  ∃ es clock since seen, r ≠ b ∧ w.heap[r]? = some (.mapIter (some b) since seen clock) ∧ w.heap[b]? = some (.map es clock) ∧
    (es.toList.map fun e => (e.key, e.val)).Perm (L.map fun p => (K.kv p.1, p.2)) ∧ (L.map (·.1)).Nodup ∧ (∀ p ∈ L, K.ok p.1) ∧ (es.toList.map (·.born)).Nodup ∧
    (∀ e ∈ es.toList, e.born < clock) ∧ (∀ e ∈ es.toList, e.born < since) ∧ since ≤ clock ∧
    ((leftOf es seen).toList.map fun e => (e.key, e.val)).Perm (left.map fun p => (K.kv p.1, p.2)) ∧ (∀ p ∈ left, p ∈ L)
omit [DecidableEq κ] in
theorem Ranging.map {K : KeyKind P k κ} {w : World} {r b : Nat} {L left : List (κ × Value)} (h : Ranging K w r b L left) : MapAt K w b L := by
  obtain ⟨es, clock, since, seen, _, _, hb, h1, h2, h3, h4, h5, _⟩ := h
  exact ⟨es, clock, hb, h1, h2, h3, h4, h5⟩
omit [DecidableEq κ] in
theorem Ranging.same {K : KeyKind P k κ} {w w' : World} {r b : Nat} {L left : List (κ × Value)} (h : Ranging K w r b L left) (hr : w'.heap[r]? = w.heap[r]?) (hb : w'.heap[b]? = w.heap[b]?) : Ranging K w' r b L left := by
  obtain ⟨es, clock, since, seen, hne, h1, h2, rest⟩ := h
  exact ⟨es, clock, since, seen, hne, hr.trans h1, hb.trans h2, rest⟩
omit [DecidableEq κ] in
theorem Ranging.lt {K : KeyKind P k κ} {w : World} {r b : Nat} {L left : List (κ × Value)} (h : Ranging K w r b L left) : r < w.heap.size ∧ b < w.heap.size := by
  obtain ⟨es, clock, since, seen, hne, h1, h2, rest⟩ := h
  exact ⟨(Array.getElem?_eq_some_iff.1 h1).1, (Array.getElem?_eq_some_iff.1 h2).1⟩
omit [DecidableEq κ] in
theorem Ranging.kept {K : KeyKind P k κ} {w w' : World} {r b : Nat} {L left : List (κ × Value)} (h : Ranging K w r b L left) (hb : Below w.heap.size w w') : Ranging K w' r b L left :=
  h.same (hb.block r h.lt.1) (hb.block b h.lt.2)
omit [DecidableEq κ] in
theorem MapAt.range {K : KeyKind P k κ} {w : World} {b : Nat} {L : List (κ × Value)} (h : MapAt K w b L) {t e : TypeId} (ht : P.underlying t = some (.map k e)) :
    ∃ w', (Instr.range t (.map (some b))).run P w = .ok (.pointer (some ⟨w.heap.size, 0, none⟩)) w' ∧ Ranging K w' w.heap.size b L L ∧ Below w.heap.size w w' := by
  have hlt := h.lt
  obtain ⟨es, clock, hb, h1, h2, h3, h4, h5⟩ := h
  refine ⟨_, run_range_map w t k e b es clock ht hb, ⟨es, clock, clock, #[], by omega, (MapKept.heap_alloc w _).1, ((MapKept.heap_alloc w _).2 b hlt).trans hb, h1, h2, h3, h4, h5, h5, Nat.le_refl _, ?_, fun p hp => hp⟩, (Below.refl _ _).alloc (Nat.le_refl _) _⟩
  have : leftOf es #[] = es := by unfold leftOf; simp
  rw [this]; exact h1
omit [DecidableEq κ] in
theorem leftOf_push {es : Array MapEntry} {seen : Array Nat} {e : MapEntry} (hn : (es.toList.map (·.born)).Nodup) (he : e ∈ (leftOf es seen).toList) :
    (leftOf es seen).toList.Perm (e :: (leftOf es (seen.push e.born)).toList) := by
  unfold leftOf at *
  simp only [Array.toList_filter] at *
  obtain ⟨h1, h2⟩ := List.mem_filter.1 he
  generalize es.toList = l at *
  clear he
  induction l with
  | nil => simp at h1
  | cons x r ih =>
    simp only [List.map_cons, List.nodup_cons] at hn
    rcases List.mem_cons.1 h1 with rfl | h1
    · have hr : r.filter (fun y => !(seen.push e.born).contains y.born) = r.filter (fun y => !seen.contains y.born) := by
        apply List.filter_congr
        intro y hy
        have hne : y.born ≠ e.born := fun e' => hn.1 (by rw [← e']; exact List.mem_map_of_mem (f := (·.born)) hy)
        rw [contains_push]; simp [hne]
      have hc : (seen.push e.born).contains e.born = true := by rw [contains_push]; simp
      rw [List.filter_cons, List.filter_cons, if_pos h2, hc]
      simp only [Bool.not_true, Bool.false_eq_true, if_false]
      rw [hr]
    · have hne : x.born ≠ e.born := fun e' => hn.1 (by rw [e']; exact List.mem_map_of_mem (f := (·.born)) h1)
      have := ih hn.2 h1
      have hc : (seen.push e.born).contains x.born = seen.contains x.born := by rw [contains_push]; simp [hne]
      rw [List.filter_cons, List.filter_cons, hc]
      cases seen.contains x.born
      · simp only [Bool.not_false, if_true]
        exact (this.cons x).trans (List.Perm.swap _ _ _)
      · simpa using this
omit [DecidableEq κ] in
theorem perm_head : ∀ {l : List (κ × Value)} {f : κ × Value → Value × Value} {x : Value × Value} {r : List (Value × Value)}, (x :: r).Perm (l.map f) → ∃ p l', f p = x ∧ l.Perm (p :: l') ∧ r.Perm (l'.map f) := by
  intro l f x r h
  obtain ⟨p, hp, hx⟩ := List.mem_map.1 (h.mem_iff.1 (List.mem_cons_self))
  obtain ⟨s, t, rfl⟩ := List.append_of_mem hp
  refine ⟨p, s ++ t, hx, List.perm_middle, ?_⟩
  have h2 : (x :: r).Perm (x :: (s ++ t).map f) := by
    refine h.trans ?_
    rw [← hx]
    simp only [List.map_append, List.map_cons]
    exact List.perm_middle
  exact List.Perm.cons_inv h2
omit [DecidableEq κ] in
theorem Ranging.next {K : KeyKind P k κ} {w : World} {r b : Nat} {L left : List (κ × Value)} (h : Ranging K w r b L left) (ty : TypeId) :
    (left = [] ∧ (Instr.next (.pointer (some ⟨r, 0, none⟩)) false ty).run P w = .ok (.tuple #[.bool false]) w) ∨
    ∃ p left' w', left.Perm (p :: left') ∧ p ∈ L ∧ (Instr.next (.pointer (some ⟨r, 0, none⟩)) false ty).run P w = .ok (.tuple #[.bool true, K.kv p.1, p.2]) w' ∧ Ranging K w' r b L left' ∧ w.grownBy w' (some r) ∧
      (Instr.entry (.pointer (some ⟨r, 0, none⟩))).run P w' = .ok (.tuple #[K.kv p.1, p.2]) w' := by
  obtain ⟨es, clock, since, seen, hne, hr, hb, h1, h2, h3, h4, h5, h6, h7, h8, h9⟩ := h
  rcases run_next_at w ty r b since clock seen es clock hr hb h6 h7 with ⟨h0, hrun⟩ | ⟨e, he, w1, hw1, hrun⟩
  · left
    refine ⟨?_, hrun⟩
    have : left.length = 0 := by
      have := h8.length_eq
      simp only [List.length_map] at this
      rw [← this]; simpa using h0
    exact List.length_eq_zero_iff.1 this
  · right
    obtain ⟨p, left', hp, hl, hrest⟩ := perm_head (((leftOf_push h4 he).map fun e => (e.key, e.val)).symm.trans h8)
    simp only [Prod.mk.injEq] at hp
    have hw1h : w1.heap = w.heap := by rcases hw1 with rfl | rfl <;> rfl
    have hb1 : (setBlock w1 r (.mapIter (some b) since (seen.push e.born) clock)).heap[b]? = some (.map es clock) := by
      simp only [setBlock, hw1h, Array.getElem?_setIfInBounds]
      rw [if_neg hne]; exact hb
    have hlt := (Array.getElem?_eq_some_iff.1 hr).1
    have hr1 : (setBlock w1 r (.mapIter (some b) since (seen.push e.born) clock)).heap[r]? = some (.mapIter (some b) since (seen.push e.born) clock) := by
      simp [setBlock, hw1h, hlt]
    refine ⟨p, left', _, hl, h9 p (hl.mem_iff.2 (List.mem_cons_self)), ?_, ⟨es, clock, since, _, hne, hr1, hb1, h1, h2, h3, h4, h5, h6, h7, hrest, fun q hq => h9 q (hl.mem_iff.2 (List.mem_cons_of_mem _ hq))⟩, ?_, ?_⟩
    · rw [hrun, hp.1, hp.2]
    · refine ⟨?_, ?_, ?_, by simp [setBlock, hw1h], fun i _ hi => ?_⟩
      · rcases hw1 with rfl | rfl <;> rfl
      · rcases hw1 with rfl | rfl <;> rfl
      · rcases hw1 with rfl | rfl <;> rfl
      · simp only [setBlock, hw1h, Array.getElem?_setIfInBounds]
        rw [if_neg (fun e => hi (by rw [e]))]
    · rw [run_entry_at _ r b since seen es clock e hr1 hb1 (mem_left he).1 h4, hp.1, hp.2]
section
variable {w : World} {ops : Array Oper} {rest : List Oper} {o : Oper} {a : Act} {Q : Exit → Act → World → Prop} {K : KeyKind P k κ} {b : Nat} {L : List (κ × Value)} {e : TypeId}
end
end Go.Tk
end
