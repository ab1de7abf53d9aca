/- Flow2, Vc, RowAt, Arg. -/
import Derived.Test.YtdnaegleifhmgaaGreatM6661197
import Derived.Test.YtdnaegleifhmgaaGreatM642530e
import Derived.Maps.AppendAt
import Derived.Laws.OwnMore
import Derived.Deep.Slices
set_option maxRecDepth 100000
set_option linter.unusedVariables false
set_option linter.unusedSimpArgs false
set_option linter.unusedSectionVars false
section
namespace Go.Tk
open Go.RowKit
def ssaB2 (ops : Array Oper) (sz : Nat) (ticks : List Nat) (anc : List (List Nat)) (lo hi : List Nat) : Bool :=
  (List.range ops.size).all (fun i => match ops[i]? with
    | none => true
    | some o => o.after.all (fun e => !Region.binds .any e || decide (e.on < i)) &&
      (List.range ops.size).all (fun j => match (ops[j]?).bind (·.dst) with
        | none => true
        | some d => decide (d < sz) && (i == j || o.dst != some d) && (!(o.looksAt ops).contains d || o.after.any (fun e => Region.binds .any e && e.on == j) || (anc.getD j []).contains i)) &&
      (anc.getD i []).all (fun x => o.after.any (fun e => Region.binds .any e && (e.on == x || (anc.getD e.on []).contains x))) &&
      (List.range (lo.getD i 0)).all (fun j => decide (j < ticks.length) && (anc.getD i []).contains (ticks.getD j 0)) &&
      (List.range ticks.length).all (fun j => decide (j < hi.getD i 0) || ticks.getD j 0 == i || (anc.getD (ticks.getD j 0) []).contains i)) &&
  (List.range ticks.length).all (fun p => lo.getD (ticks.getD p 0) 0 == p && hi.getD (ticks.getD p 0) 0 == p && decide (ticks.getD p 0 < ops.size))
structure SsaC2 (ops : Array Oper) (sz : Nat) (ticks : List Nat) (anc : List (List Nat)) (lo hi : List Nat) : Prop where
  back : ∀ (i : Nat) (o : Oper), ops[i]? = some o → ∀ e ∈ o.after, Region.binds .any e = true → e.on < i
  room : ∀ (j : Nat) (oj : Oper) (d : Nat), ops[j]? = some oj → oj.dst = some d → d < sz
  once : ∀ (i : Nat) (o : Oper) (j : Nat) (oj : Oper) (d : Nat), ops[i]? = some o → ops[j]? = some oj → oj.dst = some d → o.dst = some d → i = j
  dep : ∀ (i : Nat) (o : Oper) (j : Nat) (oj : Oper) (d : Nat), ops[i]? = some o → ops[j]? = some oj → oj.dst = some d → d ∈ o.looksAt ops → (∃ e ∈ o.after, Region.binds .any e = true ∧ e.on = j) ∨ i ∈ anc.getD j []
  up : ∀ (i : Nat) (o : Oper), ops[i]? = some o → ∀ x ∈ anc.getD i [], ∃ e ∈ o.after, Region.binds .any e = true ∧ (e.on = x ∨ x ∈ anc.getD e.on [])
  low : ∀ (i : Nat) (o : Oper), ops[i]? = some o → ∀ j, j < lo.getD i 0 → ∃ t, ticks[j]? = some t ∧ t ∈ anc.getD i []
  high : ∀ (i : Nat) (o : Oper), ops[i]? = some o → ∀ j t, ticks[j]? = some t → j < hi.getD i 0 ∨ t = i ∨ i ∈ anc.getD t []
  tick : ∀ (p t : Nat), ticks[p]? = some t → lo.getD t 0 = p ∧ hi.getD t 0 = p ∧ t < ops.size
theorem ssaC2 {ops : Array Oper} {sz : Nat} {ticks : List Nat} {anc : List (List Nat)} {lo hi : List Nat} (h : ssaB2 ops sz ticks anc lo hi = true) : SsaC2 ops sz ticks anc lo hi := by
  unfold ssaB2 at h
  rw [Bool.and_eq_true, List.all_eq_true, List.all_eq_true] at h
  obtain ⟨h1, h2⟩ := h
  have hop : ∀ (i : Nat) (o : Oper), ops[i]? = some o → i < ops.size := fun i o h => (Array.getElem?_eq_some_iff.1 h).1
  have H := fun (i : Nat) (o : Oper) (ho : ops[i]? = some o) => by
    have := h1 i (List.mem_range.2 (hop i o ho))
    rw [ho] at this
    simp only [Bool.and_eq_true] at this
    exact this
  have hg : ∀ (p : Nat) (t : Nat), ticks[p]? = some t → p < ticks.length ∧ ticks.getD p 0 = t := fun p t h => by
    obtain ⟨hl, _⟩ := List.getElem?_eq_some_iff.1 h
    exact ⟨hl, by rw [List.getD_eq_getElem?_getD, h]; rfl⟩
  refine ⟨fun i o ho e he hb => ?_, fun j oj d ho hd => ?_, fun i o j oj d hi hj hd hdo => ?_, fun i o j oj d hi hj hd hm => ?_, fun i o ho x hx => ?_, fun i o ho j hj => ?_, fun i o ho j t ht => ?_, fun p t ht => ?_⟩
  · have := Array.all_eq_true_iff_forall_mem.1 (H i o ho).1.1.1.1 e he
    rw [hb] at this
    simpa using this
  · have := List.all_eq_true.1 (H j oj ho).1.1.1.2 j (List.mem_range.2 (hop j oj ho))
    rw [ho] at this
    simp only [Option.bind_some, hd, Bool.and_eq_true] at this
    exact of_decide_eq_true this.1.1
  · have := List.all_eq_true.1 (H i o hi).1.1.1.2 j (List.mem_range.2 (hop j oj hj))
    rw [hj] at this
    simp only [Option.bind_some, hd, Bool.and_eq_true] at this
    have := this.1.2
    simpa [hdo] using this
  · have := List.all_eq_true.1 (H i o hi).1.1.1.2 j (List.mem_range.2 (hop j oj hj))
    rw [hj] at this
    simp only [Option.bind_some, hd, Bool.and_eq_true] at this
    have := this.2
    rw [List.contains_iff_mem.2 hm] at this
    simp only [Bool.not_true, Bool.false_or, Bool.or_eq_true] at this
    rcases this with this | this
    · obtain ⟨e, he, h3⟩ := any_mem this
      rw [Bool.and_eq_true] at h3
      exact .inl ⟨e, he, h3.1, by simpa using h3.2⟩
    · exact .inr (List.contains_iff_mem.1 this)
  · have := List.all_eq_true.1 (H i o ho).1.1.2 x hx
    obtain ⟨e, he, h3⟩ := any_mem this
    rw [Bool.and_eq_true, Bool.or_eq_true] at h3
    exact ⟨e, he, h3.1, h3.2.imp (by simp) (by simp)⟩
  · have := List.all_eq_true.1 (H i o ho).1.2 j (List.mem_range.2 hj)
    rw [Bool.and_eq_true] at this
    have hl : j < ticks.length := of_decide_eq_true this.1
    refine ⟨ticks[j], List.getElem?_eq_getElem hl, ?_⟩
    have h4 := List.contains_iff_mem.1 this.2
    have e4 : ticks.getD j 0 = ticks[j] := by rw [List.getD_eq_getElem?_getD, List.getElem?_eq_getElem hl]; rfl
    rwa [e4] at h4
  · obtain ⟨hl, hq⟩ := hg j t ht
    have := List.all_eq_true.1 (H i o ho).2 j (List.mem_range.2 hl)
    rw [hq] at this
    simp only [Bool.or_eq_true, decide_eq_true_eq, beq_iff_eq, List.contains_iff_mem] at this
    rcases this with (h | h) | h
    · exact .inl h
    · exact .inr (.inl h)
    · exact .inr (.inr h)
  · obtain ⟨hl, hq⟩ := hg p t ht
    have := h2 p (List.mem_range.2 hl)
    rw [hq] at this
    simp only [Bool.and_eq_true, beq_iff_eq, decide_eq_true_eq] at this
    exact ⟨this.1.1, this.1.2, this.2⟩
def backB (ops : Array Oper) (anc : List (List Nat)) (i t : Nat) : Bool := (List.range ops.size).any fun j => ((ops[j]?).bind (·.dst) == some t) && (anc.getD j []).contains i
def guardB2 (ops : Array Oper) : Bool := ops.all fun o => match o.guard with
  | none => true
  | some (g, _) => ((ops[g]?).bind (·.dst)).isSome && o.after.any (fun e => Region.binds .any e && e.on == g)
end Go.Tk
end
section
namespace Go.Vc
open Go.RowKit Go.Tk
abbrev Rv := Nat × Value
def upd (e : Nat → Rv) (k : Nat) (x : Rv) : Nat → Rv := fun r => bif Nat.beq r k then x else e r
def Res (P : Program) (R : Value → World → Prop) : Result Next → Prop
  | .ok (.value u) w' => R u w'
  | .ok .skip w' => R undef w'
  | .ok (.enter f args) w' => Calls P f args w' fun e w'' => ∃ u, e = .returned u ∧ R u w''
  | .ok (.row row args) w' => Rows P row args w' R
  | _ => False
section
variable {P : Program} {R : Value → World → Prop} {w : World} {f : FuncId} {args : Array Value} {v : Value}
end
def want (V : Nat → Value) : Option (Nat × Bool) → Bool
  | none => true
  | some (g, b) => match V g with
    | .bool c => c == b
    | _ => false
structure Ev (l : List Oper) (old : Nat → Nat → Bool) (i : Nat) (V : Nat → Value) (a0 : Act) (ρ : Operand → Value) : Prop where
  c : ∀ v, ρ (.const v) = v
  g : ∀ g, ρ (.global g) = .pointer (some ⟨g, 0, none⟩)
  f : ∀ f, ρ (.func f) = .func (.func f) #[] #[]
  d : ∀ j o d, l[j]? = some o → o.dst = some d → old i d = false → ρ (.tmp d) = V j
  o : ∀ d v, (old i d || l.all fun o => o.dst != some d) = true → a0.tmps[d]? = some v → ρ (.tmp d) = v
def oldB (ops : Array Oper) (anc : List (List Nat)) (old : Nat → Nat → Bool) : Bool :=
  (List.range ops.size).all fun i => match ops[i]? with
    | none => true
    | some o => (o.looksAt ops).all fun t => old i t == backB ops anc i t
end Go.Vc
end
section
namespace Go.Tk
open Go.RowKit Go.Lib
theorem wpList_append_row_at {P : Program} {w : World} {ops : Array Oper} {rest : List Oper} {o : Oper} {a : Act} {Q : Exit → Act → World → Prop} (hgd : o.guard = none) (s x : Operand) (t : TypeId)
    (ho : o.op = .call { callee := .builtin .append, args := #[s, x], argTypes := #[t, t] })
    (base : Nat) (e : TypeId) (z : Value) (size bytes : Nat) (ht : P.underlying t = some (.slice e)) (hinfo : (P.info? e).map (fun i => (i.zero, i.size, i.bytes)) = some (some z, size, bytes))
    (hzs : z.cells.size = size) (hsz : 0 < size)
    (v : Value) (n : Nat) (xs : List Value) (hs : a.eval s = v) (hown : w.ownsRow base e size v n xs)
    (ad : Option Addr) (m c : Nat) (news : List Value) (hx : a.eval x = .slice ad m c) (hc : ad = none → c = 0) (hr : Row w ad news) (hl : news.length = m * size) (h1 : ∀ u ∈ news, u.oneCell' = true)
    (h63 : n + m ≤ maxLen) (hbytes : (n + m) * bytes ≤ 140737488355328) (hbase : base ≤ w.heap.size)
    (h : ∀ v' w', w'.ownsRow base e size v' (n + m) (xs ++ news) → w.grownBy w' v.ownBlock → (v'.ownBlock = v.ownBlock ∨ v'.ownBlock = some w.heap.size) → wpList P ops Q rest (a.put o.dst v') w') : wpList P ops Q (o :: rest) a w := by
  obtain ⟨i0, hi, hz0, hz1, hz2⟩ := info_parts hinfo
  cases ad with
  | none =>
    have hn : news = [] := by
      cases hne : news with
      | nil => rfl
      | cons y r => subst hne; obtain ⟨b, off, h, _⟩ := hr 0 (by simp); cases h
    subst hn
    have hm : m = 0 := by
      rcases Nat.eq_zero_or_pos m with h | h
      · exact h
      · have := Nat.mul_pos h hsz; simp at hl; omega
    subst hm
    have := hc rfl
    subst this
    exact wpList_append_own_none hgd s x t ho base e i0 size ht hi v n xs hs hown hx (h _ _ (by simpa using hown) ⟨rfl, rfl, rfl, Nat.le_refl _, fun _ _ _ => rfl⟩ (.inl rfl))
  | some ad =>
    refine wpList_append_own_at w hgd s x t ho base e i0 z size bytes ht hi hz0 hz1 hz2 hzs hsz v n xs hs hown ad m c news hx hl ?_ h1 h63 hbytes hbase fun v' w' h2 h3 _ h5 => h v' w' h2 h3 h5
    intro j u hj
    have hjl : j < news.length := by
      rcases Nat.lt_or_ge j news.length with h | h
      · exact h
      · simp [List.getElem?_eq_none h] at hj
    obtain ⟨b, off, hab, hcell⟩ := hr j hjl
    cases hab
    have : (Addr.add ⟨b, off, none⟩ j) = ⟨b, off + j, none⟩ := by
      unfold Addr.add
      split
      · rename_i h; subst h; rfl
      · rfl
    rw [this, hcell, List.getD_eq_getElem?_getD, hj]; rfl
def Apart (v u : Value) : Prop := v.ownBlock = none ∨ u.ownBlock = none ∨ v.ownBlock ≠ u.ownBlock
theorem Apart.symm {v u : Value} (h : Apart v u) : Apart u v := by
  rcases h with h | h | h
  · exact .inr (.inl h)
  · exact .inl h
  · exact .inr (.inr (Ne.symm h))
theorem Apart.nil (u : Value) : Apart (.slice none 0 0) u := .inl rfl
section
variable {w w' : World} {base : Nat} {e e' : TypeId} {size size' : Nat} {v v' u : Value} {n m : Nat} {xs ys : List Value}
theorem ownsRow_other (h : w.ownsRow base e size u m ys) (hg : w.grownBy w' v.ownBlock) (ha : Apart v u) : w'.ownsRow base e size u m ys := by
  refine h.kept hg ?_
  rcases ha with ha | ha | ha
  · rw [ha]
    cases hu : u.ownBlock with
    | none => exact .inl rfl
    | some g => exact .inr (by simp)
  · exact .inl ha
  · exact .inr (Ne.symm ha)
theorem apart_grown (hu : w.ownsRow base e size u m ys) (ha : Apart v u) (hat : v'.ownBlock = v.ownBlock ∨ v'.ownBlock = some w.heap.size) : Apart v' u := by
  rcases hat with h | h
  · rcases ha with ha | ha | ha
    · exact .inl (by rw [h]; exact ha)
    · exact .inr (.inl ha)
    · exact .inr (.inr (by rw [h]; exact ha))
  · rcases hu' : u.ownBlock with _ | g
    · exact .inr (.inl hu')
    · refine .inr (.inr ?_)
      have := hu.lt g hu'
      rw [h, hu']; simp; omega
end
theorem ownsRow_below {w w' : World} {base : Nat} {e : TypeId} {size : Nat} {v : Value} {n : Nat} {xs : List Value} (h : w.ownsRow base e size v n xs) (hb : Below w.heap.size w w') : w'.ownsRow base e size v n xs := by
  refine h.kept (row := none) ⟨hb.os, hb.tape, hb.output, hb.size, fun k hk _ => hb.block k hk⟩ ?_
  cases v.ownBlock with
  | none => exact .inl rfl
  | some g => exact .inr (by simp)
theorem ownsRow_set {w : World} {base : Nat} {e : TypeId} {size : Nat} {g n cap : Nat} {xs : List Value} (h : w.ownsRow base e size (.slice (some ⟨g, 0, none⟩) n cap) n xs) (j : Nat) (u : Value) :
    (w.setCell ⟨g, j, none⟩ u).ownsRow base e size (.slice (some ⟨g, 0, none⟩) n cap) n (xs.set j u) := by
  obtain ⟨hl, h | ⟨g', cap', cur, hv, hg, hh, hn, hc, hs, ht⟩⟩ := h
  · simp at h
  · simp only [Value.slice.injEq, Option.some.injEq, Addr.mk.injEq, and_true, true_and] at hv
    obtain ⟨rfl, rfl⟩ := hv
    refine ⟨by rw [List.length_set]; exact hl, .inr ⟨g, cap, cur.setIfInBounds j u, rfl, hg, ?_, hn, hc, by simp [hs], ?_⟩⟩
    · unfold World.setCell
      simp only [Array.getElem?_modify, if_true, hh, Option.map_some]
      rfl
    · rw [Array.toList_setIfInBounds, List.take_set, ht]
end Go.Tk
end
section
namespace Go.Tk
open Go.RowKit Go.Lib Go.Deep
variable {H : Type} {enc : TypeId × Value → H} {P : Program} {w : World} {base : Nat} {spare : Nat → Bool} {held : Bool}
theorem cells?_row {a : Addr} {n : Nat} {cs : List Value} (h : w.cells? base a n = some cs) (hn : 0 < n) : ∃ b off, a = ⟨b, off, none⟩ ∧ cs.length = n ∧ ∀ j, j < n → w.cell? ⟨b, off + j, none⟩ = some (cs.getD j undef) := by
  obtain ⟨_, hl, hc⟩ := World.cells?_some h
  obtain ⟨b, off, spot⟩ := a
  have h0 := hc 0 hn
  have h0' : w.cell? (Addr.add ⟨b, off, spot⟩ 0) = some (cs.getD 0 undef) := by
    rw [h0, List.getD_eq_getElem?_getD]
    cases hcs : cs[0]? with
    | none => rw [List.getElem?_eq_none_iff] at hcs; omega
    | some v => rfl
  have hspot : spot = none := by simpa [Addr.add] using World.cell?_spot h0'
  subst hspot
  refine ⟨b, off, rfl, hl, fun j hj => ?_⟩
  have := hc j hj
  have he : (Addr.add ⟨b, off, none⟩ j) = ⟨b, off + j, none⟩ := by
    unfold Addr.add
    split
    · rename_i h; subst h; rfl
    · rfl
  rw [he] at this
  rw [this, List.getD_eq_getElem?_getD]
  cases hcs : cs[j]? with
  | none => rw [List.getElem?_eq_none_iff] at hcs; omega
  | some v => rfl
theorem flatten_get {size : Nat} (hs : 0 < size) : ∀ (rows : List (List Value)), (∀ r ∈ rows, r.length = size) → ∀ i, i < rows.flatten.length → rows.flatten.getD i undef = (rows.getD (i / size) []).getD (i % size) undef
  | [], _, i, h => by simp at h
  | r :: rs, hr, i, h => by
    have hl := hr r (by simp)
    rw [List.flatten_cons]
    by_cases hi : i < size
    · rw [Nat.div_eq_of_lt hi, Nat.mod_eq_of_lt hi]
      simp only [List.getD_eq_getElem?_getD, List.getElem?_cons_zero, Option.getD_some]
      rw [List.getElem?_append_left (by omega)]
    · have ih := flatten_get hs rs (fun x hx => hr x (by simp [hx])) (i - size) (by rw [List.flatten_cons, List.length_append] at h; omega)
      have e1 : i / size = (i - size) / size + 1 := by rw [Nat.div_eq_sub_div hs (by omega)]
      have e2 : i % size = (i - size) % size := Nat.mod_eq_sub_mod (by omega)
      rw [e1, e2]
      simp only [List.getD_eq_getElem?_getD, List.getElem?_cons_succ] at ih ⊢
      rw [← ih, List.getElem?_append_right (by omega), hl]
theorem flatten_len {size : Nat} : ∀ (rows : List (List Value)), (∀ r ∈ rows, r.length = size) → rows.flatten.length = rows.length * size
  | [], _ => by simp
  | r :: rs, hr => by
    rw [List.flatten_cons, List.length_append, flatten_len rs (fun x hx => hr x (by simp [hx])), hr r (by simp), List.length_cons, Nat.add_mul]; omega
theorem slice_rows {t e : TypeId} {fuel size : Nat} {v : Value} {x : DataW H × List MemPlace} (Q : List Value → Prop) (ht : P.underlying t = some (.slice e)) (hsz : P.cellsOf e = size) (hs : 0 < size)
    (hQ : ∀ n cs y, cs.length = size → DataW.trod enc P w base spare held n e cs = some y → Q cs) (h : DataW.trod enc P w base spare held fuel t [v] = some x) :
    ∃ (a : Option Addr) (len cap : Nat) (rows : List (List Value)), v = .slice a len cap ∧ rows.length = len ∧ (∀ r ∈ rows, r.length = size ∧ Q r) ∧ Row w a rows.flatten ∧ (a = none → cap = 0) ∧ len ≤ maxLen ∧ len ≤ cap := by
  rcases open_slice ht h with ⟨hcs, _⟩ | ⟨a, len, cap, m, n, D, Pl, hcs, hb, hl, hm, hmm, _, hx⟩
  · simp only [List.cons.injEq, and_true] at hcs
    exact ⟨none, 0, 0, [], hcs, rfl, by simp, Row.nil, fun _ => rfl, Nat.zero_le _, Nat.le_refl _⟩
  · simp only [List.cons.injEq, and_true] at hcs
    have hle : len ≤ m := by rw [hmm]; split <;> omega
    rw [hsz] at hx
    obtain ⟨V, hV⟩ := choose_lt (α := List Value) (p := fun i cs => w.cells? base (a.add (i * size)) size = some cs ∧ DataW.trod enc P w base spare held n e cs = some (D i, Pl i)) hx
    have hlen : ∀ i, i < m → (V i).length = size := fun i hi => by
      obtain ⟨_, _, _, h1, _⟩ := cells?_row (hV i hi).1 hs; exact h1
    refine ⟨some a, len, cap, (List.range len).map V, hcs, by simp, ?_, ?_, by simp, Nat.le_trans hl hm, hl⟩
    · intro r hr
      obtain ⟨i, hi, rfl⟩ := List.mem_map.1 hr
      have hi' : i < len := by simpa using hi
      exact ⟨hlen i (by omega), hQ _ _ _ (hlen i (by omega)) (hV i (by omega)).2⟩
    · have hrows : ∀ r ∈ (List.range len).map V, r.length = size := by
        intro r hr
        obtain ⟨i, hi, rfl⟩ := List.mem_map.1 hr
        exact hlen i (by have : i < len := by simpa using hi
                         omega)
      intro i hi
      have hi2 := hi
      rw [flatten_len _ hrows] at hi2
      simp only [List.length_map, List.length_range] at hi2
      have hq : i / size < len := (Nat.div_lt_iff_lt_mul hs).2 hi2
      have hqm : i / size < m := Nat.lt_of_lt_of_le hq hle
      rw [flatten_get hs _ hrows i hi]
      obtain ⟨b, off, hab, _, hc⟩ := cells?_row (hV (i / size) hqm).1 hs
      have h00 : 0 < len := Nat.lt_of_le_of_lt (Nat.zero_le _) hq
      obtain ⟨b0, off0, hab0, _, _⟩ := cells?_row (hV 0 (Nat.lt_of_lt_of_le h00 hle)).1 hs
      have ha0 : a = ⟨b0, off0, none⟩ := by
        rw [← hab0]; simp [Addr.add]
      subst ha0
      have hmod := Nat.mod_lt i hs
      have hdm := Nat.div_add_mod i size
      refine ⟨b0, off0, rfl, ?_⟩
      have hadd : (Addr.add ⟨b0, off0, none⟩ (i / size * size)) = ⟨b0, off0 + i / size * size, none⟩ := by
        unfold Addr.add
        split
        · rename_i h0; rw [h0]; rfl
        · rfl
      rw [hadd] at hab
      cases hab
      have := hc (i % size) hmod
      have e : off0 + i / size * size + i % size = off0 + i := by rw [Nat.mul_comm]; omega
      rw [e] at this
      rw [this]
      simp [List.getD_eq_getElem?_getD, hq]
theorem struct_fields {t : TypeId} {fs : Array Field} {fuel : Nat} {cs : List Value} {x : DataW H × List MemPlace} (ht : P.underlying t = some (.struct fs)) (h : DataW.trod enc P w base spare held fuel t cs = some x) :
    cs.length = P.cellsOf t ∧ ∃ n, ∀ f ∈ fs.toList, ∃ y, DataW.trod enc P w base spare held n f.type ((cs.drop f.offset).take (P.cellsOf f.type)) = some y := by
  cases fuel with
  | zero => simp [DataW.trod] at h
  | succ n =>
    have h' := h
    unfold DataW.trod at h'
    rw [ht] at h'
    have key : (if cs.length = P.cellsOf t then (fs.toList.mapM fun f => DataW.trod enc P w base spare held n f.type ((cs.drop f.offset).take (P.cellsOf f.type))).map fun xs => (DataW.agg (xs.map (·.1)), xs.flatMap (·.2)) else none) = some x := by
      rcases cs with _ | ⟨c, _ | ⟨c2, r⟩⟩ <;> simpa using h'
    by_cases hl : cs.length = P.cellsOf t
    · rw [if_pos hl] at key
      obtain ⟨xs, hxs, _⟩ := Option.map_eq_some_iff.1 key
      refine ⟨hl, n, fun f hf => ?_⟩
      obtain ⟨i, hi, hfi⟩ := List.getElem_of_mem hf
      have hg := mapM_some_get hxs i f (by rw [List.getElem?_eq_getElem hi, hfi])
      have hlx := mapM_some_length hxs
      have hi2 : i < xs.length := by omega
      exact ⟨xs[i], by rw [hg, List.getElem?_eq_getElem hi2]⟩
    · rw [if_neg hl] at key; cases key
theorem int_cell {t : TypeId} {k : IntKind} {fuel : Nat} {cs : List Value} {x : DataW H × List MemPlace} (ht : P.underlying t = some (.int k)) (h : DataW.trod enc P w base spare held fuel t cs = some x) :
    ∃ n, cs = [.int k n] ∧ (Lit.int k n).wf = true := by
  obtain ⟨n, h1, _, h2⟩ := DataW.trod_int ht h
  exact ⟨n, h1, h2⟩
theorem string_cell {t : TypeId} {fuel : Nat} {cs : List Value} {x : DataW H × List MemPlace} (ht : P.underlying t = some .string) (h : DataW.trod enc P w base spare held fuel t cs = some x) :
    ∃ s : ByteArray, cs = [.string s] ∧ s.size ≤ maxLen := by
  obtain ⟨n, h1, _, h2⟩ := DataW.trod_string ht h
  exact ⟨n, h1, h2⟩
end Go.Tk
end
