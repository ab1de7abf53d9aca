/- RegInv, Ssa, Flow, Flow2, Vc, RowAt. -/
import Derived.Test.YtifapcpcemigdaaGreatM642530e
import Derived.OrdersIn
import Derived.OwnWalkIn
import Derived.Orders
import Derived.Maps.AppendAt
import Derived.Laws.OwnMore
set_option maxRecDepth 100000
set_option linter.unusedVariables false
set_option linter.unusedSimpArgs false
set_option linter.unusedSectionVars false
section
namespace Go.Tk
open Go.RowKit
end Go.Tk
end
section
namespace Go.Tk
open Go.RowKit
def ssaAct (V : Nat → Value) : List Oper → Nat → Act → Act
  | [], _, a => a
  | o :: l, i, a => ssaAct V l (i + 1) (a.put o.dst (V i))
theorem any_mem {α : Type} {l : Array α} {p : α → Bool} (h : l.any p = true) : ∃ e ∈ l, p e = true := by
  obtain ⟨k, hk, h⟩ := Array.any_eq_true.1 h
  exact ⟨l[k], Array.getElem_mem hk, h⟩
theorem ssaAct_old (V : Nat → Value) (d : Nat) : ∀ (l : List Oper) (i : Nat) (a : Act), (∀ o ∈ l, o.dst ≠ some d) → (ssaAct V l i a).tmps[d]? = a.tmps[d]?
  | [], _, _, _ => rfl
  | o :: l, i, a, h => by
    refine (ssaAct_old V d l (i + 1) _ (fun o ho => h o (List.mem_cons_of_mem _ ho))).trans ?_
    have := h o List.mem_cons_self
    cases hd : o.dst with
    | none => rfl
    | some e =>
      have hne : e ≠ d := fun he => this (by rw [hd, he])
      simp [Act.put, Array.getElem?_setIfInBounds_ne hne]
theorem ssaAct_got (V : Nat → Value) : ∀ (l : List Oper) (i : Nat) (a : Act) (j : Nat) (o : Oper) (d : Nat), l[j]? = some o → o.dst = some d → d < a.tmps.size → (∀ j' o', l[j']? = some o' → o'.dst = some d → j' = j) → (ssaAct V l i a).tmps[d]? = some (V (i + j))
  | [], _, _, j, o, d, h, _, _, _ => by simp at h
  | o :: l, i, a, 0, o', d, h, hd, hlt, hu => by
    simp only [List.getElem?_cons_zero, Option.some.injEq] at h
    subst h
    refine (ssaAct_old V d l (i + 1) _ (fun o' ho' e => ?_)).trans ?_
    · obtain ⟨k, hk⟩ := List.getElem?_of_mem ho'
      have := hu (k + 1) o' (by simpa using hk) e
      omega
    · rw [hd]
      simp [Act.put, hlt]
  | o :: l, i, a, j + 1, o', d, h, hd, hlt, hu => by
    have := ssaAct_got V l (i + 1) (a.put o.dst (V i)) j o' d (by simpa using h) hd (by cases o.dst <;> simpa [Act.put] using hlt) (fun j' o'' h1 h2 => by
      have := hu (j' + 1) o'' (by simpa using h1) h2
      omega)
    rw [show i + (j + 1) = i + 1 + j from by omega]
    exact this
theorem listed_set {l : Array Bool} {i j : Nat} (hi : i < l.size) : (l.setIfInBounds i true).getD j false = true ↔ j = i ∨ l.getD j false = true := by
  by_cases h : i = j
  · subst h; simp [hi]
  · simp [Array.getElem?_setIfInBounds_ne h, Ne.symm h]
end Go.Tk
end
section
namespace Go.Tk
open Go.RowKit
section
variable {P : Program} {v u : Value} {R : World → Prop} {w : World} {f : FuncId} {args : Array Value}
end
end Go.Tk
end
section
namespace Go.Tk
open Go.RowKit
def ssaB2 (ops : Array Oper) (sz : Nat) (ticks : List Nat) (anc : List (List Nat)) (lo hi : List Nat) : Bool :=
  (List.range ops.size).all (fun i => match ops[i]? with
    | none => true
    | some o => o.after.all (fun e => !Region.binds .any e || decide (e.on < i)) &&
      (List.range ops.size).all (fun j => match (ops[j]?).bind (·.dst) with
        | none => true
        | some d => decide (d < sz) && (i == j || o.dst != some d) && (!(o.looksAt ops).contains d || o.after.any (fun e => Region.binds .any e && e.on == j) || (anc.getD j []).contains i)) &&
      (anc.getD i []).all (fun x => o.after.any (fun e => Region.binds .any e && (e.on == x || (anc.getD e.on []).contains x))) &&
      (List.range (lo.getD i 0)).all (fun j => decide (j < ticks.length) && (anc.getD i []).contains (ticks.getD j 0)) &&
      (List.range ticks.length).all (fun j => decide (j < hi.getD i 0) || ticks.getD j 0 == i || (anc.getD (ticks.getD j 0) []).contains i)) &&
  (List.range ticks.length).all (fun p => lo.getD (ticks.getD p 0) 0 == p && hi.getD (ticks.getD p 0) 0 == p && decide (ticks.getD p 0 < ops.size))
structure SsaC2 (ops : Array Oper) (sz : Nat) (ticks : List Nat) (anc : List (List Nat)) (lo hi : List Nat) : Prop where
  back : ∀ (i : Nat) (o : Oper), ops[i]? = some o → ∀ e ∈ o.after, Region.binds .any e = true → e.on < i
  room : ∀ (j : Nat) (oj : Oper) (d : Nat), ops[j]? = some oj → oj.dst = some d → d < sz
  once : ∀ (i : Nat) (o : Oper) (j : Nat) (oj : Oper) (d : Nat), ops[i]? = some o → ops[j]? = some oj → oj.dst = some d → o.dst = some d → i = j
  dep : ∀ (i : Nat) (o : Oper) (j : Nat) (oj : Oper) (d : Nat), ops[i]? = some o → ops[j]? = some oj → oj.dst = some d → d ∈ o.looksAt ops → (∃ e ∈ o.after, Region.binds .any e = true ∧ e.on = j) ∨ i ∈ anc.getD j []
  up : ∀ (i : Nat) (o : Oper), ops[i]? = some o → ∀ x ∈ anc.getD i [], ∃ e ∈ o.after, Region.binds .any e = true ∧ (e.on = x ∨ x ∈ anc.getD e.on [])
  low : ∀ (i : Nat) (o : Oper), ops[i]? = some o → ∀ j, j < lo.getD i 0 → ∃ t, ticks[j]? = some t ∧ t ∈ anc.getD i []
  high : ∀ (i : Nat) (o : Oper), ops[i]? = some o → ∀ j t, ticks[j]? = some t → j < hi.getD i 0 ∨ t = i ∨ i ∈ anc.getD t []
  tick : ∀ (p t : Nat), ticks[p]? = some t → lo.getD t 0 = p ∧ hi.getD t 0 = p ∧ t < ops.size
theorem ssaC2 {ops : Array Oper} {sz : Nat} {ticks : List Nat} {anc : List (List Nat)} {lo hi : List Nat} (h : ssaB2 ops sz ticks anc lo hi = true) : SsaC2 ops sz ticks anc lo hi := by
  unfold ssaB2 at h
  rw [Bool.and_eq_true, List.all_eq_true, List.all_eq_true] at h
  obtain ⟨h1, h2⟩ := h
  have hop : ∀ (i : Nat) (o : Oper), ops[i]? = some o → i < ops.size := fun i o h => (Array.getElem?_eq_some_iff.1 h).1
  have H := fun (i : Nat) (o : Oper) (ho : ops[i]? = some o) => by
    have := h1 i (List.mem_range.2 (hop i o ho))
    rw [ho] at this
    simp only [Bool.and_eq_true] at this
    exact this
  have hg : ∀ (p : Nat) (t : Nat), ticks[p]? = some t → p < ticks.length ∧ ticks.getD p 0 = t := fun p t h => by
    obtain ⟨hl, _⟩ := List.getElem?_eq_some_iff.1 h
    exact ⟨hl, by rw [List.getD_eq_getElem?_getD, h]; rfl⟩
  refine ⟨fun i o ho e he hb => ?_, fun j oj d ho hd => ?_, fun i o j oj d hi hj hd hdo => ?_, fun i o j oj d hi hj hd hm => ?_, fun i o ho x hx => ?_, fun i o ho j hj => ?_, fun i o ho j t ht => ?_, fun p t ht => ?_⟩
  · have := Array.all_eq_true_iff_forall_mem.1 (H i o ho).1.1.1.1 e he
    rw [hb] at this
    simpa using this
  · have := List.all_eq_true.1 (H j oj ho).1.1.1.2 j (List.mem_range.2 (hop j oj ho))
    rw [ho] at this
    simp only [Option.bind_some, hd, Bool.and_eq_true] at this
    exact of_decide_eq_true this.1.1
  · have := List.all_eq_true.1 (H i o hi).1.1.1.2 j (List.mem_range.2 (hop j oj hj))
    rw [hj] at this
    simp only [Option.bind_some, hd, Bool.and_eq_true] at this
    have := this.1.2
    simpa [hdo] using this
  · have := List.all_eq_true.1 (H i o hi).1.1.1.2 j (List.mem_range.2 (hop j oj hj))
    rw [hj] at this
    simp only [Option.bind_some, hd, Bool.and_eq_true] at this
    have := this.2
    rw [List.contains_iff_mem.2 hm] at this
    simp only [Bool.not_true, Bool.false_or, Bool.or_eq_true] at this
    rcases this with this | this
    · obtain ⟨e, he, h3⟩ := any_mem this
      rw [Bool.and_eq_true] at h3
      exact .inl ⟨e, he, h3.1, by simpa using h3.2⟩
    · exact .inr (List.contains_iff_mem.1 this)
  · have := List.all_eq_true.1 (H i o ho).1.1.2 x hx
    obtain ⟨e, he, h3⟩ := any_mem this
    rw [Bool.and_eq_true, Bool.or_eq_true] at h3
    exact ⟨e, he, h3.1, h3.2.imp (by simp) (by simp)⟩
  · have := List.all_eq_true.1 (H i o ho).1.2 j (List.mem_range.2 hj)
    rw [Bool.and_eq_true] at this
    have hl : j < ticks.length := of_decide_eq_true this.1
    refine ⟨ticks[j], List.getElem?_eq_getElem hl, ?_⟩
    have h4 := List.contains_iff_mem.1 this.2
    have e4 : ticks.getD j 0 = ticks[j] := by rw [List.getD_eq_getElem?_getD, List.getElem?_eq_getElem hl]; rfl
    rwa [e4] at h4
  · obtain ⟨hl, hq⟩ := hg j t ht
    have := List.all_eq_true.1 (H i o ho).2 j (List.mem_range.2 hl)
    rw [hq] at this
    simp only [Bool.or_eq_true, decide_eq_true_eq, beq_iff_eq, List.contains_iff_mem] at this
    rcases this with (h | h) | h
    · exact .inl h
    · exact .inr (.inl h)
    · exact .inr (.inr h)
  · obtain ⟨hl, hq⟩ := hg p t ht
    have := h2 p (List.mem_range.2 hl)
    rw [hq] at this
    simp only [Bool.and_eq_true, beq_iff_eq, decide_eq_true_eq] at this
    exact ⟨this.1.1, this.1.2, this.2⟩
def backB (ops : Array Oper) (anc : List (List Nat)) (i t : Nat) : Bool := (List.range ops.size).any fun j => ((ops[j]?).bind (·.dst) == some t) && (anc.getD j []).contains i
def guardB2 (ops : Array Oper) : Bool := ops.all fun o => match o.guard with
  | none => true
  | some (g, _) => ((ops[g]?).bind (·.dst)).isSome && o.after.any (fun e => Region.binds .any e && e.on == g)
end Go.Tk
end
section
namespace Go.Vc
open Go.RowKit Go.Tk
abbrev Rv := Nat × Value
def upd (e : Nat → Rv) (k : Nat) (x : Rv) : Nat → Rv := fun r => bif Nat.beq r k then x else e r
def Res (P : Program) (R : Value → World → Prop) : Result Next → Prop
  | .ok (.value u) w' => R u w'
  | .ok .skip w' => R undef w'
  | .ok (.enter f args) w' => Calls P f args w' fun e w'' => ∃ u, e = .returned u ∧ R u w''
  | .ok (.row row args) w' => Rows P row args w' R
  | _ => False
section
variable {P : Program} {R : Value → World → Prop} {w : World} {f : FuncId} {args : Array Value} {v : Value}
end
def want (V : Nat → Value) : Option (Nat × Bool) → Bool
  | none => true
  | some (g, b) => match V g with
    | .bool c => c == b
    | _ => false
structure Ev (l : List Oper) (old : Nat → Nat → Bool) (i : Nat) (V : Nat → Value) (a0 : Act) (ρ : Operand → Value) : Prop where
  c : ∀ v, ρ (.const v) = v
  g : ∀ g, ρ (.global g) = .pointer (some ⟨g, 0, none⟩)
  f : ∀ f, ρ (.func f) = .func (.func f) #[] #[]
  d : ∀ j o d, l[j]? = some o → o.dst = some d → old i d = false → ρ (.tmp d) = V j
  o : ∀ d v, (old i d || l.all fun o => o.dst != some d) = true → a0.tmps[d]? = some v → ρ (.tmp d) = v
def oldB (ops : Array Oper) (anc : List (List Nat)) (old : Nat → Nat → Bool) : Bool :=
  (List.range ops.size).all fun i => match ops[i]? with
    | none => true
    | some o => (o.looksAt ops).all fun t => old i t == backB ops anc i t
end Go.Vc
end
section
namespace Go.Tk
open Go.RowKit Go.Lib
theorem wpList_append_row_at {P : Program} {w : World} {ops : Array Oper} {rest : List Oper} {o : Oper} {a : Act} {Q : Exit → Act → World → Prop} (hgd : o.guard = none) (s x : Operand) (t : TypeId)
    (ho : o.op = .call { callee := .builtin .append, args := #[s, x], argTypes := #[t, t] })
    (base : Nat) (e : TypeId) (z : Value) (size bytes : Nat) (ht : P.underlying t = some (.slice e)) (hinfo : (P.info? e).map (fun i => (i.zero, i.size, i.bytes)) = some (some z, size, bytes))
    (hzs : z.cells.size = size) (hsz : 0 < size)
    (v : Value) (n : Nat) (xs : List Value) (hs : a.eval s = v) (hown : w.ownsRow base e size v n xs)
    (ad : Option Addr) (m c : Nat) (news : List Value) (hx : a.eval x = .slice ad m c) (hc : ad = none → c = 0) (hr : Row w ad news) (hl : news.length = m * size) (h1 : ∀ u ∈ news, u.oneCell' = true)
    (h63 : n + m ≤ maxLen) (hbytes : (n + m) * bytes ≤ 140737488355328) (hbase : base ≤ w.heap.size)
    (h : ∀ v' w', w'.ownsRow base e size v' (n + m) (xs ++ news) → w.grownBy w' v.ownBlock → (v'.ownBlock = v.ownBlock ∨ v'.ownBlock = some w.heap.size) → wpList P ops Q rest (a.put o.dst v') w') : wpList P ops Q (o :: rest) a w := by
  obtain ⟨i0, hi, hz0, hz1, hz2⟩ := info_parts hinfo
  cases ad with
  | none =>
    have hn : news = [] := by
      cases hne : news with
      | nil => rfl
      | cons y r => subst hne; obtain ⟨b, off, h, _⟩ := hr 0 (by simp); cases h
    subst hn
    have hm : m = 0 := by
      rcases Nat.eq_zero_or_pos m with h | h
      · exact h
      · have := Nat.mul_pos h hsz; simp at hl; omega
    subst hm
    have := hc rfl
    subst this
    exact wpList_append_own_none hgd s x t ho base e i0 size ht hi v n xs hs hown hx (h _ _ (by simpa using hown) ⟨rfl, rfl, rfl, Nat.le_refl _, fun _ _ _ => rfl⟩ (.inl rfl))
  | some ad =>
    refine wpList_append_own_at w hgd s x t ho base e i0 z size bytes ht hi hz0 hz1 hz2 hzs hsz v n xs hs hown ad m c news hx hl ?_ h1 h63 hbytes hbase fun v' w' h2 h3 _ h5 => h v' w' h2 h3 h5
    intro j u hj
    have hjl : j < news.length := by
      rcases Nat.lt_or_ge j news.length with h | h
      · exact h
      · simp [List.getElem?_eq_none h] at hj
    obtain ⟨b, off, hab, hcell⟩ := hr j hjl
    cases hab
    have : (Addr.add ⟨b, off, none⟩ j) = ⟨b, off + j, none⟩ := by
      unfold Addr.add
      split
      · rename_i h; subst h; rfl
      · rfl
    rw [this, hcell, List.getD_eq_getElem?_getD, hj]; rfl
def Apart (v u : Value) : Prop := v.ownBlock = none ∨ u.ownBlock = none ∨ v.ownBlock ≠ u.ownBlock
theorem Apart.symm {v u : Value} (h : Apart v u) : Apart u v := by
  rcases h with h | h | h
  · exact .inr (.inl h)
  · exact .inl h
  · exact .inr (.inr (Ne.symm h))
theorem Apart.nil (u : Value) : Apart (.slice none 0 0) u := .inl rfl
section
variable {w w' : World} {base : Nat} {e e' : TypeId} {size size' : Nat} {v v' u : Value} {n m : Nat} {xs ys : List Value}
theorem ownsRow_other (h : w.ownsRow base e size u m ys) (hg : w.grownBy w' v.ownBlock) (ha : Apart v u) : w'.ownsRow base e size u m ys := by
  refine h.kept hg ?_
  rcases ha with ha | ha | ha
  · rw [ha]
    cases hu : u.ownBlock with
    | none => exact .inl rfl
    | some g => exact .inr (by simp)
  · exact .inl ha
  · exact .inr (Ne.symm ha)
theorem apart_grown (hu : w.ownsRow base e size u m ys) (ha : Apart v u) (hat : v'.ownBlock = v.ownBlock ∨ v'.ownBlock = some w.heap.size) : Apart v' u := by
  rcases hat with h | h
  · rcases ha with ha | ha | ha
    · exact .inl (by rw [h]; exact ha)
    · exact .inr (.inl ha)
    · exact .inr (.inr (by rw [h]; exact ha))
  · rcases hu' : u.ownBlock with _ | g
    · exact .inr (.inl hu')
    · refine .inr (.inr ?_)
      have := hu.lt g hu'
      rw [h, hu']; simp; omega
end
theorem ownsRow_below {w w' : World} {base : Nat} {e : TypeId} {size : Nat} {v : Value} {n : Nat} {xs : List Value} (h : w.ownsRow base e size v n xs) (hb : Below w.heap.size w w') : w'.ownsRow base e size v n xs := by
  refine h.kept (row := none) ⟨hb.os, hb.tape, hb.output, hb.size, fun k hk _ => hb.block k hk⟩ ?_
  cases v.ownBlock with
  | none => exact .inl rfl
  | some g => exact .inr (by simp)
theorem ownsRow_base {w : World} {base base' : Nat} {e : TypeId} {size : Nat} {v : Value} {n : Nat} {xs : List Value} (h : w.ownsRow base e size v n xs) (hb : base' ≤ base) : w.ownsRow base' e size v n xs := by
  obtain ⟨hl, h | ⟨g, cap, cur, hv, hg, h2⟩⟩ := h
  · exact ⟨hl, .inl h⟩
  · exact ⟨hl, .inr ⟨g, cap, cur, hv, Nat.le_trans hb hg, h2⟩⟩
theorem ownsRow_set {w : World} {base : Nat} {e : TypeId} {size : Nat} {g n cap : Nat} {xs : List Value} (h : w.ownsRow base e size (.slice (some ⟨g, 0, none⟩) n cap) n xs) (j : Nat) (u : Value) :
    (w.setCell ⟨g, j, none⟩ u).ownsRow base e size (.slice (some ⟨g, 0, none⟩) n cap) n (xs.set j u) := by
  obtain ⟨hl, h | ⟨g', cap', cur, hv, hg, hh, hn, hc, hs, ht⟩⟩ := h
  · simp at h
  · simp only [Value.slice.injEq, Option.some.injEq, Addr.mk.injEq, and_true, true_and] at hv
    obtain ⟨rfl, rfl⟩ := hv
    refine ⟨by rw [List.length_set]; exact hl, .inr ⟨g, cap, cur.setIfInBounds j u, rfl, hg, ?_, hn, hc, by simp [hs], ?_⟩⟩
    · unfold World.setCell
      simp only [Array.getElem?_modify, if_true, hh, Option.map_some]
      rfl
    · rw [Array.toList_setIfInBounds, List.take_set, ht]
end Go.Tk
end
