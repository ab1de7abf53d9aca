/- Flow, Flow2. -/
import Derived.Test.YtfnneghddndeiaaSsa
import Derived.Orders
set_option maxRecDepth 100000
set_option linter.unusedVariables false
set_option linter.unusedSimpArgs false
set_option linter.unusedSectionVars false
section
namespace Go.Tk
open Go.RowKit
section
variable {P : Program} {v u : Value} {R : World → Prop} {w : World} {f : FuncId} {args : Array Value}
end
end Go.Tk
end
section
namespace Go.Tk
open Go.RowKit
def ssaB2 (ops : Array Oper) (sz : Nat) (ticks : List Nat) (anc : List (List Nat)) (lo hi : List Nat) : Bool :=
  (List.range ops.size).all (fun i => match ops[i]? with
    | none => true
    | some o => o.after.all (fun e => !Region.binds .any e || decide (e.on < i)) &&
      (List.range ops.size).all (fun j => match (ops[j]?).bind (·.dst) with
        | none => true
        | some d => decide (d < sz) && (i == j || o.dst != some d) && (!(o.looksAt ops).contains d || o.after.any (fun e => Region.binds .any e && e.on == j) || (anc.getD j []).contains i)) &&
      (anc.getD i []).all (fun x => o.after.any (fun e => Region.binds .any e && (e.on == x || (anc.getD e.on []).contains x))) &&
      (List.range (lo.getD i 0)).all (fun j => decide (j < ticks.length) && (anc.getD i []).contains (ticks.getD j 0)) &&
      (List.range ticks.length).all (fun j => decide (j < hi.getD i 0) || ticks.getD j 0 == i || (anc.getD (ticks.getD j 0) []).contains i)) &&
  (List.range ticks.length).all (fun p => lo.getD (ticks.getD p 0) 0 == p && hi.getD (ticks.getD p 0) 0 == p && decide (ticks.getD p 0 < ops.size))
structure SsaC2 (ops : Array Oper) (sz : Nat) (ticks : List Nat) (anc : List (List Nat)) (lo hi : List Nat) : Prop where
  back : ∀ (i : Nat) (o : Oper), ops[i]? = some o → ∀ e ∈ o.after, Region.binds .any e = true → e.on < i
  room : ∀ (j : Nat) (oj : Oper) (d : Nat), ops[j]? = some oj → oj.dst = some d → d < sz
  once : ∀ (i : Nat) (o : Oper) (j : Nat) (oj : Oper) (d : Nat), ops[i]? = some o → ops[j]? = some oj → oj.dst = some d → o.dst = some d → i = j
  dep : ∀ (i : Nat) (o : Oper) (j : Nat) (oj : Oper) (d : Nat), ops[i]? = some o → ops[j]? = some oj → oj.dst = some d → d ∈ o.looksAt ops → (∃ e ∈ o.after, Region.binds .any e = true ∧ e.on = j) ∨ i ∈ anc.getD j []
  up : ∀ (i : Nat) (o : Oper), ops[i]? = some o → ∀ x ∈ anc.getD i [], ∃ e ∈ o.after, Region.binds .any e = true ∧ (e.on = x ∨ x ∈ anc.getD e.on [])
  low : ∀ (i : Nat) (o : Oper), ops[i]? = some o → ∀ j, j < lo.getD i 0 → ∃ t, ticks[j]? = some t ∧ t ∈ anc.getD i []
  high : ∀ (i : Nat) (o : Oper), ops[i]? = some o → ∀ j t, ticks[j]? = some t → j < hi.getD i 0 ∨ t = i ∨ i ∈ anc.getD t []
  tick : ∀ (p t : Nat), ticks[p]? = some t → lo.getD t 0 = p ∧ hi.getD t 0 = p ∧ t < ops.size
theorem ssaC2 {ops : Array Oper} {sz : Nat} {ticks : List Nat} {anc : List (List Nat)} {lo hi : List Nat} (h : ssaB2 ops sz ticks anc lo hi = true) : SsaC2 ops sz ticks anc lo hi := by
  unfold ssaB2 at h
  rw [Bool.and_eq_true, List.all_eq_true, List.all_eq_true] at h
  obtain ⟨h1, h2⟩ := h
  have hop : ∀ (i : Nat) (o : Oper), ops[i]? = some o → i < ops.size := fun i o h => (Array.getElem?_eq_some_iff.1 h).1
  have H := fun (i : Nat) (o : Oper) (ho : ops[i]? = some o) => by
    have := h1 i (List.mem_range.2 (hop i o ho))
    rw [ho] at this
    simp only [Bool.and_eq_true] at this
    exact this
  have hg : ∀ (p : Nat) (t : Nat), ticks[p]? = some t → p < ticks.length ∧ ticks.getD p 0 = t := fun p t h => by
    obtain ⟨hl, _⟩ := List.getElem?_eq_some_iff.1 h
    exact ⟨hl, by rw [List.getD_eq_getElem?_getD, h]; rfl⟩
  refine ⟨fun i o ho e he hb => ?_, fun j oj d ho hd => ?_, fun i o j oj d hi hj hd hdo => ?_, fun i o j oj d hi hj hd hm => ?_, fun i o ho x hx => ?_, fun i o ho j hj => ?_, fun i o ho j t ht => ?_, fun p t ht => ?_⟩
  · have := Array.all_eq_true_iff_forall_mem.1 (H i o ho).1.1.1.1 e he
    rw [hb] at this
    simpa using this
  · have := List.all_eq_true.1 (H j oj ho).1.1.1.2 j (List.mem_range.2 (hop j oj ho))
    rw [ho] at this
    simp only [Option.bind_some, hd, Bool.and_eq_true] at this
    exact of_decide_eq_true this.1.1
  · have := List.all_eq_true.1 (H i o hi).1.1.1.2 j (List.mem_range.2 (hop j oj hj))
    rw [hj] at this
    simp only [Option.bind_some, hd, Bool.and_eq_true] at this
    have := this.1.2
    simpa [hdo] using this
  · have := List.all_eq_true.1 (H i o hi).1.1.1.2 j (List.mem_range.2 (hop j oj hj))
    rw [hj] at this
    simp only [Option.bind_some, hd, Bool.and_eq_true] at this
    have := this.2
    rw [List.contains_iff_mem.2 hm] at this
    simp only [Bool.not_true, Bool.false_or, Bool.or_eq_true] at this
    rcases this with this | this
    · obtain ⟨e, he, h3⟩ := any_mem this
      rw [Bool.and_eq_true] at h3
      exact .inl ⟨e, he, h3.1, by simpa using h3.2⟩
    · exact .inr (List.contains_iff_mem.1 this)
  · have := List.all_eq_true.1 (H i o ho).1.1.2 x hx
    obtain ⟨e, he, h3⟩ := any_mem this
    rw [Bool.and_eq_true, Bool.or_eq_true] at h3
    exact ⟨e, he, h3.1, h3.2.imp (by simp) (by simp)⟩
  · have := List.all_eq_true.1 (H i o ho).1.2 j (List.mem_range.2 hj)
    rw [Bool.and_eq_true] at this
    have hl : j < ticks.length := of_decide_eq_true this.1
    refine ⟨ticks[j], List.getElem?_eq_getElem hl, ?_⟩
    have h4 := List.contains_iff_mem.1 this.2
    have e4 : ticks.getD j 0 = ticks[j] := by rw [List.getD_eq_getElem?_getD, List.getElem?_eq_getElem hl]; rfl
    rwa [e4] at h4
  · obtain ⟨hl, hq⟩ := hg j t ht
    have := List.all_eq_true.1 (H i o ho).2 j (List.mem_range.2 hl)
    rw [hq] at this
    simp only [Bool.or_eq_true, decide_eq_true_eq, beq_iff_eq, List.contains_iff_mem] at this
    rcases this with (h | h) | h
    · exact .inl h
    · exact .inr (.inl h)
    · exact .inr (.inr h)
  · obtain ⟨hl, hq⟩ := hg p t ht
    have := h2 p (List.mem_range.2 hl)
    rw [hq] at this
    simp only [Bool.and_eq_true, beq_iff_eq, decide_eq_true_eq] at this
    exact ⟨this.1.1, this.1.2, this.2⟩
def backB (ops : Array Oper) (anc : List (List Nat)) (i t : Nat) : Bool := (List.range ops.size).any fun j => ((ops[j]?).bind (·.dst) == some t) && (anc.getD j []).contains i
def guardB2 (ops : Array Oper) : Bool := ops.all fun o => match o.guard with
  | none => true
  | some (g, _) => ((ops[g]?).bind (·.dst)).isSome && o.after.any (fun e => Region.binds .any e && e.on == g)
end Go.Tk
end
