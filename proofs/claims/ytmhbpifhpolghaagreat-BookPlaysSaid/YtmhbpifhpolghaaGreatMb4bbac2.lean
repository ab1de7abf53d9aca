/- RegInv, Ssa, Flow, Flow2, Vc, RowAt. -/
import Derived.Test.YtmhbpifhpolghaaGreatM642530e
import Derived.OrdersIn
import Derived.OwnWalkIn
import Derived.Orders
import Derived.Maps.AppendAt
import Derived.Laws.OwnMore
set_option maxRecDepth 100000
set_option linter.unusedVariables false
set_option linter.unusedSimpArgs false
set_option linter.unusedSectionVars false
section
namespace Go.Tk
open Go.RowKit
def ssaAct (V : Nat → Value) : List Oper → Nat → Act → Act
  | [], _, a => a
  | o :: l, i, a => ssaAct V l (i + 1) (a.put o.dst (V i))
def ssaB (ops : Array Oper) (sz : Nat) (ticks : List Nat) (anc : List (List Nat)) (lo hi : List Nat) : Bool :=
  (List.range ops.size).all (fun i => match ops[i]? with
    | none => true
    | some o => o.after.all (fun e => !Region.binds .any e || decide (e.on < i)) &&
      (List.range ops.size).all (fun j => match (ops[j]?).bind (·.dst) with
        | none => true
        | some d => decide (d < sz) && (i == j || o.dst != some d) && (!(o.looksAt ops).contains d || o.after.any (fun e => Region.binds .any e && e.on == j))) &&
      (anc.getD i []).all (fun x => o.after.any (fun e => Region.binds .any e && (e.on == x || (anc.getD e.on []).contains x))) &&
      (List.range (lo.getD i 0)).all (fun j => decide (j < ticks.length) && (anc.getD i []).contains (ticks.getD j 0)) &&
      (List.range ticks.length).all (fun j => decide (j < hi.getD i 0) || ticks.getD j 0 == i || (anc.getD (ticks.getD j 0) []).contains i)) &&
  (List.range ticks.length).all (fun p => lo.getD (ticks.getD p 0) 0 == p && hi.getD (ticks.getD p 0) 0 == p && decide (ticks.getD p 0 < ops.size))
structure SsaC (ops : Array Oper) (sz : Nat) (ticks : List Nat) (anc : List (List Nat)) (lo hi : List Nat) : Prop where
  back : ∀ (i : Nat) (o : Oper), ops[i]? = some o → ∀ e ∈ o.after, Region.binds .any e = true → e.on < i
  room : ∀ (j : Nat) (oj : Oper) (d : Nat), ops[j]? = some oj → oj.dst = some d → d < sz
  once : ∀ (i : Nat) (o : Oper) (j : Nat) (oj : Oper) (d : Nat), ops[i]? = some o → ops[j]? = some oj → oj.dst = some d → o.dst = some d → i = j
  dep : ∀ (i : Nat) (o : Oper) (j : Nat) (oj : Oper) (d : Nat), ops[i]? = some o → ops[j]? = some oj → oj.dst = some d → d ∈ o.looksAt ops → ∃ e ∈ o.after, Region.binds .any e = true ∧ e.on = j
  up : ∀ (i : Nat) (o : Oper), ops[i]? = some o → ∀ x ∈ anc.getD i [], ∃ e ∈ o.after, Region.binds .any e = true ∧ (e.on = x ∨ x ∈ anc.getD e.on [])
  low : ∀ (i : Nat) (o : Oper), ops[i]? = some o → ∀ j, j < lo.getD i 0 → ∃ t, ticks[j]? = some t ∧ t ∈ anc.getD i []
  high : ∀ (i : Nat) (o : Oper), ops[i]? = some o → ∀ j t, ticks[j]? = some t → j < hi.getD i 0 ∨ t = i ∨ i ∈ anc.getD t []
  tick : ∀ (p t : Nat), ticks[p]? = some t → lo.getD t 0 = p ∧ hi.getD t 0 = p ∧ t < ops.size
theorem any_mem {α : Type} {l : Array α} {p : α → Bool} (h : l.any p = true) : ∃ e ∈ l, p e = true := by
  obtain ⟨k, hk, h⟩ := Array.any_eq_true.1 h
  exact ⟨l[k], Array.getElem_mem hk, h⟩
theorem ssaC {ops : Array Oper} {sz : Nat} {ticks : List Nat} {anc : List (List Nat)} {lo hi : List Nat} (h : ssaB ops sz ticks anc lo hi = true) : SsaC ops sz ticks anc lo hi := by
  unfold ssaB at h
  rw [Bool.and_eq_true, List.all_eq_true, List.all_eq_true] at h
  obtain ⟨h1, h2⟩ := h
  have hop : ∀ (i : Nat) (o : Oper), ops[i]? = some o → i < ops.size := fun i o h => (Array.getElem?_eq_some_iff.1 h).1
  have H := fun (i : Nat) (o : Oper) (ho : ops[i]? = some o) => by
    have := h1 i (List.mem_range.2 (hop i o ho))
    rw [ho] at this
    simp only [Bool.and_eq_true] at this
    exact this
  have hg : ∀ (p : Nat) (t : Nat), ticks[p]? = some t → p < ticks.length ∧ ticks.getD p 0 = t := fun p t h => by
    obtain ⟨hl, _⟩ := List.getElem?_eq_some_iff.1 h
    exact ⟨hl, by rw [List.getD_eq_getElem?_getD, h]; rfl⟩
  refine ⟨fun i o ho e he hb => ?_, fun j oj d ho hd => ?_, fun i o j oj d hi hj hd hdo => ?_, fun i o j oj d hi hj hd hm => ?_, fun i o ho x hx => ?_, fun i o ho j hj => ?_, fun i o ho j t ht => ?_, fun p t ht => ?_⟩
  · have := Array.all_eq_true_iff_forall_mem.1 (H i o ho).1.1.1.1 e he
    rw [hb] at this
    simpa using this
  · have := List.all_eq_true.1 (H j oj ho).1.1.1.2 j (List.mem_range.2 (hop j oj ho))
    rw [ho] at this
    simp only [Option.bind_some, hd, Bool.and_eq_true] at this
    exact of_decide_eq_true this.1.1
  · have := List.all_eq_true.1 (H i o hi).1.1.1.2 j (List.mem_range.2 (hop j oj hj))
    rw [hj] at this
    simp only [Option.bind_some, hd, Bool.and_eq_true] at this
    have := this.1.2
    simpa [hdo] using this
  · have := List.all_eq_true.1 (H i o hi).1.1.1.2 j (List.mem_range.2 (hop j oj hj))
    rw [hj] at this
    simp only [Option.bind_some, hd, Bool.and_eq_true] at this
    have := this.2
    rw [List.contains_iff_mem.2 hm] at this
    simp only [Bool.not_true, Bool.false_or] at this
    obtain ⟨e, he, h3⟩ := any_mem this
    rw [Bool.and_eq_true] at h3
    exact ⟨e, he, h3.1, by simpa using h3.2⟩
  · have := List.all_eq_true.1 (H i o ho).1.1.2 x hx
    obtain ⟨e, he, h3⟩ := any_mem this
    rw [Bool.and_eq_true, Bool.or_eq_true] at h3
    exact ⟨e, he, h3.1, h3.2.imp (by simp) (by simp)⟩
  · have := List.all_eq_true.1 (H i o ho).1.2 j (List.mem_range.2 hj)
    rw [Bool.and_eq_true] at this
    have hl : j < ticks.length := of_decide_eq_true this.1
    refine ⟨ticks[j], List.getElem?_eq_getElem hl, ?_⟩
    have h4 := List.contains_iff_mem.1 this.2
    have e4 : ticks.getD j 0 = ticks[j] := by rw [List.getD_eq_getElem?_getD, List.getElem?_eq_getElem hl]; rfl
    rwa [e4] at h4
  · obtain ⟨hl, hq⟩ := hg j t ht
    have := List.all_eq_true.1 (H i o ho).2 j (List.mem_range.2 hl)
    rw [hq] at this
    simp only [Bool.or_eq_true, decide_eq_true_eq, beq_iff_eq, List.contains_iff_mem] at this
    rcases this with (h | h) | h
    · exact .inl h
    · exact .inr (.inl h)
    · exact .inr (.inr h)
  · obtain ⟨hl, hq⟩ := hg p t ht
    have := h2 p (List.mem_range.2 hl)
    rw [hq] at this
    simp only [Bool.and_eq_true, beq_iff_eq, decide_eq_true_eq] at this
    exact ⟨this.1.1, this.1.2, this.2⟩
theorem ssaAct_defers (V : Nat → Value) : ∀ (l : List Oper) (i : Nat) (a : Act), (ssaAct V l i a).defers = a.defers ∧ (ssaAct V l i a).tmps.size = a.tmps.size
  | [], _, _ => ⟨rfl, rfl⟩
  | o :: l, i, a => by
    obtain ⟨h1, h2⟩ := ssaAct_defers V l (i + 1) (a.put o.dst (V i))
    refine ⟨h1.trans ?_, h2.trans ?_⟩ <;> (cases o.dst <;> simp [Act.put])
theorem ssaAct_old (V : Nat → Value) (d : Nat) : ∀ (l : List Oper) (i : Nat) (a : Act), (∀ o ∈ l, o.dst ≠ some d) → (ssaAct V l i a).tmps[d]? = a.tmps[d]?
  | [], _, _, _ => rfl
  | o :: l, i, a, h => by
    refine (ssaAct_old V d l (i + 1) _ (fun o ho => h o (List.mem_cons_of_mem _ ho))).trans ?_
    have := h o List.mem_cons_self
    cases hd : o.dst with
    | none => rfl
    | some e =>
      have hne : e ≠ d := fun he => this (by rw [hd, he])
      simp [Act.put, Array.getElem?_setIfInBounds_ne hne]
theorem ssaAct_got (V : Nat → Value) : ∀ (l : List Oper) (i : Nat) (a : Act) (j : Nat) (o : Oper) (d : Nat), l[j]? = some o → o.dst = some d → d < a.tmps.size → (∀ j' o', l[j']? = some o' → o'.dst = some d → j' = j) → (ssaAct V l i a).tmps[d]? = some (V (i + j))
  | [], _, _, j, o, d, h, _, _, _ => by simp at h
  | o :: l, i, a, 0, o', d, h, hd, hlt, hu => by
    simp only [List.getElem?_cons_zero, Option.some.injEq] at h
    subst h
    refine (ssaAct_old V d l (i + 1) _ (fun o' ho' e => ?_)).trans ?_
    · obtain ⟨k, hk⟩ := List.getElem?_of_mem ho'
      have := hu (k + 1) o' (by simpa using hk) e
      omega
    · rw [hd]
      simp [Act.put, hlt]
  | o :: l, i, a, j + 1, o', d, h, hd, hlt, hu => by
    have := ssaAct_got V l (i + 1) (a.put o.dst (V i)) j o' d (by simpa using h) hd (by cases o.dst <;> simpa [Act.put] using hlt) (fun j' o'' h1 h2 => by
      have := hu (j' + 1) o'' (by simpa using h1) h2
      omega)
    rw [show i + (j + 1) = i + 1 + j from by omega]
    exact this
theorem listed_set {l : Array Bool} {i j : Nat} (hi : i < l.size) : (l.setIfInBounds i true).getD j false = true ↔ j = i ∨ l.getD j false = true := by
  by_cases h : i = j
  · subst h; simp [hi]
  · simp [Array.getElem?_setIfInBounds_ne h, Ne.symm h]
structure FlowI (ops : Array Oper) (V : Nat → Value) (Ω : Nat → World → Prop) (ticks : List Nat) (a0 : Act) (listed : Array Bool) (a : Act) (w : World) : Prop where
  defers : a.defers = a0.defers
  size : a.tmps.size = a0.tmps.size
  got : ∀ (i : Nat) (o : Oper) (d : Nat), ops[i]? = some o → o.dst = some d → listed.getD i false = true → a.tmps[d]? = some (V i)
  old : ∀ (d : Nat), (∀ (i : Nat) (o : Oper), ops[i]? = some o → listed.getD i false = true → o.dst ≠ some d) → a.tmps[d]? = a0.tmps[d]?
  closed : ∀ (i : Nat) (o : Oper), ops[i]? = some o → listed.getD i false = true → ∀ e ∈ o.after, Region.binds .any e = true → listed.getD e.on false = true
  world : ∃ k, k ≤ ticks.length ∧ (∀ (j t : Nat), ticks[j]? = some t → (listed.getD t false = true ↔ j < k)) ∧ Ω k w
def OpDoes (P : Program) (ops : Array Oper) (aS : Act) (v : Value) (R : World → Prop) (o : Oper) (w : World) : Prop :=
  if Region.wanted o (yielded ops aS.tmps) = true then o.wp P aS w (fun a' w' => a' = aS ∧ R w') (fun _ _ _ => False) else v = undef ∧ R w
def flowRun (P : Program) (ops : Array Oper) (aS : Act) (V : Nat → Value) (Ω : Nat → World → Prop) (ticks : List Nat) (lo hi : List Nat) : List Oper → Nat → Prop
  | [], _ => True
  | o :: l, i => (∀ k w, lo.getD i 0 ≤ k → k ≤ hi.getD i 0 → k ≤ ticks.length → Ω k w → OpDoes P ops aS (V i) (Ω (if ticks.contains i then k + 1 else k)) o w) ∧ flowRun P ops aS V Ω ticks lo hi l (i + 1)
theorem flowRun_get {P : Program} {ops : Array Oper} {aS : Act} {V : Nat → Value} {Ω : Nat → World → Prop} {ticks : List Nat} {lo hi : List Nat} : ∀ {l : List Oper} {i : Nat}, flowRun P ops aS V Ω ticks lo hi l i → ∀ j o, l[j]? = some o →
    ∀ k w, lo.getD (i + j) 0 ≤ k → k ≤ hi.getD (i + j) 0 → k ≤ ticks.length → Ω k w → OpDoes P ops aS (V (i + j)) (Ω (if ticks.contains (i + j) then k + 1 else k)) o w
  | [], _, _, j, o, h => by simp at h
  | o :: l, i, h, 0, o', h1 => by
    simp only [List.getElem?_cons_zero, Option.some.injEq] at h1
    subst h1
    exact h.1
  | o :: l, i, h, j + 1, o', h1 => by
    rw [show i + (j + 1) = i + 1 + j from by omega]
    exact flowRun_get h.2 j o' (by simpa using h1)
theorem put_back {dst : Option Tmp} {v v' : Value} {aS : Act} (h : aS.put dst v = aS) (hv : ∀ d, dst = some d → aS.tmps[d]? = some v') (a' : Act) : a'.put dst v = a'.put dst v' := by
  cases dst with
  | none => rfl
  | some d =>
    have h1 := hv d rfl
    have h2 : (aS.put (some d) v).tmps[d]? = some v' := by rw [h]; exact h1
    have hlt : d < aS.tmps.size := (Array.getElem?_eq_some_iff.1 h1).1
    simp [Act.put, hlt] at h2
    rw [h2]
theorem wp_region_flow {P : Program} {Q : Exit → Act → World → Prop} {id : Nat} {l : List Oper} {a0 : Act} {w : World} (V : Nat → Value) (Ω : Nat → World → Prop) (ticks : List Nat) (anc : List (List Nat)) (lo hi : List Nat)
    (hm : P.follows .mixedOrders = true) (hC : ssaB l.toArray a0.tmps.size ticks anc lo hi = true) (hS : Region.noSelect l.toArray = true)
    (h0 : Ω 0 w.drew) (hR : flowRun P l.toArray (ssaAct V l 0 a0) V Ω ticks lo hi l 0) (hQ : ∀ w', Ω ticks.length w' → Q .normal (ssaAct V l 0 a0) w') :
    (Code.region id l.toArray true).wp P Q a0 w := by
  have C := ssaC hC
  obtain ⟨aS, haS⟩ : ∃ aS, aS = ssaAct V l 0 a0 := ⟨_, rfl⟩
  have sD : aS.defers = a0.defers := by rw [haS]; exact (ssaAct_defers V l 0 a0).1
  have sZ : aS.tmps.size = a0.tmps.size := by rw [haS]; exact (ssaAct_defers V l 0 a0).2
  have sO : ∀ (d : Nat), (∀ (i : Nat) (o : Oper), l.toArray[i]? = some o → o.dst ≠ some d) → aS.tmps[d]? = a0.tmps[d]? := fun d h => by
    rw [haS]
    refine ssaAct_old V d l 0 a0 (fun o ho => ?_)
    obtain ⟨k, hk⟩ := List.getElem?_of_mem ho
    exact h k o (by simpa using hk)
  have sG : ∀ (i : Nat) (o : Oper) (d : Nat), l.toArray[i]? = some o → o.dst = some d → aS.tmps[d]? = some (V i) := fun i o d h hd => by
    rw [haS]
    have := ssaAct_got V l 0 a0 i o d (by simpa using h) hd (C.room i o d h hd) (fun j' o' h1 h2 => C.once j' o' i o d (by simpa using h1) h hd h2)
    rwa [Nat.zero_add] at this
  rw [← haS] at hR hQ
  clear haS hC
  have upAll : ∀ (listed : Array Bool), (∀ (i : Nat) (o : Oper), l.toArray[i]? = some o → listed.getD i false = true → ∀ e ∈ o.after, Region.binds .any e = true → listed.getD e.on false = true) →
      listed.size = l.toArray.size → ∀ (i : Nat) (o : Oper), l.toArray[i]? = some o → (∀ e ∈ o.after, Region.binds .any e = true → listed.getD e.on false = true) → ∀ x ∈ anc.getD i [], listed.getD x false = true := by
    intro listed hcl hsz i
    induction i using Nat.strongRecOn with
    | ind i ih =>
      intro o ho hdir x hx
      obtain ⟨e, he, hb, h | h⟩ := C.up i o ho x hx
      · rw [← h]; exact hdir e he hb
      · have hlt := C.back i o ho e he hb
        have hil : i < l.toArray.size := (Array.getElem?_eq_some_iff.1 ho).1
        have hoe : l.toArray[e.on]? = some l.toArray[e.on] := Array.getElem?_eq_getElem (by omega)
        exact ih e.on hlt _ hoe (hcl e.on _ hoe (hdir e he hb)) x h
  refine wp_region_any hm ?_
  refine wpAny_inv (FlowI l.toArray V Ω ticks a0) ?_ ?_ _ _ _ _ (by simp) (by simp) ?_
  · intro listed a w1 hs I i hir
    obtain ⟨hun, o, ho, hdep⟩ := mem_ready.1 hir
    have hil : i < l.toArray.size := (Array.getElem?_eq_some_iff.1 ho).1
    have hunf : listed.getD i false = false := by
      have hl : i < listed.size := by rw [hs]; exact hil
      simp [hl] at hun ⊢
      exact hun
    have hanc := upAll listed I.closed hs i o ho hdep
    obtain ⟨k, hk, hkt, hΩ⟩ := I.world
    have hlo : lo.getD i 0 ≤ k := by
      rcases Nat.lt_or_ge k (lo.getD i 0) with h | h
      · obtain ⟨t, ht, hta⟩ := C.low i o ho k h
        have := (hkt k t ht).1 (hanc t hta)
        omega
      · exact h
    have hun2 : ∀ (j t : Nat), ticks[j]? = some t → (t = i ∨ i ∈ anc.getD t []) → k ≤ j := fun j t ht h => by
      rcases Nat.lt_or_ge j k with hjk | hjk
      · have htl := (hkt j t ht).2 hjk
        rcases h with rfl | h
        · rw [hunf] at htl; cases htl
        · have htz := (C.tick j t ht).2.2
          have hot : l.toArray[t]? = some l.toArray[t] := Array.getElem?_eq_getElem htz
          have := upAll listed I.closed hs t _ hot (I.closed t _ hot htl) i h
          rw [hunf] at this; cases this
      · exact hjk
    have hhi : k ≤ hi.getD i 0 := by
      rcases Nat.lt_or_ge (hi.getD i 0) ticks.length with h | h
      · have ht : ticks[hi.getD i 0]? = some ticks[hi.getD i 0] := List.getElem?_eq_getElem h
        rcases C.high i o ho _ _ ht with h1 | h1
        · omega
        · exact hun2 _ _ ht h1
      · omega
    have hdo := flowRun_get hR i o (by simpa using ho) k w1 (by rwa [Nat.zero_add]) (by rwa [Nat.zero_add]) hk hΩ
    rw [Nat.zero_add] at hdo
    have htm : ∀ t ∈ o.looksAt l.toArray, a.tmps[t]? = aS.tmps[t]? := by
      intro t hta
      by_cases hex : ∃ (j : Nat) (oj : Oper), l.toArray[j]? = some oj ∧ oj.dst = some t
      · obtain ⟨j, oj, hj, hjd⟩ := hex
        obtain ⟨e, he, hb, hej⟩ := C.dep i o j oj t ho hj hjd hta
        have hjl := hdep e he hb
        rw [hej] at hjl
        rw [I.got j oj t hj hjd hjl, sG j oj t hj hjd]
      · rw [I.old t (fun j oj hj _ hjd => hex ⟨j, oj, hj, hjd⟩), sO t (fun j oj hj hjd => hex ⟨j, oj, hj, hjd⟩)]
    have hev : ∀ x ∈ o.op.operands, a.eval x = aS.eval x := by
      intro x hx
      cases x with
      | tmp t =>
        have := htm t (List.mem_append_left _ (List.mem_filterMap.2 ⟨.tmp t, by simpa using hx, rfl⟩))
        simp [Act.eval, this]
      | _ => rfl
    have hex := execOp_congr o (fun cs b => Region.noSelect_spec hS i o cs b ho) hev
    have hwt : Region.wanted o (yielded l.toArray a.tmps) = Region.wanted o (yielded l.toArray aS.tmps) := by
      unfold Region.wanted
      cases hg : o.guard with
      | none => rfl
      | some gw =>
        obtain ⟨g, want⟩ := gw
        have hy : yielded l.toArray a.tmps g = yielded l.toArray aS.tmps g := by
          unfold yielded
          cases ht : (l.toArray[g]?).bind (·.dst) with
          | none => rfl
          | some t =>
            have := htm t (by unfold Oper.looksAt; rw [hg]; simp only [ht]; exact List.mem_append_right _ (by simp))
            simp [this]
        simp only [hy]
    have hnext : ∀ w2, Ω (if ticks.contains i then k + 1 else k) w2 → FlowI l.toArray V Ω ticks a0 (listed.setIfInBounds i true) (a.put o.dst (V i)) w2 := by
      intro w2 hw2
      have hli : i < listed.size := by rw [hs]; exact hil
      refine ⟨?_, ?_, ?_, ?_, ?_, ?_⟩
      · rw [← I.defers]; cases o.dst <;> rfl
      · rw [← I.size]; cases o.dst <;> simp [Act.put]
      · intro j oj d hj hjd hl
        rcases (listed_set hli).1 hl with rfl | hl
        · rw [ho] at hj; cases hj
          rw [hjd]
          have := C.room j o d ho hjd
          rw [← I.size] at this
          simp [Act.put, this]
        · have hgot := I.got j oj d hj hjd hl
          cases hod : o.dst with
          | none => exact hgot
          | some e =>
            have hne : e ≠ d := by
              rintro rfl
              have := C.once i o j oj e ho hj hjd hod
              subst this
              rw [hunf] at hl; cases hl
            simpa [Act.put, Array.getElem?_setIfInBounds_ne hne] using hgot
      · intro d h
        have h1 := I.old d (fun j oj hj hl => h j oj hj ((listed_set hli).2 (.inr hl)))
        have h2 := h i o ho ((listed_set hli).2 (.inl rfl))
        cases hod : o.dst with
        | none => exact h1
        | some e =>
          have hne : e ≠ d := fun he => h2 (by rw [hod, he])
          simpa [Act.put, Array.getElem?_setIfInBounds_ne hne] using h1
      · intro j oj hj hl e he hb
        rcases (listed_set hli).1 hl with rfl | hl
        · rw [ho] at hj; cases hj
          exact (listed_set hli).2 (.inr (hdep e he hb))
        · exact (listed_set hli).2 (.inr (I.closed j oj hj hl e he hb))
      · by_cases hti : i ∈ ticks
        · obtain ⟨p, hp⟩ := List.getElem?_of_mem hti
          obtain ⟨t1, t2, -⟩ := C.tick p i hp
          have hkp : k = p := by omega
          subst hkp
          have hpl : k < ticks.length := (List.getElem?_eq_some_iff.1 hp).1
          refine ⟨k + 1, hpl, fun j t ht => ?_, by rwa [if_pos (List.contains_iff_mem.2 hti)] at hw2⟩
          constructor
          · intro h
            rcases (listed_set hli).1 h with rfl | h
            · have := (C.tick j t ht).1; omega
            · have := (hkt j t ht).1 h; omega
          · intro h
            refine (listed_set hli).2 ?_
            rcases Nat.lt_or_ge j k with h1 | h1
            · exact .inr ((hkt j t ht).2 h1)
            · have : j = k := by omega
              subst this
              rw [hp] at ht; cases ht
              exact .inl rfl
        · refine ⟨k, hk, fun j t ht => ?_, by rwa [if_neg (fun h => hti (List.contains_iff_mem.1 h))] at hw2⟩
          have hne : t ≠ i := by rintro rfl; exact hti (List.mem_of_getElem? ht)
          rw [← hkt j t ht, listed_set hli]
          exact ⟨fun h => h.resolve_left hne, .inr⟩
    unfold wpOp
    simp only [ho, hwt]
    unfold OpDoes at hdo
    have hput : ∀ v, aS.put o.dst v = aS → a.put o.dst v = a.put o.dst (V i) := fun v h => put_back h (fun d hd => sG i o d ho hd) a
    split
    · rename_i hw
      rw [if_pos hw] at hdo
      refine .inl ?_
      unfold Oper.wp at hdo ⊢
      rw [hex]
      generalize (execOp aS.eval o).run P w1 = r at hdo
      cases r with
      | ok x w' =>
        cases x <;> simp only [Oper.upon] at hdo ⊢
        case value v => rw [hput v hdo.1]; exact hnext _ hdo.2
        case skip => rw [hput undef hdo.1]; exact hnext _ hdo.2
        case defer d =>
          obtain ⟨h1, -⟩ := hdo
          have := congrArg Act.defers h1
          cases hdd : o.dst <;> simp [Act.put, hdd] at this
        case enter f args =>
          refine Calls.mono hdo fun e w'' he => ?_
          cases e with
          | returned v => simp only at he ⊢; rw [hput v he.1]; exact hnext _ he.2
          | panicked c => exact he.elim
          | outgrown => obtain ⟨_, _, h⟩ := he; exact h.elim
        case row row args =>
          refine Rows.mono hdo fun v w'' he => ?_
          rw [hput v he.1]; exact hnext _ he.2
      | halt x w' =>
        cases x <;> simp only [Oper.upon] at hdo
    · rename_i hw
      rw [if_neg hw] at hdo
      have := hnext w1 hdo.2
      rw [hdo.1] at this
      exact this
  · intro listed a w1 hs I hr
    have hall : ∀ i, i < l.toArray.size → listed.getD i false = true := by
      intro i
      induction i using Nat.strongRecOn with
      | ind i ih =>
        intro hil
        cases hl : listed.getD i false with
        | true => rfl
        | false =>
          have ho : l.toArray[i]? = some l.toArray[i] := Array.getElem?_eq_getElem hil
          have : i ∈ Region.ready .any l.toArray listed := by
            refine mem_ready.2 ⟨?_, _, ho, fun e he hb => ?_⟩
            · have hl' : i < listed.size := by rw [hs]; exact hil
              simp [hl'] at hl ⊢
              exact hl
            · have := C.back i _ ho e he hb
              exact ih e.on this (by omega)
          rw [hr] at this; cases this
    obtain ⟨k, hk, hkt, hΩ⟩ := I.world
    have hkm : k = ticks.length := by
      rcases Nat.lt_or_ge k ticks.length with h | h
      · have ht : ticks[k]? = some ticks[k] := List.getElem?_eq_getElem h
        have := (hkt k _ ht).1 (hall _ (C.tick k _ ht).2.2)
        omega
      · omega
    subst hkm
    have : a = aS := by
      obtain ⟨at1, ad1⟩ := a
      obtain ⟨bt, bd⟩ := aS
      have e1 : at1 = bt := by
        apply Array.ext_getElem?
        intro d
        by_cases hex : ∃ (j : Nat) (oj : Oper), l.toArray[j]? = some oj ∧ oj.dst = some d
        · obtain ⟨j, oj, hj, hjd⟩ := hex
          exact (I.got j oj d hj hjd (hall j (Array.getElem?_eq_some_iff.1 hj).1)).trans (sG j oj d hj hjd).symm
        · exact (I.old d (fun j oj hj _ hjd => hex ⟨j, oj, hj, hjd⟩)).trans (sO d (fun j oj hj hjd => hex ⟨j, oj, hj, hjd⟩)).symm
      have e2 : ad1 = bd := I.defers.trans sD.symm
      rw [e1, e2]
    rw [this]
    exact hQ _ hΩ
  · refine ⟨rfl, rfl, ?_, fun _ _ => rfl, ?_, 0, Nat.zero_le _, ?_, h0⟩
    · intro i o d _ _ h
      simp [Array.getElem?_replicate] at h
      split at h <;> simp at h
    · intro i o _ h
      simp [Array.getElem?_replicate] at h
      split at h <;> simp at h
    · intro j t ht
      constructor
      · intro h
        simp [Array.getElem?_replicate] at h
        split at h <;> simp at h
      · intro h; omega
def wantedV (V : Nat → Value) : Option (Nat × Bool) → Bool
  | none => true
  | some (g, b) => match V g with
    | .bool c => c == b
    | _ => false
def OpRes (P : Program) (v : Value) (R : World → Prop) : Result Next → Prop
  | .ok (.value u) w' => u = v ∧ R w'
  | .ok .skip w' => v = undef ∧ R w'
  | .ok (.enter f args) w' => Calls P f args w' fun e w'' => e = .returned v ∧ R w''
  | .ok (.row row args) w' => Rows P row args w' fun u w'' => u = v ∧ R w''
  | _ => False
section
variable {P : Program} {v u : Value} {R : World → Prop} {w : World} {f : FuncId} {args : Array Value}
theorem opRes_value : OpRes P v R (.ok (.value u) w) = (u = v ∧ R w) := rfl
theorem opRes_skip : OpRes P v R (.ok .skip w) = (v = undef ∧ R w) := rfl
theorem opRes_enter : OpRes P v R (.ok (.enter f args) w) = Calls P f args w fun e w'' => e = .returned v ∧ R w'' := rfl
end
def guardB (ops : Array Oper) : Bool := ops.all fun o => match o.guard with
  | none => true
  | some (g, _) => ((ops[g]?).bind (·.dst)).isSome
def valRun (P : Program) (ρ : Operand → Value) (V : Nat → Value) (Ω : Nat → World → Prop) (ticks : List Nat) (lo hi : List Nat) : List Oper → Nat → Prop
  | [], _ => True
  | o :: l, i => (∀ k w, lo.getD i 0 ≤ k → k ≤ hi.getD i 0 → k ≤ ticks.length → Ω k w →
      if wantedV V o.guard = true then OpRes P (V i) (Ω (if ticks.contains i then k + 1 else k)) ((execOp ρ o).run P w) else V i = undef ∧ Ω (if ticks.contains i then k + 1 else k) w) ∧ valRun P ρ V Ω ticks lo hi l (i + 1)
theorem flow_of_val {P : Program} {ops : Array Oper} {aS : Act} {V : Nat → Value} {Ω : Nat → World → Prop} {ticks : List Nat} {lo hi : List Nat} (sG : ∀ i o d, ops[i]? = some o → o.dst = some d → aS.tmps[d]? = some (V i)) (hG : guardB ops = true) :
    ∀ (l : List Oper) (i : Nat), (∀ j o, l[j]? = some o → ops[i + j]? = some o) → valRun P aS.eval V Ω ticks lo hi l i → flowRun P ops aS V Ω ticks lo hi l i
  | [], _, _, _ => trivial
  | o :: l, i, hl, h => by
    have ho : ops[i]? = some o := hl 0 o rfl
    refine ⟨fun k w h1 h2 h3 hO => ?_, flow_of_val sG hG l (i + 1) (fun j o' hj => by have := hl (j + 1) o' (by simpa using hj); rwa [show i + (j + 1) = i + 1 + j from by omega] at this) h.2⟩
    have hv := h.1 k w h1 h2 h3 hO
    unfold OpDoes
    have hw : Region.wanted o (yielded ops aS.tmps) = wantedV V o.guard := by
      unfold Region.wanted wantedV
      cases hg : o.guard with
      | none => rfl
      | some gb =>
        obtain ⟨g, b⟩ := gb
        have hb := Array.all_eq_true_iff_forall_mem.1 hG o (Array.mem_of_getElem? ho)
        rw [hg] at hb
        obtain ⟨t, ht⟩ := Option.isSome_iff_exists.1 hb
        obtain ⟨og, hog, htg⟩ := Option.bind_eq_some_iff.1 ht
        have := sG g og t hog htg
        have hy : yielded ops aS.tmps g = match V g with | .bool c => some c | _ => none := by
          unfold yielded
          rw [ht, Option.bind_some, this]
          cases V g <;> rfl
        simp only [hy]
        cases V g <;> rfl
    rw [hw]
    split
    · rename_i hwt
      rw [if_pos hwt] at hv
      have hput : aS.put o.dst (V i) = aS := by
        cases hd : o.dst with
        | none => rfl
        | some d =>
          have := sG i o d ho hd
          obtain ⟨at1, ad⟩ := aS
          simp only [Act.put]
          congr 1
          apply Array.ext_getElem?
          intro e
          by_cases he : d = e
          · subst he
            have hlt := (Array.getElem?_eq_some_iff.1 this).1
            simp only at this hlt
            rw [this]; simp [hlt]
          · rw [Array.getElem?_setIfInBounds_ne he]
      unfold Oper.wp
      generalize (execOp aS.eval o).run P w = r at hv
      cases r with
      | ok x w' =>
        cases x <;> simp only [OpRes] at hv
        case value u => obtain ⟨rfl, h4⟩ := hv; exact ⟨hput, h4⟩
        case skip => obtain ⟨h4, h5⟩ := hv; rw [h4] at hput; exact ⟨hput, h5⟩
        case enter f args =>
          refine Calls.mono hv fun e w'' he => ?_
          obtain ⟨rfl, h4⟩ := he
          exact ⟨hput, h4⟩
        case row row args => exact Rows.mono hv fun u w'' he => by obtain ⟨rfl, h4⟩ := he; exact ⟨hput, h4⟩
      | halt x w' => simp only [OpRes] at hv
    · rename_i hwt
      rw [if_neg hwt] at hv
      exact hv
theorem wp_region_vals {P : Program} {Q : Exit → Act → World → Prop} {id : Nat} {l : List Oper} {a0 : Act} {w : World} (V : Nat → Value) (Ω : Nat → World → Prop) (ticks : List Nat) (anc : List (List Nat)) (lo hi : List Nat)
    (hm : P.follows .mixedOrders = true) (hC : ssaB l.toArray a0.tmps.size ticks anc lo hi = true) (hS : Region.noSelect l.toArray = true) (hG : guardB l.toArray = true)
    (h0 : Ω 0 w.drew)
    (hR : ∀ ρ : Operand → Value, (∀ v, ρ (.const v) = v) → (∀ g, ρ (.global g) = .pointer (some ⟨g, 0, none⟩)) → (∀ f, ρ (.func f) = .func (.func f) #[] #[]) →
      (∀ i o d, l[i]? = some o → o.dst = some d → ρ (.tmp d) = V i) → (∀ d, (l.all fun o => o.dst != some d) = true → ρ (.tmp d) = a0.tmps.getD d undef) → valRun P ρ V Ω ticks lo hi l 0)
    (hQ : ∀ w', Ω ticks.length w' → Q .normal (ssaAct V l 0 a0) w') :
    (Code.region id l.toArray true).wp P Q a0 w := by
  have C := ssaC hC
  have sG : ∀ i o d, l.toArray[i]? = some o → o.dst = some d → (ssaAct V l 0 a0).tmps[d]? = some (V i) := fun i o d h hd => by
    have := ssaAct_got V l 0 a0 i o d (by simpa using h) hd (C.room i o d h hd) (fun j' o' h1 h2 => C.once j' o' i o d (by simpa using h1) h hd h2)
    rwa [Nat.zero_add] at this
  refine wp_region_flow V Ω ticks anc lo hi hm hC hS h0 (flow_of_val sG hG l 0 (fun j o hj => by rw [Nat.zero_add]; simpa using hj) (hR _ (fun _ => rfl) (fun _ => rfl) (fun _ => rfl) (fun i o d h hd => ?_) (fun d hd => ?_))) hQ
  · have := sG i o d (by simpa using h) hd
    simp [Act.eval, this]
  · have := ssaAct_old V d l 0 a0 (fun o ho e => by
      have := List.all_eq_true.1 hd o ho
      simp [e] at this)
    simp [Act.eval, this]
def ssaB2 (ops : Array Oper) (sz : Nat) (ticks : List Nat) (anc : List (List Nat)) (lo hi : List Nat) : Bool :=
  (List.range ops.size).all (fun i => match ops[i]? with
    | none => true
    | some o => o.after.all (fun e => !Region.binds .any e || decide (e.on < i)) &&
      (List.range ops.size).all (fun j => match (ops[j]?).bind (·.dst) with
        | none => true
        | some d => decide (d < sz) && (i == j || o.dst != some d) && (!(o.looksAt ops).contains d || o.after.any (fun e => Region.binds .any e && e.on == j) || (anc.getD j []).contains i)) &&
      (anc.getD i []).all (fun x => o.after.any (fun e => Region.binds .any e && (e.on == x || (anc.getD e.on []).contains x))) &&
      (List.range (lo.getD i 0)).all (fun j => decide (j < ticks.length) && (anc.getD i []).contains (ticks.getD j 0)) &&
      (List.range ticks.length).all (fun j => decide (j < hi.getD i 0) || ticks.getD j 0 == i || (anc.getD (ticks.getD j 0) []).contains i)) &&
  (List.range ticks.length).all (fun p => lo.getD (ticks.getD p 0) 0 == p && hi.getD (ticks.getD p 0) 0 == p && decide (ticks.getD p 0 < ops.size))
structure SsaC2 (ops : Array Oper) (sz : Nat) (ticks : List Nat) (anc : List (List Nat)) (lo hi : List Nat) : Prop where
  back : ∀ (i : Nat) (o : Oper), ops[i]? = some o → ∀ e ∈ o.after, Region.binds .any e = true → e.on < i
  room : ∀ (j : Nat) (oj : Oper) (d : Nat), ops[j]? = some oj → oj.dst = some d → d < sz
  once : ∀ (i : Nat) (o : Oper) (j : Nat) (oj : Oper) (d : Nat), ops[i]? = some o → ops[j]? = some oj → oj.dst = some d → o.dst = some d → i = j
  dep : ∀ (i : Nat) (o : Oper) (j : Nat) (oj : Oper) (d : Nat), ops[i]? = some o → ops[j]? = some oj → oj.dst = some d → d ∈ o.looksAt ops → (∃ e ∈ o.after, Region.binds .any e = true ∧ e.on = j) ∨ i ∈ anc.getD j []
  up : ∀ (i : Nat) (o : Oper), ops[i]? = some o → ∀ x ∈ anc.getD i [], ∃ e ∈ o.after, Region.binds .any e = true ∧ (e.on = x ∨ x ∈ anc.getD e.on [])
  low : ∀ (i : Nat) (o : Oper), ops[i]? = some o → ∀ j, j < lo.getD i 0 → ∃ t, ticks[j]? = some t ∧ t ∈ anc.getD i []
  high : ∀ (i : Nat) (o : Oper), ops[i]? = some o → ∀ j t, ticks[j]? = some t → j < hi.getD i 0 ∨ t = i ∨ i ∈ anc.getD t []
  tick : ∀ (p t : Nat), ticks[p]? = some t → lo.getD t 0 = p ∧ hi.getD t 0 = p ∧ t < ops.size
theorem ssaC2 {ops : Array Oper} {sz : Nat} {ticks : List Nat} {anc : List (List Nat)} {lo hi : List Nat} (h : ssaB2 ops sz ticks anc lo hi = true) : SsaC2 ops sz ticks anc lo hi := by
  unfold ssaB2 at h
  rw [Bool.and_eq_true, List.all_eq_true, List.all_eq_true] at h
  obtain ⟨h1, h2⟩ := h
  have hop : ∀ (i : Nat) (o : Oper), ops[i]? = some o → i < ops.size := fun i o h => (Array.getElem?_eq_some_iff.1 h).1
  have H := fun (i : Nat) (o : Oper) (ho : ops[i]? = some o) => by
    have := h1 i (List.mem_range.2 (hop i o ho))
    rw [ho] at this
    simp only [Bool.and_eq_true] at this
    exact this
  have hg : ∀ (p : Nat) (t : Nat), ticks[p]? = some t → p < ticks.length ∧ ticks.getD p 0 = t := fun p t h => by
    obtain ⟨hl, _⟩ := List.getElem?_eq_some_iff.1 h
    exact ⟨hl, by rw [List.getD_eq_getElem?_getD, h]; rfl⟩
  refine ⟨fun i o ho e he hb => ?_, fun j oj d ho hd => ?_, fun i o j oj d hi hj hd hdo => ?_, fun i o j oj d hi hj hd hm => ?_, fun i o ho x hx => ?_, fun i o ho j hj => ?_, fun i o ho j t ht => ?_, fun p t ht => ?_⟩
  · have := Array.all_eq_true_iff_forall_mem.1 (H i o ho).1.1.1.1 e he
    rw [hb] at this
    simpa using this
  · have := List.all_eq_true.1 (H j oj ho).1.1.1.2 j (List.mem_range.2 (hop j oj ho))
    rw [ho] at this
    simp only [Option.bind_some, hd, Bool.and_eq_true] at this
    exact of_decide_eq_true this.1.1
  · have := List.all_eq_true.1 (H i o hi).1.1.1.2 j (List.mem_range.2 (hop j oj hj))
    rw [hj] at this
    simp only [Option.bind_some, hd, Bool.and_eq_true] at this
    have := this.1.2
    simpa [hdo] using this
  · have := List.all_eq_true.1 (H i o hi).1.1.1.2 j (List.mem_range.2 (hop j oj hj))
    rw [hj] at this
    simp only [Option.bind_some, hd, Bool.and_eq_true] at this
    have := this.2
    rw [List.contains_iff_mem.2 hm] at this
    simp only [Bool.not_true, Bool.false_or, Bool.or_eq_true] at this
    rcases this with this | this
    · obtain ⟨e, he, h3⟩ := any_mem this
      rw [Bool.and_eq_true] at h3
      exact .inl ⟨e, he, h3.1, by simpa using h3.2⟩
    · exact .inr (List.contains_iff_mem.1 this)
  · have := List.all_eq_true.1 (H i o ho).1.1.2 x hx
    obtain ⟨e, he, h3⟩ := any_mem this
    rw [Bool.and_eq_true, Bool.or_eq_true] at h3
    exact ⟨e, he, h3.1, h3.2.imp (by simp) (by simp)⟩
  · have := List.all_eq_true.1 (H i o ho).1.2 j (List.mem_range.2 hj)
    rw [Bool.and_eq_true] at this
    have hl : j < ticks.length := of_decide_eq_true this.1
    refine ⟨ticks[j], List.getElem?_eq_getElem hl, ?_⟩
    have h4 := List.contains_iff_mem.1 this.2
    have e4 : ticks.getD j 0 = ticks[j] := by rw [List.getD_eq_getElem?_getD, List.getElem?_eq_getElem hl]; rfl
    rwa [e4] at h4
  · obtain ⟨hl, hq⟩ := hg j t ht
    have := List.all_eq_true.1 (H i o ho).2 j (List.mem_range.2 hl)
    rw [hq] at this
    simp only [Bool.or_eq_true, decide_eq_true_eq, beq_iff_eq, List.contains_iff_mem] at this
    rcases this with (h | h) | h
    · exact .inl h
    · exact .inr (.inl h)
    · exact .inr (.inr h)
  · obtain ⟨hl, hq⟩ := hg p t ht
    have := h2 p (List.mem_range.2 hl)
    rw [hq] at this
    simp only [Bool.and_eq_true, beq_iff_eq, decide_eq_true_eq] at this
    exact ⟨this.1.1, this.1.2, this.2⟩
def backB (ops : Array Oper) (anc : List (List Nat)) (i t : Nat) : Bool := (List.range ops.size).any fun j => ((ops[j]?).bind (·.dst) == some t) && (anc.getD j []).contains i
def guardB2 (ops : Array Oper) : Bool := ops.all fun o => match o.guard with
  | none => true
  | some (g, _) => ((ops[g]?).bind (·.dst)).isSome && o.after.any (fun e => Region.binds .any e && e.on == g)
end Go.Tk
end
section
namespace Go.Vc
open Go.RowKit Go.Tk
abbrev Rv := Nat × Value
def upd (e : Nat → Rv) (k : Nat) (x : Rv) : Nat → Rv := fun r => bif Nat.beq r k then x else e r
def Res (P : Program) (R : Value → World → Prop) : Result Next → Prop
  | .ok (.value u) w' => R u w'
  | .ok .skip w' => R undef w'
  | .ok (.enter f args) w' => Calls P f args w' fun e w'' => ∃ u, e = .returned u ∧ R u w''
  | .ok (.row row args) w' => Rows P row args w' R
  | _ => False
section
variable {P : Program} {R : Value → World → Prop} {w : World} {f : FuncId} {args : Array Value} {v : Value}
end
def want (V : Nat → Value) : Option (Nat × Bool) → Bool
  | none => true
  | some (g, b) => match V g with
    | .bool c => c == b
    | _ => false
structure Ev (l : List Oper) (old : Nat → Nat → Bool) (i : Nat) (V : Nat → Value) (a0 : Act) (ρ : Operand → Value) : Prop where
  c : ∀ v, ρ (.const v) = v
  g : ∀ g, ρ (.global g) = .pointer (some ⟨g, 0, none⟩)
  f : ∀ f, ρ (.func f) = .func (.func f) #[] #[]
  d : ∀ j o d, l[j]? = some o → o.dst = some d → old i d = false → ρ (.tmp d) = V j
  o : ∀ d v, (old i d || l.all fun o => o.dst != some d) = true → a0.tmps[d]? = some v → ρ (.tmp d) = v
def oldB (ops : Array Oper) (anc : List (List Nat)) (old : Nat → Nat → Bool) : Bool :=
  (List.range ops.size).all fun i => match ops[i]? with
    | none => true
    | some o => (o.looksAt ops).all fun t => old i t == backB ops anc i t
end Go.Vc
end
section
namespace Go.Tk
open Go.RowKit Go.Lib
theorem wpList_append_row_at {P : Program} {w : World} {ops : Array Oper} {rest : List Oper} {o : Oper} {a : Act} {Q : Exit → Act → World → Prop} (hgd : o.guard = none) (s x : Operand) (t : TypeId)
    (ho : o.op = .call { callee := .builtin .append, args := #[s, x], argTypes := #[t, t] })
    (base : Nat) (e : TypeId) (z : Value) (size bytes : Nat) (ht : P.underlying t = some (.slice e)) (hinfo : (P.info? e).map (fun i => (i.zero, i.size, i.bytes)) = some (some z, size, bytes))
    (hzs : z.cells.size = size) (hsz : 0 < size)
    (v : Value) (n : Nat) (xs : List Value) (hs : a.eval s = v) (hown : w.ownsRow base e size v n xs)
    (ad : Option Addr) (m c : Nat) (news : List Value) (hx : a.eval x = .slice ad m c) (hc : ad = none → c = 0) (hr : Row w ad news) (hl : news.length = m * size) (h1 : ∀ u ∈ news, u.oneCell' = true)
    (h63 : n + m ≤ maxLen) (hbytes : (n + m) * bytes ≤ 140737488355328) (hbase : base ≤ w.heap.size)
    (h : ∀ v' w', w'.ownsRow base e size v' (n + m) (xs ++ news) → w.grownBy w' v.ownBlock → (v'.ownBlock = v.ownBlock ∨ v'.ownBlock = some w.heap.size) → wpList P ops Q rest (a.put o.dst v') w') : wpList P ops Q (o :: rest) a w := by
  obtain ⟨i0, hi, hz0, hz1, hz2⟩ := info_parts hinfo
  cases ad with
  | none =>
    have hn : news = [] := by
      cases hne : news with
      | nil => rfl
      | cons y r => subst hne; obtain ⟨b, off, h, _⟩ := hr 0 (by simp); cases h
    subst hn
    have hm : m = 0 := by
      rcases Nat.eq_zero_or_pos m with h | h
      · exact h
      · have := Nat.mul_pos h hsz; simp at hl; omega
    subst hm
    have := hc rfl
    subst this
    exact wpList_append_own_none hgd s x t ho base e i0 size ht hi v n xs hs hown hx (h _ _ (by simpa using hown) ⟨rfl, rfl, rfl, Nat.le_refl _, fun _ _ _ => rfl⟩ (.inl rfl))
  | some ad =>
    refine wpList_append_own_at w hgd s x t ho base e i0 z size bytes ht hi hz0 hz1 hz2 hzs hsz v n xs hs hown ad m c news hx hl ?_ h1 h63 hbytes hbase fun v' w' h2 h3 _ h5 => h v' w' h2 h3 h5
    intro j u hj
    have hjl : j < news.length := by
      rcases Nat.lt_or_ge j news.length with h | h
      · exact h
      · simp [List.getElem?_eq_none h] at hj
    obtain ⟨b, off, hab, hcell⟩ := hr j hjl
    cases hab
    have : (Addr.add ⟨b, off, none⟩ j) = ⟨b, off + j, none⟩ := by
      unfold Addr.add
      split
      · rename_i h; subst h; rfl
      · rfl
    rw [this, hcell, List.getD_eq_getElem?_getD, hj]; rfl
def Apart (v u : Value) : Prop := v.ownBlock = none ∨ u.ownBlock = none ∨ v.ownBlock ≠ u.ownBlock
theorem Apart.symm {v u : Value} (h : Apart v u) : Apart u v := by
  rcases h with h | h | h
  · exact .inr (.inl h)
  · exact .inl h
  · exact .inr (.inr (Ne.symm h))
theorem Apart.nil (u : Value) : Apart (.slice none 0 0) u := .inl rfl
section
variable {w w' : World} {base : Nat} {e e' : TypeId} {size size' : Nat} {v v' u : Value} {n m : Nat} {xs ys : List Value}
theorem ownsRow_other (h : w.ownsRow base e size u m ys) (hg : w.grownBy w' v.ownBlock) (ha : Apart v u) : w'.ownsRow base e size u m ys := by
  refine h.kept hg ?_
  rcases ha with ha | ha | ha
  · rw [ha]
    cases hu : u.ownBlock with
    | none => exact .inl rfl
    | some g => exact .inr (by simp)
  · exact .inl ha
  · exact .inr (Ne.symm ha)
theorem apart_grown (hu : w.ownsRow base e size u m ys) (ha : Apart v u) (hat : v'.ownBlock = v.ownBlock ∨ v'.ownBlock = some w.heap.size) : Apart v' u := by
  rcases hat with h | h
  · rcases ha with ha | ha | ha
    · exact .inl (by rw [h]; exact ha)
    · exact .inr (.inl ha)
    · exact .inr (.inr (by rw [h]; exact ha))
  · rcases hu' : u.ownBlock with _ | g
    · exact .inr (.inl hu')
    · refine .inr (.inr ?_)
      have := hu.lt g hu'
      rw [h, hu']; simp; omega
end
theorem ownsRow_below {w w' : World} {base : Nat} {e : TypeId} {size : Nat} {v : Value} {n : Nat} {xs : List Value} (h : w.ownsRow base e size v n xs) (hb : Below w.heap.size w w') : w'.ownsRow base e size v n xs := by
  refine h.kept (row := none) ⟨hb.os, hb.tape, hb.output, hb.size, fun k hk _ => hb.block k hk⟩ ?_
  cases v.ownBlock with
  | none => exact .inl rfl
  | some g => exact .inr (by simp)
theorem ownsRow_set {w : World} {base : Nat} {e : TypeId} {size : Nat} {g n cap : Nat} {xs : List Value} (h : w.ownsRow base e size (.slice (some ⟨g, 0, none⟩) n cap) n xs) (j : Nat) (u : Value) :
    (w.setCell ⟨g, j, none⟩ u).ownsRow base e size (.slice (some ⟨g, 0, none⟩) n cap) n (xs.set j u) := by
  obtain ⟨hl, h | ⟨g', cap', cur, hv, hg, hh, hn, hc, hs, ht⟩⟩ := h
  · simp at h
  · simp only [Value.slice.injEq, Option.some.injEq, Addr.mk.injEq, and_true, true_and] at hv
    obtain ⟨rfl, rfl⟩ := hv
    refine ⟨by rw [List.length_set]; exact hl, .inr ⟨g, cap, cur.setIfInBounds j u, rfl, hg, ?_, hn, hc, by simp [hs], ?_⟩⟩
    · unfold World.setCell
      simp only [Array.getElem?_modify, if_true, hh, Option.map_some]
      rfl
    · rw [Array.toList_setIfInBounds, List.take_set, ht]
end Go.Tk
end
