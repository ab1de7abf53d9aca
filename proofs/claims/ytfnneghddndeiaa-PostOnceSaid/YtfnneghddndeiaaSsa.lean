/- A region that draws its order, each of whose operations leaves one value whatever came up before it, and whose world goes through a row of worlds. -/
import Derived.OrdersIn
import Derived.OwnWalkIn
import Derived.Test.YtfnneghddndeiaaRegInv
namespace Go.Tk
set_option linter.unusedVariables false
set_option linter.unusedSimpArgs false
open Go.RowKit
def ssaAct (V : Nat → Value) : List Oper → Nat → Act → Act
  | [], _, a => a
  | o :: l, i, a => ssaAct V l (i + 1) (a.put o.dst (V i))
def ssaB (ops : Array Oper) (sz : Nat) (ticks : List Nat) (anc : List (List Nat)) (lo hi : List Nat) : Bool :=
  (List.range ops.size).all (fun i => match ops[i]? with
    | none => true
    | some o => o.after.all (fun e => !Region.binds .any e || decide (e.on < i)) &&
      (List.range ops.size).all (fun j => match (ops[j]?).bind (·.dst) with
        | none => true
        | some d => decide (d < sz) && (i == j || o.dst != some d) && (!(o.looksAt ops).contains d || o.after.any (fun e => Region.binds .any e && e.on == j))) &&
      (anc.getD i []).all (fun x => o.after.any (fun e => Region.binds .any e && (e.on == x || (anc.getD e.on []).contains x))) &&
      (List.range (lo.getD i 0)).all (fun j => decide (j < ticks.length) && (anc.getD i []).contains (ticks.getD j 0)) &&
      (List.range ticks.length).all (fun j => decide (j < hi.getD i 0) || ticks.getD j 0 == i || (anc.getD (ticks.getD j 0) []).contains i)) &&
  (List.range ticks.length).all (fun p => lo.getD (ticks.getD p 0) 0 == p && hi.getD (ticks.getD p 0) 0 == p && decide (ticks.getD p 0 < ops.size))
structure SsaC (ops : Array Oper) (sz : Nat) (ticks : List Nat) (anc : List (List Nat)) (lo hi : List Nat) : Prop where
  back : ∀ (i : Nat) (o : Oper), ops[i]? = some o → ∀ e ∈ o.after, Region.binds .any e = true → e.on < i
  room : ∀ (j : Nat) (oj : Oper) (d : Nat), ops[j]? = some oj → oj.dst = some d → d < sz
  once : ∀ (i : Nat) (o : Oper) (j : Nat) (oj : Oper) (d : Nat), ops[i]? = some o → ops[j]? = some oj → oj.dst = some d → o.dst = some d → i = j
  dep : ∀ (i : Nat) (o : Oper) (j : Nat) (oj : Oper) (d : Nat), ops[i]? = some o → ops[j]? = some oj → oj.dst = some d → d ∈ o.looksAt ops → ∃ e ∈ o.after, Region.binds .any e = true ∧ e.on = j
  up : ∀ (i : Nat) (o : Oper), ops[i]? = some o → ∀ x ∈ anc.getD i [], ∃ e ∈ o.after, Region.binds .any e = true ∧ (e.on = x ∨ x ∈ anc.getD e.on [])
  low : ∀ (i : Nat) (o : Oper), ops[i]? = some o → ∀ j, j < lo.getD i 0 → ∃ t, ticks[j]? = some t ∧ t ∈ anc.getD i []
  high : ∀ (i : Nat) (o : Oper), ops[i]? = some o → ∀ j t, ticks[j]? = some t → j < hi.getD i 0 ∨ t = i ∨ i ∈ anc.getD t []
  tick : ∀ (p t : Nat), ticks[p]? = some t → lo.getD t 0 = p ∧ hi.getD t 0 = p ∧ t < ops.size
theorem any_mem {α : Type} {l : Array α} {p : α → Bool} (h : l.any p = true) : ∃ e ∈ l, p e = true := by
  obtain ⟨k, hk, h⟩ := Array.any_eq_true.1 h
  exact ⟨l[k], Array.getElem_mem hk, h⟩
theorem ssaC {ops : Array Oper} {sz : Nat} {ticks : List Nat} {anc : List (List Nat)} {lo hi : List Nat} (h : ssaB ops sz ticks anc lo hi = true) : SsaC ops sz ticks anc lo hi := by
  unfold ssaB at h
  rw [Bool.and_eq_true, List.all_eq_true, List.all_eq_true] at h
  obtain ⟨h1, h2⟩ := h
  have hop : ∀ (i : Nat) (o : Oper), ops[i]? = some o → i < ops.size := fun i o h => (Array.getElem?_eq_some_iff.1 h).1
  have H := fun (i : Nat) (o : Oper) (ho : ops[i]? = some o) => by
    have := h1 i (List.mem_range.2 (hop i o ho))
    rw [ho] at this
    simp only [Bool.and_eq_true] at this
    exact this
  have hg : ∀ (p : Nat) (t : Nat), ticks[p]? = some t → p < ticks.length ∧ ticks.getD p 0 = t := fun p t h => by
    obtain ⟨hl, _⟩ := List.getElem?_eq_some_iff.1 h
    exact ⟨hl, by rw [List.getD_eq_getElem?_getD, h]; rfl⟩
  refine ⟨fun i o ho e he hb => ?_, fun j oj d ho hd => ?_, fun i o j oj d hi hj hd hdo => ?_, fun i o j oj d hi hj hd hm => ?_, fun i o ho x hx => ?_, fun i o ho j hj => ?_, fun i o ho j t ht => ?_, fun p t ht => ?_⟩
  · have := Array.all_eq_true_iff_forall_mem.1 (H i o ho).1.1.1.1 e he
    rw [hb] at this
    simpa using this
  · have := List.all_eq_true.1 (H j oj ho).1.1.1.2 j (List.mem_range.2 (hop j oj ho))
    rw [ho] at this
    simp only [Option.bind_some, hd, Bool.and_eq_true] at this
    exact of_decide_eq_true this.1.1
  · have := List.all_eq_true.1 (H i o hi).1.1.1.2 j (List.mem_range.2 (hop j oj hj))
    rw [hj] at this
    simp only [Option.bind_some, hd, Bool.and_eq_true] at this
    have := this.1.2
    simpa [hdo] using this
  · have := List.all_eq_true.1 (H i o hi).1.1.1.2 j (List.mem_range.2 (hop j oj hj))
    rw [hj] at this
    simp only [Option.bind_some, hd, Bool.and_eq_true] at this
    have := this.2
    rw [List.contains_iff_mem.2 hm] at this
    simp only [Bool.not_true, Bool.false_or] at this
    obtain ⟨e, he, h3⟩ := any_mem this
    rw [Bool.and_eq_true] at h3
    exact ⟨e, he, h3.1, by simpa using h3.2⟩
  · have := List.all_eq_true.1 (H i o ho).1.1.2 x hx
    obtain ⟨e, he, h3⟩ := any_mem this
    rw [Bool.and_eq_true, Bool.or_eq_true] at h3
    exact ⟨e, he, h3.1, h3.2.imp (by simp) (by simp)⟩
  · have := List.all_eq_true.1 (H i o ho).1.2 j (List.mem_range.2 hj)
    rw [Bool.and_eq_true] at this
    have hl : j < ticks.length := of_decide_eq_true this.1
    refine ⟨ticks[j], List.getElem?_eq_getElem hl, ?_⟩
    have h4 := List.contains_iff_mem.1 this.2
    have e4 : ticks.getD j 0 = ticks[j] := by rw [List.getD_eq_getElem?_getD, List.getElem?_eq_getElem hl]; rfl
    rwa [e4] at h4
  · obtain ⟨hl, hq⟩ := hg j t ht
    have := List.all_eq_true.1 (H i o ho).2 j (List.mem_range.2 hl)
    rw [hq] at this
    simp only [Bool.or_eq_true, decide_eq_true_eq, beq_iff_eq, List.contains_iff_mem] at this
    rcases this with (h | h) | h
    · exact .inl h
    · exact .inr (.inl h)
    · exact .inr (.inr h)
  · obtain ⟨hl, hq⟩ := hg p t ht
    have := h2 p (List.mem_range.2 hl)
    rw [hq] at this
    simp only [Bool.and_eq_true, beq_iff_eq, decide_eq_true_eq] at this
    exact ⟨this.1.1, this.1.2, this.2⟩
theorem ssaAct_defers (V : Nat → Value) : ∀ (l : List Oper) (i : Nat) (a : Act), (ssaAct V l i a).defers = a.defers ∧ (ssaAct V l i a).tmps.size = a.tmps.size
  | [], _, _ => ⟨rfl, rfl⟩
  | o :: l, i, a => by
    obtain ⟨h1, h2⟩ := ssaAct_defers V l (i + 1) (a.put o.dst (V i))
    refine ⟨h1.trans ?_, h2.trans ?_⟩ <;> (cases o.dst <;> simp [Act.put])
theorem ssaAct_old (V : Nat → Value) (d : Nat) : ∀ (l : List Oper) (i : Nat) (a : Act), (∀ o ∈ l, o.dst ≠ some d) → (ssaAct V l i a).tmps[d]? = a.tmps[d]?
  | [], _, _, _ => rfl
  | o :: l, i, a, h => by
    refine (ssaAct_old V d l (i + 1) _ (fun o ho => h o (List.mem_cons_of_mem _ ho))).trans ?_
    have := h o List.mem_cons_self
    cases hd : o.dst with
    | none => rfl
    | some e =>
      have hne : e ≠ d := fun he => this (by rw [hd, he])
      simp [Act.put, Array.getElem?_setIfInBounds_ne hne]
theorem ssaAct_got (V : Nat → Value) : ∀ (l : List Oper) (i : Nat) (a : Act) (j : Nat) (o : Oper) (d : Nat), l[j]? = some o → o.dst = some d → d < a.tmps.size → (∀ j' o', l[j']? = some o' → o'.dst = some d → j' = j) → (ssaAct V l i a).tmps[d]? = some (V (i + j))
  | [], _, _, j, o, d, h, _, _, _ => by simp at h
  | o :: l, i, a, 0, o', d, h, hd, hlt, hu => by
    simp only [List.getElem?_cons_zero, Option.some.injEq] at h
    subst h
    refine (ssaAct_old V d l (i + 1) _ (fun o' ho' e => ?_)).trans ?_
    · obtain ⟨k, hk⟩ := List.getElem?_of_mem ho'
      have := hu (k + 1) o' (by simpa using hk) e
      omega
    · rw [hd]
      simp [Act.put, hlt]
  | o :: l, i, a, j + 1, o', d, h, hd, hlt, hu => by
    have := ssaAct_got V l (i + 1) (a.put o.dst (V i)) j o' d (by simpa using h) hd (by cases o.dst <;> simpa [Act.put] using hlt) (fun j' o'' h1 h2 => by
      have := hu (j' + 1) o'' (by simpa using h1) h2
      omega)
    rw [show i + (j + 1) = i + 1 + j from by omega]
    exact this
structure SsaI (ops : Array Oper) (V : Nat → Value) (W : Nat → World) (ticks : List Nat) (a0 : Act) (listed : Array Bool) (a : Act) (w : World) : Prop where
  defers : a.defers = a0.defers
  size : a.tmps.size = a0.tmps.size
  got : ∀ (i : Nat) (o : Oper) (d : Nat), ops[i]? = some o → o.dst = some d → listed.getD i false = true → a.tmps[d]? = some (V i)
  old : ∀ (d : Nat), (∀ (i : Nat) (o : Oper), ops[i]? = some o → listed.getD i false = true → o.dst ≠ some d) → a.tmps[d]? = a0.tmps[d]?
  closed : ∀ (i : Nat) (o : Oper), ops[i]? = some o → listed.getD i false = true → ∀ e ∈ o.after, Region.binds .any e = true → listed.getD e.on false = true
  world : ∃ k, k ≤ ticks.length ∧ (∀ (j t : Nat), ticks[j]? = some t → (listed.getD t false = true ↔ j < k)) ∧ w = W k
def ssaRun (P : Program) (aS : Act) (V : Nat → Value) (W : Nat → World) (ticks : List Nat) (lo hi : List Nat) : List Oper → Nat → Prop
  | [], _ => True
  | o :: l, i => (∀ k, lo.getD i 0 ≤ k → k ≤ hi.getD i 0 → k ≤ ticks.length → (o.about P (W k) aS.eval = none ∧ ∃ r, (execOp aS.eval o).run P (W k) = .ok r (W (if ticks.contains i then k + 1 else k)) ∧ (r = .value (V i) ∨ r = .skip ∧ V i = undef))) ∧ ssaRun P aS V W ticks lo hi l (i + 1)
theorem ssaRun_get {P : Program} {aS : Act} {V : Nat → Value} {W : Nat → World} {ticks : List Nat} {lo hi : List Nat} : ∀ {l : List Oper} {i : Nat}, ssaRun P aS V W ticks lo hi l i → ∀ j o, l[j]? = some o →
    ∀ k, lo.getD (i + j) 0 ≤ k → k ≤ hi.getD (i + j) 0 → k ≤ ticks.length → (o.about P (W k) aS.eval = none ∧ ∃ r, (execOp aS.eval o).run P (W k) = .ok r (W (if ticks.contains (i + j) then k + 1 else k)) ∧ (r = .value (V (i + j)) ∨ r = .skip ∧ V (i + j) = undef))
  | [], _, _, j, o, h => by simp at h
  | o :: l, i, h, 0, o', h1 => by
    simp only [List.getElem?_cons_zero, Option.some.injEq] at h1
    subst h1
    exact h.1
  | o :: l, i, h, j + 1, o', h1 => by
    rw [show i + (j + 1) = i + 1 + j from by omega]
    exact ssaRun_get h.2 j o' (by simpa using h1)
theorem listed_set {l : Array Bool} {i j : Nat} (hi : i < l.size) : (l.setIfInBounds i true).getD j false = true ↔ j = i ∨ l.getD j false = true := by
  by_cases h : i = j
  · subst h; simp [hi]
  · simp [Array.getElem?_setIfInBounds_ne h, Ne.symm h]
theorem wpIn_region_ssa {F : Fence} {n : Nat} {P : Program} {Q : Exit → Act → World → Prop} {id : Nat} {l : List Oper} {a0 : Act} {w : World} (V : Nat → Value) (W : Nat → World) (ticks : List Nat) (anc : List (List Nat)) (lo hi : List Nat)
    (hm : P.follows .mixedOrders = true) (hC : ssaB l.toArray a0.tmps.size ticks anc lo hi = true) (hS : Region.noSelect l.toArray = true) (hD : ∀ o ∈ l, ∀ c, o.op ≠ .defer c) (hG : ∀ o ∈ l, o.guard = none)
    (h0 : W 0 = w.drew) (hR : ssaRun P (ssaAct V l 0 a0) V W ticks lo hi l 0) (hQ : Q .normal (ssaAct V l 0 a0) (W ticks.length)) :
    (Code.region id l.toArray true).wpIn F n P Q a0 w := by
  have C := ssaC hC
  have hd' : ∀ (j : Nat) (o : Oper), l.toArray[j]? = some o → ∀ c, o.op ≠ .defer c := fun j o hj => hD o (by simpa using Array.mem_of_getElem? hj)
  obtain ⟨aS, haS⟩ : ∃ aS, aS = ssaAct V l 0 a0 := ⟨_, rfl⟩
  have sD : aS.defers = a0.defers := by rw [haS]; exact (ssaAct_defers V l 0 a0).1
  have sZ : aS.tmps.size = a0.tmps.size := by rw [haS]; exact (ssaAct_defers V l 0 a0).2
  have sO : ∀ (d : Nat), (∀ (i : Nat) (o : Oper), l.toArray[i]? = some o → o.dst ≠ some d) → aS.tmps[d]? = a0.tmps[d]? := fun d h => by
    rw [haS]
    refine ssaAct_old V d l 0 a0 (fun o ho => ?_)
    obtain ⟨k, hk⟩ := List.getElem?_of_mem ho
    exact h k o (by simpa using hk)
  have sG : ∀ (i : Nat) (o : Oper) (d : Nat), l.toArray[i]? = some o → o.dst = some d → aS.tmps[d]? = some (V i) := fun i o d h hd => by
    rw [haS]
    have := ssaAct_got V l 0 a0 i o d (by simpa using h) hd (C.room i o d h hd) (fun j' o' h1 h2 => C.once j' o' i o d (by simpa using h1) h hd h2)
    rwa [Nat.zero_add] at this
  rw [← haS] at hR hQ
  clear haS hC
  have upAll : ∀ (listed : Array Bool), (∀ (i : Nat) (o : Oper), l.toArray[i]? = some o → listed.getD i false = true → ∀ e ∈ o.after, Region.binds .any e = true → listed.getD e.on false = true) →
      listed.size = l.toArray.size → ∀ (i : Nat) (o : Oper), l.toArray[i]? = some o → (∀ e ∈ o.after, Region.binds .any e = true → listed.getD e.on false = true) → ∀ x ∈ anc.getD i [], listed.getD x false = true := by
    intro listed hcl hsz i
    induction i using Nat.strongRecOn with
    | ind i ih =>
      intro o ho hdir x hx
      obtain ⟨e, he, hb, h | h⟩ := C.up i o ho x hx
      · rw [← h]; exact hdir e he hb
      · have hlt := C.back i o ho e he hb
        have hil : i < l.toArray.size := (Array.getElem?_eq_some_iff.1 ho).1
        have hoe : l.toArray[e.on]? = some l.toArray[e.on] := Array.getElem?_eq_getElem (by omega)
        exact ih e.on hlt _ hoe (hcl e.on _ hoe (hdir e he hb)) x h
  refine wpIn_region_any hm ?_
  refine wpAnyIn_inv (SsaI l.toArray V W ticks a0) ?_ ?_ _ _ _ _ (by simp) (by simp) ?_
  · intro listed a w1 hs I i hir
    obtain ⟨hun, o, ho, hdep⟩ := mem_ready.1 hir
    have hil : i < l.toArray.size := (Array.getElem?_eq_some_iff.1 ho).1
    have hunf : listed.getD i false = false := by
      have hl : i < listed.size := by rw [hs]; exact hil
      simp [hl] at hun ⊢
      exact hun
    have hanc := upAll listed I.closed hs i o ho hdep
    obtain ⟨k, hk, hkt, rfl⟩ := I.world
    have hlo : lo.getD i 0 ≤ k := by
      rcases Nat.lt_or_ge k (lo.getD i 0) with h | h
      · obtain ⟨t, ht, hta⟩ := C.low i o ho k h
        have := (hkt k t ht).1 (hanc t hta)
        omega
      · exact h
    have hun2 : ∀ (j t : Nat), ticks[j]? = some t → (t = i ∨ i ∈ anc.getD t []) → k ≤ j := fun j t ht h => by
      rcases Nat.lt_or_ge j k with hjk | hjk
      · have htl := (hkt j t ht).2 hjk
        rcases h with rfl | h
        · rw [hunf] at htl; cases htl
        · have htz := (C.tick j t ht).2.2
          have hot : l.toArray[t]? = some l.toArray[t] := Array.getElem?_eq_getElem htz
          have := upAll listed I.closed hs t _ hot (I.closed t _ hot htl) i h
          rw [hunf] at this; cases this
      · exact hjk
    have hhi : k ≤ hi.getD i 0 := by
      rcases Nat.lt_or_ge (hi.getD i 0) ticks.length with h | h
      · have ht : ticks[hi.getD i 0]? = some ticks[hi.getD i 0] := List.getElem?_eq_getElem h
        rcases C.high i o ho _ _ ht with h1 | h1
        · omega
        · exact hun2 _ _ ht h1
      · omega
    obtain ⟨hab, r, hrun, hr⟩ := ssaRun_get hR i o (by simpa using ho) k (by rwa [Nat.zero_add]) (by rwa [Nat.zero_add]) hk
    rw [Nat.zero_add] at hrun hr
    have hev : ∀ x ∈ o.op.operands, a.eval x = aS.eval x := by
      intro x hx
      cases x with
      | tmp t =>
        have hta : t ∈ o.looksAt l.toArray := List.mem_append_left _ (List.mem_filterMap.2 ⟨.tmp t, by simpa using hx, rfl⟩)
        have : a.tmps[t]? = aS.tmps[t]? := by
          by_cases hex : ∃ (j : Nat) (oj : Oper), l.toArray[j]? = some oj ∧ oj.dst = some t
          · obtain ⟨j, oj, hj, hjd⟩ := hex
            obtain ⟨e, he, hb, hej⟩ := C.dep i o j oj t ho hj hjd hta
            have hjl := hdep e he hb
            rw [hej] at hjl
            rw [I.got j oj t hj hjd hjl, sG j oj t hj hjd]
          · rw [I.old t (fun j oj hj _ hjd => hex ⟨j, oj, hj, hjd⟩), sO t (fun j oj hj hjd => hex ⟨j, oj, hj, hjd⟩)]
        simp [Act.eval, this]
      | _ => rfl
    have hex := execOp_congr o (fun cs b => Region.noSelect_spec hS i o cs b ho) hev
    have hab' := about_congr (P := P) o (W k) hev
    have hw : Region.wanted o (yielded l.toArray a.tmps) = true := by simp [Region.wanted, hG o (by simpa using Array.mem_of_getElem? ho)]
    have hnext : SsaI l.toArray V W ticks a0 (listed.setIfInBounds i true) (a.put o.dst (V i)) (W (if ticks.contains i then k + 1 else k)) := by
      have hli : i < listed.size := by rw [hs]; exact hil
      refine ⟨?_, ?_, ?_, ?_, ?_, ?_⟩
      · rw [← I.defers]; cases o.dst <;> rfl
      · rw [← I.size]; cases o.dst <;> simp [Act.put]
      · intro j oj d hj hjd hl
        rcases (listed_set hli).1 hl with rfl | hl
        · rw [ho] at hj; cases hj
          rw [hjd]
          have := C.room j o d ho hjd
          rw [← I.size] at this
          simp [Act.put, this]
        · have hgot := I.got j oj d hj hjd hl
          cases hod : o.dst with
          | none => exact hgot
          | some e =>
            have hne : e ≠ d := by
              rintro rfl
              have := C.once i o j oj e ho hj hjd hod
              subst this
              rw [hunf] at hl; cases hl
            simpa [Act.put, Array.getElem?_setIfInBounds_ne hne] using hgot
      · intro d h
        have h1 := I.old d (fun j oj hj hl => h j oj hj ((listed_set hli).2 (.inr hl)))
        have h2 := h i o ho ((listed_set hli).2 (.inl rfl))
        cases hod : o.dst with
        | none => exact h1
        | some e =>
          have hne : e ≠ d := fun he => h2 (by rw [hod, he])
          simpa [Act.put, Array.getElem?_setIfInBounds_ne hne] using h1
      · intro j oj hj hl e he hb
        rcases (listed_set hli).1 hl with rfl | hl
        · rw [ho] at hj; cases hj
          exact (listed_set hli).2 (.inr (hdep e he hb))
        · exact (listed_set hli).2 (.inr (I.closed j oj hj hl e he hb))
      · by_cases hti : i ∈ ticks
        · obtain ⟨p, hp⟩ := List.getElem?_of_mem hti
          obtain ⟨t1, t2, -⟩ := C.tick p i hp
          have hkp : k = p := by omega
          subst hkp
          have hpl : k < ticks.length := (List.getElem?_eq_some_iff.1 hp).1
          refine ⟨k + 1, hpl, fun j t ht => ?_, by rw [if_pos (List.contains_iff_mem.2 hti)]⟩
          constructor
          · intro h
            rcases (listed_set hli).1 h with rfl | h
            · have := (C.tick j t ht).1; omega
            · have := (hkt j t ht).1 h; omega
          · intro h
            refine (listed_set hli).2 ?_
            rcases Nat.lt_or_ge j k with h1 | h1
            · exact .inr ((hkt j t ht).2 h1)
            · have : j = k := by omega
              subst this
              rw [hp] at ht; cases ht
              exact .inl rfl
        · refine ⟨k, hk, fun j t ht => ?_, by rw [if_neg (fun h => hti (List.contains_iff_mem.1 h))]⟩
          have hne : t ≠ i := by rintro rfl; exact hti (List.mem_of_getElem? ht)
          rw [← hkt j t ht, listed_set hli]
          exact ⟨fun h => h.resolve_left hne, .inr⟩
    unfold wpOpIn
    simp only [ho, hw, if_true, Oper.wpIn, Oper.semAt_plain F _ _ (hd' i o ho)]
    refine ⟨fun f hf => (by rw [hab', hab] at hf; cases hf), ?_⟩
    rw [hex, hrun]
    rcases hr with rfl | ⟨rfl, hV⟩
    · exact hnext
    · rw [hV] at hnext; exact hnext
  · intro listed a w1 hs I hr
    have hall : ∀ i, i < l.toArray.size → listed.getD i false = true := by
      intro i
      induction i using Nat.strongRecOn with
      | ind i ih =>
        intro hil
        cases hl : listed.getD i false with
        | true => rfl
        | false =>
          have ho : l.toArray[i]? = some l.toArray[i] := Array.getElem?_eq_getElem hil
          have : i ∈ Region.ready .any l.toArray listed := by
            refine mem_ready.2 ⟨?_, _, ho, fun e he hb => ?_⟩
            · have hl' : i < listed.size := by rw [hs]; exact hil
              simp [hl'] at hl ⊢
              exact hl
            · have := C.back i _ ho e he hb
              exact ih e.on this (by omega)
          rw [hr] at this; cases this
    obtain ⟨k, hk, hkt, rfl⟩ := I.world
    have hkm : k = ticks.length := by
      rcases Nat.lt_or_ge k ticks.length with h | h
      · have ht : ticks[k]? = some ticks[k] := List.getElem?_eq_getElem h
        have := (hkt k _ ht).1 (hall _ (C.tick k _ ht).2.2)
        omega
      · omega
    subst hkm
    have : a = aS := by
      obtain ⟨at1, ad1⟩ := a
      obtain ⟨bt, bd⟩ := aS
      have e1 : at1 = bt := by
        apply Array.ext_getElem?
        intro d
        by_cases hex : ∃ (j : Nat) (oj : Oper), l.toArray[j]? = some oj ∧ oj.dst = some d
        · obtain ⟨j, oj, hj, hjd⟩ := hex
          exact (I.got j oj d hj hjd (hall j (Array.getElem?_eq_some_iff.1 hj).1)).trans (sG j oj d hj hjd).symm
        · exact (I.old d (fun j oj hj _ hjd => hex ⟨j, oj, hj, hjd⟩)).trans (sO d (fun j oj hj hjd => hex ⟨j, oj, hj, hjd⟩)).symm
      have e2 : ad1 = bd := I.defers.trans sD.symm
      rw [e1, e2]
    rw [this]
    exact hQ
  · refine ⟨rfl, rfl, ?_, fun _ _ => rfl, ?_, 0, Nat.zero_le _, ?_, by rw [h0]; rfl⟩
    · intro i o d _ _ h
      simp [Array.getElem?_replicate] at h
      split at h <;> simp at h
    · intro i o _ h
      simp [Array.getElem?_replicate] at h
      split at h <;> simp at h
    · intro j t ht
      constructor
      · intro h
        simp [Array.getElem?_replicate] at h
        split at h <;> simp at h
      · intro h; omega
end Go.Tk
