/- A region that draws its order, over values alone, where an operation may read a slot that a later one writes. -/
import Derived.Test.YtlamaakconjkcaaGreatFlow
namespace Go.Tk
set_option linter.unusedVariables false
set_option linter.unusedSimpArgs false
open Go.RowKit

def ssaB2 (ops : Array Oper) (sz : Nat) (ticks : List Nat) (anc : List (List Nat)) (lo hi : List Nat) : Bool :=
  (List.range ops.size).all (fun i => match ops[i]? with
    | none => true
    | some o => o.after.all (fun e => !Region.binds .any e || decide (e.on < i)) &&
      (List.range ops.size).all (fun j => match (ops[j]?).bind (·.dst) with
        | none => true
        | some d => decide (d < sz) && (i == j || o.dst != some d) && (!(o.looksAt ops).contains d || o.after.any (fun e => Region.binds .any e && e.on == j) || (anc.getD j []).contains i)) &&
      (anc.getD i []).all (fun x => o.after.any (fun e => Region.binds .any e && (e.on == x || (anc.getD e.on []).contains x))) &&
      (List.range (lo.getD i 0)).all (fun j => decide (j < ticks.length) && (anc.getD i []).contains (ticks.getD j 0)) &&
      (List.range ticks.length).all (fun j => decide (j < hi.getD i 0) || ticks.getD j 0 == i || (anc.getD (ticks.getD j 0) []).contains i)) &&
  (List.range ticks.length).all (fun p => lo.getD (ticks.getD p 0) 0 == p && hi.getD (ticks.getD p 0) 0 == p && decide (ticks.getD p 0 < ops.size))

structure SsaC2 (ops : Array Oper) (sz : Nat) (ticks : List Nat) (anc : List (List Nat)) (lo hi : List Nat) : Prop where
  back : ∀ (i : Nat) (o : Oper), ops[i]? = some o → ∀ e ∈ o.after, Region.binds .any e = true → e.on < i
  room : ∀ (j : Nat) (oj : Oper) (d : Nat), ops[j]? = some oj → oj.dst = some d → d < sz
  once : ∀ (i : Nat) (o : Oper) (j : Nat) (oj : Oper) (d : Nat), ops[i]? = some o → ops[j]? = some oj → oj.dst = some d → o.dst = some d → i = j
  dep : ∀ (i : Nat) (o : Oper) (j : Nat) (oj : Oper) (d : Nat), ops[i]? = some o → ops[j]? = some oj → oj.dst = some d → d ∈ o.looksAt ops → (∃ e ∈ o.after, Region.binds .any e = true ∧ e.on = j) ∨ i ∈ anc.getD j []
  up : ∀ (i : Nat) (o : Oper), ops[i]? = some o → ∀ x ∈ anc.getD i [], ∃ e ∈ o.after, Region.binds .any e = true ∧ (e.on = x ∨ x ∈ anc.getD e.on [])
  low : ∀ (i : Nat) (o : Oper), ops[i]? = some o → ∀ j, j < lo.getD i 0 → ∃ t, ticks[j]? = some t ∧ t ∈ anc.getD i []
  high : ∀ (i : Nat) (o : Oper), ops[i]? = some o → ∀ j t, ticks[j]? = some t → j < hi.getD i 0 ∨ t = i ∨ i ∈ anc.getD t []
  tick : ∀ (p t : Nat), ticks[p]? = some t → lo.getD t 0 = p ∧ hi.getD t 0 = p ∧ t < ops.size

theorem ssaC2 {ops : Array Oper} {sz : Nat} {ticks : List Nat} {anc : List (List Nat)} {lo hi : List Nat} (h : ssaB2 ops sz ticks anc lo hi = true) : SsaC2 ops sz ticks anc lo hi := by
  unfold ssaB2 at h
  rw [Bool.and_eq_true, List.all_eq_true, List.all_eq_true] at h
  obtain ⟨h1, h2⟩ := h
  have hop : ∀ (i : Nat) (o : Oper), ops[i]? = some o → i < ops.size := fun i o h => (Array.getElem?_eq_some_iff.1 h).1
  have H := fun (i : Nat) (o : Oper) (ho : ops[i]? = some o) => by
    have := h1 i (List.mem_range.2 (hop i o ho))
    rw [ho] at this
    simp only [Bool.and_eq_true] at this
    exact this
  have hg : ∀ (p : Nat) (t : Nat), ticks[p]? = some t → p < ticks.length ∧ ticks.getD p 0 = t := fun p t h => by
    obtain ⟨hl, _⟩ := List.getElem?_eq_some_iff.1 h
    exact ⟨hl, by rw [List.getD_eq_getElem?_getD, h]; rfl⟩
  refine ⟨fun i o ho e he hb => ?_, fun j oj d ho hd => ?_, fun i o j oj d hi hj hd hdo => ?_, fun i o j oj d hi hj hd hm => ?_, fun i o ho x hx => ?_, fun i o ho j hj => ?_, fun i o ho j t ht => ?_, fun p t ht => ?_⟩
  · have := Array.all_eq_true_iff_forall_mem.1 (H i o ho).1.1.1.1 e he
    rw [hb] at this
    simpa using this
  · have := List.all_eq_true.1 (H j oj ho).1.1.1.2 j (List.mem_range.2 (hop j oj ho))
    rw [ho] at this
    simp only [Option.bind_some, hd, Bool.and_eq_true] at this
    exact of_decide_eq_true this.1.1
  · have := List.all_eq_true.1 (H i o hi).1.1.1.2 j (List.mem_range.2 (hop j oj hj))
    rw [hj] at this
    simp only [Option.bind_some, hd, Bool.and_eq_true] at this
    have := this.1.2
    simpa [hdo] using this
  · have := List.all_eq_true.1 (H i o hi).1.1.1.2 j (List.mem_range.2 (hop j oj hj))
    rw [hj] at this
    simp only [Option.bind_some, hd, Bool.and_eq_true] at this
    have := this.2
    rw [List.contains_iff_mem.2 hm] at this
    simp only [Bool.not_true, Bool.false_or, Bool.or_eq_true] at this
    rcases this with this | this
    · obtain ⟨e, he, h3⟩ := any_mem this
      rw [Bool.and_eq_true] at h3
      exact .inl ⟨e, he, h3.1, by simpa using h3.2⟩
    · exact .inr (List.contains_iff_mem.1 this)
  · have := List.all_eq_true.1 (H i o ho).1.1.2 x hx
    obtain ⟨e, he, h3⟩ := any_mem this
    rw [Bool.and_eq_true, Bool.or_eq_true] at h3
    exact ⟨e, he, h3.1, h3.2.imp (by simp) (by simp)⟩
  · have := List.all_eq_true.1 (H i o ho).1.2 j (List.mem_range.2 hj)
    rw [Bool.and_eq_true] at this
    have hl : j < ticks.length := of_decide_eq_true this.1
    refine ⟨ticks[j], List.getElem?_eq_getElem hl, ?_⟩
    have h4 := List.contains_iff_mem.1 this.2
    have e4 : ticks.getD j 0 = ticks[j] := by rw [List.getD_eq_getElem?_getD, List.getElem?_eq_getElem hl]; rfl
    rwa [e4] at h4
  · obtain ⟨hl, hq⟩ := hg j t ht
    have := List.all_eq_true.1 (H i o ho).2 j (List.mem_range.2 hl)
    rw [hq] at this
    simp only [Bool.or_eq_true, decide_eq_true_eq, beq_iff_eq, List.contains_iff_mem] at this
    rcases this with (h | h) | h
    · exact .inl h
    · exact .inr (.inl h)
    · exact .inr (.inr h)
  · obtain ⟨hl, hq⟩ := hg p t ht
    have := h2 p (List.mem_range.2 hl)
    rw [hq] at this
    simp only [Bool.and_eq_true, beq_iff_eq, decide_eq_true_eq] at this
    exact ⟨this.1.1, this.1.2, this.2⟩


/-- does a later operation write the slot that the i-th one reads? -/
def backB (ops : Array Oper) (anc : List (List Nat)) (i t : Nat) : Bool := (List.range ops.size).any fun j => ((ops[j]?).bind (·.dst) == some t) && (anc.getD j []).contains i
def guardB2 (ops : Array Oper) : Bool := ops.all fun o => match o.guard with
  | none => true
  | some (g, _) => ((ops[g]?).bind (·.dst)).isSome && o.after.any (fun e => Region.binds .any e && e.on == g)
def valRun2 (P : Program) (ρ : Nat → Operand → Value) (V : Nat → Value) (Ω : Nat → World → Prop) (ticks : List Nat) (lo hi : List Nat) : List Oper → Nat → Prop
  | [], _ => True
  | o :: l, i => (∀ k w, lo.getD i 0 ≤ k → k ≤ hi.getD i 0 → k ≤ ticks.length → Ω k w →
      if wantedV V o.guard = true then OpRes P (V i) (Ω (if ticks.contains i then k + 1 else k)) ((execOp (ρ i) o).run P w) else V i = undef ∧ Ω (if ticks.contains i then k + 1 else k) w) ∧ valRun2 P ρ V Ω ticks lo hi l (i + 1)
theorem valRun2_get {P : Program} {ρ : Nat → Operand → Value} {V : Nat → Value} {Ω : Nat → World → Prop} {ticks : List Nat} {lo hi : List Nat} : ∀ {l : List Oper} {i : Nat}, valRun2 P ρ V Ω ticks lo hi l i → ∀ j o, l[j]? = some o →
    ∀ k w, lo.getD (i + j) 0 ≤ k → k ≤ hi.getD (i + j) 0 → k ≤ ticks.length → Ω k w → if wantedV V o.guard = true then OpRes P (V (i + j)) (Ω (if ticks.contains (i + j) then k + 1 else k)) ((execOp (ρ (i + j)) o).run P w) else V (i + j) = undef ∧ Ω (if ticks.contains (i + j) then k + 1 else k) w
  | [], _, _, j, o, h => by simp at h
  | o :: l, i, h, 0, o', h1 => by
    simp only [List.getElem?_cons_zero, Option.some.injEq] at h1
    subst h1
    exact h.1
  | o :: l, i, h, j + 1, o', h1 => by
    rw [show i + (j + 1) = i + 1 + j from by omega]
    exact valRun2_get h.2 j o' (by simpa using h1)

theorem wp_region_vals2 {P : Program} {Q : Exit → Act → World → Prop} {id : Nat} {l : List Oper} {a0 : Act} {w : World} (V : Nat → Value) (Ω : Nat → World → Prop) (ticks : List Nat) (anc : List (List Nat)) (lo hi : List Nat)
    (hm : P.follows .mixedOrders = true) (hC : ssaB2 l.toArray a0.tmps.size ticks anc lo hi = true) (hS : Region.noSelect l.toArray = true) (hG : guardB2 l.toArray = true)
    (h0 : Ω 0 w.drew)
    (hR : ∀ ρ : Nat → Operand → Value, (∀ i v, ρ i (.const v) = v) → (∀ i g, ρ i (.global g) = .pointer (some ⟨g, 0, none⟩)) → (∀ i f, ρ i (.func f) = .func (.func f) #[] #[]) →
      (∀ i j o d, l[j]? = some o → o.dst = some d → backB l.toArray anc i d = false → ρ i (.tmp d) = V j) → (∀ i d, (backB l.toArray anc i d || l.all fun o => o.dst != some d) = true → ρ i (.tmp d) = a0.tmps.getD d undef) → valRun2 P ρ V Ω ticks lo hi l 0)
    (hQ : ∀ w', Ω ticks.length w' → Q .normal (ssaAct V l 0 a0) w') :
    (Code.region id l.toArray true).wp P Q a0 w := by
  have C := ssaC2 hC
  obtain ⟨aS, haS⟩ : ∃ aS, aS = ssaAct V l 0 a0 := ⟨_, rfl⟩
  have sD : aS.defers = a0.defers := by rw [haS]; exact (ssaAct_defers V l 0 a0).1
  have sZ : aS.tmps.size = a0.tmps.size := by rw [haS]; exact (ssaAct_defers V l 0 a0).2
  have sO : ∀ (d : Nat), (∀ (i : Nat) (o : Oper), l.toArray[i]? = some o → o.dst ≠ some d) → aS.tmps[d]? = a0.tmps[d]? := fun d h => by
    rw [haS]
    refine ssaAct_old V d l 0 a0 (fun o ho => ?_)
    obtain ⟨k, hk⟩ := List.getElem?_of_mem ho
    exact h k o (by simpa using hk)
  have sG : ∀ (i : Nat) (o : Oper) (d : Nat), l.toArray[i]? = some o → o.dst = some d → aS.tmps[d]? = some (V i) := fun i o d h hd => by
    rw [haS]
    have := ssaAct_got V l 0 a0 i o d (by simpa using h) hd (C.room i o d h hd) (fun j' o' h1 h2 => C.once j' o' i o d (by simpa using h1) h hd h2)
    rwa [Nat.zero_add] at this
  rw [← haS] at hQ
  clear haS hC
  have hR := hR (fun i x => match x with
    | .tmp t => if backB l.toArray anc i t = true then a0.eval (.tmp t) else aS.eval (.tmp t)
    | x => aS.eval x) (fun _ _ => rfl) (fun _ _ => rfl) (fun _ _ => rfl) (fun i j o d hj hd hb => by
      have := sG j o d (by simpa using hj) hd
      simp [hb, Act.eval, this]) (fun i d hd => by
      cases hb : backB l.toArray anc i d with
      | true => simp [Act.eval, hb]
      | false =>
        rw [hb, Bool.false_or] at hd
        have := sO d (fun j oj hj hjd => by
          have := List.all_eq_true.1 hd oj (by simpa using Array.mem_of_getElem? hj)
          simp [hjd] at this)
        simp [Act.eval, hb, this])
  have upAll : ∀ (listed : Array Bool), (∀ (i : Nat) (o : Oper), l.toArray[i]? = some o → listed.getD i false = true → ∀ e ∈ o.after, Region.binds .any e = true → listed.getD e.on false = true) →
      listed.size = l.toArray.size → ∀ (i : Nat) (o : Oper), l.toArray[i]? = some o → (∀ e ∈ o.after, Region.binds .any e = true → listed.getD e.on false = true) → ∀ x ∈ anc.getD i [], listed.getD x false = true := by
    intro listed hcl hsz i
    induction i using Nat.strongRecOn with
    | ind i ih =>
      intro o ho hdir x hx
      obtain ⟨e, he, hb, h | h⟩ := C.up i o ho x hx
      · rw [← h]; exact hdir e he hb
      · have hlt := C.back i o ho e he hb
        have hil : i < l.toArray.size := (Array.getElem?_eq_some_iff.1 ho).1
        have hoe : l.toArray[e.on]? = some l.toArray[e.on] := Array.getElem?_eq_getElem (by omega)
        exact ih e.on hlt _ hoe (hcl e.on _ hoe (hdir e he hb)) x h
  refine wp_region_any hm ?_
  refine wpAny_inv (FlowI l.toArray V Ω ticks a0) ?_ ?_ _ _ _ _ (by simp) (by simp) ?_
  · intro listed a w1 hs I i hir
    obtain ⟨hun, o, ho, hdep⟩ := mem_ready.1 hir
    have hil : i < l.toArray.size := (Array.getElem?_eq_some_iff.1 ho).1
    have hunf : listed.getD i false = false := by
      have hl : i < listed.size := by rw [hs]; exact hil
      simp [hl] at hun ⊢
      exact hun
    have hanc := upAll listed I.closed hs i o ho hdep
    obtain ⟨k, hk, hkt, hΩ⟩ := I.world
    have hlo : lo.getD i 0 ≤ k := by
      rcases Nat.lt_or_ge k (lo.getD i 0) with h | h
      · obtain ⟨t, ht, hta⟩ := C.low i o ho k h
        have := (hkt k t ht).1 (hanc t hta)
        omega
      · exact h
    have hun2 : ∀ (j t : Nat), ticks[j]? = some t → (t = i ∨ i ∈ anc.getD t []) → k ≤ j := fun j t ht h => by
      rcases Nat.lt_or_ge j k with hjk | hjk
      · have htl := (hkt j t ht).2 hjk
        rcases h with rfl | h
        · rw [hunf] at htl; cases htl
        · have htz := (C.tick j t ht).2.2
          have hot : l.toArray[t]? = some l.toArray[t] := Array.getElem?_eq_getElem htz
          have := upAll listed I.closed hs t _ hot (I.closed t _ hot htl) i h
          rw [hunf] at this; cases this
      · exact hjk
    have hhi : k ≤ hi.getD i 0 := by
      rcases Nat.lt_or_ge (hi.getD i 0) ticks.length with h | h
      · have ht : ticks[hi.getD i 0]? = some ticks[hi.getD i 0] := List.getElem?_eq_getElem h
        rcases C.high i o ho _ _ ht with h1 | h1
        · omega
        · exact hun2 _ _ ht h1
      · omega
    have hdo := valRun2_get hR i o (by simpa using ho) k w1 (by rwa [Nat.zero_add]) (by rwa [Nat.zero_add]) hk hΩ
    rw [Nat.zero_add] at hdo
    have hev : ∀ x ∈ o.op.operands, a.eval x = (fun x => match x with
        | .tmp t => if backB l.toArray anc i t = true then a0.eval (.tmp t) else aS.eval (.tmp t)
        | x => aS.eval x : Operand → Value) x := by
      intro x hx
      cases x with
      | tmp t =>
        have hta : t ∈ o.looksAt l.toArray := List.mem_append_left _ (List.mem_filterMap.2 ⟨.tmp t, by simpa using hx, rfl⟩)
        show a.eval (.tmp t) = if backB l.toArray anc i t = true then a0.eval (.tmp t) else aS.eval (.tmp t)
        cases hb : backB l.toArray anc i t with
        | true =>
          rw [if_pos rfl]
          obtain ⟨j, hj, hjb⟩ := List.any_eq_true.1 hb
          rw [Bool.and_eq_true] at hjb
          have hjd : (l.toArray[j]?).bind (·.dst) = some t := by simpa using hjb.1
          obtain ⟨oj, hoj, hjd⟩ := Option.bind_eq_some_iff.1 hjd
          have hja := List.contains_iff_mem.1 hjb.2
          have hun2 : ∀ k o', l.toArray[k]? = some o' → listed.getD k false = true → o'.dst ≠ some t := by
            intro k o' hk hkl hkd
            have := C.once k o' j oj t hk hoj hjd hkd
            subst this
            have := upAll listed I.closed hs k o' hk (I.closed k o' hk hkl) i hja
            rw [hunf] at this; cases this
          have := I.old t hun2
          simp [Act.eval, this]
        | false =>
          rw [if_neg (by decide)]
          have : a.tmps[t]? = aS.tmps[t]? := by
            by_cases hex : ∃ (j : Nat) (oj : Oper), l.toArray[j]? = some oj ∧ oj.dst = some t
            · obtain ⟨j, oj, hj, hjd⟩ := hex
              rcases C.dep i o j oj t ho hj hjd hta with ⟨e, he, hb2, hej⟩ | hja
              · have hjl := hdep e he hb2
                rw [hej] at hjl
                rw [I.got j oj t hj hjd hjl, sG j oj t hj hjd]
              · have : backB l.toArray anc i t = true := by
                  refine List.any_eq_true.2 ⟨j, List.mem_range.2 (Array.getElem?_eq_some_iff.1 hj).1, ?_⟩
                  rw [Bool.and_eq_true]
                  exact ⟨by rw [hj]; simp [hjd], List.contains_iff_mem.2 hja⟩
                rw [hb] at this; cases this
            · rw [I.old t (fun j oj hj _ hjd => hex ⟨j, oj, hj, hjd⟩), sO t (fun j oj hj hjd => hex ⟨j, oj, hj, hjd⟩)]
          simp [Act.eval, this]
      | _ => rfl
    have hex := execOp_congr o (fun cs b => Region.noSelect_spec hS i o cs b ho) hev
    have hwt : Region.wanted o (yielded l.toArray a.tmps) = wantedV V o.guard := by
      unfold Region.wanted wantedV
      cases hg : o.guard with
      | none => rfl
      | some gb =>
        obtain ⟨g, b⟩ := gb
        have hb := Array.all_eq_true_iff_forall_mem.1 hG o (Array.mem_of_getElem? ho)
        rw [hg] at hb
        simp only [Bool.and_eq_true] at hb
        obtain ⟨t, ht⟩ := Option.isSome_iff_exists.1 hb.1
        obtain ⟨og, hog, htg⟩ := Option.bind_eq_some_iff.1 ht
        obtain ⟨e, he, h3⟩ := any_mem hb.2
        rw [Bool.and_eq_true] at h3
        have hgl := hdep e he h3.1
        rw [show e.on = g by simpa using h3.2] at hgl
        have := I.got g og t hog htg hgl
        have hy : yielded l.toArray a.tmps g = match V g with | .bool c => some c | _ => none := by
          unfold yielded
          rw [ht, Option.bind_some, this]
          cases V g <;> rfl
        simp only [hy]
        cases V g <;> rfl
    have hnext : ∀ w2, Ω (if ticks.contains i then k + 1 else k) w2 → FlowI l.toArray V Ω ticks a0 (listed.setIfInBounds i true) (a.put o.dst (V i)) w2 := by
      intro w2 hw2
      have hli : i < listed.size := by rw [hs]; exact hil
      refine ⟨?_, ?_, ?_, ?_, ?_, ?_⟩
      · rw [← I.defers]; cases o.dst <;> rfl
      · rw [← I.size]; cases o.dst <;> simp [Act.put]
      · intro j oj d hj hjd hl
        rcases (listed_set hli).1 hl with rfl | hl
        · rw [ho] at hj; cases hj
          rw [hjd]
          have := C.room j o d ho hjd
          rw [← I.size] at this
          simp [Act.put, this]
        · have hgot := I.got j oj d hj hjd hl
          cases hod : o.dst with
          | none => exact hgot
          | some e =>
            have hne : e ≠ d := by
              rintro rfl
              have := C.once i o j oj e ho hj hjd hod
              subst this
              rw [hunf] at hl; cases hl
            simpa [Act.put, Array.getElem?_setIfInBounds_ne hne] using hgot
      · intro d h
        have h1 := I.old d (fun j oj hj hl => h j oj hj ((listed_set hli).2 (.inr hl)))
        have h2 := h i o ho ((listed_set hli).2 (.inl rfl))
        cases hod : o.dst with
        | none => exact h1
        | some e =>
          have hne : e ≠ d := fun he => h2 (by rw [hod, he])
          simpa [Act.put, Array.getElem?_setIfInBounds_ne hne] using h1
      · intro j oj hj hl e he hb
        rcases (listed_set hli).1 hl with rfl | hl
        · rw [ho] at hj; cases hj
          exact (listed_set hli).2 (.inr (hdep e he hb))
        · exact (listed_set hli).2 (.inr (I.closed j oj hj hl e he hb))
      · by_cases hti : i ∈ ticks
        · obtain ⟨p, hp⟩ := List.getElem?_of_mem hti
          obtain ⟨t1, t2, -⟩ := C.tick p i hp
          have hkp : k = p := by omega
          subst hkp
          have hpl : k < ticks.length := (List.getElem?_eq_some_iff.1 hp).1
          refine ⟨k + 1, hpl, fun j t ht => ?_, by rwa [if_pos (List.contains_iff_mem.2 hti)] at hw2⟩
          constructor
          · intro h
            rcases (listed_set hli).1 h with rfl | h
            · have := (C.tick j t ht).1; omega
            · have := (hkt j t ht).1 h; omega
          · intro h
            refine (listed_set hli).2 ?_
            rcases Nat.lt_or_ge j k with h1 | h1
            · exact .inr ((hkt j t ht).2 h1)
            · have : j = k := by omega
              subst this
              rw [hp] at ht; cases ht
              exact .inl rfl
        · refine ⟨k, hk, fun j t ht => ?_, by rwa [if_neg (fun h => hti (List.contains_iff_mem.1 h))] at hw2⟩
          have hne : t ≠ i := by rintro rfl; exact hti (List.mem_of_getElem? ht)
          rw [← hkt j t ht, listed_set hli]
          exact ⟨fun h => h.resolve_left hne, .inr⟩
    unfold wpOp
    simp only [ho, hwt]
    split
    · rename_i hw
      rw [if_pos hw, ← hex] at hdo
      refine .inl ?_
      unfold Oper.wp
      generalize (execOp a.eval o).run P w1 = r at hdo
      cases r with
      | ok x w' =>
        cases x <;> simp only [OpRes] at hdo
        case value u => obtain ⟨rfl, h4⟩ := hdo; exact hnext _ h4
        case skip => obtain ⟨h4, h5⟩ := hdo; have := hnext _ h5; rw [h4] at this; exact this
        case enter f args =>
          refine Calls.mono hdo fun e w'' he => ?_
          obtain ⟨rfl, h4⟩ := he
          exact hnext _ h4
        case row row args => exact Rows.mono hdo fun u w'' he => by obtain ⟨rfl, h4⟩ := he; exact hnext _ h4
      | halt x w' => simp only [OpRes] at hdo
    · rename_i hw
      rw [if_neg hw] at hdo
      have := hnext w1 hdo.2
      rw [hdo.1] at this
      exact this
  · intro listed a w1 hs I hr
    have hall : ∀ i, i < l.toArray.size → listed.getD i false = true := by
      intro i
      induction i using Nat.strongRecOn with
      | ind i ih =>
        intro hil
        cases hl : listed.getD i false with
        | true => rfl
        | false =>
          have ho : l.toArray[i]? = some l.toArray[i] := Array.getElem?_eq_getElem hil
          have : i ∈ Region.ready .any l.toArray listed := by
            refine mem_ready.2 ⟨?_, _, ho, fun e he hb => ?_⟩
            · have hl' : i < listed.size := by rw [hs]; exact hil
              simp [hl'] at hl ⊢
              exact hl
            · have := C.back i _ ho e he hb
              exact ih e.on this (by omega)
          rw [hr] at this; cases this
    obtain ⟨k, hk, hkt, hΩ⟩ := I.world
    have hkm : k = ticks.length := by
      rcases Nat.lt_or_ge k ticks.length with h | h
      · have ht : ticks[k]? = some ticks[k] := List.getElem?_eq_getElem h
        have := (hkt k _ ht).1 (hall _ (C.tick k _ ht).2.2)
        omega
      · omega
    subst hkm
    have : a = aS := by
      obtain ⟨at1, ad1⟩ := a
      obtain ⟨bt, bd⟩ := aS
      have e1 : at1 = bt := by
        apply Array.ext_getElem?
        intro d
        by_cases hex : ∃ (j : Nat) (oj : Oper), l.toArray[j]? = some oj ∧ oj.dst = some d
        · obtain ⟨j, oj, hj, hjd⟩ := hex
          exact (I.got j oj d hj hjd (hall j (Array.getElem?_eq_some_iff.1 hj).1)).trans (sG j oj d hj hjd).symm
        · exact (I.old d (fun j oj hj _ hjd => hex ⟨j, oj, hj, hjd⟩)).trans (sO d (fun j oj hj hjd => hex ⟨j, oj, hj, hjd⟩)).symm
      have e2 : ad1 = bd := I.defers.trans sD.symm
      rw [e1, e2]
    rw [this]
    exact hQ _ hΩ
  · refine ⟨rfl, rfl, ?_, fun _ _ => rfl, ?_, 0, Nat.zero_le _, ?_, h0⟩
    · intro i o d _ _ h
      simp [Array.getElem?_replicate] at h
      split at h <;> simp at h
    · intro i o _ h
      simp [Array.getElem?_replicate] at h
      split at h <;> simp at h
    · intro j t ht
      constructor
      · intro h
        simp [Array.getElem?_replicate] at h
        split at h <;> simp at h
      · intro h; omega
end Go.Tk
