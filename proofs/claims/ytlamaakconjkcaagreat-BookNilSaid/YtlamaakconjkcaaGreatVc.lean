/- Regions whose operations each leave a value that is known ahead but for what certain operations reveal (a block's number, a call's answer); whole functions by rules over frames of which some slots are known. -/
import Derived.Test.YtlamaakconjkcaaGreatFlow2
namespace Go.Vc
set_option linter.unusedVariables false
set_option linter.unusedSimpArgs false
open Go.RowKit Go.Tk

abbrev Rv := Nat × Value
def upd (e : Nat → Rv) (k : Nat) (x : Rv) : Nat → Rv := fun r => bif Nat.beq r k then x else e r
theorem upd_lt {e : Nat → Rv} {k r : Nat} {x : Rv} (h : r < k) : upd e k x r = e r := by
  unfold upd
  have : Nat.beq r k = false := by
    cases hb : Nat.beq r k with
    | false => rfl
    | true => have := Nat.eq_of_beq_eq_true hb; omega
  rw [this]; rfl

/-- what an operation comes to, whatever the frame -/
def Res (P : Program) (R : Value → World → Prop) : Result Next → Prop
  | .ok (.value u) w' => R u w'
  | .ok .skip w' => R undef w'
  | .ok (.enter f args) w' => Calls P f args w' fun e w'' => ∃ u, e = .returned u ∧ R u w''
  | .ok (.row row args) w' => Rows P row args w' R
  | _ => False
section
variable {P : Program} {R : Value → World → Prop} {w : World} {f : FuncId} {args : Array Value} {v : Value}
theorem res_value : Res P R (.ok (.value v) w) = R v w := rfl
theorem res_skip : Res P R (.ok .skip w) = R undef w := rfl
theorem res_enter : Res P R (.ok (.enter f args) w) = Calls P f args w fun e w'' => ∃ u, e = .returned u ∧ R u w'' := rfl
end

def Goes (V : Nat → (Nat → Rv) → Value) (Ω : Nat → (Nat → Rv) → World → Prop) (ticks : List Nat) (i k : Nat) (e : Nat → Rv) (u : Value) (w' : World) : Prop :=
  if ticks.contains i then ∃ x, u = V i (upd e k x) ∧ Ω (k + 1) (upd e k x) w' else u = V i e ∧ Ω k e w'
theorem goes_still {V : Nat → (Nat → Rv) → Value} {Ω : Nat → (Nat → Rv) → World → Prop} {ticks : List Nat} {i k : Nat} {e : Nat → Rv} {u : Value} {w' : World} (hc : ticks.contains i = false) (hu : u = V i e) (h : Ω k e w') : Goes V Ω ticks i k e u w' := by
  unfold Goes; rw [hc]; exact ⟨hu, h⟩
theorem goes_tick {V : Nat → (Nat → Rv) → Value} {Ω : Nat → (Nat → Rv) → World → Prop} {ticks : List Nat} {i k : Nat} {e : Nat → Rv} {u : Value} {w' : World} (hc : ticks.contains i = true) (x : Rv) (hu : u = V i (upd e k x)) (h : Ω (k + 1) (upd e k x) w') : Goes V Ω ticks i k e u w' := by
  unfold Goes; rw [hc]; exact ⟨x, hu, h⟩

def want (V : Nat → Value) : Option (Nat × Bool) → Bool
  | none => true
  | some (g, b) => match V g with
    | .bool c => c == b
    | _ => false

/-- what an operation's operands are -/
structure Ev (l : List Oper) (old : Nat → Nat → Bool) (i : Nat) (V : Nat → Value) (a0 : Act) (ρ : Operand → Value) : Prop where
  c : ∀ v, ρ (.const v) = v
  g : ∀ g, ρ (.global g) = .pointer (some ⟨g, 0, none⟩)
  f : ∀ f, ρ (.func f) = .func (.func f) #[] #[]
  d : ∀ j o d, l[j]? = some o → o.dst = some d → old i d = false → ρ (.tmp d) = V j
  o : ∀ d v, (old i d || l.all fun o => o.dst != some d) = true → a0.tmps[d]? = some v → ρ (.tmp d) = v

/-- what each operation does -/
def runs (P : Program) (l0 : List Oper) (old : Nat → Nat → Bool) (a0 : Act) (V : Nat → (Nat → Rv) → Value) (Ω : Nat → (Nat → Rv) → World → Prop) (ticks : List Nat) (lo hi : List Nat) : List Oper → Nat → Prop
  | [], _ => True
  | o :: l, i => (∀ k e w ρ, lo.getD i 0 ≤ k → k ≤ hi.getD i 0 → Ω k e w → Ev l0 old i (fun j => V j e) a0 ρ →
      if want (fun j => V j e) o.guard = true then Res P (Goes V Ω ticks i k e) ((execOp ρ o).run P w) else Goes V Ω ticks i k e undef w) ∧ runs P l0 old a0 V Ω ticks lo hi l (i + 1)
theorem runs_get {P : Program} {l0 : List Oper} {old : Nat → Nat → Bool} {a0 : Act} {V : Nat → (Nat → Rv) → Value} {Ω : Nat → (Nat → Rv) → World → Prop} {ticks : List Nat} {lo hi : List Nat} : ∀ {l : List Oper} {i : Nat}, runs P l0 old a0 V Ω ticks lo hi l i → ∀ j o, l[j]? = some o →
    ∀ k e w ρ, lo.getD (i + j) 0 ≤ k → k ≤ hi.getD (i + j) 0 → Ω k e w → Ev l0 old (i + j) (fun j => V j e) a0 ρ →
      if want (fun j => V j e) o.guard = true then Res P (Goes V Ω ticks (i + j) k e) ((execOp ρ o).run P w) else Goes V Ω ticks (i + j) k e undef w
  | [], _, _, j, o, h => by simp at h
  | o :: l, i, h, 0, o', h1 => by
    simp only [List.getElem?_cons_zero, Option.some.injEq] at h1
    subst h1
    exact h.1
  | o :: l, i, h, j + 1, o', h1 => by
    rw [show i + (j + 1) = i + 1 + j from by omega]
    exact runs_get h.2 j o' (by simpa using h1)

def depOf (ticks lo : List Nat) (i : Nat) : Nat := lo.getD i 0 + (if ticks.contains i then 1 else 0)
/-- each value hangs on what was revealed by then -/
def deps (V : Nat → (Nat → Rv) → Value) (ticks lo : List Nat) : Nat → Nat → Prop
  | 0, _ => True
  | n + 1, i => (∀ e e' : Nat → Rv, (∀ r, r < depOf ticks lo i → e r = e' r) → V i e = V i e') ∧ deps V ticks lo n (i + 1)
theorem deps_get {V : Nat → (Nat → Rv) → Value} {ticks lo : List Nat} : ∀ {n i : Nat}, deps V ticks lo n i → ∀ j, j < n → ∀ e e' : Nat → Rv, (∀ r, r < depOf ticks lo (i + j) → e r = e' r) → V (i + j) e = V (i + j) e'
  | 0, _, _, j, hj => by omega
  | n + 1, i, h, 0, _ => h.1
  | n + 1, i, h, j + 1, hj => by
    rw [show i + (j + 1) = i + 1 + j from by omega]
    exact deps_get h.2 j (by omega)
theorem deps_const {V0 : Nat → Value} {ticks lo : List Nat} : ∀ n i, deps (fun j _ => V0 j) ticks lo n i
  | 0, _ => trivial
  | n + 1, i => ⟨fun _ _ _ => rfl, deps_const n (i + 1)⟩

structure EnvI (ops : Array Oper) (V : Nat → (Nat → Rv) → Value) (Ω : Nat → (Nat → Rv) → World → Prop) (ticks : List Nat) (a0 : Act) (listed : Array Bool) (a : Act) (w : World) (k : Nat) (e : Nat → Rv) : Prop where
  defers : a.defers = a0.defers
  size : a.tmps.size = a0.tmps.size
  got : ∀ (i : Nat) (o : Oper) (d : Nat), ops[i]? = some o → o.dst = some d → listed.getD i false = true → a.tmps[d]? = some (V i e)
  old : ∀ (d : Nat), (∀ (i : Nat) (o : Oper), ops[i]? = some o → listed.getD i false = true → o.dst ≠ some d) → a.tmps[d]? = a0.tmps[d]?
  closed : ∀ (i : Nat) (o : Oper), ops[i]? = some o → listed.getD i false = true → ∀ e ∈ o.after, Region.binds .any e = true → listed.getD e.on false = true
  le : k ≤ ticks.length
  tick : ∀ (j t : Nat), ticks[j]? = some t → (listed.getD t false = true ↔ j < k)
  world : Ω k e w

def oldB (ops : Array Oper) (anc : List (List Nat)) (old : Nat → Nat → Bool) : Bool :=
  (List.range ops.size).all fun i => match ops[i]? with
    | none => true
    | some o => (o.looksAt ops).all fun t => old i t == backB ops anc i t
theorem region_draw {P : Program} {Q : Exit → Act → World → Prop} {id : Nat} {l : List Oper} {a0 : Act} {w : World} (n : Nat) (V : Nat → (Nat → Rv) → Value) (Ω : Nat → (Nat → Rv) → World → Prop) (e0 : Nat → Rv) (ticks : List Nat) (anc : List (List Nat)) (lo hi : List Nat) (old : Nat → Nat → Bool)
    (hz : a0.tmps.size = n) (hO : oldB l.toArray anc old = true) (hm : P.follows .mixedOrders = true) (hC : ssaB2 l.toArray n ticks anc lo hi = true) (hS : Region.noSelect l.toArray = true) (hG : guardB2 l.toArray = true)
    (hD : deps V ticks lo l.length 0) (h0 : Ω 0 e0 w.drew)
    (hR : runs P l old a0 V Ω ticks lo hi l 0)
    (hQ : ∀ e a' w', a'.tmps.size = n → a'.defers = a0.defers → (∀ i o d, l[i]? = some o → o.dst = some d → a'.tmps[d]? = some (V i e)) → (∀ d, (l.all fun o => o.dst != some d) = true → a'.tmps[d]? = a0.tmps[d]?) → Ω ticks.length e w' → Q .normal a' w') :
    (Code.region id l.toArray true).wp P Q a0 w := by
  subst hz
  have C := ssaC2 hC
  clear hC
  have upAll : ∀ (listed : Array Bool), (∀ (i : Nat) (o : Oper), l.toArray[i]? = some o → listed.getD i false = true → ∀ e ∈ o.after, Region.binds .any e = true → listed.getD e.on false = true) →
      listed.size = l.toArray.size → ∀ (i : Nat) (o : Oper), l.toArray[i]? = some o → (∀ e ∈ o.after, Region.binds .any e = true → listed.getD e.on false = true) → ∀ x ∈ anc.getD i [], listed.getD x false = true := by
    intro listed hcl hsz i
    induction i using Nat.strongRecOn with
    | ind i ih =>
      intro o ho hdir x hx
      obtain ⟨e, he, hb, h | h⟩ := C.up i o ho x hx
      · rw [← h]; exact hdir e he hb
      · have hlt := C.back i o ho e he hb
        have hil : i < l.toArray.size := (Array.getElem?_eq_some_iff.1 ho).1
        have hoe : l.toArray[e.on]? = some l.toArray[e.on] := Array.getElem?_eq_getElem (by omega)
        exact ih e.on hlt _ hoe (hcl e.on _ hoe (hdir e he hb)) x h
  refine wp_region_any hm ?_
  refine wpAny_inv (fun listed a w => ∃ k e, EnvI l.toArray V Ω ticks a0 listed a w k e) ?_ ?_ _ _ _ _ (by simp) (by simp) ?_
  · rintro listed a w1 hs ⟨k, e, I⟩ i hir
    obtain ⟨hun, o, ho, hdep⟩ := mem_ready.1 hir
    have hil : i < l.toArray.size := (Array.getElem?_eq_some_iff.1 ho).1
    have hunf : listed.getD i false = false := by
      have hl : i < listed.size := by rw [hs]; exact hil
      simp [hl] at hun ⊢
      exact hun
    have hanc := upAll listed I.closed hs i o ho hdep
    have hkt := I.tick
    have hlo : lo.getD i 0 ≤ k := by
      rcases Nat.lt_or_ge k (lo.getD i 0) with h | h
      · obtain ⟨t, ht, hta⟩ := C.low i o ho k h
        have := (hkt k t ht).1 (hanc t hta)
        omega
      · exact h
    have hlow : ∀ (j : Nat) (oj : Oper), l.toArray[j]? = some oj → listed.getD j false = true → depOf ticks lo j ≤ k := fun j oj hj hl => by
      have h1 : lo.getD j 0 ≤ k := by
        rcases Nat.lt_or_ge k (lo.getD j 0) with h | h
        · obtain ⟨t, ht, hta⟩ := C.low j oj hj k h
          have := (hkt k t ht).1 (upAll listed I.closed hs j oj hj (I.closed j oj hj hl) t hta)
          omega
        · exact h
      unfold depOf
      by_cases hc : ticks.contains j = true
      · obtain ⟨p, hp⟩ := List.getElem?_of_mem (List.contains_iff_mem.1 hc)
        have h2 := (C.tick p j hp).1
        have h3 := (hkt p j hp).1 hl
        rw [if_pos hc]; omega
      · rw [if_neg hc]; exact h1
    have hun2 : ∀ (j t : Nat), ticks[j]? = some t → (t = i ∨ i ∈ anc.getD t []) → k ≤ j := fun j t ht h => by
      rcases Nat.lt_or_ge j k with hjk | hjk
      · have htl := (hkt j t ht).2 hjk
        rcases h with rfl | h
        · rw [hunf] at htl; cases htl
        · have htz := (C.tick j t ht).2.2
          have hot : l.toArray[t]? = some l.toArray[t] := Array.getElem?_eq_getElem htz
          have := upAll listed I.closed hs t _ hot (I.closed t _ hot htl) i h
          rw [hunf] at this; cases this
      · exact hjk
    have hhi : k ≤ hi.getD i 0 := by
      rcases Nat.lt_or_ge (hi.getD i 0) ticks.length with h | h
      · have ht : ticks[hi.getD i 0]? = some ticks[hi.getD i 0] := List.getElem?_eq_getElem h
        rcases C.high i o ho _ _ ht with h1 | h1
        · omega
        · exact hun2 _ _ ht h1
      · have := I.le; omega
    -- the frame in which all have left their values
    obtain ⟨aS, haS⟩ : ∃ aS, aS = ssaAct (fun j => V j e) l 0 a0 := ⟨_, rfl⟩
    have sO : ∀ (d : Nat), (∀ (i : Nat) (o : Oper), l.toArray[i]? = some o → o.dst ≠ some d) → aS.tmps[d]? = a0.tmps[d]? := fun d h => by
      rw [haS]
      refine ssaAct_old _ d l 0 a0 (fun o ho => ?_)
      obtain ⟨k, hk⟩ := List.getElem?_of_mem ho
      exact h k o (by simpa using hk)
    have sG : ∀ (i : Nat) (o : Oper) (d : Nat), l.toArray[i]? = some o → o.dst = some d → aS.tmps[d]? = some (V i e) := fun i o d h hd => by
      rw [haS]
      have := ssaAct_got (fun j => V j e) l 0 a0 i o d (by simpa using h) hd (C.room i o d h hd) (fun j' o' h1 h2 => C.once j' o' i o d (by simpa using h1) h hd h2)
      rwa [Nat.zero_add] at this
    clear haS
    have hdo := runs_get hR i o (by simpa using ho) k e w1 (fun x => match x with
        | .tmp t => if old i t = true then a0.eval (.tmp t) else aS.eval (.tmp t)
        | x => aS.eval x) (by rwa [Nat.zero_add]) (by rwa [Nat.zero_add]) I.world (by
      rw [Nat.zero_add]
      refine ⟨fun _ => rfl, fun _ => rfl, fun _ => rfl, fun j o d hj hd hb => ?_, fun d v hd hv => ?_⟩
      · have := sG j o d (by simpa using hj) hd
        simp [hb, Act.eval, this]
      · cases hb : old i d with
        | true => simp [Act.eval, hb, hv]
        | false =>
          rw [hb, Bool.false_or] at hd
          have := sO d (fun j oj hj hjd => by
            have := List.all_eq_true.1 hd oj (by simpa using Array.mem_of_getElem? hj)
            simp [hjd] at this)
          simp [Act.eval, hb, this, hv])
    rw [Nat.zero_add] at hdo
    have hold : ∀ t ∈ o.looksAt l.toArray, old i t = backB l.toArray anc i t := fun t ht => by
      have := List.all_eq_true.1 hO i (List.mem_range.2 hil)
      rw [ho] at this
      simpa using List.all_eq_true.1 this t ht
    have hev : ∀ x ∈ o.op.operands, a.eval x = (fun x => match x with
        | .tmp t => if old i t = true then a0.eval (.tmp t) else aS.eval (.tmp t)
        | x => aS.eval x : Operand → Value) x := by
      intro x hx
      cases x with
      | tmp t =>
        have hta : t ∈ o.looksAt l.toArray := List.mem_append_left _ (List.mem_filterMap.2 ⟨.tmp t, by simpa using hx, rfl⟩)
        show a.eval (.tmp t) = if old i t = true then a0.eval (.tmp t) else aS.eval (.tmp t)
        rw [hold t hta]
        cases hb : backB l.toArray anc i t with
        | true =>
          rw [if_pos rfl]
          obtain ⟨j, hj, hjb⟩ := List.any_eq_true.1 hb
          rw [Bool.and_eq_true] at hjb
          have hjd : (l.toArray[j]?).bind (·.dst) = some t := by simpa using hjb.1
          obtain ⟨oj, hoj, hjd⟩ := Option.bind_eq_some_iff.1 hjd
          have hja := List.contains_iff_mem.1 hjb.2
          have hun2 : ∀ k o', l.toArray[k]? = some o' → listed.getD k false = true → o'.dst ≠ some t := by
            intro k o' hk hkl hkd
            have := C.once k o' j oj t hk hoj hjd hkd
            subst this
            have := upAll listed I.closed hs k o' hk (I.closed k o' hk hkl) i hja
            rw [hunf] at this; cases this
          have := I.old t hun2
          simp [Act.eval, this]
        | false =>
          rw [if_neg (by decide)]
          have : a.tmps[t]? = aS.tmps[t]? := by
            by_cases hex : ∃ (j : Nat) (oj : Oper), l.toArray[j]? = some oj ∧ oj.dst = some t
            · obtain ⟨j, oj, hj, hjd⟩ := hex
              rcases C.dep i o j oj t ho hj hjd hta with ⟨e, he, hb2, hej⟩ | hja
              · have hjl := hdep e he hb2
                rw [hej] at hjl
                rw [I.got j oj t hj hjd hjl, sG j oj t hj hjd]
              · have : backB l.toArray anc i t = true := by
                  refine List.any_eq_true.2 ⟨j, List.mem_range.2 (Array.getElem?_eq_some_iff.1 hj).1, ?_⟩
                  rw [Bool.and_eq_true]
                  exact ⟨by rw [hj]; simp [hjd], List.contains_iff_mem.2 hja⟩
                rw [hb] at this; cases this
            · rw [I.old t (fun j oj hj _ hjd => hex ⟨j, oj, hj, hjd⟩), sO t (fun j oj hj hjd => hex ⟨j, oj, hj, hjd⟩)]
          simp [Act.eval, this]
      | _ => rfl
    have hex := execOp_congr o (fun cs b => Region.noSelect_spec hS i o cs b ho) hev
    have hwt : Region.wanted o (yielded l.toArray a.tmps) = want (fun j => V j e) o.guard := by
      unfold Region.wanted want
      cases hg : o.guard with
      | none => rfl
      | some gb =>
        obtain ⟨g, b⟩ := gb
        have hb := Array.all_eq_true_iff_forall_mem.1 hG o (Array.mem_of_getElem? ho)
        rw [hg] at hb
        simp only [Bool.and_eq_true] at hb
        obtain ⟨t, ht⟩ := Option.isSome_iff_exists.1 hb.1
        obtain ⟨og, hog, htg⟩ := Option.bind_eq_some_iff.1 ht
        obtain ⟨e', he, h3⟩ := any_mem hb.2
        rw [Bool.and_eq_true] at h3
        have hgl := hdep e' he h3.1
        rw [show e'.on = g by simpa using h3.2] at hgl
        have := I.got g og t hog htg hgl
        have hy : yielded l.toArray a.tmps g = match V g e with | .bool c => some c | _ => none := by
          unfold yielded
          rw [ht, Option.bind_some, this]
          cases V g e <;> rfl
        simp only [hy]
        cases V g e <;> rfl
    have hnext : ∀ u w2, Goes V Ω ticks i k e u w2 → ∃ k' e', EnvI l.toArray V Ω ticks a0 (listed.setIfInBounds i true) (a.put o.dst u) w2 k' e' := by
      intro u w2 hw2
      have hli : i < listed.size := by rw [hs]; exact hil
      have key : ∀ k' e', u = V i e' → (∀ j oj, l.toArray[j]? = some oj → listed.getD j false = true → V j e' = V j e) → k' ≤ ticks.length → (∀ (j t : Nat), ticks[j]? = some t → ((listed.setIfInBounds i true).getD t false = true ↔ j < k')) → Ω k' e' w2 →
          EnvI l.toArray V Ω ticks a0 (listed.setIfInBounds i true) (a.put o.dst u) w2 k' e' := by
        intro k' e' hu hsame hk' hkt' hO
        refine ⟨?_, ?_, ?_, ?_, ?_, hk', hkt', hO⟩
        · rw [← I.defers]; cases o.dst <;> rfl
        · rw [← I.size]; cases o.dst <;> simp [Act.put]
        · intro j oj d hj hjd hl
          rcases (listed_set hli).1 hl with rfl | hl
          · rw [ho] at hj; cases hj
            rw [hjd]
            have := C.room j o d ho hjd
            rw [← I.size] at this
            simp [Act.put, this, hu]
          · have hgot := I.got j oj d hj hjd hl
            rw [← hsame j oj hj hl] at hgot
            cases hod : o.dst with
            | none => exact hgot
            | some e =>
              have hne : e ≠ d := by
                rintro rfl
                have := C.once i o j oj e ho hj hjd hod
                subst this
                rw [hunf] at hl; cases hl
              simpa [Act.put, Array.getElem?_setIfInBounds_ne hne] using hgot
        · intro d h
          have h1 := I.old d (fun j oj hj hl => h j oj hj ((listed_set hli).2 (.inr hl)))
          have h2 := h i o ho ((listed_set hli).2 (.inl rfl))
          cases hod : o.dst with
          | none => exact h1
          | some e =>
            have hne : e ≠ d := fun he => h2 (by rw [hod, he])
            simpa [Act.put, Array.getElem?_setIfInBounds_ne hne] using h1
        · intro j oj hj hl e he hb
          rcases (listed_set hli).1 hl with rfl | hl
          · rw [ho] at hj; cases hj
            exact (listed_set hli).2 (.inr (hdep e he hb))
          · exact (listed_set hli).2 (.inr (I.closed j oj hj hl e he hb))
      unfold Goes at hw2
      by_cases hti : ticks.contains i = true
      · rw [if_pos hti] at hw2
        obtain ⟨x, hu, hO⟩ := hw2
        obtain ⟨p, hp⟩ := List.getElem?_of_mem (List.contains_iff_mem.1 hti)
        obtain ⟨t1, t2, -⟩ := C.tick p i hp
        have hkp : k = p := by omega
        subst hkp
        have hpl : k < ticks.length := (List.getElem?_eq_some_iff.1 hp).1
        refine ⟨k + 1, upd e k x, key _ _ hu (fun j oj hj hl => ?_) hpl (fun j t ht => ?_) hO⟩
        · have hjl : j < l.length := by have := (Array.getElem?_eq_some_iff.1 hj).1; simpa using this
          have := deps_get hD j hjl (upd e k x) e (fun r hr => upd_lt (by rw [Nat.zero_add] at hr; have := hlow j oj hj hl; omega))
          rwa [Nat.zero_add] at this
        · constructor
          · intro h
            rcases (listed_set hli).1 h with rfl | h
            · have := (C.tick j t ht).1; omega
            · have := (hkt j t ht).1 h; omega
          · intro h
            refine (listed_set hli).2 ?_
            rcases Nat.lt_or_ge j k with h1 | h1
            · exact .inr ((hkt j t ht).2 h1)
            · have : j = k := by omega
              subst this
              rw [hp] at ht; cases ht
              exact .inl rfl
      · rw [if_neg hti] at hw2
        refine ⟨k, e, key _ _ hw2.1 (fun _ _ _ _ => rfl) I.le (fun j t ht => ?_) hw2.2⟩
        have hne : t ≠ i := by rintro rfl; exact hti (List.contains_iff_mem.2 (List.mem_of_getElem? ht))
        rw [← hkt j t ht, listed_set hli]
        exact ⟨fun h => h.resolve_left hne, .inr⟩
    unfold wpOp
    simp only [ho, hwt]
    split
    · rename_i hw
      rw [if_pos hw, ← hex] at hdo
      refine .inl ?_
      unfold Oper.wp
      generalize (execOp a.eval o).run P w1 = r at hdo
      cases r with
      | ok x w' =>
        cases x <;> simp only [Res] at hdo
        case value u => exact hnext _ _ hdo
        case skip => exact hnext _ _ hdo
        case enter f args =>
          refine Calls.mono hdo fun e w'' he => ?_
          obtain ⟨u, rfl, h4⟩ := he
          exact hnext _ _ h4
        case row row args => exact Rows.mono hdo fun u w'' he => hnext _ _ he
      | halt x w' => simp only [Res] at hdo
    · rename_i hw
      rw [if_neg hw] at hdo
      exact hnext _ _ hdo
  · rintro listed a w1 hs ⟨k, e, I⟩ hr
    have hall : ∀ i, i < l.toArray.size → listed.getD i false = true := by
      intro i
      induction i using Nat.strongRecOn with
      | ind i ih =>
        intro hil
        cases hl : listed.getD i false with
        | true => rfl
        | false =>
          have ho : l.toArray[i]? = some l.toArray[i] := Array.getElem?_eq_getElem hil
          have : i ∈ Region.ready .any l.toArray listed := by
            refine mem_ready.2 ⟨?_, _, ho, fun e he hb => ?_⟩
            · have hl' : i < listed.size := by rw [hs]; exact hil
              simp [hl'] at hl ⊢
              exact hl
            · have := C.back i _ ho e he hb
              exact ih e.on this (by omega)
          rw [hr] at this; cases this
    have hkm : k = ticks.length := by
      rcases Nat.lt_or_ge k ticks.length with h | h
      · have ht : ticks[k]? = some ticks[k] := List.getElem?_eq_getElem h
        have := (I.tick k _ ht).1 (hall _ (C.tick k _ ht).2.2)
        omega
      · have := I.le; omega
    subst hkm
    exact hQ e a w1 I.size I.defers (fun i o d hi hd => I.got i o d (by simpa using hi) hd (hall i (by have := (List.getElem?_eq_some_iff.1 hi).1; simpa using this)))
      (fun d hd => I.old d (fun i o hi _ hod => by
        have := List.all_eq_true.1 hd o (by simpa using Array.mem_of_getElem? hi)
        simp [hod] at this)) I.world
  · refine ⟨0, e0, rfl, rfl, ?_, fun _ _ => rfl, ?_, Nat.zero_le _, ?_, h0⟩
    · intro i o d _ _ h
      simp [Array.getElem?_replicate] at h
      split at h <;> simp at h
    · intro i o _ h
      simp [Array.getElem?_replicate] at h
      split at h <;> simp at h
    · intro j t ht
      constructor
      · intro h
        simp [Array.getElem?_replicate] at h
        split at h <;> simp at h
      · intro h; omega

/-! ### a region in the text's order -/
def cntB (ticks : List Nat) (i : Nat) : Nat := (ticks.filter (· < i)).length
def seqB (ops : List Oper) (sz : Nat) (ticks lo : List Nat) : Bool :=
  (List.range ops.length).all (fun i => match ops[i]? with
    | none => true
    | some o => (lo.getD i 0 == cntB ticks i) && (match o.dst with
      | none => true
      | some d => decide (d < sz) && (List.range i).all fun j => ((ops[j]?).bind (·.dst)) != some d) &&
      (match o.guard with
      | none => true
      | some (g, _) => decide (g < i) && ((ops[g]?).bind (·.dst)).isSome)) && ticks.all (fun t => decide (t < ops.length)) && decide (ticks.Nodup)
def laterB (ops : List Oper) (i t : Nat) : Bool := (ops.take i).all fun o => o.dst != some t
def oldS (ops : List Oper) (old : Nat → Nat → Bool) : Bool :=
  (List.range ops.length).all fun i => match ops[i]? with
    | none => true
    | some o => o.op.operands.toList.all fun x => match x with
      | .tmp t => (old i t == laterB ops i t) || (!old i t && ops.all fun o => o.dst != some t)
      | _ => true
theorem cnt_succ {ticks : List Nat} (hn : ticks.Nodup) (i : Nat) : cntB ticks (i + 1) = cntB ticks i + (if ticks.contains i then 1 else 0) := by
  unfold cntB
  induction ticks with
  | nil => rfl
  | cons t l ih =>
    rw [List.nodup_cons] at hn
    have ih := ih hn.2
    rw [List.filter_cons, List.filter_cons, List.contains_cons]
    by_cases h1 : t = i
    · subst h1
      have hc : l.contains t = false := by
        cases h : l.contains t with
        | false => rfl
        | true => exact absurd (List.contains_iff_mem.1 h) hn.1
      rw [hc] at ih
      simp at ih ⊢
      exact ih
    · have h2 : (i == t) = false := beq_eq_false_iff_ne.2 (fun h => h1 h.symm)
      rw [h2, Bool.false_or]
      by_cases h3 : t < i
      · have h4 : t < i + 1 := by omega
        simp only [h3, h4, decide_true, if_true, List.length_cons]
        omega
      · have h4 : ¬ t < i + 1 := by omega
        simp only [h3, h4, decide_false]
        simpa using ih

structure SeqI (l : List Oper) (V : Nat → (Nat → Rv) → Value) (Ω : Nat → (Nat → Rv) → World → Prop) (ticks : List Nat) (a0 : Act) (i : Nat) (a : Act) (w : World) (e : Nat → Rv) : Prop where
  defers : a.defers = a0.defers
  size : a.tmps.size = a0.tmps.size
  got : ∀ (j : Nat) (o : Oper) (d : Nat), j < i → l[j]? = some o → o.dst = some d → a.tmps[d]? = some (V j e)
  old : ∀ (d : Nat), (∀ (j : Nat) (o : Oper), j < i → l[j]? = some o → o.dst ≠ some d) → a.tmps[d]? = a0.tmps[d]?
  world : Ω (cntB ticks i) e w

theorem region_seq {P : Program} {Q : Exit → Act → World → Prop} {id : Nat} {l : List Oper} {a0 : Act} {w : World} (n : Nat) (V : Nat → (Nat → Rv) → Value) (Ω : Nat → (Nat → Rv) → World → Prop) (e0 : Nat → Rv) (ticks : List Nat) (lo : List Nat) (old : Nat → Nat → Bool)
    (hz : a0.tmps.size = n) (hO : oldS l old = true) (hC : seqB l n ticks lo = true) (hS : Region.noSelect l.toArray = true)
    (hD : deps V ticks lo l.length 0) (h0 : Ω 0 e0 w)
    (hR : runs P l old a0 V Ω ticks lo lo l 0)
    (hQ : ∀ e a' w', a'.tmps.size = n → a'.defers = a0.defers → (∀ i o d, l[i]? = some o → o.dst = some d → a'.tmps[d]? = some (V i e)) → (∀ d, (l.all fun o => o.dst != some d) = true → a'.tmps[d]? = a0.tmps[d]?) → Ω ticks.length e w' → Q .normal a' w') :
    (Code.region id l.toArray false).wp P Q a0 w := by
  subst hz
  unfold seqB at hC
  rw [Bool.and_eq_true, Bool.and_eq_true, List.all_eq_true, List.all_eq_true] at hC
  obtain ⟨⟨hC1, hC2⟩, hC3⟩ := hC
  have hnd : ticks.Nodup := of_decide_eq_true hC3
  have H := fun (i : Nat) (o : Oper) (ho : l[i]? = some o) => by
    have := hC1 i (List.mem_range.2 (List.getElem?_eq_some_iff.1 ho).1)
    rw [ho] at this
    simp only [Bool.and_eq_true] at this
    exact this
  have hlo : ∀ (i : Nat) (o : Oper), l[i]? = some o → lo.getD i 0 = cntB ticks i := fun i o ho => by simpa using (H i o ho).1.1
  have room : ∀ (i : Nat) (o : Oper) (d : Nat), l[i]? = some o → o.dst = some d → d < a0.tmps.size := fun i o d ho hd => by
    have := (H i o ho).1.2
    rw [hd] at this
    simp only [Bool.and_eq_true] at this
    exact of_decide_eq_true this.1
  have once : ∀ (i : Nat) (o : Oper) (j : Nat) (oj : Oper) (d : Nat), l[i]? = some o → l[j]? = some oj → o.dst = some d → oj.dst = some d → ¬ j < i := fun i o j oj d ho hj hd hjd hji => by
    have := (H i o ho).1.2
    rw [hd] at this
    simp only [Bool.and_eq_true] at this
    have := List.all_eq_true.1 this.2 j (List.mem_range.2 hji)
    rw [hj] at this
    simp [hjd] at this
  have mono : ∀ {i j : Nat}, i ≤ j → cntB ticks i ≤ cntB ticks j := fun {i j} h => by
    induction j with
    | zero => have : i = 0 := by omega
              subst this; exact Nat.le_refl _
    | succ j ih =>
      rcases Nat.lt_or_ge i (j + 1) with h1 | h1
      · have := ih (by omega)
        have := cnt_succ hnd j
        omega
      · have : i = j + 1 := by omega
        subst this; exact Nat.le_refl _
  refine wp_region_list ?_
  have main : ∀ (m i : Nat) (a : Act) (w : World) (e : Nat → Rv), i + m = l.length → SeqI l V Ω ticks a0 i a w e → wpList P l.toArray Q (l.drop i) a w := by
    intro m
    induction m with
    | zero =>
      intro i a w e him I
      have hil : i = l.length := by omega
      subst hil
      rw [List.drop_length]
      refine hQ e a w I.size I.defers (fun i o d hi hd => I.got i o d (List.getElem?_eq_some_iff.1 hi).1 hi hd) (fun d hd => I.old d (fun j o hj ho hod => ?_)) ?_
      · have := List.all_eq_true.1 hd o (List.mem_of_getElem? ho)
        simp [hod] at this
      · have hcl : cntB ticks l.length = ticks.length := by
          unfold cntB
          rw [List.filter_eq_self.2 (fun t ht => by simpa using hC2 t ht)]
        rw [← hcl]; exact I.world
    | succ m ih =>
      intro i a w e him I
      have hil : i < l.length := by omega
      have ho : l[i]? = some l[i] := List.getElem?_eq_getElem hil
      rw [List.drop_eq_getElem_cons hil]
      generalize l[i] = o at ho
      have hlow : ∀ j, j < i → depOf ticks lo j ≤ cntB ticks i := fun j hj => by
        have hjl : l[j]? = some l[j] := List.getElem?_eq_getElem (by omega)
        unfold depOf
        rw [hlo j _ hjl, ← cnt_succ hnd j]
        exact mono (by omega)
      obtain ⟨aS, haS⟩ : ∃ aS, aS = ssaAct (fun j => V j e) l 0 a0 := ⟨_, rfl⟩
      have sO : ∀ (d : Nat), (∀ (i : Nat) (o : Oper), l[i]? = some o → o.dst ≠ some d) → aS.tmps[d]? = a0.tmps[d]? := fun d h => by
        rw [haS]
        refine ssaAct_old _ d l 0 a0 (fun o ho => ?_)
        obtain ⟨k, hk⟩ := List.getElem?_of_mem ho
        exact h k o hk
      have sG : ∀ (i : Nat) (o : Oper) (d : Nat), l[i]? = some o → o.dst = some d → aS.tmps[d]? = some (V i e) := fun i o d h hd => by
        rw [haS]
        have := ssaAct_got (fun j => V j e) l 0 a0 i o d h hd (room i o d h hd) (fun j' o' h1 h2 => by
          have c1 := once j' o' i o d h1 h h2 hd
          have c2 := once i o j' o' d h h1 hd h2
          omega)
        rwa [Nat.zero_add] at this
      clear haS
      have hdo := runs_get hR i o ho (cntB ticks i) e w (fun x => match x with
        | .tmp t => if old i t = true then a0.eval (.tmp t) else aS.eval (.tmp t)
        | x => aS.eval x) (by rw [Nat.zero_add, hlo i o ho]; exact Nat.le_refl _) (by rw [Nat.zero_add, hlo i o ho]; exact Nat.le_refl _) I.world (by
        rw [Nat.zero_add]
        refine ⟨fun _ => rfl, fun _ => rfl, fun _ => rfl, fun j oj d hj hd hb => ?_, fun d v hd hv => ?_⟩
        · have := sG j oj d hj hd
          simp [hb, Act.eval, this]
        · cases hb : old i d with
          | true => simp [Act.eval, hb, hv]
          | false =>
            rw [hb, Bool.false_or] at hd
            have := sO d (fun j oj hj hjd => by
              have := List.all_eq_true.1 hd oj (List.mem_of_getElem? hj)
              simp [hjd] at this)
            simp [Act.eval, hb, this, hv])
      rw [Nat.zero_add] at hdo
      have hev : ∀ x ∈ o.op.operands, a.eval x = (fun x => match x with
          | .tmp t => if old i t = true then a0.eval (.tmp t) else aS.eval (.tmp t)
          | x => aS.eval x : Operand → Value) x := by
        intro x hx
        cases x with
        | tmp t =>
          show a.eval (.tmp t) = if old i t = true then a0.eval (.tmp t) else aS.eval (.tmp t)
          have h0 := List.all_eq_true.1 hO i (List.mem_range.2 hil)
          rw [ho] at h0
          have h1 := List.all_eq_true.1 h0 _ (by simpa using hx)
          simp only [Bool.or_eq_true, Bool.and_eq_true, beq_iff_eq] at h1
          have hnone : (l.all fun o => o.dst != some t) = true → a.eval (.tmp t) = a0.eval (.tmp t) ∧ aS.eval (.tmp t) = a0.eval (.tmp t) := fun hall => by
            have hw : ∀ (j : Nat) (oj : Oper), l[j]? = some oj → oj.dst ≠ some t := fun j oj hj hjd => by
              have := List.all_eq_true.1 hall oj (List.mem_of_getElem? hj)
              simp [hjd] at this
            have e1 := I.old t (fun j oj _ hj => hw j oj hj)
            have e2 := sO t hw
            exact ⟨by simp [Act.eval, e1], by simp [Act.eval, e2]⟩
          rcases h1 with h1 | ⟨h1, h2⟩
          · rw [h1]
            cases hb : laterB l i t with
            | true =>
              rw [if_pos rfl]
              have := I.old t (fun j oj hji hj hjd => by
                have h1 := List.all_eq_true.1 hb oj (List.mem_of_getElem? (i := j) (by rw [List.getElem?_take, if_pos hji]; exact hj))
                simp [hjd] at h1)
              simp [Act.eval, this]
            | false =>
              rw [if_neg (by decide)]
              obtain ⟨o2, ho2, h2⟩ : ∃ o2, o2 ∈ l.take i ∧ o2.dst = some t := by
                unfold laterB at hb
                rw [List.all_eq_false] at hb
                obtain ⟨o2, h1, h2⟩ := hb
                exact ⟨o2, h1, by simpa using h2⟩
              obtain ⟨j2, hj2⟩ := List.getElem?_of_mem ho2
              rw [List.getElem?_take] at hj2
              split at hj2
              · have e1 := I.got j2 o2 t (by assumption) hj2 h2
                have e2 := sG j2 o2 t hj2 h2
                simp [Act.eval, e1, e2]
              · cases hj2
          · obtain ⟨e1, e2⟩ := hnone h2
            rw [e1, e2]; simp
        | _ => rfl
      have hex := execOp_congr o (fun cs b => Region.noSelect_spec hS i o cs b (by simpa using ho)) hev
      have hwt : Region.wanted o (yielded l.toArray a.tmps) = want (fun j => V j e) o.guard := by
        unfold Region.wanted want
        cases hg : o.guard with
        | none => rfl
        | some gb =>
          obtain ⟨g, b⟩ := gb
          have hb := (H i o ho).2
          rw [hg] at hb
          simp only [Bool.and_eq_true] at hb
          obtain ⟨t, ht⟩ := Option.isSome_iff_exists.1 hb.2
          obtain ⟨og, hog, htg⟩ := Option.bind_eq_some_iff.1 ht
          have := I.got g og t (of_decide_eq_true hb.1) hog htg
          have hy : yielded l.toArray a.tmps g = match V g e with | .bool c => some c | _ => none := by
            unfold yielded
            rw [List.getElem?_toArray, ht, Option.bind_some, this]
            cases V g e <;> rfl
          simp only [hy]
          cases V g e <;> rfl
      have hnext : ∀ u w2, Goes V Ω ticks i (cntB ticks i) e u w2 → wpList P l.toArray Q (l.drop (i + 1)) (a.put o.dst u) w2 := by
        intro u w2 hw2
        have key : ∀ e', u = V i e' → (∀ j, j < i → V j e' = V j e) → Ω (cntB ticks (i + 1)) e' w2 → SeqI l V Ω ticks a0 (i + 1) (a.put o.dst u) w2 e' := by
          intro e' hu hsame hO
          refine ⟨?_, ?_, ?_, ?_, hO⟩
          · rw [← I.defers]; cases o.dst <;> rfl
          · rw [← I.size]; cases o.dst <;> simp [Act.put]
          · intro j oj d hj hjo hjd
            rcases Nat.lt_or_ge j i with h | h
            · have hgot := I.got j oj d h hjo hjd
              rw [← hsame j h] at hgot
              cases hod : o.dst with
              | none => exact hgot
              | some e =>
                have hne : e ≠ d := by
                  rintro rfl
                  exact once i o j oj e ho hjo hod hjd h
                simpa [Act.put, Array.getElem?_setIfInBounds_ne hne] using hgot
            · have : j = i := by omega
              subst this
              rw [ho] at hjo; cases hjo
              rw [hjd]
              have := room j o d ho hjd
              rw [← I.size] at this
              simp [Act.put, this, hu]
          · intro d h
            have h1 := I.old d (fun j oj hj => h j oj (by omega))
            have h2 := h i o (by omega) ho
            cases hod : o.dst with
            | none => exact h1
            | some e =>
              have hne : e ≠ d := fun he => h2 (by rw [hod, he])
              simpa [Act.put, Array.getElem?_setIfInBounds_ne hne] using h1
        unfold Goes at hw2
        have hcs := cnt_succ hnd i
        by_cases hti : ticks.contains i = true
        · rw [if_pos hti] at hw2 hcs
          obtain ⟨x, hu, hO⟩ := hw2
          refine ih (i + 1) _ _ (upd e (cntB ticks i) x) (by omega) (key _ hu (fun j hj => ?_) (by rw [hcs]; exact hO))
          have := deps_get hD j (by omega) (upd e (cntB ticks i) x) e (fun r hr => upd_lt (by rw [Nat.zero_add] at hr; have := hlow j hj; omega))
          rwa [Nat.zero_add] at this
        · rw [if_neg hti] at hw2 hcs
          exact ih (i + 1) _ _ e (by omega) (key _ hw2.1 (fun _ _ => rfl) (by rw [hcs]; exact hw2.2))
      unfold wpList
      rw [hwt]
      split
      · rename_i hw
        rw [if_pos hw, ← hex] at hdo
        refine .inl ?_
        unfold Oper.wp
        generalize (execOp a.eval o).run P w = r at hdo
        cases r with
        | ok x w' =>
          cases x <;> simp only [Res] at hdo
          case value u => exact hnext _ _ hdo
          case skip => exact hnext _ _ hdo
          case enter f args =>
            refine Calls.mono hdo fun e w'' he => ?_
            obtain ⟨u, rfl, h4⟩ := he
            exact hnext _ _ h4
          case row row args => exact Rows.mono hdo fun u w'' he => hnext _ _ he
        | halt x w' => simp only [Res] at hdo
      · rename_i hw
        rw [if_neg hw] at hdo
        exact hnext _ _ hdo
  have := main l.length 0 a0 w e0 (by omega) ⟨rfl, rfl, fun j o d h => by omega, fun _ _ => rfl, by
    have : cntB ticks 0 = 0 := by
      unfold cntB
      rw [List.filter_eq_nil_iff.2 (fun t _ => by simp)]; rfl
    rw [this]; exact h0⟩
  simpa using this
end Go.Vc
