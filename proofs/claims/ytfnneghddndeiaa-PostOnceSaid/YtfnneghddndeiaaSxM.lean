/- A drawn region whose steps stand in no order of their own: the state hangs on what has been done. -/
import Derived.Test.YtfnneghddndeiaaSx6
namespace Go.Sx
set_option linter.unusedVariables false
set_option linter.unusedSimpArgs false
open Go.RowKit Go.Tk Go.Lib Go.Vc
def updE (e : Nat → (Nat → Rv)) (k : Nat) (x : Nat → Rv) : Nat → (Nat → Rv) := fun r => bif Nat.beq r k then x else e r
def setL (L : Nat → Bool) (i : Nat) : Nat → Bool := fun j => bif Nat.beq j i then true else L j
def GoesM (V : Nat → (Nat → (Nat → Rv)) → Value) (Ω : (Nat → Bool) → (Nat → (Nat → Rv)) → World → Prop) (i : Nat) (L : Nat → Bool) (e : Nat → (Nat → Rv)) (u : Value) (w' : World) : Prop := ∃ x, u = V i (updE e i x) ∧ Ω (setL L i) (updE e i x) w'
def runsM (P : Program) (l0 : List Oper) (old : Nat → Nat → Bool) (a0 : Act) (V : Nat → (Nat → (Nat → Rv)) → Value) (Ω : (Nat → Bool) → (Nat → (Nat → Rv)) → World → Prop) (anc : List (List Nat)) : List Oper → Nat → Prop
  | [], _ => True
  | o :: l, i => (∀ L e w ρ, L i = false → (∀ x, x ∈ anc.getD i [] → L x = true) → (∀ x, x < l0.length → i ∈ anc.getD x [] → L x = false) → (∀ x, x < l0.length → L x = true → ∀ y, y ∈ anc.getD x [] → L y = true) → Ω L e w → Ev l0 old i (fun j => V j e) a0 ρ →
      if want (fun j => V j e) o.guard = true then Res P (GoesM V Ω i L e) ((execOp ρ o).run P w) else GoesM V Ω i L e undef w) ∧ runsM P l0 old a0 V Ω anc l (i + 1)
theorem runsM_get {P : Program} {l0 : List Oper} {old : Nat → Nat → Bool} {a0 : Act} {V : Nat → (Nat → (Nat → Rv)) → Value} {Ω : (Nat → Bool) → (Nat → (Nat → Rv)) → World → Prop} {anc : List (List Nat)} : ∀ {l : List Oper} {i : Nat}, runsM P l0 old a0 V Ω anc l i → ∀ j o, l[j]? = some o →
    ∀ L e w ρ, L (i + j) = false → (∀ x, x ∈ anc.getD (i + j) [] → L x = true) → (∀ x, x < l0.length → (i + j) ∈ anc.getD x [] → L x = false) → (∀ x, x < l0.length → L x = true → ∀ y, y ∈ anc.getD x [] → L y = true) → Ω L e w → Ev l0 old (i + j) (fun j => V j e) a0 ρ →
      if want (fun j => V j e) o.guard = true then Res P (GoesM V Ω (i + j) L e) ((execOp ρ o).run P w) else GoesM V Ω (i + j) L e undef w
  | [], _, _, j, o, h => by simp at h
  | o :: l, i, h, 0, o', h1 => by
    simp only [List.getElem?_cons_zero, Option.some.injEq] at h1
    subst h1
    exact h.1
  | o :: l, i, h, j + 1, o', h1 => by
    rw [show i + (j + 1) = i + 1 + j from by omega]
    exact runsM_get h.2 j o' (by simpa using h1)
def depsM (V : Nat → (Nat → (Nat → Rv)) → Value) (anc : List (List Nat)) : Nat → Nat → Prop
  | 0, _ => True
  | n + 1, i => (∀ e e' : Nat → (Nat → Rv), (∀ r, (r = i ∨ r ∈ anc.getD i []) → e r = e' r) → V i e = V i e') ∧ depsM V anc n (i + 1)
theorem depsM_get {V : Nat → (Nat → (Nat → Rv)) → Value} {anc : List (List Nat)} : ∀ {n i : Nat}, depsM V anc n i → ∀ j, j < n → ∀ e e' : Nat → (Nat → Rv), (∀ r, (r = i + j ∨ r ∈ anc.getD (i + j) []) → e r = e' r) → V (i + j) e = V (i + j) e'
  | 0, _, _, j, hj => by omega
  | n + 1, i, h, 0, _ => h.1
  | n + 1, i, h, j + 1, hj => by
    rw [show i + (j + 1) = i + 1 + j from by omega]
    exact depsM_get h.2 j (by omega)
structure EnvM (ops : Array Oper) (V : Nat → (Nat → (Nat → Rv)) → Value) (Ω : (Nat → Bool) → (Nat → (Nat → Rv)) → World → Prop) (a0 : Act) (listed : Array Bool) (a : Act) (w : World) (e : Nat → (Nat → Rv)) : Prop where
  defers : a.defers = a0.defers
  size : a.tmps.size = a0.tmps.size
  got : ∀ (i : Nat) (o : Oper) (d : Nat), ops[i]? = some o → o.dst = some d → listed.getD i false = true → a.tmps[d]? = some (V i e)
  old : ∀ (d : Nat), (∀ (i : Nat) (o : Oper), ops[i]? = some o → listed.getD i false = true → o.dst ≠ some d) → a.tmps[d]? = a0.tmps[d]?
  closed : ∀ (i : Nat) (o : Oper), ops[i]? = some o → listed.getD i false = true → ∀ e ∈ o.after, Region.binds .any e = true → listed.getD e.on false = true
  world : Ω (fun j => listed.getD j false) e w
theorem region_mask {P : Program} {Q : Exit → Act → World → Prop} {id : Nat} {l : List Oper} {a0 : Act} {w : World} (n : Nat) (V : Nat → (Nat → (Nat → Rv)) → Value) (Ω : (Nat → Bool) → (Nat → (Nat → Rv)) → World → Prop) (e0 : Nat → (Nat → Rv)) (anc : List (List Nat)) (lo hi : List Nat) (old : Nat → Nat → Bool)
    (hz : a0.tmps.size = n) (hO : oldB l.toArray anc old = true) (hm : P.follows .mixedOrders = true) (hC : ssaB2 l.toArray n [] anc lo hi = true) (hS : Region.noSelect l.toArray = true) (hG : guardB2 l.toArray = true)
    (hD0 : depsM V anc l.length 0) (h0 : Ω (fun _ => false) e0 w.drew)
    (hR : runsM P l old a0 V Ω anc l 0)
    (hQ : ∀ e a' w', a'.tmps.size = n → a'.defers = a0.defers → (∀ i o d, l[i]? = some o → o.dst = some d → a'.tmps[d]? = some (V i e)) → (∀ d, (l.all fun o => o.dst != some d) = true → a'.tmps[d]? = a0.tmps[d]?) → Ω (fun j => Nat.blt j l.length) e w' → Q .normal a' w') :
    (Code.region id l.toArray true).wp P Q a0 w := by
  subst hz
  have hD : ∀ i, i < l.length → ∀ e e' : Nat → (Nat → Rv), (∀ r, (r = i ∨ r ∈ anc.getD i []) → e r = e' r) → V i e = V i e' := fun i hi e e' h => by
    have := depsM_get hD0 i hi e e' (by rwa [Nat.zero_add])
    rwa [Nat.zero_add] at this
  have C := ssaC2 hC
  clear hC
  have upAll : ∀ (listed : Array Bool), (∀ (i : Nat) (o : Oper), l.toArray[i]? = some o → listed.getD i false = true → ∀ e ∈ o.after, Region.binds .any e = true → listed.getD e.on false = true) →
      listed.size = l.toArray.size → ∀ (i : Nat) (o : Oper), l.toArray[i]? = some o → (∀ e ∈ o.after, Region.binds .any e = true → listed.getD e.on false = true) → ∀ x ∈ anc.getD i [], listed.getD x false = true := by
    intro listed hcl hsz i
    induction i using Nat.strongRecOn with
    | ind i ih =>
      intro o ho hdir x hx
      obtain ⟨e, he, hb, h | h⟩ := C.up i o ho x hx
      · rw [← h]; exact hdir e he hb
      · have hlt := C.back i o ho e he hb
        have hil : i < l.toArray.size := (Array.getElem?_eq_some_iff.1 ho).1
        have hoe : l.toArray[e.on]? = some l.toArray[e.on] := Array.getElem?_eq_getElem (by omega)
        exact ih e.on hlt _ hoe (hcl e.on _ hoe (hdir e he hb)) x h
  refine wp_region_any hm ?_
  refine wpAny_inv (fun listed a w => ∃ e, EnvM l.toArray V Ω a0 listed a w e) ?_ ?_ _ _ _ _ (by simp) (by simp) ?_
  · rintro listed a w1 hs ⟨e, I⟩ i hir
    obtain ⟨hun, o, ho, hdep⟩ := mem_ready.1 hir
    have hil : i < l.toArray.size := (Array.getElem?_eq_some_iff.1 ho).1
    have hunf : listed.getD i false = false := by
      have hl : i < listed.size := by rw [hs]; exact hil
      simp [hl] at hun ⊢
      exact hun
    have hanc := upAll listed I.closed hs i o ho hdep
    have hdown : ∀ x, x < l.length → i ∈ anc.getD x [] → listed.getD x false = false := fun x hx h => by
      cases hl : listed.getD x false with
      | false => rfl
      | true =>
        have hox : l.toArray[x]? = some l.toArray[x] := Array.getElem?_eq_getElem (by simpa using hx)
        have := upAll listed I.closed hs x _ hox (I.closed x _ hox hl) i h
        rw [hunf] at this; cases this
    obtain ⟨aS, haS⟩ : ∃ aS, aS = ssaAct (fun j => V j e) l 0 a0 := ⟨_, rfl⟩
    have sO : ∀ (d : Nat), (∀ (i : Nat) (o : Oper), l.toArray[i]? = some o → o.dst ≠ some d) → aS.tmps[d]? = a0.tmps[d]? := fun d h => by
      rw [haS]
      refine ssaAct_old _ d l 0 a0 (fun o ho => ?_)
      obtain ⟨k, hk⟩ := List.getElem?_of_mem ho
      exact h k o (by simpa using hk)
    have sG : ∀ (i : Nat) (o : Oper) (d : Nat), l.toArray[i]? = some o → o.dst = some d → aS.tmps[d]? = some (V i e) := fun i o d h hd => by
      rw [haS]
      have := ssaAct_got (fun j => V j e) l 0 a0 i o d (by simpa using h) hd (C.room i o d h hd) (fun j' o' h1 h2 => C.once j' o' i o d (by simpa using h1) h hd h2)
      rwa [Nat.zero_add] at this
    clear haS
    have hdo := runsM_get hR i o (by simpa using ho) (fun j => listed.getD j false) e w1 (fun x => match x with
        | .tmp t => if old i t = true then a0.eval (.tmp t) else aS.eval (.tmp t)
        | x => aS.eval x) (by rwa [Nat.zero_add]) (by rwa [Nat.zero_add]) (by rwa [Nat.zero_add]) (fun x hx hl y hy => upAll listed I.closed hs x _ (Array.getElem?_eq_getElem (by simpa using hx)) (I.closed x _ (Array.getElem?_eq_getElem (by simpa using hx)) hl) y hy) I.world (by
      rw [Nat.zero_add]
      refine ⟨fun _ => rfl, fun _ => rfl, fun _ => rfl, fun j o d hj hd hb => ?_, fun d v hd hv => ?_⟩
      · have := sG j o d (by simpa using hj) hd
        simp [hb, Act.eval, this]
      · cases hb : old i d with
        | true => simp [Act.eval, hb, hv]
        | false =>
          rw [hb, Bool.false_or] at hd
          have := sO d (fun j oj hj hjd => by
            have := List.all_eq_true.1 hd oj (by simpa using Array.mem_of_getElem? hj)
            simp [hjd] at this)
          simp [Act.eval, hb, this, hv])
    rw [Nat.zero_add] at hdo
    have hold : ∀ t ∈ o.looksAt l.toArray, old i t = backB l.toArray anc i t := fun t ht => by
      have := List.all_eq_true.1 hO i (List.mem_range.2 hil)
      rw [ho] at this
      simpa using List.all_eq_true.1 this t ht
    have hev : ∀ x ∈ o.op.operands, a.eval x = (fun x => match x with
        | .tmp t => if old i t = true then a0.eval (.tmp t) else aS.eval (.tmp t)
        | x => aS.eval x : Operand → Value) x := by
      intro x hx
      cases x with
      | tmp t =>
        have hta : t ∈ o.looksAt l.toArray := List.mem_append_left _ (List.mem_filterMap.2 ⟨.tmp t, by simpa using hx, rfl⟩)
        show a.eval (.tmp t) = if old i t = true then a0.eval (.tmp t) else aS.eval (.tmp t)
        rw [hold t hta]
        cases hb : backB l.toArray anc i t with
        | true =>
          rw [if_pos rfl]
          obtain ⟨j, hj, hjb⟩ := List.any_eq_true.1 hb
          rw [Bool.and_eq_true] at hjb
          have hjd : (l.toArray[j]?).bind (·.dst) = some t := by simpa using hjb.1
          obtain ⟨oj, hoj, hjd⟩ := Option.bind_eq_some_iff.1 hjd
          have hja := List.contains_iff_mem.1 hjb.2
          have hun2 : ∀ k o', l.toArray[k]? = some o' → listed.getD k false = true → o'.dst ≠ some t := by
            intro k o' hk hkl hkd
            have := C.once k o' j oj t hk hoj hjd hkd
            subst this
            have := upAll listed I.closed hs k o' hk (I.closed k o' hk hkl) i hja
            rw [hunf] at this; cases this
          have := I.old t hun2
          simp [Act.eval, this]
        | false =>
          rw [if_neg (by decide)]
          have : a.tmps[t]? = aS.tmps[t]? := by
            by_cases hex : ∃ (j : Nat) (oj : Oper), l.toArray[j]? = some oj ∧ oj.dst = some t
            · obtain ⟨j, oj, hj, hjd⟩ := hex
              rcases C.dep i o j oj t ho hj hjd hta with ⟨e, he, hb2, hej⟩ | hja
              · have hjl := hdep e he hb2
                rw [hej] at hjl
                rw [I.got j oj t hj hjd hjl, sG j oj t hj hjd]
              · have : backB l.toArray anc i t = true := by
                  refine List.any_eq_true.2 ⟨j, List.mem_range.2 (Array.getElem?_eq_some_iff.1 hj).1, ?_⟩
                  rw [Bool.and_eq_true]
                  exact ⟨by rw [hj]; simp [hjd], List.contains_iff_mem.2 hja⟩
                rw [hb] at this; cases this
            · rw [I.old t (fun j oj hj _ hjd => hex ⟨j, oj, hj, hjd⟩), sO t (fun j oj hj hjd => hex ⟨j, oj, hj, hjd⟩)]
          simp [Act.eval, this]
      | _ => rfl
    have hex := execOp_congr o (fun cs b => Region.noSelect_spec hS i o cs b ho) hev
    have hwt : Region.wanted o (yielded l.toArray a.tmps) = want (fun j => V j e) o.guard := by
      unfold Region.wanted want
      cases hg : o.guard with
      | none => rfl
      | some gb =>
        obtain ⟨g, b⟩ := gb
        have hb := Array.all_eq_true_iff_forall_mem.1 hG o (Array.mem_of_getElem? ho)
        rw [hg] at hb
        simp only [Bool.and_eq_true] at hb
        obtain ⟨t, ht⟩ := Option.isSome_iff_exists.1 hb.1
        obtain ⟨og, hog, htg⟩ := Option.bind_eq_some_iff.1 ht
        obtain ⟨e', he, h3⟩ := any_mem hb.2
        rw [Bool.and_eq_true] at h3
        have hgl := hdep e' he h3.1
        rw [show e'.on = g by simpa using h3.2] at hgl
        have := I.got g og t hog htg hgl
        have hy : yielded l.toArray a.tmps g = match V g e with | .bool c => some c | _ => none := by
          unfold yielded
          rw [ht, Option.bind_some, this]
          cases V g e <;> rfl
        simp only [hy]
        cases V g e <;> rfl
    have hnext : ∀ u w2, GoesM V Ω i (fun j => listed.getD j false) e u w2 → ∃ e', EnvM l.toArray V Ω a0 (listed.setIfInBounds i true) (a.put o.dst u) w2 e' := by
      intro u w2 hw2
      have hli : i < listed.size := by rw [hs]; exact hil
      have key : ∀ e', u = V i e' → (∀ j oj, l.toArray[j]? = some oj → listed.getD j false = true → V j e' = V j e) → Ω (fun j => (listed.setIfInBounds i true).getD j false) e' w2 →
          EnvM l.toArray V Ω a0 (listed.setIfInBounds i true) (a.put o.dst u) w2 e' := by
        intro e' hu hsame hO
        refine ⟨?_, ?_, ?_, ?_, ?_, hO⟩
        · rw [← I.defers]; cases o.dst <;> rfl
        · rw [← I.size]; cases o.dst <;> simp [Act.put]
        · intro j oj d hj hjd hl
          rcases (listed_set hli).1 hl with rfl | hl
          · rw [ho] at hj; cases hj
            rw [hjd]
            have := C.room j o d ho hjd
            rw [← I.size] at this
            simp [Act.put, this, hu]
          · have hgot := I.got j oj d hj hjd hl
            rw [← hsame j oj hj hl] at hgot
            cases hod : o.dst with
            | none => exact hgot
            | some e =>
              have hne : e ≠ d := by
                rintro rfl
                have := C.once i o j oj e ho hj hjd hod
                subst this
                rw [hunf] at hl; cases hl
              simpa [Act.put, Array.getElem?_setIfInBounds_ne hne] using hgot
        · intro d h
          have h1 := I.old d (fun j oj hj hl => h j oj hj ((listed_set hli).2 (.inr hl)))
          have h2 := h i o ho ((listed_set hli).2 (.inl rfl))
          cases hod : o.dst with
          | none => exact h1
          | some e =>
            have hne : e ≠ d := fun he => h2 (by rw [hod, he])
            simpa [Act.put, Array.getElem?_setIfInBounds_ne hne] using h1
        · intro j oj hj hl e he hb
          rcases (listed_set hli).1 hl with rfl | hl
          · rw [ho] at hj; cases hj
            exact (listed_set hli).2 (.inr (hdep e he hb))
          · exact (listed_set hli).2 (.inr (I.closed j oj hj hl e he hb))
      obtain ⟨x, hu, hO⟩ := hw2
      refine ⟨updE e i x, key _ hu (fun j oj hj hl => ?_) ?_⟩
      · have hjl : j < l.length := by have := (Array.getElem?_eq_some_iff.1 hj).1; simpa using this
        refine hD j hjl _ _ (fun r hr => ?_)
        unfold updE
        cases hb : Nat.beq r i with
        | false => rfl
        | true =>
          have := Nat.eq_of_beq_eq_true hb
          subst this
          rcases hr with rfl | hr
          · rw [hunf] at hl; cases hl
          · have := hdown j hjl hr; rw [this] at hl; cases hl
      · have : (fun j => (listed.setIfInBounds i true).getD j false) = setL (fun j => listed.getD j false) i := by
          funext j
          unfold setL
          cases hb : Nat.beq j i with
          | true =>
            have := Nat.eq_of_beq_eq_true hb
            subst this
            exact (listed_set hli).2 (.inl rfl)
          | false =>
            have hne : j ≠ i := fun h => by subst h; simp at hb
            show _ = listed.getD j false
            have h1 := listed_set (j := j) hli
            cases hl : listed.getD j false with
            | true => exact h1.2 (.inr hl)
            | false =>
              cases hl2 : (listed.setIfInBounds i true).getD j false with
              | false => rfl
              | true => rcases h1.1 hl2 with h2 | h2
                        · exact absurd h2 hne
                        · rw [hl] at h2; cases h2
        rw [this]; exact hO
    unfold wpOp
    simp only [ho, hwt]
    split
    · rename_i hw
      rw [if_pos hw, ← hex] at hdo
      refine .inl ?_
      unfold Oper.wp
      generalize (execOp a.eval o).run P w1 = r at hdo
      cases r with
      | ok x w' =>
        cases x <;> simp only [Res] at hdo
        case value u => exact hnext _ _ hdo
        case skip => exact hnext _ _ hdo
        case enter f args =>
          refine Calls.mono hdo fun e w'' he => ?_
          obtain ⟨u, rfl, h4⟩ := he
          exact hnext _ _ h4
        case row row args => exact Rows.mono hdo fun u w'' he => hnext _ _ he
      | halt x w' => simp only [Res] at hdo
    · rename_i hw
      rw [if_neg hw] at hdo
      exact hnext _ _ hdo
  · rintro listed a w1 hs ⟨e, I⟩ hr
    have hall : ∀ i, i < l.toArray.size → listed.getD i false = true := by
      intro i
      induction i using Nat.strongRecOn with
      | ind i ih =>
        intro hil
        cases hl : listed.getD i false with
        | true => rfl
        | false =>
          have ho : l.toArray[i]? = some l.toArray[i] := Array.getElem?_eq_getElem hil
          have : i ∈ Region.ready .any l.toArray listed := by
            refine mem_ready.2 ⟨?_, _, ho, fun e he hb => ?_⟩
            · have hl' : i < listed.size := by rw [hs]; exact hil
              simp [hl'] at hl ⊢
              exact hl
            · have := C.back i _ ho e he hb
              exact ih e.on this (by omega)
          rw [hr] at this; cases this
    have hall2 : (fun j => listed.getD j false) = (fun j => Nat.blt j l.length) := by
      funext j
      rcases Nat.lt_or_ge j l.length with h | h
      · rw [hall j (by simpa using h)]; exact (show Nat.blt j l.length = true from by rw [Nat.blt_eq]; exact h).symm
      · have h2 : listed.size ≤ j := by rw [hs]; simpa using h
        rw [show listed.getD j false = false from by simp [h2]]
        cases hb : Nat.blt j l.length with
        | false => rfl
        | true => rw [Nat.blt_eq] at hb; omega
    exact hQ e a w1 I.size I.defers (fun i o d hi hd => I.got i o d (by simpa using hi) hd (hall i (by have := (List.getElem?_eq_some_iff.1 hi).1; simpa using this)))
      (fun d hd => I.old d (fun i o hi _ hod => by
        have := List.all_eq_true.1 hd o (by simpa using Array.mem_of_getElem? hi)
        simp [hod] at this)) (hall2 ▸ I.world)
  · refine ⟨e0, rfl, rfl, ?_, fun _ _ => rfl, ?_, ?_⟩
    · intro i o d _ _ h
      simp [Array.getElem?_replicate] at h
      split at h <;> simp at h
    · intro i o _ h
      simp [Array.getElem?_replicate] at h
      split at h <;> simp at h
    · have : (fun j => (Array.replicate l.toArray.size false).getD j false) = fun _ => false := by
        funext j
        simp [Array.getElem?_replicate]
        split <;> rfl
      rw [this]; exact h0
end Go.Sx
