/- SxM, Sx7. -/
import Derived.Test.YtmhbpifhpolghaaGreatSx6
set_option maxRecDepth 100000
set_option linter.unusedVariables false
set_option linter.unusedSimpArgs false
set_option linter.unusedSectionVars false
section
namespace Go.Sx
open Go.RowKit Go.Tk Go.Lib Go.Vc
def updE (e : Nat → (Nat → Rv)) (k : Nat) (x : Nat → Rv) : Nat → (Nat → Rv) := fun r => bif Nat.beq r k then x else e r
def setL (L : Nat → Bool) (i : Nat) : Nat → Bool := fun j => bif Nat.beq j i then true else L j
def GoesM (V : Nat → (Nat → (Nat → Rv)) → Value) (Ω : (Nat → Bool) → (Nat → (Nat → Rv)) → World → Prop) (i : Nat) (L : Nat → Bool) (e : Nat → (Nat → Rv)) (u : Value) (w' : World) : Prop := ∃ x, u = V i (updE e i x) ∧ Ω (setL L i) (updE e i x) w'
def runsM (P : Program) (l0 : List Oper) (old : Nat → Nat → Bool) (a0 : Act) (V : Nat → (Nat → (Nat → Rv)) → Value) (Ω : (Nat → Bool) → (Nat → (Nat → Rv)) → World → Prop) (anc : List (List Nat)) : List Oper → Nat → Prop
  | [], _ => True
  | o :: l, i => (∀ L e w ρ, L i = false → (∀ x, x ∈ anc.getD i [] → L x = true) → (∀ x, x < l0.length → i ∈ anc.getD x [] → L x = false) → (∀ x, x < l0.length → L x = true → ∀ y, y ∈ anc.getD x [] → L y = true) → Ω L e w → Ev l0 old i (fun j => V j e) a0 ρ →
      if want (fun j => V j e) o.guard = true then Res P (GoesM V Ω i L e) ((execOp ρ o).run P w) else GoesM V Ω i L e undef w) ∧ runsM P l0 old a0 V Ω anc l (i + 1)
theorem runsM_get {P : Program} {l0 : List Oper} {old : Nat → Nat → Bool} {a0 : Act} {V : Nat → (Nat → (Nat → Rv)) → Value} {Ω : (Nat → Bool) → (Nat → (Nat → Rv)) → World → Prop} {anc : List (List Nat)} : ∀ {l : List Oper} {i : Nat}, runsM P l0 old a0 V Ω anc l i → ∀ j o, l[j]? = some o →
    ∀ L e w ρ, L (i + j) = false → (∀ x, x ∈ anc.getD (i + j) [] → L x = true) → (∀ x, x < l0.length → (i + j) ∈ anc.getD x [] → L x = false) → (∀ x, x < l0.length → L x = true → ∀ y, y ∈ anc.getD x [] → L y = true) → Ω L e w → Ev l0 old (i + j) (fun j => V j e) a0 ρ →
      if want (fun j => V j e) o.guard = true then Res P (GoesM V Ω (i + j) L e) ((execOp ρ o).run P w) else GoesM V Ω (i + j) L e undef w
  | [], _, _, j, o, h => by simp at h
  | o :: l, i, h, 0, o', h1 => by
    simp only [List.getElem?_cons_zero, Option.some.injEq] at h1
    subst h1
    exact h.1
  | o :: l, i, h, j + 1, o', h1 => by
    rw [show i + (j + 1) = i + 1 + j from by omega]
    exact runsM_get h.2 j o' (by simpa using h1)
def depsM (V : Nat → (Nat → (Nat → Rv)) → Value) (anc : List (List Nat)) : Nat → Nat → Prop
  | 0, _ => True
  | n + 1, i => (∀ e e' : Nat → (Nat → Rv), (∀ r, (r = i ∨ r ∈ anc.getD i []) → e r = e' r) → V i e = V i e') ∧ depsM V anc n (i + 1)
theorem depsM_get {V : Nat → (Nat → (Nat → Rv)) → Value} {anc : List (List Nat)} : ∀ {n i : Nat}, depsM V anc n i → ∀ j, j < n → ∀ e e' : Nat → (Nat → Rv), (∀ r, (r = i + j ∨ r ∈ anc.getD (i + j) []) → e r = e' r) → V (i + j) e = V (i + j) e'
  | 0, _, _, j, hj => by omega
  | n + 1, i, h, 0, _ => h.1
  | n + 1, i, h, j + 1, hj => by
    rw [show i + (j + 1) = i + 1 + j from by omega]
    exact depsM_get h.2 j (by omega)
structure EnvM (ops : Array Oper) (V : Nat → (Nat → (Nat → Rv)) → Value) (Ω : (Nat → Bool) → (Nat → (Nat → Rv)) → World → Prop) (a0 : Act) (listed : Array Bool) (a : Act) (w : World) (e : Nat → (Nat → Rv)) : Prop where
  defers : a.defers = a0.defers
  size : a.tmps.size = a0.tmps.size
  got : ∀ (i : Nat) (o : Oper) (d : Nat), ops[i]? = some o → o.dst = some d → listed.getD i false = true → a.tmps[d]? = some (V i e)
  old : ∀ (d : Nat), (∀ (i : Nat) (o : Oper), ops[i]? = some o → listed.getD i false = true → o.dst ≠ some d) → a.tmps[d]? = a0.tmps[d]?
  closed : ∀ (i : Nat) (o : Oper), ops[i]? = some o → listed.getD i false = true → ∀ e ∈ o.after, Region.binds .any e = true → listed.getD e.on false = true
  world : Ω (fun j => listed.getD j false) e w
theorem res_mn {P : Program} {R R' : Value → World → Prop} {r : Result Next} (hk : ∀ u w', R u w' → R' u w') (h : Res P R r) : Res P R' r := by
  cases r with
  | halt x w' => simp only [Res] at h
  | ok x w' =>
    cases x <;> simp only [Res] at h ⊢
    case value u => exact hk _ _ h
    case skip => exact hk _ _ h
    case enter f args => exact Calls.mono h fun e w'' ⟨u, e1, h2⟩ => ⟨u, e1, hk _ _ h2⟩
    case row row args => exact Rows.mono h fun u w'' h2 => hk _ _ h2
def opRes (P : Program) (ops : Array Oper) (i : Nat) (K : Act → World → Prop) (a : Act) (w : World) : Prop :=
  match ops[i]? with
  | none => K a w
  | some o => if Region.wanted o (yielded ops a.tmps) then Res P (fun u w' => K (a.put o.dst u) w') ((execOp a.eval o).run P w) else K (a.put o.dst undef) w
def anyRes (P : Program) (md : Region.Mode) (ops : Array Oper) (Q : Exit → Act → World → Prop) : Nat → Array Bool → Act → World → Prop
  | 0, listed, a, w => Region.ready md ops listed = [] ∧ Q .normal a w
  | fuel + 1, listed, a, w =>
    (Region.ready md ops listed = [] → Q .normal a w) ∧
    ∀ i ∈ Region.ready md ops listed, opRes P ops i (anyRes P md ops Q fuel (listed.setIfInBounds i true)) a w
theorem opRes_mono {P : Program} {ops : Array Oper} {i : Nat} {a : Act} {w : World} {K K' : Act → World → Prop} (h : ∀ a w, K a w → K' a w) (hh : opRes P ops i K a w) : opRes P ops i K' a w := by
  unfold opRes at *
  split
  · exact h _ _ (by simpa [*] using hh)
  · rename_i o ho
    simp only [ho] at hh
    split
    · rename_i hw; simp only [hw, if_true] at hh; exact res_mn (fun u w' => h _ _) hh
    · rename_i hw; simp only [hw] at hh; exact h _ _ hh
theorem anyRes_wp {P : Program} {md : Region.Mode} {ops : Array Oper} {Q : Exit → Act → World → Prop} : ∀ {fuel : Nat} {listed : Array Bool} {a : Act} {w : World}, anyRes P md ops Q fuel listed a w → wpAny P md ops Q fuel listed a w
  | 0, _, _, _, h => h
  | fuel + 1, listed, a, w, h => by
    refine ⟨h.1, fun i hi => ?_⟩
    have h2 := h.2 i hi
    unfold opRes at h2
    unfold wpOp
    split
    · simp only [*] at h2; exact anyRes_wp h2
    · rename_i o ho
      simp only [ho] at h2
      split
      · rename_i hw
        simp only [hw, if_true] at h2
        refine .inl ?_
        unfold Oper.wp
        generalize (execOp a.eval o).run P w = r at h2
        cases r with
        | halt x w' => simp only [Res] at h2
        | ok x w' =>
          cases x <;> simp only [Res] at h2
          case value u => exact anyRes_wp h2
          case skip => exact anyRes_wp h2
          case enter f args =>
            refine Calls.mono h2 fun e w'' he => ?_
            obtain ⟨u, rfl, h4⟩ := he
            exact anyRes_wp h4
          case row row args => exact Rows.mono h2 fun u w'' he => anyRes_wp he
      · rename_i hw
        simp only [hw] at h2
        exact anyRes_wp h2
theorem anyRes_inv {P : Program} {ops : Array Oper} {Q : Exit → Act → World → Prop} {md : Region.Mode} (I : Array Bool → Act → World → Prop)
    (hstep : ∀ (listed : Array Bool) (a : Act) (w : World), listed.size = ops.size → I listed a w → ∀ i ∈ Region.ready md ops listed, opRes P ops i (I (listed.setIfInBounds i true)) a w)
    (hend : ∀ (listed : Array Bool) (a : Act) (w : World), listed.size = ops.size → I listed a w → Region.ready md ops listed = [] → Q .normal a w) :
    ∀ (fuel : Nat) (listed : Array Bool) (a : Act) (w : World), listed.size = ops.size → (listed.toList.filter (fun b => !b)).length ≤ fuel → I listed a w → anyRes P md ops Q fuel listed a w
  | 0, listed, a, w, hs, hf, hI => by
    have hall : ∀ i, i < listed.size → listed[i]? = some true := by
      intro i hi
      have h0 : listed.toList.filter (fun b => !b) = [] := List.length_eq_zero_iff.1 (Nat.le_zero.1 hf)
      have h1 := List.filter_eq_nil_iff.1 h0 listed[i] (by simp)
      simp at h1
      rw [Array.getElem?_eq_getElem hi, h1]
    have hr : Region.ready md ops listed = [] := by
      unfold Region.ready
      rw [List.filter_eq_nil_iff]
      intro i hi
      have := hall i (by rw [hs]; simpa using hi)
      simp [this]
    exact ⟨hr, hend listed a w hs hI hr⟩
  | fuel + 1, listed, a, w, hs, hf, hI => by
    refine ⟨fun hr => hend listed a w hs hI hr, fun i hi => ?_⟩
    refine opRes_mono (fun a' w' h => ?_) (hstep listed a w hs hI i hi)
    refine anyRes_inv I hstep hend fuel _ a' w' (by simpa using hs) ?_ h
    have hm := hi
    unfold Region.ready at hm
    obtain ⟨h1, h2⟩ := List.mem_filter.1 hm
    have hlt : i < listed.size := by rw [hs]; simpa using h1
    have hfalse : listed[i] = false := by
      simp only [Bool.and_eq_true, Bool.not_eq_true'] at h2
      have := h2.1
      simpa [hlt] using this
    rw [Array.toList_setIfInBounds]
    obtain ⟨r, p1, p2⟩ := set_perm' (l := listed.toList) (j := i) (a := false) (b := true) (by simp [hlt, hfalse])
    have q1 := (p1.filter (fun b => !b)).length_eq
    have q2 := (p2.filter (fun b => !b)).length_eq
    simp at q1 q2
    simp only [q2]
    omega
theorem region_maskA {P : Program} {Q : Exit → Act → World → Prop} {l : List Oper} {a0 : Act} {w : World} (n : Nat) (V : Nat → (Nat → (Nat → Rv)) → Value) (Ω : (Nat → Bool) → (Nat → (Nat → Rv)) → World → Prop) (e0 : Nat → (Nat → Rv)) (anc : List (List Nat)) (lo hi : List Nat) (old : Nat → Nat → Bool)
    (hz : a0.tmps.size = n) (hO : oldB l.toArray anc old = true) (hC : ssaB2 l.toArray n [] anc lo hi = true) (hS : Region.noSelect l.toArray = true) (hG : guardB2 l.toArray = true)
    (hD0 : depsM V anc l.length 0) (h0 : Ω (fun _ => false) e0 w.drew)
    (hR : runsM P l old a0 V Ω anc l 0)
    (hQ : ∀ e a' w', a'.tmps.size = n → a'.defers = a0.defers → (∀ i o d, l[i]? = some o → o.dst = some d → a'.tmps[d]? = some (V i e)) → (∀ d, (l.all fun o => o.dst != some d) = true → a'.tmps[d]? = a0.tmps[d]?) → Ω (fun j => Nat.blt j l.length) e w' → Q .normal a' w') :
    anyRes P .any l.toArray Q l.toArray.size (Array.replicate l.toArray.size false) a0 w.drew := by
  subst hz
  have hD : ∀ i, i < l.length → ∀ e e' : Nat → (Nat → Rv), (∀ r, (r = i ∨ r ∈ anc.getD i []) → e r = e' r) → V i e = V i e' := fun i hi e e' h => by
    have := depsM_get hD0 i hi e e' (by rwa [Nat.zero_add])
    rwa [Nat.zero_add] at this
  have C := ssaC2 hC
  clear hC
  have upAll : ∀ (listed : Array Bool), (∀ (i : Nat) (o : Oper), l.toArray[i]? = some o → listed.getD i false = true → ∀ e ∈ o.after, Region.binds .any e = true → listed.getD e.on false = true) →
      listed.size = l.toArray.size → ∀ (i : Nat) (o : Oper), l.toArray[i]? = some o → (∀ e ∈ o.after, Region.binds .any e = true → listed.getD e.on false = true) → ∀ x ∈ anc.getD i [], listed.getD x false = true := by
    intro listed hcl hsz i
    induction i using Nat.strongRecOn with
    | ind i ih =>
      intro o ho hdir x hx
      obtain ⟨e, he, hb, h | h⟩ := C.up i o ho x hx
      · rw [← h]; exact hdir e he hb
      · have hlt := C.back i o ho e he hb
        have hil : i < l.toArray.size := (Array.getElem?_eq_some_iff.1 ho).1
        have hoe : l.toArray[e.on]? = some l.toArray[e.on] := Array.getElem?_eq_getElem (by omega)
        exact ih e.on hlt _ hoe (hcl e.on _ hoe (hdir e he hb)) x h
  refine anyRes_inv (fun listed a w => ∃ e, EnvM l.toArray V Ω a0 listed a w e) ?_ ?_ _ _ _ _ (by simp) (by simp) ?_
  · rintro listed a w1 hs ⟨e, I⟩ i hir
    obtain ⟨hun, o, ho, hdep⟩ := mem_ready.1 hir
    have hil : i < l.toArray.size := (Array.getElem?_eq_some_iff.1 ho).1
    have hunf : listed.getD i false = false := by
      have hl : i < listed.size := by rw [hs]; exact hil
      simp [hl] at hun ⊢
      exact hun
    have hanc := upAll listed I.closed hs i o ho hdep
    have hdown : ∀ x, x < l.length → i ∈ anc.getD x [] → listed.getD x false = false := fun x hx h => by
      cases hl : listed.getD x false with
      | false => rfl
      | true =>
        have hox : l.toArray[x]? = some l.toArray[x] := Array.getElem?_eq_getElem (by simpa using hx)
        have := upAll listed I.closed hs x _ hox (I.closed x _ hox hl) i h
        rw [hunf] at this; cases this
    obtain ⟨aS, haS⟩ : ∃ aS, aS = ssaAct (fun j => V j e) l 0 a0 := ⟨_, rfl⟩
    have sO : ∀ (d : Nat), (∀ (i : Nat) (o : Oper), l.toArray[i]? = some o → o.dst ≠ some d) → aS.tmps[d]? = a0.tmps[d]? := fun d h => by
      rw [haS]
      refine ssaAct_old _ d l 0 a0 (fun o ho => ?_)
      obtain ⟨k, hk⟩ := List.getElem?_of_mem ho
      exact h k o (by simpa using hk)
    have sG : ∀ (i : Nat) (o : Oper) (d : Nat), l.toArray[i]? = some o → o.dst = some d → aS.tmps[d]? = some (V i e) := fun i o d h hd => by
      rw [haS]
      have := ssaAct_got (fun j => V j e) l 0 a0 i o d (by simpa using h) hd (C.room i o d h hd) (fun j' o' h1 h2 => C.once j' o' i o d (by simpa using h1) h hd h2)
      rwa [Nat.zero_add] at this
    clear haS
    have hdo := runsM_get hR i o (by simpa using ho) (fun j => listed.getD j false) e w1 (fun x => match x with
        | .tmp t => if old i t = true then a0.eval (.tmp t) else aS.eval (.tmp t)
        | x => aS.eval x) (by rwa [Nat.zero_add]) (by rwa [Nat.zero_add]) (by rwa [Nat.zero_add]) (fun x hx hl y hy => upAll listed I.closed hs x _ (Array.getElem?_eq_getElem (by simpa using hx)) (I.closed x _ (Array.getElem?_eq_getElem (by simpa using hx)) hl) y hy) I.world (by
      rw [Nat.zero_add]
      refine ⟨fun _ => rfl, fun _ => rfl, fun _ => rfl, fun j o d hj hd hb => ?_, fun d v hd hv => ?_⟩
      · have := sG j o d (by simpa using hj) hd
        simp [hb, Act.eval, this]
      · cases hb : old i d with
        | true => simp [Act.eval, hb, hv]
        | false =>
          rw [hb, Bool.false_or] at hd
          have := sO d (fun j oj hj hjd => by
            have := List.all_eq_true.1 hd oj (by simpa using Array.mem_of_getElem? hj)
            simp [hjd] at this)
          simp [Act.eval, hb, this, hv])
    rw [Nat.zero_add] at hdo
    have hold : ∀ t ∈ o.looksAt l.toArray, old i t = backB l.toArray anc i t := fun t ht => by
      have := List.all_eq_true.1 hO i (List.mem_range.2 hil)
      rw [ho] at this
      simpa using List.all_eq_true.1 this t ht
    have hev : ∀ x ∈ o.op.operands, a.eval x = (fun x => match x with
        | .tmp t => if old i t = true then a0.eval (.tmp t) else aS.eval (.tmp t)
        | x => aS.eval x : Operand → Value) x := by
      intro x hx
      cases x with
      | tmp t =>
        have hta : t ∈ o.looksAt l.toArray := List.mem_append_left _ (List.mem_filterMap.2 ⟨.tmp t, by simpa using hx, rfl⟩)
        show a.eval (.tmp t) = if old i t = true then a0.eval (.tmp t) else aS.eval (.tmp t)
        rw [hold t hta]
        cases hb : backB l.toArray anc i t with
        | true =>
          rw [if_pos rfl]
          obtain ⟨j, hj, hjb⟩ := List.any_eq_true.1 hb
          rw [Bool.and_eq_true] at hjb
          have hjd : (l.toArray[j]?).bind (·.dst) = some t := by simpa using hjb.1
          obtain ⟨oj, hoj, hjd⟩ := Option.bind_eq_some_iff.1 hjd
          have hja := List.contains_iff_mem.1 hjb.2
          have hun2 : ∀ k o', l.toArray[k]? = some o' → listed.getD k false = true → o'.dst ≠ some t := by
            intro k o' hk hkl hkd
            have := C.once k o' j oj t hk hoj hjd hkd
            subst this
            have := upAll listed I.closed hs k o' hk (I.closed k o' hk hkl) i hja
            rw [hunf] at this; cases this
          have := I.old t hun2
          simp [Act.eval, this]
        | false =>
          rw [if_neg (by decide)]
          have : a.tmps[t]? = aS.tmps[t]? := by
            by_cases hex : ∃ (j : Nat) (oj : Oper), l.toArray[j]? = some oj ∧ oj.dst = some t
            · obtain ⟨j, oj, hj, hjd⟩ := hex
              rcases C.dep i o j oj t ho hj hjd hta with ⟨e, he, hb2, hej⟩ | hja
              · have hjl := hdep e he hb2
                rw [hej] at hjl
                rw [I.got j oj t hj hjd hjl, sG j oj t hj hjd]
              · have : backB l.toArray anc i t = true := by
                  refine List.any_eq_true.2 ⟨j, List.mem_range.2 (Array.getElem?_eq_some_iff.1 hj).1, ?_⟩
                  rw [Bool.and_eq_true]
                  exact ⟨by rw [hj]; simp [hjd], List.contains_iff_mem.2 hja⟩
                rw [hb] at this; cases this
            · rw [I.old t (fun j oj hj _ hjd => hex ⟨j, oj, hj, hjd⟩), sO t (fun j oj hj hjd => hex ⟨j, oj, hj, hjd⟩)]
          simp [Act.eval, this]
      | _ => rfl
    have hex := execOp_congr o (fun cs b => Region.noSelect_spec hS i o cs b ho) hev
    have hwt : Region.wanted o (yielded l.toArray a.tmps) = want (fun j => V j e) o.guard := by
      unfold Region.wanted want
      cases hg : o.guard with
      | none => rfl
      | some gb =>
        obtain ⟨g, b⟩ := gb
        have hb := Array.all_eq_true_iff_forall_mem.1 hG o (Array.mem_of_getElem? ho)
        rw [hg] at hb
        simp only [Bool.and_eq_true] at hb
        obtain ⟨t, ht⟩ := Option.isSome_iff_exists.1 hb.1
        obtain ⟨og, hog, htg⟩ := Option.bind_eq_some_iff.1 ht
        obtain ⟨e', he, h3⟩ := any_mem hb.2
        rw [Bool.and_eq_true] at h3
        have hgl := hdep e' he h3.1
        rw [show e'.on = g by simpa using h3.2] at hgl
        have := I.got g og t hog htg hgl
        have hy : yielded l.toArray a.tmps g = match V g e with | .bool c => some c | _ => none := by
          unfold yielded
          rw [ht, Option.bind_some, this]
          cases V g e <;> rfl
        simp only [hy]
        cases V g e <;> rfl
    have hnext : ∀ u w2, GoesM V Ω i (fun j => listed.getD j false) e u w2 → ∃ e', EnvM l.toArray V Ω a0 (listed.setIfInBounds i true) (a.put o.dst u) w2 e' := by
      intro u w2 hw2
      have hli : i < listed.size := by rw [hs]; exact hil
      have key : ∀ e', u = V i e' → (∀ j oj, l.toArray[j]? = some oj → listed.getD j false = true → V j e' = V j e) → Ω (fun j => (listed.setIfInBounds i true).getD j false) e' w2 →
          EnvM l.toArray V Ω a0 (listed.setIfInBounds i true) (a.put o.dst u) w2 e' := by
        intro e' hu hsame hO
        refine ⟨?_, ?_, ?_, ?_, ?_, hO⟩
        · rw [← I.defers]; cases o.dst <;> rfl
        · rw [← I.size]; cases o.dst <;> simp [Act.put]
        · intro j oj d hj hjd hl
          rcases (listed_set hli).1 hl with rfl | hl
          · rw [ho] at hj; cases hj
            rw [hjd]
            have := C.room j o d ho hjd
            rw [← I.size] at this
            simp [Act.put, this, hu]
          · have hgot := I.got j oj d hj hjd hl
            rw [← hsame j oj hj hl] at hgot
            cases hod : o.dst with
            | none => exact hgot
            | some e =>
              have hne : e ≠ d := by
                rintro rfl
                have := C.once i o j oj e ho hj hjd hod
                subst this
                rw [hunf] at hl; cases hl
              simpa [Act.put, Array.getElem?_setIfInBounds_ne hne] using hgot
        · intro d h
          have h1 := I.old d (fun j oj hj hl => h j oj hj ((listed_set hli).2 (.inr hl)))
          have h2 := h i o ho ((listed_set hli).2 (.inl rfl))
          cases hod : o.dst with
          | none => exact h1
          | some e =>
            have hne : e ≠ d := fun he => h2 (by rw [hod, he])
            simpa [Act.put, Array.getElem?_setIfInBounds_ne hne] using h1
        · intro j oj hj hl e he hb
          rcases (listed_set hli).1 hl with rfl | hl
          · rw [ho] at hj; cases hj
            exact (listed_set hli).2 (.inr (hdep e he hb))
          · exact (listed_set hli).2 (.inr (I.closed j oj hj hl e he hb))
      obtain ⟨x, hu, hO⟩ := hw2
      refine ⟨updE e i x, key _ hu (fun j oj hj hl => ?_) ?_⟩
      · have hjl : j < l.length := by have := (Array.getElem?_eq_some_iff.1 hj).1; simpa using this
        refine hD j hjl _ _ (fun r hr => ?_)
        unfold updE
        cases hb : Nat.beq r i with
        | false => rfl
        | true =>
          have := Nat.eq_of_beq_eq_true hb
          subst this
          rcases hr with rfl | hr
          · rw [hunf] at hl; cases hl
          · have := hdown j hjl hr; rw [this] at hl; cases hl
      · have : (fun j => (listed.setIfInBounds i true).getD j false) = setL (fun j => listed.getD j false) i := by
          funext j
          unfold setL
          cases hb : Nat.beq j i with
          | true =>
            have := Nat.eq_of_beq_eq_true hb
            subst this
            exact (listed_set hli).2 (.inl rfl)
          | false =>
            have hne : j ≠ i := fun h => by subst h; simp at hb
            show _ = listed.getD j false
            have h1 := listed_set (j := j) hli
            cases hl : listed.getD j false with
            | true => exact h1.2 (.inr hl)
            | false =>
              cases hl2 : (listed.setIfInBounds i true).getD j false with
              | false => rfl
              | true => rcases h1.1 hl2 with h2 | h2
                        · exact absurd h2 hne
                        · rw [hl] at h2; cases h2
        rw [this]; exact hO
    unfold opRes
    simp only [ho, hwt]
    split
    · rename_i hw
      rw [if_pos hw, ← hex] at hdo
      exact res_mn (fun u w' h => hnext u w' h) hdo
    · rename_i hw
      rw [if_neg hw] at hdo
      exact hnext _ _ hdo
  · rintro listed a w1 hs ⟨e, I⟩ hr
    have hall : ∀ i, i < l.toArray.size → listed.getD i false = true := by
      intro i
      induction i using Nat.strongRecOn with
      | ind i ih =>
        intro hil
        cases hl : listed.getD i false with
        | true => rfl
        | false =>
          have ho : l.toArray[i]? = some l.toArray[i] := Array.getElem?_eq_getElem hil
          have : i ∈ Region.ready .any l.toArray listed := by
            refine mem_ready.2 ⟨?_, _, ho, fun e he hb => ?_⟩
            · have hl' : i < listed.size := by rw [hs]; exact hil
              simp [hl'] at hl ⊢
              exact hl
            · have := C.back i _ ho e he hb
              exact ih e.on this (by omega)
          rw [hr] at this; cases this
    have hall2 : (fun j => listed.getD j false) = (fun j => Nat.blt j l.length) := by
      funext j
      rcases Nat.lt_or_ge j l.length with h | h
      · rw [hall j (by simpa using h)]; exact (show Nat.blt j l.length = true from by rw [Nat.blt_eq]; exact h).symm
      · have h2 : listed.size ≤ j := by rw [hs]; simpa using h
        rw [show listed.getD j false = false from by simp [h2]]
        cases hb : Nat.blt j l.length with
        | false => rfl
        | true => rw [Nat.blt_eq] at hb; omega
    exact hQ e a w1 I.size I.defers (fun i o d hi hd => I.got i o d (by simpa using hi) hd (hall i (by have := (List.getElem?_eq_some_iff.1 hi).1; simpa using this)))
      (fun d hd => I.old d (fun i o hi _ hod => by
        have := List.all_eq_true.1 hd o (by simpa using Array.mem_of_getElem? hi)
        simp [hod] at this)) (hall2 ▸ I.world)
  · refine ⟨e0, rfl, rfl, ?_, fun _ _ => rfl, ?_, ?_⟩
    · intro i o d _ _ h
      simp [Array.getElem?_replicate] at h
      split at h <;> simp at h
    · intro i o _ h
      simp [Array.getElem?_replicate] at h
      split at h <;> simp at h
    · have : (fun j => (Array.replicate l.toArray.size false).getD j false) = fun _ => false := by
        funext j
        simp [Array.getElem?_replicate]
        split <;> rfl
      rw [this]; exact h0
end Go.Sx
end
section
namespace Go.Sx
open Go.RowKit Go.Tk Go.Lib Go.Shelf Go.Vc
abbrev Slots := List (Nat × SV)
def lkS : Slots → Nat → Option SV
  | [], _ => none
  | (d, v) :: l, t => bif Nat.beq d t then some v else lkS l t
def putS : Slots → Nat → SV → Slots
  | [], d, v => [(d, v)]
  | (d', v') :: l, d, v => bif Nat.beq d' d then (d, v) :: l else (d', v') :: putS l d v
def putD (sl : Slots) (d : Option Nat) (v : SV) : Slots := match d with
  | some d => putS sl d v
  | none => sl
theorem lkS_put {d t : Nat} {v : SV} : ∀ {sl : Slots}, lkS (putS sl d v) t = if t = d then some v else lkS sl t
  | [] => by
    show (bif Nat.beq d t then some v else none) = _
    by_cases h : t = d
    · subst h; rw [Nat.beq_refl, if_pos rfl]; rfl
    · rw [if_neg h]
      cases hb : Nat.beq d t with
      | true => exact absurd (Nat.eq_of_beq_eq_true hb).symm h
      | false => rfl
  | (d', v') :: l => by
    unfold putS
    cases hb : Nat.beq d' d with
    | true =>
      have := Nat.eq_of_beq_eq_true hb
      subst this
      show (bif Nat.beq d' t then some v else lkS l t) = if t = d' then some v else (bif Nat.beq d' t then some v' else lkS l t)
      by_cases h : t = d'
      · subst h; rw [Nat.beq_refl, if_pos rfl]; rfl
      · rw [if_neg h]
        cases hb : Nat.beq d' t with
        | true => exact absurd (Nat.eq_of_beq_eq_true hb).symm h
        | false => rfl
    | false =>
      show (bif Nat.beq d' t then some v' else lkS (putS l d v) t) = if t = d then some v else (bif Nat.beq d' t then some v' else lkS l t)
      rw [lkS_put]
      cases hb2 : Nat.beq d' t with
      | false => rfl
      | true =>
        have := Nat.eq_of_beq_eq_true hb2
        subst this
        have : d' ≠ d := fun e => by rw [e, Nat.beq_refl] at hb; cases hb
        simp [this]
def slotsEv (sl : Slots) : Ev1 := fun x => match x with
  | .tmp t => lkS sl t
  | .const v => some (ofV v)
  | .func f => some (.fn (.func f) [] [])
  | .global _ => none
structure St where
  slots : Slots
  heap : Heap
  next : Nat
structure Rel (nt lo : Nat) (eb : Env) (R : List Chunk) (σ : St) (ε : Env) (a : Act) (w : World) : Prop where
  size : a.tmps.size = nt
  defers : a.defers = []
  slots : ∀ d v, lkS σ.slots d = some v → a.tmps[d]? = some (v.den ε) ∧ v.ok (ltB σ.next) = true
  mem : Mem (hden ε σ.heap ++ R) w
  nd : (names σ.heap).Nodup
  sc : hok (ltB σ.next) σ.heap = true
  e0 : ∀ t, t < lo → ε t = eb t
  pos : lo ≤ σ.next
def wantS (all : List Oper) (sl : Slots) (o : Oper) : Option Bool := match o.guard with
  | none => some true
  | some (g, b) => match all[g]? with
    | some og => match og.dst with
      | some d => match lkS sl d with
        | some (.val (.bool true)) => some b
        | some (.val (.bool false)) => some (!b)
        | some (.val (.tuple _)) => some false
        | _ => none
      | none => none
    | none => none
def dstOK (nt : Nat) (d : Option Nat) : Bool := match d with
  | some d => Nat.blt d nt
  | none => true
def okOut (nt s : Nat) (o : Oper) (out : Out) : Bool := dstOK nt o.dst && (out.v.ok (ltB (s + 1)) && (hok (ltB (s + 1)) out.upd && ndB out.touch))
section
variable {P : Program} {cal : Callee P}
def oneOp (P : Program) (cal : Callee P) (r nt : Nat) (all : List Oper) (i s : Nat) (o : Oper) (sl : Slots) (H : Heap) (hs : List (Hint P)) : Option (Out × List (Hint P)) :=
  match wantS all sl o with
  | some true => match sOp P cal r i s o (slotsEv sl) H hs with
    | some (out, hs') => bif okOut nt s o out then some (out, hs') else none
    | none => none
  | some false => bif dstOK nt o.dst then some (⟨.val undef, [], [], []⟩, hs) else none
  | none => none
structure Ran (P : Program) where
  outs : List Out
  slots : Slots
  heap : Heap
  hs : List (Hint P)
def runOps (P : Program) (cal : Callee P) (r nt : Nat) (all : List Oper) : List Oper → Nat → Nat → Slots → Heap → List (Hint P) → Option (Ran P)
  | [], _, _, sl, H, hs => some ⟨[], sl, H, hs⟩
  | o :: l, i, s, sl, H, hs => match oneOp P cal r nt all i s o sl H hs with
    | some (out, hs') => match runOps P cal r nt all l (i + 1) (s + 1) (putD sl o.dst out.v) (hput H out.upd) hs' with
      | some q => some ⟨out :: q.outs, q.slots, q.heap, q.hs⟩
      | none => none
    | none => none
def chks (l : List Out) : List (CV × CV) := l.flatMap Out.chk
theorem ok_up {s s' : Nat} (h : s ≤ s') : ∀ t k, ltB s t k = true → ltB s' t k = true := fun t k ht => ltB_iff.2 (Nat.lt_of_lt_of_le (ltB_iff.1 ht) h)
theorem res_mono {R R' : Value → World → Prop} {r : Result Next} (hm : ∀ u w', R u w' → R' u w') (h : Res P R r) : Res P R' r := by
  cases r with
  | halt x w' => exact h
  | ok x w' =>
    cases x <;> simp only [Res] at h ⊢
    case value u => exact hm _ _ h
    case skip => exact hm _ _ h
    case enter f args => exact Calls.mono h fun e w'' ⟨u, h1, h2⟩ => ⟨u, h1, hm _ _ h2⟩
    case row row args => exact Rows.mono h fun u w'' h2 => hm _ _ h2
theorem res_upon {R : Value → World → Prop} {r : Result Next} {o : Oper} {a : Act} {K : Act → World → Prop} {Q : Exit → Act → World → Prop} (h : Res P R r) (hk : ∀ u w', R u w' → K (a.put o.dst u) w') : o.upon P a K Q r := by
  cases r with
  | halt x w' => simp only [Res] at h
  | ok x w' =>
    cases x <;> simp only [Res] at h
    case value u => exact hk _ _ h
    case skip => exact hk _ _ h
    case enter f args =>
      refine Calls.mono h fun e w'' he => ?_
      obtain ⟨u, rfl, h2⟩ := he
      exact hk _ _ h2
    case row row args => exact Rows.mono h fun u w'' h2 => hk _ _ h2
variable {nt lo : Nat} {eb : Env} {R : List Chunk} {σ : St} {ε : Env} {a : Act} {w : World}
theorem ofV1_ok (p : Nat → Nat → Bool) (u : Value) : (ofV1 u).ok p = true := by
  cases u <;> simp [ofV1, SV.ok, oks_all]
theorem ofV_ok (p : Nat → Nat → Bool) (u : Value) : (ofV u).ok p = true := by
  cases u with
  | tuple vs =>
    simp only [ofV, SV.ok, oks_all]
    refine List.all_eq_true.2 fun x hx => ?_
    obtain ⟨u, -, rfl⟩ := List.mem_map.1 hx
    exact ofV1_ok p u
  | _ => simp only [ofV]; exact ofV1_ok p _
theorem rel_ev (h : Rel nt lo eb R σ ε a w) (o : Oper) : EvOK (slotsEv σ.slots) o a.eval ε σ.next := by
  intro x _ v hv
  cases x with
  | tmp t =>
    have := h.slots t v hv
    exact ⟨by simp [Act.eval, this.1], this.2⟩
  | const c =>
    have hv : some (ofV c) = some v := hv
    cases hv
    refine ⟨by rw [ofV_den]; rfl, ?_⟩
    exact ofV_ok _ c
  | func f =>
    have hv : some (SV.fn (.func f) [] []) = some v := hv
    cases hv
    exact ⟨by simp [SV.den, SV.dens, Act.eval], by simp [SV.ok, SV.oks]⟩
  | global g => cases hv
theorem want_ok (h : Rel nt lo eb R σ ε a w) {all : List Oper} {o : Oper} {b : Bool} (hw : wantS all σ.slots o = some b) : Region.wanted o (yielded all.toArray a.tmps) = b := by
  unfold wantS at hw
  unfold Region.wanted
  split at hw
  · rename_i hg; rw [hg]; cases hw; rfl
  · rename_i g c hg
    rw [hg]
    split at hw <;> try (cases hw; done)
    rename_i og hog
    split at hw <;> try (cases hw; done)
    rename_i d hd
    have hy : ∀ x, lkS σ.slots d = some (.val (.bool x)) → yielded all.toArray a.tmps g = some x := fun x hx => by
      unfold yielded
      rw [List.getElem?_toArray, hog, Option.bind_some, hd, Option.bind_some, (h.slots d _ hx).1]
      simp [SV.den]
    split at hw <;> try (cases hw; done)
    · rename_i hl; cases hw; simp only [hy _ hl]; cases b <;> rfl
    · rename_i hl; cases hw; simp only [hy _ hl]; cases c <;> rfl
    · rename_i vs hl
      cases hw
      have : yielded all.toArray a.tmps g = none := by
        unfold yielded
        rw [List.getElem?_toArray, hog, Option.bind_some, hd, Option.bind_some, (h.slots d _ hl).1]
        simp [SV.den]
      simp only [this]; cases c <;> rfl
theorem put_at {a : Act} {d : Option Nat} {u : Value} {t : Nat} (hd : dstOK a.tmps.size d = true) : (a.put d u).tmps[t]? = if d = some t then some u else a.tmps[t]? := by
  cases d with
  | none => simp [Act.put]
  | some d =>
    have hd : d < a.tmps.size := by have : Nat.blt d a.tmps.size = true := hd; rwa [Nat.blt_eq] at this
    simp only [Act.put, Option.some.injEq]
    by_cases h : d = t
    · subst h; rw [if_pos rfl]; simp [hd]
    · rw [if_neg h]; simp [Array.getElem?_setIfInBounds_ne h]
theorem lkS_putD {sl : Slots} {d : Option Nat} {v : SV} {t : Nat} : lkS (putD sl d v) t = if d = some t then some v else lkS sl t := by
  cases d with
  | none => simp [putD]
  | some d =>
    show lkS (putS sl d v) t = _
    rw [lkS_put]
    by_cases h : t = d
    · rw [if_pos h, if_pos (by rw [h])]
    · rw [if_neg h, if_neg (by simp; exact fun e => h e.symm)]
theorem after_rel {o : Oper} {out : Out} {u : Value} {w' : World} (h : Rel nt lo eb R σ ε a w) (hk : okOut nt σ.next o out = true) (ha : After ε σ.next σ.heap (hden ε (hdels σ.heap out.touch) ++ R) out u w') : ∃ ε', Rel nt lo eb R ⟨putD σ.slots o.dst out.v, hput σ.heap out.upd, σ.next + 1⟩ ε' (a.put o.dst u) w' := by
  obtain ⟨x, rfl, hm⟩ := ha
  unfold okOut at hk
  simp only [Bool.and_eq_true] at hk
  obtain ⟨k1, k2, k3, k4⟩ := hk
  have hnd := ndB_nodup k4
  have hlt : ∀ t k, ltB σ.next t k = true → ε t k = eset ε σ.next x t k := fun t k ht => (eset_ne' (by have := ltB_iff.1 ht; omega)).symm
  refine ⟨eset ε σ.next x, ?_, ?_, fun d v hv => ?_, ?_, ?_, ?_, ?_, by have := h.pos; show lo ≤ σ.next + 1; omega⟩
  · rw [← h.size]; cases o.dst <;> simp [Act.put]
  · rw [← h.defers]; cases o.dst <;> rfl
  · have hv : lkS (putD σ.slots o.dst out.v) d = some v := hv
    rw [lkS_putD] at hv
    rw [put_at (by rw [h.size]; exact k1)]
    by_cases hd : o.dst = some d
    · rw [if_pos hd] at hv ⊢
      cases hv
      exact ⟨rfl, k2⟩
    · rw [if_neg hd] at hv ⊢
      have := h.slots d v hv
      exact ⟨by rw [this.1, SV.den_congr hlt v this.2], SV.ok_mono (ok_up (Nat.le_succ _)) v this.2⟩
  · rw [hden_congr hlt (hok_dels h.sc)] at hm
    exact unfocus h.nd hnd hm
  · exact hput_nodup h.nd (List.nodup_append.1 hnd).1
  · exact hok_put (hok_mono (ok_up (Nat.le_succ _)) h.sc) k3
  · exact fun t ht => by rw [eset_ne (by have := h.pos; omega)]; exact h.e0 t ht
theorem skip_rel {o : Oper} (h : Rel nt lo eb R σ ε a w) (hd : dstOK nt o.dst = true) : Rel nt lo eb R ⟨putD σ.slots o.dst (.val undef), hput σ.heap [], σ.next + 1⟩ ε (a.put o.dst undef) w := by
  refine ⟨?_, ?_, fun d v hv => ?_, h.mem, h.nd, hok_mono (ok_up (Nat.le_succ _)) h.sc, h.e0, by have := h.pos; show lo ≤ σ.next + 1; omega⟩
  · rw [← h.size]; cases o.dst <;> simp [Act.put]
  · rw [← h.defers]; cases o.dst <;> rfl
  · have hv : lkS (putD σ.slots o.dst (.val undef)) d = some v := hv
    rw [lkS_putD] at hv
    rw [put_at (by rw [h.size]; exact hd)]
    by_cases hd : o.dst = some d
    · rw [if_pos hd] at hv ⊢
      cases hv
      exact ⟨by simp [SV.den], by simp [SV.ok]⟩
    · rw [if_neg hd] at hv ⊢
      have := h.slots d v hv
      exact ⟨this.1, SV.ok_mono (ok_up (Nat.le_succ _)) v this.2⟩
theorem oneOp_cases {r nt i s : Nat} {all : List Oper} {o : Oper} {sl : Slots} {H : Heap} {hs hs' : List (Hint P)} {out : Out} (h : oneOp P cal r nt all i s o sl H hs = some (out, hs')) :
    (wantS all sl o = some true ∧ sOp P cal r i s o (slotsEv sl) H hs = some (out, hs') ∧ okOut nt s o out = true) ∨ (wantS all sl o = some false ∧ dstOK nt o.dst = true ∧ out = ⟨.val undef, [], [], []⟩ ∧ hs' = hs) := by
  unfold oneOp at h
  split at h <;> try (cases h; done)
  · rename_i hw
    split at h <;> try (cases h; done)
    rename_i out' hs1 hout
    cases hb : okOut nt s o out' with
    | false => rw [hb] at h; cases h
    | true => rw [hb] at h; cases h; exact .inl ⟨hw, hout, hb⟩
  · rename_i hw
    cases hb : dstOK nt o.dst with
    | false => rw [hb] at h; cases h
    | true => rw [hb] at h; cases h; exact .inr ⟨hw, rfl, rfl, rfl⟩
theorem oneOp_ok {r i : Nat} {all : List Oper} {o : Oper} {hs hs' : List (Hint P)} {out : Out} {K : Act → World → Prop} {Q : Exit → Act → World → Prop} (hcal : CalleeOK P cal) (h : oneOp P cal r nt all i σ.next o σ.slots σ.heap hs = some (out, hs')) (hk : ChkOK out.chk) (hr : Rel nt lo eb R σ ε a w)
    (hK : ∀ ε' a' w', Rel nt lo eb R ⟨putD σ.slots o.dst out.v, hput σ.heap out.upd, σ.next + 1⟩ ε' a' w' → K a' w') : if Region.wanted o (yielded all.toArray a.tmps) then o.wp P a w K Q ∨ (o.asks P a w ∧ LetsOut Q) else K (a.put o.dst undef) w := by
  rcases oneOp_cases h with ⟨hw, hout, hok⟩ | ⟨hw, hd, rfl, -⟩
  · rw [want_ok hr hw, if_pos rfl]
    refine .inl ?_
    have hnd : out.touch.Nodup := by
      unfold okOut at hok
      simp only [Bool.and_eq_true] at hok
      exact ndB_nodup hok.2.2.2
    have hs := sOp_ok hcal hout (rel_ev hr o) hk hr.sc _ w ((focus hnd hr.nd).1 hr.mem)
    exact res_upon hs fun u w' ha => by
      obtain ⟨ε', h'⟩ := after_rel hr hok ha
      exact hK _ _ _ h'
  · rw [want_ok hr hw, if_neg (by decide)]
    exact hK _ _ _ (skip_rel hr hd)
theorem runOps_seq {r : Nat} {all : List Oper} {Q : Exit → Act → World → Prop} (hcal : CalleeOK P cal) : ∀ {l : List Oper} {i : Nat} {σ : St} {hs : List (Hint P)} {q : Ran P} {ε : Env} {a : Act} {w : World}, runOps P cal r nt all l i σ.next σ.slots σ.heap hs = some q → ChkOK (chks q.outs) → Rel nt lo eb R σ ε a w →
    (∀ ε' a' w', Rel nt lo eb R ⟨q.slots, q.heap, σ.next + l.length⟩ ε' a' w' → Q .normal a' w') → wpList P all.toArray Q l a w
  | [], i, σ, hs, q, ε, a, w, h, hk, hr, hQ => by
    cases h
    exact hQ ε a w hr
  | o :: l, i, σ, hs, q, ε, a, w, h, hk, hr, hQ => by
    unfold runOps at h
    split at h <;> try (cases h; done)
    rename_i out hs' hone
    split at h <;> try (cases h; done)
    rename_i q' hq
    cases h
    have hk' : ChkOK (out.chk ++ chks q'.outs) := hk
    exact oneOp_ok hcal hone hk'.left hr fun ε' a' w' hr' => runOps_seq hcal (σ := ⟨putD σ.slots o.dst out.v, hput σ.heap out.upd, σ.next + 1⟩) hq hk'.right hr' fun ε'' a'' w'' h'' => hQ ε'' a'' w'' (by
      have e : σ.next + 1 + l.length = σ.next + (o :: l).length := by simp; omega
      rw [← e]; exact h'')
end
end Go.Sx
end
