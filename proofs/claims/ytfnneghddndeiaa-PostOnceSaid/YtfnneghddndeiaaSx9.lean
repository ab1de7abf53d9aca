/- SX: control; contracts by running; loops by invariants. -/
import Derived.Test.YtfnneghddndeiaaSx8
namespace Go.Sx
set_option linter.unusedVariables false
set_option linter.unusedSimpArgs false
open Go.RowKit Go.Tk Go.Lib Go.Shelf Go.Vc
inductive It where
  | code (c : Code)
  | blk (id : Nat)
  | lp (J : Act → World → Prop)
inductive Ex where
  | nrm
  | ext (id : Nat)
  | ret
def Ex.up : Ex → Exit
  | .nrm => .normal
  | .ext id => .exit id
  | .ret => .ret
def wpK (P : Program) (Q : Exit → Act → World → Prop) : List It → Exit → Act → World → Prop
  | [], e, a, w => Q e a w
  | .code c :: K, e, a, w => match e with
    | .normal => c.wp P (wpK P Q K) a w
    | e => wpK P Q K e a w
  | .blk id :: K, e, a, w => match e with
    | .exit id' => if id' = id then wpK P Q K .normal a w else wpK P Q K (.exit id') a w
    | e => wpK P Q K e a w
  | .lp J :: K, e, a, w => match e with
    | .normal => J a w
    | e => wpK P Q K e a w
def Fine (Q : Exit → Act → World → Prop) : Prop := ∀ e a w, Q e a w → e = .normal ∨ e = .ret ∨ ∃ id, e = .exit id
theorem fine_code {P : Program} {Q : Exit → Act → World → Prop} (h : Fine Q) : ∀ K, Fine (wpK P Q K)
  | [] => h
  | .code c :: K => fun e a w hq => by
    cases e with
    | normal => exact .inl rfl
    | _ => exact fine_code h K _ _ _ hq
  | .blk id :: K => fun e a w hq => by
    cases e with
    | exit id' => exact .inr (.inr ⟨_, rfl⟩)
    | _ => exact fine_code h K _ _ _ hq
  | .lp J :: K => fun e a w hq => by
    cases e with
    | normal => exact .inl rfl
    | _ => exact fine_code h K _ _ _ hq
theorem exitTo_len {id : Nat} : ∀ {k k' : List Item}, exitTo id k = some k' → k'.length ≤ k.length
  | [], k', h => by simp [exitTo] at h
  | x :: k, k', h => by
    have key : exitTo id k = some k' → k'.length ≤ (x :: k).length := fun h => by have := exitTo_len h; simp; omega
    cases x <;> simp only [exitTo] at h
    case inBlock id' =>
      split at h
      · cases h; simp
      · exact key h
    all_goals exact key h
theorem steps_other {P : Program} {m1 m2 m3 t : Machine} (h1 : step P m1 = .next m3) (h2 : step P m2 = .next m3) (h : Steps P m1 t) (hne : t ≠ m1) : Steps P m2 t := by
  obtain ⟨n, hn⟩ := h
  cases n with
  | zero => simp [runN] at hn; exact absurd hn.symm hne
  | succ n =>
    simp only [runN, h1] at hn
    exact ⟨n + 1, by simp only [runN, h2]; exact hn⟩
theorem wp_unroll {P : Program} {Q : Exit → Act → World → Prop} {b : Code} {a : Act} {w : World} (hF : Fine Q) (h : b.wp P (Exit.then ((Code.loop b).wp P Q) Q) a w) : (Code.loop b).wp P Q a w := by
  intro fr k cs
  obtain ⟨e, a1, w1, hq, harr⟩ := h fr (.inLoop b :: k) cs
  cases e with
  | normal =>
    obtain ⟨e2, a2, w2, hq2, harr2⟩ := (hq : (Code.loop b).wp P Q a1 w1) fr k cs
    refine ⟨e2, a2, w2, hq2, .of_steps (Steps.head step_loop harr) ?_⟩
    have s1 : step P (lone (fr.at a1 (.code (.loop b) :: k)) cs w1) = .next (lone (fr.at a1 (.code b :: .inLoop b :: k)) cs w1) := step_loop
    have s2 : step P (lone (fr.at a1 (.inLoop b :: k)) cs w1) = .next (lone (fr.at a1 (.code b :: .inLoop b :: k)) cs w1) := step_inLoop
    have todo : ∀ {f g : Frame} {w w' : World}, lone f cs w = lone g cs w' → f = g := fun h => by
      have := congrArg (fun m : Machine => m.gs) h
      simp only [lone] at this
      have := congrArg (fun g : Array Goroutine => g[0]?) this
      simp at this
      exact this
    rcases hF e2 a2 w2 hq2 with rfl | rfl | ⟨id, rfl⟩
    · refine steps_other s1 s2 harr2 fun h => ?_
      have := congrArg (fun f : Frame => f.todo.length) (todo h)
      simp [Frame.at] at this
    · obtain ⟨td, hs⟩ := harr2
      refine ⟨td, steps_other s1 s2 hs fun h => ?_⟩
      have := congrArg (fun f : Frame => f.mode) (todo h)
      simp [Frame.at] at this
    · intro k' hk
      refine steps_other s1 s2 (harr2 k' hk) fun h => ?_
      have := congrArg (fun f : Frame => f.todo.length) (todo h)
      have hl := exitTo_len hk
      simp [Frame.at] at this
      omega
  | exit id => exact ⟨_, a1, w1, hq, .of_steps (.one step_loop) (.pass (x := .inLoop b) rfl (fun _ _ => .inl (by simp)) harr)⟩
  | goto l => exact ⟨_, a1, w1, hq, .of_steps (.one step_loop) (.pass (x := .inLoop b) rfl (fun _ _ => .inl (by simp)) harr)⟩
  | ret => exact ⟨_, a1, w1, hq, .of_steps (.one step_loop) (.pass (x := .inLoop b) rfl (fun _ _ => .inl (by simp)) harr)⟩
  | panic ch => exact ⟨_, a1, w1, hq, .of_steps (.one step_loop) (.pass (x := .inLoop b) rfl (fun _ _ => .inl (by simp)) harr)⟩
  | outgrown => exact ⟨_, a1, w1, hq, .of_steps (.one step_loop) (.pass (x := .inLoop b) rfl (fun _ _ => .inl (by simp)) harr)⟩
structure Cfg (P : Program) where
  e : Ex
  K : List It
  σ : St
  hs : List (Hint P)
section
variable {P : Program} {cal : Callee P} {nt lo : Nat} {eb : Env} {R : List Chunk} {Q : Exit → Act → World → Prop}
def runRegion (P : Program) (cal : Callee P) (nt id : Nat) (ops : List Oper) (draw : Bool) (σ : St) (hs : List (Hint P)) : Option (Ran P) :=
  match runOps P cal id nt ops ops 0 σ.next σ.slots σ.heap hs with
  | some q => bif draw then (bif drawOK P nt σ.next ops q.outs then some q else none) else some q
  | none => none
def isStop (id : Nat) : Hint P → Bool
  | .stop r => Nat.beq r id
  | _ => false
def stopAt (hs : List (Hint P)) (id : Nat) : Bool := hs.any (isStop id)
def stepC (P : Program) (cal : Callee P) (nt : Nat) (un : Bool) (c : Cfg P) : Option (Cfg P × List (CV × CV)) :=
  match c.K with
  | [] => none
  | .code cd :: K => match c.e with
    | .nrm => match cd with
      | .skip => some (⟨.nrm, K, c.σ, c.hs⟩, [])
      | .seq a b => some (⟨.nrm, .code a :: .code b :: K, c.σ, c.hs⟩, [])
      | .cond x a b => match slotsEv c.σ.slots x with
        | some (.val (.bool true)) => some (⟨.nrm, .code a :: K, c.σ, c.hs⟩, [])
        | some (.val (.bool false)) => some (⟨.nrm, .code b :: K, c.σ, c.hs⟩, [])
        | _ => none
      | .block id b => some (⟨.nrm, .code b :: .blk id :: K, c.σ, c.hs⟩, [])
      | .loop b => bif un then some (⟨.nrm, .code b :: .code (.loop b) :: K, c.σ, c.hs⟩, []) else none
      | .exit id => some (⟨.ext id, K, c.σ, c.hs⟩, [])
      | .ret => some (⟨.ret, K, c.σ, c.hs⟩, [])
      | .region id ops draw => bif stopAt c.hs id then none else (match runRegion P cal nt id ops.toList draw c.σ c.hs with
        | some q => some (⟨.nrm, K, ⟨q.slots, q.heap, c.σ.next + ops.toList.length⟩, q.hs⟩, chks q.outs)
        | none => none)
      | _ => none
    | e => some (⟨e, K, c.σ, c.hs⟩, [])
  | .blk id :: K => match c.e with
    | .ext id' => bif Nat.beq id' id then some (⟨.nrm, K, c.σ, c.hs⟩, []) else some (⟨.ext id', K, c.σ, c.hs⟩, [])
    | e => some (⟨e, K, c.σ, c.hs⟩, [])
  | .lp _ :: K => match c.e with
    | .nrm => none
    | e => some (⟨e, K, c.σ, c.hs⟩, [])
def Jd (P : Program) (nt lo : Nat) (eb : Env) (R : List Chunk) (Q : Exit → Act → World → Prop) (e : Ex) (K : List It) (σ : St) : Prop := ∀ ε a w, Rel nt lo eb R σ ε a w → wpK P Q K e.up a w
theorem region_ok {id : Nat} {ops : Array Oper} {draw : Bool} {σ : St} {hs : List (Hint P)} {q : Ran P} {Q' : Exit → Act → World → Prop} {ε : Env} {a : Act} {w : World} (hcal : CalleeOK P cal) (h : runRegion P cal nt id ops.toList draw σ hs = some q) (hk : ChkOK (chks q.outs)) (hr : Rel nt lo eb R σ ε a w)
    (hQ : ∀ ε' a' w', Rel nt lo eb R ⟨q.slots, q.heap, σ.next + ops.toList.length⟩ ε' a' w' → Q' .normal a' w') : (Code.region id ops draw).wp P Q' a w := by
  unfold runRegion at h
  split at h <;> try (cases h; done)
  rename_i q' hq
  have he : ops = ops.toList.toArray := by simp
  cases draw with
  | false =>
    cases h
    refine wp_region_list ?_
    have := runOps_seq (Q := Q') hcal hq hk hr hQ
    rwa [← he] at this
  | true =>
    simp only [cond_true] at h
    cases hd : drawOK P nt σ.next ops.toList q'.outs with
    | false => rw [hd] at h; cases h
    | true =>
      rw [hd] at h; cases h
      have := runOps_draw (Q := Q') (id := id) hcal hq hk hd hr hQ
      rwa [← he] at this
theorem stepC_ok {un : Bool} {c c' : Cfg P} {ck : List (CV × CV)} (hcal : CalleeOK P cal) (hF : Fine Q) (h : stepC P cal nt un c = some (c', ck)) (hk : ChkOK ck) (hJ : Jd P nt lo eb R Q c'.e c'.K c'.σ) : Jd P nt lo eb R Q c.e c.K c.σ := by
  intro ε a w hr
  unfold stepC at h
  split at h <;> try (cases h; done)
  · rename_i cd K hK
    rw [hK]
    split at h
    · rename_i he
      rw [he]
      show cd.wp P (wpK P Q K) a w
      split at h <;> try (cases h; done)
      · cases h; exact wp_skip (hJ ε a w hr)
      · rename_i x y
        cases h
        refine wp_seq ?_
        refine wp_mono (hJ ε a w hr : x.wp P (wpK P Q (.code y :: K)) a w) fun e a' w' hq => ?_
        cases e <;> exact hq
      · rename_i x y z
        split at h <;> try (cases h; done)
        · rename_i hx
          cases h
          have hv := (rel_ev hr ⟨none, .move x, 0, "", #[], none⟩ x (by simp [Op.operands]) _ hx).1
          exact wp_cond_true (by rw [hv]; simp [SV.den]) (hJ ε a w hr)
        · rename_i hx
          cases h
          have hv := (rel_ev hr ⟨none, .move x, 0, "", #[], none⟩ x (by simp [Op.operands]) _ hx).1
          exact wp_cond_false (by rw [hv]; simp [SV.den]) (hJ ε a w hr)
      · rename_i id b
        cases h
        refine wp_block ?_
        refine wp_mono (hJ ε a w hr : b.wp P (wpK P Q (.blk id :: K)) a w) fun e a' w' hq => ?_
        cases e <;> exact hq
      · rename_i b
        cases un with
        | false => cases h
        | true =>
          cases h
          refine wp_unroll (fine_code hF K) ?_
          refine wp_mono (hJ ε a w hr : b.wp P (wpK P Q (.code (.loop b) :: K)) a w) fun e a' w' hq => ?_
          cases e <;> exact hq
      · cases h; exact wp_exit (hJ ε a w hr)
      · cases h; exact wp_ret (hJ ε a w hr)
      · rename_i id ops draw
        cases hst : stopAt c.hs id with
        | true => rw [hst] at h; cases h
        | false =>
          rw [hst] at h
          simp only [cond_false] at h
          split at h <;> try (cases h; done)
          rename_i q hq
          cases h
          exact region_ok hcal hq hk hr fun ε' a' w' hr' => hJ ε' a' w' hr'
    · rename_i he
      cases h
      have := hJ ε a w hr
      cases hce : c.e with
      | nrm => exact absurd hce he
      | ext id => rw [hce] at this; exact this
      | ret => rw [hce] at this; exact this
  · rename_i id K hK
    rw [hK]
    split at h
    · rename_i id' he
      rw [he]
      cases hb : Nat.beq id' id with
      | true =>
        rw [hb] at h; cases h
        show if id' = id then _ else _
        rw [if_pos (Nat.eq_of_beq_eq_true hb)]
        exact hJ ε a w hr
      | false =>
        rw [hb] at h; cases h
        show if id' = id then _ else _
        rw [if_neg (fun e => by rw [e, Nat.beq_refl] at hb; cases hb)]
        exact hJ ε a w hr
    · rename_i he
      cases h
      have := hJ ε a w hr
      cases hce : c.e with
      | ext id' => exact absurd hce (he id')
      | nrm => rw [hce] at this; exact this
      | ret => rw [hce] at this; exact this
  · rename_i J K hK
    rw [hK]
    split at h <;> try (cases h; done)
    rename_i he
    cases h
    have := hJ ε a w hr
    cases hce : c.e with
    | nrm => exact absurd hce he
    | ext id => rw [hce] at this; exact this
    | ret => rw [hce] at this; exact this
def exec (P : Program) (cal : Callee P) (nt : Nat) (un : Bool) : Nat → Cfg P → Cfg P × List (CV × CV)
  | 0, c => (c, [])
  | n + 1, c => match stepC P cal nt un c with
    | some (c', ck) => match exec P cal nt un n c' with
      | (c'', ck') => (c'', ck ++ ck')
    | none => (c, [])
theorem exec_ok {un : Bool} (hcal : CalleeOK P cal) (hF : Fine Q) : ∀ {n : Nat} {c : Cfg P}, ChkOK (exec P cal nt un n c).2 → Jd P nt lo eb R Q (exec P cal nt un n c).1.e (exec P cal nt un n c).1.K (exec P cal nt un n c).1.σ → Jd P nt lo eb R Q c.e c.K c.σ
  | 0, c, _, hJ => hJ
  | n + 1, c, hk, hJ => by
    unfold exec at hk hJ
    cases hs : stepC P cal nt un c with
    | none => rw [hs] at hJ; exact hJ
    | some x =>
      obtain ⟨c', ck⟩ := x
      rw [hs] at hk hJ
      simp only at hk hJ
      exact stepC_ok hcal hF hs hk.left (exec_ok hcal hF hk.right hJ)
def retOne (P : Program) (σ : St) : ResultVar → Option SV
  | .tmp t => lkS σ.slots t
  | .cell t ty => match lkS σ.slots t with
    | some (.ptr s k off) => match hget σ.heap (s, k) with
      | .box _ cs => partAt P ty cs off
      | _ => none
    | _ => none
def retAll (P : Program) (σ : St) : List ResultVar → Option (List SV)
  | [] => some []
  | x :: l => match retOne P σ x with
    | some v => match retAll P σ l with
      | some vs => some (v :: vs)
      | none => none
    | none => none
def retV (P : Program) (σ : St) (rs : List ResultVar) : Option SV := match retAll P σ rs with
  | some [v] => some v
  | some vs => some (.tup vs)
  | none => none
theorem partAt_loadVar {ε : Env} {w : World} {t j B O : Nat} {cs : List SV} {v : SV} (h : partAt P t cs j = some v) (hc : ∀ (i : Nat) u, cs[i]? = some u → w.cell? ⟨B, O + i, none⟩ = some (u.den ε)) : (loadVar t ⟨B, O + j, none⟩).run P w = .ok (v.den ε) w := by
  have := partAt_load (P := P) (o := ⟨none, .load t (.const (.pointer (some ⟨B, O + j, none⟩))), 0, "", #[], none⟩) (ρ := fun x => match x with | .const c => c | _ => undef) (ε := ε) h hc rfl rfl
  unfold execOp at this
  simp only [Instr.loadAt, Instr.sureAddr] at this
  generalize hr : (loadVar t ⟨B, O + j, none⟩).run P w = r at this ⊢
  simp [hr, Result.andThen] at this
  cases r with
  | ok x w' => simp at this; rw [this.1, this.2]
  | halt x w' => simp at this
theorem retOne_ok {σ : St} {ε : Env} {a : Act} {w : World} (hr : Rel nt lo eb R σ ε a w) {x : ResultVar} {v : SV} (h : retOne P σ x = some v) : (match x with
    | .tmp t => (pure (a.tmps.getD t undef) : Sem Value)
    | .cell y t => do loadVar t (← asAddr (a.tmps.getD y undef))).run P w = .ok (v.den ε) w := by
  cases x with
  | tmp t =>
    have := (hr.slots t v h).1
    simp [this]
  | cell y t =>
    unfold retOne at h
    simp only at h
    split at h <;> try (cases h; done)
    rename_i s k off hy
    split at h <;> try (cases h; done)
    rename_i q cs hg
    have hs := (hr.slots y _ hy).1
    have hM := (focus1 (n := (s, k)) hr.nd).1 hr.mem
    rw [hg] at hM
    have hM : Mem (boxE q (ε s k).1 (SV.dens ε cs).toArray :: _) w := hM
    have := partAt_loadVar (P := P) (w := w) (ε := ε) (B := (ε s k).1) (O := 0) h fun i u hi => by
      rw [Nat.zero_add]
      refine (hM.box 0 rfl).cell i ?_
      rw [List.getElem?_toArray, dens_get, hi]; rfl
    rw [Nat.zero_add] at this
    simp [hs, SV.den, asAddr, this]
def resF (tmps : Array Value) : ResultVar → Sem Value
  | .tmp t => pure (tmps.getD t undef)
  | .cell y t => do loadVar t (← asAddr (tmps.getD y undef))
theorem results_F (fn : Func) (tmps : Array Value) : results fn tmps = (do let vs ← fn.results.mapM (resF tmps); pure (if h : vs.size = 1 then vs[0] else .tuple vs)) := by
  unfold results
  have : (fun x : ResultVar => (match x with
    | .tmp t => (pure (tmps.getD t undef) : Sem Value)
    | .cell y t => do loadVar t (← asAddr (tmps.getD y undef)))) = resF tmps := by
    funext x; cases x <;> rfl
  rw [← this]
  rfl
theorem retAll_ok {σ : St} {ε : Env} {a : Act} {w : World} (hr : Rel nt lo eb R σ ε a w) : ∀ {rs : List ResultVar} {vs : List SV}, retAll P σ rs = some vs → (rs.mapM (resF a.tmps)).run P w = .ok (SV.dens ε vs) w
  | [], vs, h => by cases h; simp [SV.dens]
  | x :: l, vs, h => by
    unfold retAll at h
    split at h <;> try (cases h; done)
    rename_i v hv
    split at h <;> try (cases h; done)
    rename_i us hus
    cases h
    have h1 := retOne_ok hr hv
    have h2 := retAll_ok hr hus
    have h3 : (resF a.tmps x).run P w = .ok (v.den ε) w := by cases x <;> exact h1
    rw [List.mapM_cons]
    simp only [Sem.run_bind, h3, h2, Result.andThen, SV.dens]
    simp
theorem retV_ok {σ : St} {ε : Env} {a : Act} {w : World} (hr : Rel nt lo eb R σ ε a w) {fn : Func} {v : SV} (h : retV P σ fn.results.toList = some v) : (results fn a.tmps).run P w = .ok (v.den ε) w := by
  unfold retV at h
  rw [results_F, Array.mapM_eq_mapM_toList]
  split at h <;> try (cases h; done)
  · rename_i u hu
    cases h
    have := retAll_ok hr hu
    simp [Sem.run_bind, this, SV.dens]
  · rename_i vs hne hvs
    cases h
    have := retAll_ok hr hvs
    have hl : (SV.dens ε vs).length ≠ 1 := by
      rw [dens_length]
      intro e
      match vs, e with
      | [v], _ => exact hne v rfl
    simp [Sem.run_bind, this, hl, SV.den]
end
end Go.Sx
