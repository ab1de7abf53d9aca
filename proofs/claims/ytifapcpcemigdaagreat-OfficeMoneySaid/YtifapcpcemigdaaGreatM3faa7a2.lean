/- SxI, SxJ, SxK. -/
import Derived.Test.YtifapcpcemigdaaGreatSxE
import Derived.OrdersIn
import Derived.OwnWalkIn
import Derived.RangeFuncFrom
import Derived.RangeFuncWrites
import Derived.RangeFuncLeaves
set_option maxRecDepth 100000
set_option linter.unusedVariables false
set_option linter.unusedSimpArgs false
set_option linter.unusedSectionVars false
section
namespace Go.Sx
open Go.RowKit Go.Tk Go.Lib Go.Shelf Go.Vc
def strip (a : Act) : Act := { a with defers := [] }
theorem strip_put (a : Act) (d : Option Tmp) (u : Value) : strip (a.put d u) = (strip a).put d u := by cases d <;> rfl
theorem put_defers (a : Act) (d : Option Tmp) (u : Value) : (a.put d u).defers = a.defers := by cases d <;> rfl
theorem strip_eval (a : Act) : (strip a).eval = a.eval := funext fun x => by cases x <;> rfl
def wideR (ro : Option Nat) : Fence := { Fence.wide with round := ro }
section
variable {P : Program} {ro : Option Nat} {n : Nat}
theorem callsIn_R {f : FuncId} {args : Array Value} {w : World} {R : Ending → World → Prop} (h : Calls P f args w R) : CallsIn (wideR ro) n P f args w R := (callsIn_wide (n := n)).2 h
theorem rowsIn_R {row : String} {args : Array Value} {w : World} {R : Value → World → Prop} (h : Rows P row args w R) : RowsIn (wideR ro) n P row args w R := fun c cs _ =>
  let ⟨v, w', r, s⟩ := h c cs
  ⟨v, w', r, stepsIn_wide.2 s⟩
theorem res_uponIn {R : Value → World → Prop} {r : Result Next} {o : Oper} {a : Act} {K : Act → World → Prop} {Q : Exit → Act → World → Prop} (h : Res P R r) (hk : ∀ u w', R u w' → K (a.put o.dst u) w') : o.uponIn (wideR ro) n P a K Q r := by
  cases r with
  | halt x w' => simp only [Res] at h
  | ok x w' =>
    cases x <;> simp only [Res] at h
    case value u => exact hk _ _ h
    case skip => exact hk _ _ h
    case enter f args =>
      refine ⟨fun h => by simp [wideR, Fence.wide] at h, callsIn_R (Calls.mono h fun e w'' he => ?_)⟩
      obtain ⟨u, rfl, h2⟩ := he
      exact hk _ _ h2
    case row row args => exact ⟨fun h => by simp [wideR, Fence.wide] at h, rowsIn_R (Rows.mono h fun u w'' h2 => hk _ _ h2)⟩
theorem res_nodefer {R : Value → World → Prop} {ρ : Operand → Value} {o : Oper} {w : World} (h : Res P R ((execOp ρ o).run P w)) : ∀ c, o.op ≠ .defer c := fun c hc => by
  unfold execOp at h
  rw [hc] at h
  simp only [Sem.run_bind] at h
  generalize (resolve ρ c o.type).run P w = r at h
  cases r with
  | ok x w' => simp [Result.andThen, Res] at h
  | halt x w' => simp [Result.andThen, Res] at h
theorem op_In {R : Value → World → Prop} {o : Oper} {a : Act} {w : World} {K : Act → World → Prop} {Q : Exit → Act → World → Prop} (h : Res P R ((execOp a.eval o).run P w)) (hk : ∀ u w', R u w' → K (a.put o.dst u) w') : o.wpIn (wideR ro) n P a w K Q := by
  refine ⟨fun f _ => trivial, ?_⟩
  rw [Oper.semAt_plain _ _ _ (res_nodefer h)]
  exact res_uponIn h hk
theorem anyRes_In {md : Region.Mode} {ops : Array Oper} {Q Q' : Exit → Act → World → Prop} {ds : List Deferred} (hQ : ∀ a w, a.defers = ds → Q .normal (strip a) w → Q' .normal a w) : ∀ {fuel : Nat} {listed : Array Bool} {a : Act} {w : World}, a.defers = ds → anyRes P md ops Q fuel listed (strip a) w → wpAnyIn (wideR ro) n P md ops Q' fuel listed a w
  | 0, _, _, _, hd, h => ⟨h.1, hQ _ _ hd h.2⟩
  | fuel + 1, listed, a, w, hd, h => by
    refine ⟨fun hr => hQ _ _ hd (h.1 hr), fun i hi => ?_⟩
    have h2 := h.2 i hi
    unfold opRes at h2
    unfold wpOpIn
    split
    · simp only [*] at h2; exact anyRes_In hQ hd h2
    · rename_i o ho
      simp only [ho] at h2
      have ht : (strip a).tmps = a.tmps := rfl
      rw [ht] at h2
      split
      · rename_i hw
        simp only [hw, if_true] at h2
        rw [strip_eval] at h2
        exact op_In h2 fun u w' h3 => anyRes_In hQ ((put_defers _ _ _).trans hd) (by rw [strip_put]; exact h3)
      · rename_i hw
        simp only [hw] at h2
        exact ⟨fun f _ => trivial, anyRes_In hQ ((put_defers _ _ _).trans hd) (by rw [strip_put]; exact h2)⟩
variable {cal : Callee P} {nt lo : Nat} {eb : Env} {R : List Chunk} {Q : Exit → Act → World → Prop} {ds : List Deferred}
theorem oneOp_R {r i : Nat} {all : List Oper} {o : Oper} {σ : St} {ε : Env} {a : Act} {w : World} {hs hs' : List (Hint P)} {out : Out} {K : Act → World → Prop} (hcal : CalleeOK P cal) (h : oneOp P cal r nt all i σ.next o σ.slots σ.heap hs = some (out, hs')) (hk : ChkOK out.chk) (hd : a.defers = ds) (hr : Rel nt lo eb R σ ε (strip a) w)
    (hK : ∀ ε' a' w', a'.defers = ds → Rel nt lo eb R ⟨putD σ.slots o.dst out.v, hput σ.heap out.upd, σ.next + 1⟩ ε' (strip a') w' → K a' w') : if Region.wanted o (yielded all.toArray a.tmps) then o.wpIn (wideR ro) n P a w K Q else (∀ f, o.about P w a.eval = some f → (wideR ro).fn f) ∧ K (a.put o.dst undef) w := by
  have ht : (strip a).tmps = a.tmps := rfl
  rcases oneOp_cases h with ⟨hw, hout, hok⟩ | ⟨hw, hdd, rfl, -⟩
  · have hwo := want_ok hr hw
    rw [ht] at hwo
    rw [hwo, if_pos rfl]
    have hnd : out.touch.Nodup := by
      unfold okOut at hok
      simp only [Bool.and_eq_true] at hok
      exact ndB_nodup hok.2.2.2
    have hs := sOp_ok hcal hout (rel_ev hr o) hk hr.sc _ w ((focus hnd hr.nd).1 hr.mem)
    rw [strip_eval] at hs
    exact op_In hs fun u w' ha => by
      obtain ⟨ε', h'⟩ := after_rel hr hok ha
      exact hK _ _ _ ((put_defers _ _ _).trans hd) (by rw [strip_put]; exact h')
  · have hwo := want_ok hr hw
    rw [ht] at hwo
    rw [hwo, if_neg (by decide)]
    exact ⟨fun f _ => trivial, hK ε _ _ ((put_defers _ _ _).trans hd) (by rw [strip_put]; exact skip_rel hr hdd)⟩
theorem runOps_seqR {r : Nat} {all : List Oper} {Q : Exit → Act → World → Prop} (hcal : CalleeOK P cal) : ∀ {l : List Oper} {i : Nat} {σ : St} {hs : List (Hint P)} {q : Ran P} {ε : Env} {a : Act} {w : World}, runOps P cal r nt all l i σ.next σ.slots σ.heap hs = some q → ChkOK (chks q.outs) → a.defers = ds → Rel nt lo eb R σ ε (strip a) w →
    (∀ ε' a' w', a'.defers = ds → Rel nt lo eb R ⟨q.slots, q.heap, σ.next + l.length⟩ ε' (strip a') w' → Q .normal a' w') → wpListIn (wideR ro) n P all.toArray Q l a w
  | [], i, σ, hs, q, ε, a, w, h, hk, hd, hr, hQ => by
    cases h
    exact hQ ε a w hd hr
  | o :: l, i, σ, hs, q, ε, a, w, h, hk, hd, hr, hQ => by
    unfold runOps at h
    split at h <;> try (cases h; done)
    rename_i out hs' hone
    split at h <;> try (cases h; done)
    rename_i q' hq
    cases h
    have hk' : ChkOK (out.chk ++ chks q'.outs) := hk
    exact oneOp_R hcal hone hk'.left hd hr fun ε' a' w' hd' hr' => runOps_seqR hcal (σ := ⟨putD σ.slots o.dst out.v, hput σ.heap out.upd, σ.next + 1⟩) hq hk'.right hd' hr' fun ε'' a'' w'' hd'' h'' => hQ ε'' a'' w'' hd'' (by
      have e : σ.next + 1 + l.length = σ.next + (o :: l).length := by simp; omega
      rw [← e]; exact h'')
def wpKR (P : Program) (ro : Option Nat) (n : Nat) (Q : Exit → Act → World → Prop) : List It → Exit → Act → World → Prop
  | [], e, a, w => Q e a w
  | .code c :: K, e, a, w => match e with
    | .normal => c.wpIn (wideR ro) n P (wpKR P ro n Q K) a w
    | e => wpKR P ro n Q K e a w
  | .blk id :: K, e, a, w => match e with
    | .exit id' => if id' = id then wpKR P ro n Q K .normal a w else wpKR P ro n Q K (.exit id') a w
    | e => wpKR P ro n Q K e a w
  | .lp J :: K, e, a, w => match e with
    | .normal => J a w
    | e => wpKR P ro n Q K e a w
def JdR (P : Program) (ro : Option Nat) (n : Nat) (ds : List Deferred) (nt lo : Nat) (eb : Env) (R : List Chunk) (Q : Exit → Act → World → Prop) (e : Ex) (K : List It) (σ : St) : Prop := ∀ ε a w, a.defers = ds → Rel nt lo eb R σ ε (strip a) w → wpKR P ro n Q K e.up a w
theorem region_okR {id : Nat} {ops : Array Oper} {draw : Bool} {σ : St} {hs : List (Hint P)} {q : Ran P} {Q' : Exit → Act → World → Prop} {ε : Env} {a : Act} {w : World} (hcal : CalleeOK P cal) (h : runRegion P cal nt id ops.toList draw σ hs = some q) (hk : ChkOK (chks q.outs)) (hd : a.defers = ds) (hr : Rel nt lo eb R σ ε (strip a) w)
    (hQ : ∀ ε' a' w', a'.defers = ds → Rel nt lo eb R ⟨q.slots, q.heap, σ.next + ops.toList.length⟩ ε' (strip a') w' → Q' .normal a' w') : (Code.region id ops draw).wpIn (wideR ro) n P Q' a w := by
  unfold runRegion at h
  split at h <;> try (cases h; done)
  rename_i q' hq
  have he : ops = ops.toList.toArray := by simp
  cases draw with
  | false =>
    cases h
    refine wpIn_region_list ?_
    have := runOps_seqR (ro := ro) (n := n) (Q := Q') hcal hq hk hd hr hQ
    rwa [← he] at this
  | true =>
    simp only [cond_true] at h
    cases hdr : drawOK P nt σ.next ops.toList q'.outs with
    | false => rw [hdr] at h; cases h
    | true =>
      rw [hdr] at h; cases h
      have d1 := hdr
      unfold drawOK at d1
      simp only [Bool.and_eq_true] at d1
      have hA := runOps_drawA (Q := fun e a' w' => ∃ ε', Rel nt lo eb R ⟨q.slots, q.heap, σ.next + ops.toList.length⟩ ε' a' w') hcal hq hk hdr hr fun ε' a' w' h' => ⟨ε', h'⟩
      rw [← he] at hA
      exact wpIn_region_any d1.1 (anyRes_In (fun a' w' hd' ⟨ε', h'⟩ => hQ ε' a' w' hd' h') hd hA)
theorem stepC_okR {c c' : Cfg P} {ck : List (CV × CV)} (hcal : CalleeOK P cal) (h : stepC P cal nt false c = some (c', ck)) (hk : ChkOK ck) (hJ : JdR P ro n ds nt lo eb R Q c'.e c'.K c'.σ) : JdR P ro n ds nt lo eb R Q c.e c.K c.σ := by
  intro ε a w hd hr
  unfold stepC at h
  split at h <;> try (cases h; done)
  · rename_i cd K hK
    rw [hK]
    split at h
    · rename_i he
      rw [he]
      show cd.wpIn (wideR ro) n P (wpKR P ro n Q K) a w
      split at h <;> try (cases h; done)
      · cases h; exact wpIn_skip (hJ ε a w hd hr)
      · rename_i x y
        cases h
        refine wpIn_seq ?_
        refine wpIn_mono (hJ ε a w hd hr : x.wpIn (wideR ro) n P (wpKR P ro n Q (.code y :: K)) a w) fun e a' w' hq => ?_
        cases e <;> exact hq
      · rename_i x y z
        split at h <;> try (cases h; done)
        · rename_i hx
          cases h
          have hv := (rel_ev hr ⟨none, .move x, 0, "", #[], none⟩ x (by simp [Op.operands]) _ hx).1
          rw [strip_eval] at hv
          exact wpIn_cond_true (by rw [hv]; simp [SV.den]) (hJ ε a w hd hr)
        · rename_i hx
          cases h
          have hv := (rel_ev hr ⟨none, .move x, 0, "", #[], none⟩ x (by simp [Op.operands]) _ hx).1
          rw [strip_eval] at hv
          exact wpIn_cond_false (by rw [hv]; simp [SV.den]) (hJ ε a w hd hr)
      · rename_i id b
        cases h
        refine wpIn_block ?_
        refine wpIn_mono (hJ ε a w hd hr : b.wpIn (wideR ro) n P (wpKR P ro n Q (.blk id :: K)) a w) fun e a' w' hq => ?_
        cases e <;> exact hq
      · cases h; exact wpIn_exit (hJ ε a w hd hr)
      · cases h; exact wpIn_ret (hJ ε a w hd hr)
      · rename_i id ops draw
        cases hst : stopAt c.hs id with
        | true => rw [hst] at h; cases h
        | false =>
          rw [hst] at h
          simp only [cond_false] at h
          split at h <;> try (cases h; done)
          rename_i q hq
          cases h
          exact region_okR hcal hq hk hd hr fun ε' a' w' hd' hr' => hJ ε' a' w' hd' hr'
    · rename_i he
      cases h
      have := hJ ε a w hd hr
      cases hce : c.e with
      | nrm => exact absurd hce he
      | ext id => rw [hce] at this; exact this
      | ret => rw [hce] at this; exact this
  · rename_i id K hK
    rw [hK]
    split at h
    · rename_i id' he
      rw [he]
      cases hb : Nat.beq id' id with
      | true =>
        rw [hb] at h; cases h
        show if id' = id then _ else _
        rw [if_pos (Nat.eq_of_beq_eq_true hb)]
        exact hJ ε a w hd hr
      | false =>
        rw [hb] at h; cases h
        show if id' = id then _ else _
        rw [if_neg (fun e => by rw [e, Nat.beq_refl] at hb; cases hb)]
        exact hJ ε a w hd hr
    · rename_i he
      cases h
      have := hJ ε a w hd hr
      cases hce : c.e with
      | ext id' => exact absurd hce (he id')
      | nrm => rw [hce] at this; exact this
      | ret => rw [hce] at this; exact this
  · rename_i J K hK
    rw [hK]
    split at h <;> try (cases h; done)
    rename_i he
    cases h
    have := hJ ε a w hd hr
    cases hce : c.e with
    | nrm => exact absurd hce he
    | ext id => rw [hce] at this; exact this
    | ret => rw [hce] at this; exact this
theorem exec_okR (hcal : CalleeOK P cal) : ∀ {m : Nat} {c : Cfg P}, ChkOK (exec P cal nt false m c).2 → JdR P ro n ds nt lo eb R Q (exec P cal nt false m c).1.e (exec P cal nt false m c).1.K (exec P cal nt false m c).1.σ → JdR P ro n ds nt lo eb R Q c.e c.K c.σ
  | 0, c, _, hJ => hJ
  | m + 1, c, hk, hJ => by
    unfold exec at hk hJ
    cases hs : stepC P cal nt false c with
    | none => rw [hs] at hJ; exact hJ
    | some x =>
      obtain ⟨c', ck⟩ := x
      rw [hs] at hk hJ
      simp only at hk hJ
      exact stepC_okR hcal hs hk.left (exec_okR hcal hk.right hJ)
end
end Go.Sx
end
section
namespace Go.Sx
open Go.RowKit Go.Tk Go.Lib Go.Shelf Go.Vc
def objC (b : Nat) (o : Obj) : Chunk where
  at_ S w := S b ∧ w.heap[b]? = some o
  stable {S w w'} hk hi h := ⟨h.1, (hk.block b h.1 (hi b h.1)).trans h.2⟩
theorem mem_obj_new {cs : List Chunk} {w : World} (h : Mem cs w) (o : Obj) : Mem (objC w.heap.size o :: cs) (w.alloc o) :=
  h.fresh (below_alloc w o) (fun k => k = w.heap.size) ⟨rfl, World.alloc_heap_new w o⟩ fun k hk => by rw [hk]; exact ⟨Nat.le_refl _, by simp⟩
theorem mem_obj_at {cs : List Chunk} {w : World} {b : Nat} {o : Obj} (i : Nat) (hi : cs[i]? = some (objC b o)) (h : Mem cs w) : w.heap[b]? = some o := h.of i hi fun S hS => hS.2
theorem mem_obj_put {cs : List Chunk} {w : World} {b : Nat} {o : Obj} (o' : Obj) (h : Mem (objC b o :: cs) w) : Mem (objC b o' :: cs) (w.putObj b o') :=
  Mem.step h 0 rfl (c' := objC b o') fun S hS hlt => ⟨⟨rfl, rfl, rfl, by simp, fun k hk hn => World.putObj_heap_other (fun e => hn (by rw [e]; exact hS.1))⟩, S, ⟨hS.1, World.putObj_heap_same (hlt b hS.1)⟩, fun k hk => ⟨.inl hk, by rw [World.putObj_size]; exact hlt k hk⟩⟩
section
variable {P : Program} {n : Nat}
def rfPost (X : List Chunk) (N : List Chunk) (Cs : Code → List Chunk) : Exit → Act → World → Prop
  | .normal, _, W => Mem (X ++ N) W
  | .ret, _, W => Mem (X ++ Cs .ret) W
  | .exit id, _, W => Mem (X ++ Cs (.exit id)) W
  | .goto t, _, W => Mem (X ++ Cs (.goto t)) W
  | .panic _, _, _ => False
  | .outgrown, _, _ => False
def IterOK {α : Type} (P : Program) (gf : Nat) (lb : Array Value) (encs : α → Array Value) (all : List α) (G : World → Prop) (n : Nat) : Prop :=
  ∀ (l : Nat) (J Jx : List α → World → Prop) (W : World), (∀ pre W1, J pre W1 → G W1) →
    (∀ pre x W1, J pre W1 → pre ++ [x] <+: all → YieldAt (wideR none) (n - 1) P l (encs x) W1 fun e W' => (e = .returned (.bool true) ∧ J (pre ++ [x]) W') ∨ (e = .returned (.bool false) ∧ Jx (pre ++ [x]) W')) →
    J [] W → CallsIn (wideR none) n P gf (#[.func (.yield l) #[] #[]] ++ lb) W fun e W' => (∃ v, e = .returned v) ∧ (J all W' ∨ ∃ pre, Jx pre W')
theorem rf_mem {α : Type} {g : Operand} {ps : Array Tmp} {assign body : Code} {Q : Exit → Act → World → Prop} {a : Act} {w : World}
    {gf : Nat} {lb : Array Value} (hg : a.eval g = .func (.func gf) #[] lb) (eg : ∀ args w, (callFunc gf args).run P w = .ok (.enter gf args) w)
    {encs : α → Array Value} {all : List α} {G : World → Prop} (hseq : IterOK P gf lb encs all G (n - 1)) (hps : ∀ x, (encs x).size = ps.size)
    (C : List α → List Chunk) (Cs : Code → List Chunk) (A1 : α → Act → Prop) (hG : ∀ pre X W, Mem (X ++ C pre) W → G W) (h0 : Mem (C []) w)
    (hassign : ∀ (l : Nat) (pre : List α) (x : α) (X : List Chunk) (W : World) (K : Act → World → Prop), pre ++ [x] <+: all → Mem (X ++ C pre) W → (∀ a1 W1, A1 x a1 → Mem (X ++ C pre) W1 → K a1 W1) →
      assign.wpIn (wideR (some l)) (n - 1 - 1) P (Exit.then K (fun _ _ _ => False)) { tmps := (ps.zip (encs x)).foldl (fun t (p, v) => t.setIfInBounds p v) a.tmps, defers := [] } W)
    (hbody : ∀ (l : Nat) (pre : List α) (x : α) (X : List Chunk) (a1 : Act) (W : World), pre ++ [x] <+: all → A1 x a1 → Mem (X ++ C pre) W → body.wpIn (wideR (some l)) (n - 1 - 1) P (rfPost X (C (pre ++ [x])) Cs) a1 W)
    (hdone : ∀ (D : Nat) (W : World), Mem (objC D (.deferred (some [])) :: C all) W → Q .normal { a with defers := { target := .collected D, args := #[] } :: a.defers } W)
    (hstop : ∀ (D : Nat) (c : Code) (W : World), Mem (objC D (.deferred (some [])) :: Cs c) W → c.wpIn (wideR none) n P Q { a with defers := { target := .collected D, args := #[] } :: a.defers } W) :
    (Code.rangeFunc g ps assign body).wpIn (wideR none) n P Q a w := by
  refine wpIn_rangeFunc ?_
  intro fn hfn
  obtain ⟨rec, hrec⟩ : ∃ rec : LoopState → Option Code → Loop, rec = fun st pe => { state := st, pending := pe, fn, tmps := a.tmps, params := ps, assign, body, defers := w.heap.size } := ⟨_, rfl⟩
  obtain ⟨W1, hW1⟩ : ∃ W1, (w.alloc (.deferred (some []))).alloc (.loop (rec .ready none)) = W1 := ⟨_, rfl⟩
  have hM1 : Mem (objC (w.heap.size + 1) (.loop (rec .ready none)) :: objC w.heap.size (.deferred (some [])) :: C []) W1 := by
    have := mem_obj_new (mem_obj_new h0 (.deferred (some []))) (.loop (rec .ready none))
    rw [World.size_alloc] at this
    rw [← hW1]; exact this
  refine ⟨w.heap.size + 1, [{ target := .collected w.heap.size, args := #[] }], W1, { target := .fn (.func gf) lb, args := #[.func (.yield (w.heap.size + 1)) #[] #[]] }, W1, gf,
    #[.func (.yield (w.heap.size + 1)) #[] #[]] ++ lb, W1, ?_, ?_, fun _ _ => trivial, ?_, fun h => by simp [wideR, Fence.wide] at h, ?_⟩
  · rw [← hW1, hrec]; exact run_enterLoop_outer _ _ _ _ _
  · simp only [resolve, hg]
    simp [go_sem]
  · simp [invoke, go_sem, eg]
  · refine (hseq (w.heap.size + 1)
      (fun pre W => Mem (objC (w.heap.size + 1) (.loop (rec .ready none)) :: objC w.heap.size (.deferred (some [])) :: C pre) W)
      (fun pre W => ∃ c, Mem (objC (w.heap.size + 1) (.loop (rec .done (some c))) :: objC w.heap.size (.deferred (some [])) :: Cs c) W)
      W1 (fun pre W1 h => hG pre [_, _] W1 h) ?_ hM1).mono ?_
    · intro pre x W hM hpre
      have hl := mem_obj_at 0 rfl hM
      have hy := run_yield (P := P) (args := encs x) hl (by rw [hrec]; exact hps x)
      rw [hrec] at hy
      refine ⟨fn, _, assign, body, hy, roundIn_of_wpIn hfn (hassign _ pre x [_, _] W _ hpre hM fun a1 W2 ha1 hM2 => ?_)⟩
      have hl2 := mem_obj_at 0 rfl hM2
      refine ⟨_, run_beginRound hl2 (by rw [hrec]), ?_⟩
      have hM3 := mem_obj_put (.loop { rec .ready none with state := .busy }) hM2
      refine wpIn_mono (hbody _ pre x [_, _] a1 _ hpre ha1 hM3) ?_
      have fin : ∀ (jump : Option Code) (N : List Chunk) (W3 : World), Mem (objC (w.heap.size + 1) (.loop { rec .ready none with state := .busy }) :: objC w.heap.size (.deferred (some [])) :: N) W3 →
          (Instr.endRound (w.heap.size + 1) jump).run P W3 = .ok (.bool jump.isNone) (W3.putObj (w.heap.size + 1) (.loop (rec (if jump.isNone then .ready else .done) jump))) ∧
          Mem (objC (w.heap.size + 1) (.loop (rec (if jump.isNone then .ready else .done) jump)) :: objC w.heap.size (.deferred (some [])) :: N) (W3.putObj (w.heap.size + 1) (.loop (rec (if jump.isNone then .ready else .done) jump))) := fun jump N W3 hM4 => by
        have hl3 := mem_obj_at 0 rfl hM4
        have := run_endRound (P := P) jump hl3
        rw [hrec] at this ⊢
        exact ⟨this, mem_obj_put _ hM4⟩
      rintro e a3 W3 hp
      cases e with
      | normal =>
        obtain ⟨hr, hM4⟩ := fin none _ W3 hp
        exact ⟨_, _, hr, .inl ⟨rfl, hM4⟩⟩
      | ret =>
        obtain ⟨hr, hM4⟩ := fin (some .ret) _ W3 hp
        exact ⟨_, _, hr, .inr ⟨rfl, .ret, hM4⟩⟩
      | exit id =>
        obtain ⟨hr, hM4⟩ := fin (some (.exit id)) _ W3 hp
        exact ⟨_, _, hr, .inr ⟨rfl, .exit id, hM4⟩⟩
      | goto t =>
        obtain ⟨hr, hM4⟩ := fin (some (.goto t)) _ W3 hp
        exact ⟨_, _, hr, .inr ⟨rfl, .goto t, hM4⟩⟩
      | panic ch => exact hp.elim
      | outgrown => exact hp.elim
    · rintro e W2 ⟨⟨v, rfl⟩, (hM | ⟨pre, c, hM⟩)⟩
      · have hl := mem_obj_at 0 rfl hM
        refine ⟨none, _, by have := run_endLoop (P := P) hl (by rw [hrec]; simp); rw [hrec] at this; exact this, ?_⟩
        refine hdone _ _ ?_
        exact (mem_obj_put _ hM).tail
      · have hl := mem_obj_at 0 rfl hM
        refine ⟨some c, _, by have := run_endLoop (P := P) hl (by rw [hrec]; simp); rw [hrec] at this; exact this, ?_⟩
        exact hstop _ c _ (mem_obj_put _ hM).tail
end
end Go.Sx
end
section
namespace Go.Sx
open Go.RowKit Go.Tk Go.Lib Go.Shelf Go.Vc
theorem gR_id (t k : Nat) : gR [] t k = (t, k) := by
  unfold gR
  cases hb : Nat.beq t 1 with
  | true => rw [Nat.eq_of_beq_eq_true hb]; rfl
  | false => rfl
theorem gE_id {ε : Env} {t k : Nat} (h : t < 2) : gE ε (gR []) t k = ε t k := by
  rw [gE_n (isNil_ne (by rw [gR_id]; show t ≠ _; omega)), gR_id]
section
variable {P : Program} {nt : Nat} {eb : Env} {R : List Chunk} {cal : Callee P} {ro : Option Nat} {n : Nat} {Q : Exit → Act → World → Prop} {ds : List Deferred}
theorem rel_out {σ : St} {H : Heap} {ε : Env} {a : Act} {w : World} (hk2 : ChkOK (chkOf (gR []) σ.heap H)) (b1 : ndB (namesR (gR []) H) = true) (b4 : hok (ltB 2) H = true) (b5 : nilsOK (gR []) H = true)
    (hr : Rel nt 2 eb R σ ε a w) : Mem (hden eb H ++ R) w := by
  have hM := (focus (ndB_nodup b1) hr.nd).1 hr.mem
  have hM1 : Mem (tden ε σ.heap (namesR (gR []) H) ++ R) w := by
    generalize tden ε σ.heap (namesR (gR []) H) = A at hM ⊢
    generalize hden ε (hdels σ.heap (namesR (gR []) H)) = B at hM
    have p : (A ++ (B ++ R)).Perm (B ++ (A ++ R)) := by
      rw [← List.append_assoc, ← List.append_assoc]
      exact List.Perm.append_right R List.perm_append_comm
    exact mem_app (mem_perm p hM)
  have hM2 := mem_ren (fun x hx => chk_at hk2 hx) b5 hM1
  have key : ∀ t k, ltB 2 t k = true → gE ε (gR []) t k = eb t k := fun t k ht => by
    have ht := ltB_iff.1 ht
    rw [gE_id ht, hr.e0 t ht]
  rwa [hden_congr key b4] at hM2
def idRun (P : Program) (cal : Callee P) (nt n : Nat) (H : Heap) (c : Cfg P) : Option (List (CV × CV) × Ex) :=
  match exec P cal nt false n c with
  | (c', ck) => match c'.K with
    | [] => bif ndB (namesR (gR []) H) && (hok (ltB 2) H && nilsOK (gR []) H) then some (ck ++ chkOf (gR []) c'.σ.heap H, c'.e) else none
    | _ :: _ => none
def ikl (o : Option (List (CV × CV) × Ex)) : Option (List CV × Ex) := match o with
  | some (l, e) => some (l.map (·.1), e)
  | none => none
def ikr (e : Ex) (o : Option (List (CV × CV) × Ex)) : Option (List CV × Ex) := match o with
  | some (l, _) => some (l.map (·.2), e)
  | none => some ([], e)
theorem ikl_ikr {o : Option (List (CV × CV) × Ex)} {e : Ex} (h : ikl o = ikr e o) : ∃ l, o = some (l, e) ∧ ChkOK l := by
  cases o with
  | none => cases h
  | some x =>
    obtain ⟨l, e'⟩ := x
    have : l.map (·.1) = l.map (·.2) ∧ e' = e := by simpa [ikl, ikr] using h
    exact ⟨l, by rw [this.2], chk_of_map this.1⟩
theorem id_run {K : List It} {σ0 : St} (H : Heap) (e1 : Ex) (m : Nat) (hs : List (Hint P)) (hcal : CalleeOK P cal)
    (h : ikl (idRun P cal nt m H ⟨.nrm, K, σ0, hs⟩) = ikr e1 (idRun P cal nt m H ⟨.nrm, K, σ0, hs⟩)) (hQ : ∀ a w, a.defers = ds → Mem (hden eb H ++ R) w → Q e1.up a w) : JdR P ro n ds nt 2 eb R Q .nrm K σ0 := by
  obtain ⟨ck0, h1, hk⟩ := ikl_ikr h
  clear h
  unfold idRun at h1
  have key := exec_okR (P := P) (cal := cal) (nt := nt) (lo := 2) (eb := eb) (R := R) (ro := ro) (n := n) (Q := Q) (ds := ds) hcal (m := m) (c := ⟨.nrm, K, σ0, hs⟩)
  generalize exec P cal nt false m ⟨.nrm, K, σ0, hs⟩ = r at key h1
  obtain ⟨c', ck⟩ := r
  simp only at key h1
  split at h1 <;> try (cases h1; done)
  rename_i hK
  cases hb : ndB (namesR (gR []) H) && (hok (ltB 2) H && nilsOK (gR []) H) with
  | false => rw [hb] at h1; cases h1
  | true =>
    rw [hb] at h1
    simp only [cond_true, Option.some.injEq, Prod.mk.injEq] at h1
    obtain ⟨h1, he⟩ := h1
    subst h1
    simp only [Bool.and_eq_true] at hb
    obtain ⟨b1, b4, b5⟩ := hb
    refine key hk.left fun ε a w hd hr => ?_
    rw [hK, he]
    exact hQ a w hd (rel_out hk.right b1 b4 b5 hr)
def asRun (P : Program) (cal : Callee P) (nt n : Nat) (sl : Slots) (H : Heap) (c : Cfg P) : Option (List (CV × CV) × Ex) :=
  match exec P cal nt false n c with
  | (c', ck) => match c'.K with
    | [] => bif ndB (namesR (gR []) H) && (hok (ltB 2) H && (nilsOK (gR []) H && sl.all (fun x => x.2.ok (ltB 2)))) then some (ck ++ (slChk (gR []) c'.σ.slots sl ++ chkOf (gR []) c'.σ.heap H), c'.e) else none
    | _ :: _ => none
structure SlA (nt : Nat) (eb : Env) (sl : Slots) (a : Act) : Prop where
  size : a.tmps.size = nt
  defers : a.defers = []
  slots : ∀ d v, lkS sl d = some v → a.tmps[d]? = some (v.den eb) ∧ v.ok (ltB 2) = true
theorem as_run {K : List It} {σ0 : St} (sl : Slots) (H : Heap) (m : Nat) (hs : List (Hint P)) (hcal : CalleeOK P cal)
    (h : ikl (asRun P cal nt m sl H ⟨.nrm, K, σ0, hs⟩) = ikr .nrm (asRun P cal nt m sl H ⟨.nrm, K, σ0, hs⟩)) (hQ : ∀ a w, SlA nt eb sl a → Mem (hden eb H ++ R) w → Q .normal a w) : JdR P ro n [] nt 2 eb R Q .nrm K σ0 := by
  obtain ⟨ck0, h1, hk⟩ := ikl_ikr h
  clear h
  unfold asRun at h1
  have key := exec_okR (P := P) (cal := cal) (nt := nt) (lo := 2) (eb := eb) (R := R) (ro := ro) (n := n) (Q := Q) (ds := []) hcal (m := m) (c := ⟨.nrm, K, σ0, hs⟩)
  generalize exec P cal nt false m ⟨.nrm, K, σ0, hs⟩ = r at key h1
  obtain ⟨c', ck⟩ := r
  simp only at key h1
  split at h1 <;> try (cases h1; done)
  rename_i hK
  cases hb : ndB (namesR (gR []) H) && (hok (ltB 2) H && (nilsOK (gR []) H && sl.all (fun x => x.2.ok (ltB 2)))) with
  | false => rw [hb] at h1; cases h1
  | true =>
    rw [hb] at h1
    simp only [cond_true, Option.some.injEq, Prod.mk.injEq] at h1
    obtain ⟨h1, he⟩ := h1
    subst h1
    simp only [Bool.and_eq_true] at hb
    obtain ⟨b1, b4, b5, b3⟩ := hb
    refine key hk.left fun ε a w hd hr => ?_
    rw [hK, he]
    refine hQ a w ⟨hr.size, hd, fun d v hv => ?_⟩ (rel_out hk.right.right b1 b4 b5 hr)
    have hm := lkS_mem hv
    have hvo : v.ok (ltB 2) = true := List.all_eq_true.1 b3 _ hm
    refine ⟨?_, hvo⟩
    have := hk.right.left _ (List.mem_map_of_mem (f := fun x : Nat × SV => match lkS c'.σ.slots x.1 with
      | some u => (CV.sv u, CV.sv (x.2.ren (gR [])))
      | none => (CV.nat 0, CV.nat 1)) hm)
    simp only at this
    split at this
    · rename_i u hu
      have e : u = v.ren (gR []) := by simpa using this
      have h2 := (hr.slots d u hu).1
      rw [e, SV.den_ren] at h2
      rw [show a.tmps = (strip a).tmps from rfl, h2]
      congr 1
      exact SV.den_congr (fun t k ht => by have ht := ltB_iff.1 ht; rw [gE_id ht, hr.e0 t ht]) v hvo
    · simp at this
theorem jd_at {K : List It} {sl : Slots} {H : Heap} {a : Act} {w : World} (hs : SlA nt eb sl a) (hM : Mem (hden eb H ++ R) w) (b2 : ndB (names H) = true) (b4 : hok (ltB 2) H = true) (h : JdR P ro n [] nt 2 eb R Q .nrm K ⟨sl, H, 2⟩) : wpKR P ro n Q K .normal a w :=
  h eb a w hs.defers ⟨hs.size, rfl, hs.slots, hM, ndB_nodup b2, b4, fun _ _ => rfl, Nat.le_refl _⟩
end
end Go.Sx
end
