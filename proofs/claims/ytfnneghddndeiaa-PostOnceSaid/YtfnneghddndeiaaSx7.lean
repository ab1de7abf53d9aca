/- SX: regions, in the text's order and in any order. -/
import Derived.Test.YtfnneghddndeiaaSxM
namespace Go.Sx
set_option linter.unusedVariables false
set_option linter.unusedSimpArgs false
open Go.RowKit Go.Tk Go.Lib Go.Shelf Go.Vc
abbrev Slots := List (Nat × SV)
def lkS : Slots → Nat → Option SV
  | [], _ => none
  | (d, v) :: l, t => bif Nat.beq d t then some v else lkS l t
def putS : Slots → Nat → SV → Slots
  | [], d, v => [(d, v)]
  | (d', v') :: l, d, v => bif Nat.beq d' d then (d, v) :: l else (d', v') :: putS l d v
def putD (sl : Slots) (d : Option Nat) (v : SV) : Slots := match d with
  | some d => putS sl d v
  | none => sl
theorem lkS_put {d t : Nat} {v : SV} : ∀ {sl : Slots}, lkS (putS sl d v) t = if t = d then some v else lkS sl t
  | [] => by
    show (bif Nat.beq d t then some v else none) = _
    by_cases h : t = d
    · subst h; rw [Nat.beq_refl, if_pos rfl]; rfl
    · rw [if_neg h]
      cases hb : Nat.beq d t with
      | true => exact absurd (Nat.eq_of_beq_eq_true hb).symm h
      | false => rfl
  | (d', v') :: l => by
    unfold putS
    cases hb : Nat.beq d' d with
    | true =>
      have := Nat.eq_of_beq_eq_true hb
      subst this
      show (bif Nat.beq d' t then some v else lkS l t) = if t = d' then some v else (bif Nat.beq d' t then some v' else lkS l t)
      by_cases h : t = d'
      · subst h; rw [Nat.beq_refl, if_pos rfl]; rfl
      · rw [if_neg h]
        cases hb : Nat.beq d' t with
        | true => exact absurd (Nat.eq_of_beq_eq_true hb).symm h
        | false => rfl
    | false =>
      show (bif Nat.beq d' t then some v' else lkS (putS l d v) t) = if t = d then some v else (bif Nat.beq d' t then some v' else lkS l t)
      rw [lkS_put]
      cases hb2 : Nat.beq d' t with
      | false => rfl
      | true =>
        have := Nat.eq_of_beq_eq_true hb2
        subst this
        have : d' ≠ d := fun e => by rw [e, Nat.beq_refl] at hb; cases hb
        simp [this]
def slotsEv (sl : Slots) : Ev1 := fun x => match x with
  | .tmp t => lkS sl t
  | .const v => some (ofV v)
  | .func f => some (.fn (.func f) [] [])
  | .global _ => none
structure St where
  slots : Slots
  heap : Heap
  next : Nat
structure Rel (nt lo : Nat) (eb : Env) (R : List Chunk) (σ : St) (ε : Env) (a : Act) (w : World) : Prop where
  size : a.tmps.size = nt
  defers : a.defers = []
  slots : ∀ d v, lkS σ.slots d = some v → a.tmps[d]? = some (v.den ε) ∧ v.ok (ltB σ.next) = true
  mem : Mem (hden ε σ.heap ++ R) w
  nd : (names σ.heap).Nodup
  sc : hok (ltB σ.next) σ.heap = true
  e0 : ∀ t, t < lo → ε t = eb t
  pos : lo ≤ σ.next
def wantS (all : List Oper) (sl : Slots) (o : Oper) : Option Bool := match o.guard with
  | none => some true
  | some (g, b) => match all[g]? with
    | some og => match og.dst with
      | some d => match lkS sl d with
        | some (.val (.bool true)) => some b
        | some (.val (.bool false)) => some (!b)
        | some (.val (.tuple _)) => some false
        | _ => none
      | none => none
    | none => none
def dstOK (nt : Nat) (d : Option Nat) : Bool := match d with
  | some d => Nat.blt d nt
  | none => true
def okOut (nt s : Nat) (o : Oper) (out : Out) : Bool := dstOK nt o.dst && (out.v.ok (ltB (s + 1)) && (hok (ltB (s + 1)) out.upd && ndB out.touch))
section
variable {P : Program} {cal : Callee P}
def oneOp (P : Program) (cal : Callee P) (r nt : Nat) (all : List Oper) (i s : Nat) (o : Oper) (sl : Slots) (H : Heap) (hs : List (Hint P)) : Option (Out × List (Hint P)) :=
  match wantS all sl o with
  | some true => match sOp P cal r i s o (slotsEv sl) H hs with
    | some (out, hs') => bif okOut nt s o out then some (out, hs') else none
    | none => none
  | some false => bif dstOK nt o.dst then some (⟨.val undef, [], [], []⟩, hs) else none
  | none => none
structure Ran (P : Program) where
  outs : List Out
  slots : Slots
  heap : Heap
  hs : List (Hint P)
def runOps (P : Program) (cal : Callee P) (r nt : Nat) (all : List Oper) : List Oper → Nat → Nat → Slots → Heap → List (Hint P) → Option (Ran P)
  | [], _, _, sl, H, hs => some ⟨[], sl, H, hs⟩
  | o :: l, i, s, sl, H, hs => match oneOp P cal r nt all i s o sl H hs with
    | some (out, hs') => match runOps P cal r nt all l (i + 1) (s + 1) (putD sl o.dst out.v) (hput H out.upd) hs' with
      | some q => some ⟨out :: q.outs, q.slots, q.heap, q.hs⟩
      | none => none
    | none => none
def chks (l : List Out) : List (CV × CV) := l.flatMap Out.chk
theorem ok_up {s s' : Nat} (h : s ≤ s') : ∀ t k, ltB s t k = true → ltB s' t k = true := fun t k ht => ltB_iff.2 (Nat.lt_of_lt_of_le (ltB_iff.1 ht) h)
theorem res_mono {R R' : Value → World → Prop} {r : Result Next} (hm : ∀ u w', R u w' → R' u w') (h : Res P R r) : Res P R' r := by
  cases r with
  | halt x w' => exact h
  | ok x w' =>
    cases x <;> simp only [Res] at h ⊢
    case value u => exact hm _ _ h
    case skip => exact hm _ _ h
    case enter f args => exact Calls.mono h fun e w'' ⟨u, h1, h2⟩ => ⟨u, h1, hm _ _ h2⟩
    case row row args => exact Rows.mono h fun u w'' h2 => hm _ _ h2
theorem res_upon {R : Value → World → Prop} {r : Result Next} {o : Oper} {a : Act} {K : Act → World → Prop} {Q : Exit → Act → World → Prop} (h : Res P R r) (hk : ∀ u w', R u w' → K (a.put o.dst u) w') : o.upon P a K Q r := by
  cases r with
  | halt x w' => simp only [Res] at h
  | ok x w' =>
    cases x <;> simp only [Res] at h
    case value u => exact hk _ _ h
    case skip => exact hk _ _ h
    case enter f args =>
      refine Calls.mono h fun e w'' he => ?_
      obtain ⟨u, rfl, h2⟩ := he
      exact hk _ _ h2
    case row row args => exact Rows.mono h fun u w'' h2 => hk _ _ h2
variable {nt lo : Nat} {eb : Env} {R : List Chunk} {σ : St} {ε : Env} {a : Act} {w : World}
theorem ofV1_ok (p : Nat → Nat → Bool) (u : Value) : (ofV1 u).ok p = true := by
  cases u <;> simp [ofV1, SV.ok, oks_all]
theorem ofV_ok (p : Nat → Nat → Bool) (u : Value) : (ofV u).ok p = true := by
  cases u with
  | tuple vs =>
    simp only [ofV, SV.ok, oks_all]
    refine List.all_eq_true.2 fun x hx => ?_
    obtain ⟨u, -, rfl⟩ := List.mem_map.1 hx
    exact ofV1_ok p u
  | _ => simp only [ofV]; exact ofV1_ok p _
theorem rel_ev (h : Rel nt lo eb R σ ε a w) (o : Oper) : EvOK (slotsEv σ.slots) o a.eval ε σ.next := by
  intro x _ v hv
  cases x with
  | tmp t =>
    have := h.slots t v hv
    exact ⟨by simp [Act.eval, this.1], this.2⟩
  | const c =>
    have hv : some (ofV c) = some v := hv
    cases hv
    refine ⟨by rw [ofV_den]; rfl, ?_⟩
    exact ofV_ok _ c
  | func f =>
    have hv : some (SV.fn (.func f) [] []) = some v := hv
    cases hv
    exact ⟨by simp [SV.den, SV.dens, Act.eval], by simp [SV.ok, SV.oks]⟩
  | global g => cases hv
theorem want_ok (h : Rel nt lo eb R σ ε a w) {all : List Oper} {o : Oper} {b : Bool} (hw : wantS all σ.slots o = some b) : Region.wanted o (yielded all.toArray a.tmps) = b := by
  unfold wantS at hw
  unfold Region.wanted
  split at hw
  · rename_i hg; rw [hg]; cases hw; rfl
  · rename_i g c hg
    rw [hg]
    split at hw <;> try (cases hw; done)
    rename_i og hog
    split at hw <;> try (cases hw; done)
    rename_i d hd
    have hy : ∀ x, lkS σ.slots d = some (.val (.bool x)) → yielded all.toArray a.tmps g = some x := fun x hx => by
      unfold yielded
      rw [List.getElem?_toArray, hog, Option.bind_some, hd, Option.bind_some, (h.slots d _ hx).1]
      simp [SV.den]
    split at hw <;> try (cases hw; done)
    · rename_i hl; cases hw; simp only [hy _ hl]; cases b <;> rfl
    · rename_i hl; cases hw; simp only [hy _ hl]; cases c <;> rfl
    · rename_i vs hl
      cases hw
      have : yielded all.toArray a.tmps g = none := by
        unfold yielded
        rw [List.getElem?_toArray, hog, Option.bind_some, hd, Option.bind_some, (h.slots d _ hl).1]
        simp [SV.den]
      simp only [this]; cases c <;> rfl
theorem put_at {a : Act} {d : Option Nat} {u : Value} {t : Nat} (hd : dstOK a.tmps.size d = true) : (a.put d u).tmps[t]? = if d = some t then some u else a.tmps[t]? := by
  cases d with
  | none => simp [Act.put]
  | some d =>
    have hd : d < a.tmps.size := by have : Nat.blt d a.tmps.size = true := hd; rwa [Nat.blt_eq] at this
    simp only [Act.put, Option.some.injEq]
    by_cases h : d = t
    · subst h; rw [if_pos rfl]; simp [hd]
    · rw [if_neg h]; simp [Array.getElem?_setIfInBounds_ne h]
theorem lkS_putD {sl : Slots} {d : Option Nat} {v : SV} {t : Nat} : lkS (putD sl d v) t = if d = some t then some v else lkS sl t := by
  cases d with
  | none => simp [putD]
  | some d =>
    show lkS (putS sl d v) t = _
    rw [lkS_put]
    by_cases h : t = d
    · rw [if_pos h, if_pos (by rw [h])]
    · rw [if_neg h, if_neg (by simp; exact fun e => h e.symm)]
theorem after_rel {o : Oper} {out : Out} {u : Value} {w' : World} (h : Rel nt lo eb R σ ε a w) (hk : okOut nt σ.next o out = true) (ha : After ε σ.next σ.heap (hden ε (hdels σ.heap out.touch) ++ R) out u w') : ∃ ε', Rel nt lo eb R ⟨putD σ.slots o.dst out.v, hput σ.heap out.upd, σ.next + 1⟩ ε' (a.put o.dst u) w' := by
  obtain ⟨x, rfl, hm⟩ := ha
  unfold okOut at hk
  simp only [Bool.and_eq_true] at hk
  obtain ⟨k1, k2, k3, k4⟩ := hk
  have hnd := ndB_nodup k4
  have hlt : ∀ t k, ltB σ.next t k = true → ε t k = eset ε σ.next x t k := fun t k ht => (eset_ne' (by have := ltB_iff.1 ht; omega)).symm
  refine ⟨eset ε σ.next x, ?_, ?_, fun d v hv => ?_, ?_, ?_, ?_, ?_, by have := h.pos; show lo ≤ σ.next + 1; omega⟩
  · rw [← h.size]; cases o.dst <;> simp [Act.put]
  · rw [← h.defers]; cases o.dst <;> rfl
  · have hv : lkS (putD σ.slots o.dst out.v) d = some v := hv
    rw [lkS_putD] at hv
    rw [put_at (by rw [h.size]; exact k1)]
    by_cases hd : o.dst = some d
    · rw [if_pos hd] at hv ⊢
      cases hv
      exact ⟨rfl, k2⟩
    · rw [if_neg hd] at hv ⊢
      have := h.slots d v hv
      exact ⟨by rw [this.1, SV.den_congr hlt v this.2], SV.ok_mono (ok_up (Nat.le_succ _)) v this.2⟩
  · rw [hden_congr hlt (hok_dels h.sc)] at hm
    exact unfocus h.nd hnd hm
  · exact hput_nodup h.nd (List.nodup_append.1 hnd).1
  · exact hok_put (hok_mono (ok_up (Nat.le_succ _)) h.sc) k3
  · exact fun t ht => by rw [eset_ne (by have := h.pos; omega)]; exact h.e0 t ht
theorem skip_rel {o : Oper} (h : Rel nt lo eb R σ ε a w) (hd : dstOK nt o.dst = true) : Rel nt lo eb R ⟨putD σ.slots o.dst (.val undef), hput σ.heap [], σ.next + 1⟩ ε (a.put o.dst undef) w := by
  refine ⟨?_, ?_, fun d v hv => ?_, h.mem, h.nd, hok_mono (ok_up (Nat.le_succ _)) h.sc, h.e0, by have := h.pos; show lo ≤ σ.next + 1; omega⟩
  · rw [← h.size]; cases o.dst <;> simp [Act.put]
  · rw [← h.defers]; cases o.dst <;> rfl
  · have hv : lkS (putD σ.slots o.dst (.val undef)) d = some v := hv
    rw [lkS_putD] at hv
    rw [put_at (by rw [h.size]; exact hd)]
    by_cases hd : o.dst = some d
    · rw [if_pos hd] at hv ⊢
      cases hv
      exact ⟨by simp [SV.den], by simp [SV.ok]⟩
    · rw [if_neg hd] at hv ⊢
      have := h.slots d v hv
      exact ⟨this.1, SV.ok_mono (ok_up (Nat.le_succ _)) v this.2⟩
theorem oneOp_cases {r nt i s : Nat} {all : List Oper} {o : Oper} {sl : Slots} {H : Heap} {hs hs' : List (Hint P)} {out : Out} (h : oneOp P cal r nt all i s o sl H hs = some (out, hs')) :
    (wantS all sl o = some true ∧ sOp P cal r i s o (slotsEv sl) H hs = some (out, hs') ∧ okOut nt s o out = true) ∨ (wantS all sl o = some false ∧ dstOK nt o.dst = true ∧ out = ⟨.val undef, [], [], []⟩ ∧ hs' = hs) := by
  unfold oneOp at h
  split at h <;> try (cases h; done)
  · rename_i hw
    split at h <;> try (cases h; done)
    rename_i out' hs1 hout
    cases hb : okOut nt s o out' with
    | false => rw [hb] at h; cases h
    | true => rw [hb] at h; cases h; exact .inl ⟨hw, hout, hb⟩
  · rename_i hw
    cases hb : dstOK nt o.dst with
    | false => rw [hb] at h; cases h
    | true => rw [hb] at h; cases h; exact .inr ⟨hw, rfl, rfl, rfl⟩
theorem oneOp_ok {r i : Nat} {all : List Oper} {o : Oper} {hs hs' : List (Hint P)} {out : Out} {K : Act → World → Prop} {Q : Exit → Act → World → Prop} (hcal : CalleeOK P cal) (h : oneOp P cal r nt all i σ.next o σ.slots σ.heap hs = some (out, hs')) (hk : ChkOK out.chk) (hr : Rel nt lo eb R σ ε a w)
    (hK : ∀ ε' a' w', Rel nt lo eb R ⟨putD σ.slots o.dst out.v, hput σ.heap out.upd, σ.next + 1⟩ ε' a' w' → K a' w') : if Region.wanted o (yielded all.toArray a.tmps) then o.wp P a w K Q ∨ (o.asks P a w ∧ LetsOut Q) else K (a.put o.dst undef) w := by
  rcases oneOp_cases h with ⟨hw, hout, hok⟩ | ⟨hw, hd, rfl, -⟩
  · rw [want_ok hr hw, if_pos rfl]
    refine .inl ?_
    have hnd : out.touch.Nodup := by
      unfold okOut at hok
      simp only [Bool.and_eq_true] at hok
      exact ndB_nodup hok.2.2.2
    have hs := sOp_ok hcal hout (rel_ev hr o) hk hr.sc _ w ((focus hnd hr.nd).1 hr.mem)
    exact res_upon hs fun u w' ha => by
      obtain ⟨ε', h'⟩ := after_rel hr hok ha
      exact hK _ _ _ h'
  · rw [want_ok hr hw, if_neg (by decide)]
    exact hK _ _ _ (skip_rel hr hd)
theorem runOps_seq {r : Nat} {all : List Oper} {Q : Exit → Act → World → Prop} (hcal : CalleeOK P cal) : ∀ {l : List Oper} {i : Nat} {σ : St} {hs : List (Hint P)} {q : Ran P} {ε : Env} {a : Act} {w : World}, runOps P cal r nt all l i σ.next σ.slots σ.heap hs = some q → ChkOK (chks q.outs) → Rel nt lo eb R σ ε a w →
    (∀ ε' a' w', Rel nt lo eb R ⟨q.slots, q.heap, σ.next + l.length⟩ ε' a' w' → Q .normal a' w') → wpList P all.toArray Q l a w
  | [], i, σ, hs, q, ε, a, w, h, hk, hr, hQ => by
    cases h
    exact hQ ε a w hr
  | o :: l, i, σ, hs, q, ε, a, w, h, hk, hr, hQ => by
    unfold runOps at h
    split at h <;> try (cases h; done)
    rename_i out hs' hone
    split at h <;> try (cases h; done)
    rename_i q' hq
    cases h
    have hk' : ChkOK (out.chk ++ chks q'.outs) := hk
    exact oneOp_ok hcal hone hk'.left hr fun ε' a' w' hr' => runOps_seq hcal (σ := ⟨putD σ.slots o.dst out.v, hput σ.heap out.upd, σ.next + 1⟩) hq hk'.right hr' fun ε'' a'' w'' h'' => hQ ε'' a'' w'' (by
      have e : σ.next + 1 + l.length = σ.next + (o :: l).length := by simp; omega
      rw [← e]; exact h'')
end
end Go.Sx
