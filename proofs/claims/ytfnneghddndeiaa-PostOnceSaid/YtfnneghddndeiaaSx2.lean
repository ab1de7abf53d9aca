/- SX: what each operation does, over values and chunks by names. -/
import Derived.Test.YtfnneghddndeiaaSx1
import Derived.Laws.Tables
import Derived.Great.BuildSlice
import Derived.Laws.MakeOwn
namespace Go.Sx
set_option linter.unusedVariables false
set_option linter.unusedSimpArgs false
open Go.RowKit Go.Tk Go.Lib Go.Shelf Go.Vc
inductive CV where
  | op (o : Oper)
  | sv (v : SV)
  | sc (c : SC)
  | nat (n : Nat)
structure Out where
  v : SV
  upd : Heap := []
  rd : List Nm := []
  chk : List (CV × CV) := []
def Out.touch (o : Out) : List Nm := names o.upd ++ o.rd
def ChkOK (l : List (CV × CV)) : Prop := ∀ c ∈ l, c.1 = c.2
theorem ChkOK.nil : ChkOK [] := fun _ h => by cases h
theorem ChkOK.left {a b : List (CV × CV)} (h : ChkOK (a ++ b)) : ChkOK a := fun c hc => h c (List.mem_append_left _ hc)
theorem ChkOK.right {a b : List (CV × CV)} (h : ChkOK (a ++ b)) : ChkOK b := fun c hc => h c (List.mem_append_right _ hc)
def After (ε : Env) (s : Nat) (H : Heap) (R : List Chunk) (o : Out) (u : Value) (w : World) : Prop :=
  ∃ x, u = o.v.den (eset ε s x) ∧ Mem (hden (eset ε s x) o.upd ++ (tden (eset ε s x) H o.rd ++ R)) w
theorem after_same {ε : Env} {s : Nat} {H : Heap} {R : List Chunk} {o : Out} {u : Value} {w : World} (hu : u = o.v.den ε) (h : Mem (hden ε o.upd ++ (tden ε H o.rd ++ R)) w) : After ε s H R o u w :=
  ⟨ε s, by rw [eset_self]; exact ⟨hu, h⟩⟩
def Sound (P : Program) (s : Nat) (o : Oper) (ρ : Operand → Value) (ε : Env) (H : Heap) (out : Out) : Prop :=
  ∀ R w, Mem (tden ε H out.touch ++ R) w → Res P (After ε s H R out) ((execOp ρ o).run P w)
theorem sound_pure {P : Program} {s : Nat} {o : Oper} {ρ : Operand → Value} {ε : Env} {H : Heap} {v : SV} {rd : List Nm} {chk : List (CV × CV)} (h : ∀ R w, Mem (tden ε H rd ++ R) w → (execOp ρ o).run P w = .ok (.value (v.den ε)) w) : Sound P s o ρ ε H ⟨v, [], rd, chk⟩ := by
  intro R w hM
  rw [h R w hM]
  exact after_same rfl hM
def ltB (s : Nat) : Nat → Nat → Bool := fun t _ => Nat.blt t s
theorem ltB_iff {s t k : Nat} : ltB s t k = true ↔ t < s := by unfold ltB; rw [Nat.blt_eq]
theorem dens_eset {ε : Env} {s : Nat} {x : Nat → Rv} {l : List SV} (h : SV.oks (ltB s) l = true) : SV.dens (eset ε s x) l = SV.dens ε l :=
  SV.dens_congr (fun t k ht => eset_ne' (by have := ltB_iff.1 ht; omega)) l h
theorem scden_eset {ε : Env} {s : Nat} {x : Nat → Rv} {n : Nm} {c : SC} (hn : n.1 < s) (h : c.ok (ltB s) = true) : c.den (eset ε s x) n.1 n.2 = c.den ε n.1 n.2 :=
  SC.den_congr (fun t k ht => eset_ne' (by have := ltB_iff.1 ht; omega)) _ _ (ltB_iff.2 hn) c h
def still {α : Type} (P : Program) : Sem α → Option α
  | .pure a => some a
  | .program k => still P (k P)
  | .mark _ k => still P k
  | .choose q k => bif q.forced then still P (k 0) else none
  | _ => none
theorem still_run {α : Type} {P : Program} {x : Sem α} {a : α} (h : still P x = some a) (w : World) : x.run P w = .ok a w := by
  induction x with
  | pure b => cases h; rfl
  | program k ih => exact ih P h
  | mark m k ih => exact ih h
  | choose q k ih =>
    unfold still at h
    cases hq : q.forced with
    | false => rw [hq] at h; cases h
    | true =>
      rw [hq] at h
      show (if q.forced then (k 0).run P w else _) = _
      rw [if_pos hq]
      exact ih 0 h
  | _ => cases h
mutual
def plain : SV → Option Value
  | .val v => some v
  | .agg cs => match plains cs with
    | some vs => some (.agg vs.toArray)
    | none => none
  | .tup cs => match plains cs with
    | some vs => some (.tuple vs.toArray)
    | none => none
  | _ => none
def plains : List SV → Option (List Value)
  | [] => some []
  | v :: l => match plain v with
    | some u => match plains l with
      | some us => some (u :: us)
      | none => none
    | none => none
end
mutual
theorem plain_den (ε : Env) : ∀ (v : SV) (u : Value), plain v = some u → v.den ε = u
  | .val v, u, h => by simp only [plain, Option.some.injEq] at h; simp [SV.den, h]
  | .agg cs, u, h => by
    simp only [plain] at h
    split at h
    · rename_i vs hvs
      cases h
      simp [SV.den, plains_den ε cs vs hvs]
    · cases h
  | .tup cs, u, h => by
    simp only [plain] at h
    split at h
    · rename_i vs hvs
      cases h
      simp [SV.den, plains_den ε cs vs hvs]
    · cases h
  | .ptr s k off, u, h => by simp [plain] at h
  | .elt s k p b j, u, h => by simp [plain] at h
  | .raw s k, u, h => by simp [plain] at h
  | .map s k, u, h => by simp [plain] at h
  | .win s k _ _ _, u, h => by simp [plain] at h
  | .fn f a b, u, h => by simp [plain] at h
theorem plains_den (ε : Env) : ∀ (l : List SV) (us : List Value), plains l = some us → SV.dens ε l = us
  | [], us, h => by simp only [plains, Option.some.injEq] at h; simp [SV.dens, ← h]
  | v :: l, us, h => by
    simp only [plains] at h
    split at h
    · rename_i u hu
      split at h
      · rename_i us' hus
        cases h
        simp [SV.dens, plain_den ε v u hu, plains_den ε l us' hus]
      · cases h
    · cases h
end
def ofV1 : Value → SV
  | .agg cs => .agg (cs.toList.map .val)
  | v => .val v
def ofV : Value → SV
  | .tuple vs => .tup (vs.toList.map ofV1)
  | v => ofV1 v
theorem dens_val (ε : Env) (l : List Value) : SV.dens ε (l.map .val) = l := by
  rw [dens_map, List.map_map]
  conv => rhs; rw [← List.map_id l]
  exact List.map_congr_left fun v _ => by simp [SV.den]
theorem ofV1_den (ε : Env) (v : Value) : (ofV1 v).den ε = v := by
  cases v <;> simp [ofV1, SV.den, dens_val]
theorem ofV_den (ε : Env) (v : Value) : (ofV v).den ε = v := by
  cases v <;> try (simp [ofV, ofV1_den]; done)
  rename_i vs
  simp only [ofV, SV.den, dens_map, List.map_map]
  have : vs.toList.map (SV.den ε ∘ ofV1) = vs.toList := by
    conv => rhs; rw [← List.map_id vs.toList]
    exact List.map_congr_left fun v _ => ofV1_den ε v
  rw [this]
abbrev Ev1 := Operand → Option SV
def EvOK (ev : Ev1) (o : Oper) (ρ : Operand → Value) (ε : Env) (s : Nat) : Prop := ∀ x ∈ o.op.operands, ∀ v, ev x = some v → ρ x = v.den ε ∧ v.ok (ltB s) = true
def evPlain (ev : Ev1) (x : Operand) : Option Value := match ev x with
  | some v => plain v
  | none => none
def notSel : Op → Bool
  | .select _ _ => false
  | _ => true
def sStill (P : Program) (o : Oper) (ev : Ev1) : Option Out :=
  bif notSel o.op && o.op.operands.all (fun x => (evPlain ev x).isSome) then
    match still P (execOp (fun x => (evPlain ev x).getD undef) o) with
    | some (.value v) => some ⟨ofV v, [], [], []⟩
    | _ => none
  else none
theorem sStill_ok {P : Program} {s : Nat} {o : Oper} {ev : Ev1} {ρ : Operand → Value} {ε : Env} {H : Heap} {out : Out} (h : sStill P o ev = some out) (hev : EvOK ev o ρ ε s) : Sound P s o ρ ε H out := by
  unfold sStill at h
  cases hc : notSel o.op && o.op.operands.all (fun x => (evPlain ev x).isSome) with
  | false => rw [hc] at h; cases h
  | true =>
    rw [hc] at h
    rw [Bool.and_eq_true] at hc
    have hρ : execOp ρ o = execOp (fun x => (evPlain ev x).getD undef) o := by
      refine execOp_congr o (fun cs b e => by rw [e] at hc; cases hc.1) fun x hx => ?_
      have h1 := Array.all_eq_true_iff_forall_mem.1 hc.2 x hx
      obtain ⟨u, hu⟩ := Option.isSome_iff_exists.1 h1
      rw [hu]
      unfold evPlain at hu
      split at hu
      · rename_i v hv
        rw [(hev x hx v hv).1]
        exact plain_den ε v u hu
      · cases hu
    simp only [cond_true] at h
    split at h
    · rename_i v hv
      cases h
      refine sound_pure fun R w hM => ?_
      rw [hρ, still_run hv w, ofV_den]
    · cases h
def sMove (ev : Ev1) (x : Operand) : Option Out := match ev x with
  | some v => some ⟨v, [], [], []⟩
  | none => none
section
variable {P : Program} {s : Nat} {o : Oper} {ev : Ev1} {ρ : Operand → Value} {ε : Env} {H : Heap} {out : Out}
theorem sMove_ok {x : Operand} (ho : o.op = .move x ∨ o.op = .assign x) (h : sMove ev x = some out) (hev : EvOK ev o ρ ε s) : Sound P s o ρ ε H out := by
  unfold sMove at h
  split at h
  · rename_i v hv
    cases h
    refine sound_pure fun R w hM => ?_
    rcases ho with ho | ho
    · exact x_move ho (hev x (by rw [ho]; simp [Op.operands]) v hv).1
    · exact x_assign ho (hev x (by rw [ho]; simp [Op.operands]) v hv).1
  · cases h
def sPick (ev : Ev1) (c x y : Operand) : Option Out := match ev c with
  | some (.val (.bool true)) => sMove ev x
  | some (.val (.bool false)) => sMove ev y
  | _ => none
theorem sPick_ok {c x y : Operand} (ho : o.op = .pick c x y) (h : sPick ev c x y = some out) (hev : EvOK ev o ρ ε s) : Sound P s o ρ ε H out := by
  unfold sPick at h
  have e := fun z (hz : z = c ∨ z = x ∨ z = y) => hev z (by rw [ho]; simpa [Op.operands] using hz)
  split at h <;> try (cases h; done)
  · rename_i hc
    unfold sMove at h
    split at h
    · rename_i v hv
      cases h
      exact sound_pure fun R w hM => x_pick (b := true) ho ((e c (.inl rfl) _ hc).1.trans (by simp [SV.den])) (e x (.inr (.inl rfl)) v hv).1
    · cases h
  · rename_i hc
    unfold sMove at h
    split at h
    · rename_i v hv
      cases h
      exact sound_pure fun R w hM => x_pick (b := false) ho ((e c (.inl rfl) _ hc).1.trans (by simp [SV.den])) (e y (.inr (.inr rfl)) v hv).1
    · cases h
def sExtract (ev : Ev1) (x : Operand) (i : Nat) : Option Out := match ev x with
  | some (.tup vs) => match vs[i]? with
    | some v => some ⟨v, [], [], []⟩
    | none => none
  | _ => none
theorem sExtract_ok {x : Operand} {i : Nat} (ho : o.op = .extract x i) (h : sExtract ev x i = some out) (hev : EvOK ev o ρ ε s) : Sound P s o ρ ε H out := by
  unfold sExtract at h
  split at h <;> try (cases h; done)
  rename_i vs hx
  split at h
  · rename_i v hv
    cases h
    refine sound_pure fun R w hM => x_extract (vs := (SV.dens ε vs).toArray) ho ((hev x (by rw [ho]; simp [Op.operands]) _ hx).1.trans (by simp only [SV.den])) ?_
    rw [List.getElem?_toArray, dens_get, hv]; rfl
  · cases h
def sNil (ev : Ev1) (x : Operand) : Option Out := match ev x with
  | some (.ptr s k off) => some ⟨.ptr s k off, [], [], []⟩
  | some (.elt s k p b j) => some ⟨.elt s k p b j, [], [], []⟩
  | some (.fn (.func f) a b) => some ⟨.fn (.func f) a b, [], [], []⟩
  | some (.map s k) => some ⟨.map s k, [], [], []⟩
  | _ => none
theorem x_nilV {x : Operand} {v : Value} {w : World} (ho : o.op = .nilCheck x) (hx : ρ x = v) (hv : (∃ f a b, v = .func (.func f) a b) ∨ ∃ m, v = .map m) : (execOp ρ o).run P w = .ok (.value v) w := by
  unfold execOp; rw [ho]
  rcases hv with ⟨f, a, b, rfl⟩ | ⟨m, rfl⟩ <;> simp [hx]
theorem sNil_ok {x : Operand} (ho : o.op = .nilCheck x) (h : sNil ev x = some out) (hev : EvOK ev o ρ ε s) : Sound P s o ρ ε H out := by
  unfold sNil at h
  have e := hev x (by rw [ho]; simp [Op.operands])
  split at h <;> try (cases h; done)
  all_goals rename_i hx; cases h; refine sound_pure fun R w hM => ?_
  · have := x_nil (P := P) (w := w) ho ((e _ hx).1.trans (by simp only [SV.den]; rfl))
    simpa only [SV.den] using this
  · have := x_nil (P := P) (w := w) ho ((e _ hx).1.trans (by simp only [SV.den]; rfl))
    simpa only [SV.den] using this
  · exact x_nilV ho (e _ hx).1 (.inl ⟨_, _, _, by simp only [SV.den]; rfl⟩)
  · exact x_nilV ho (e _ hx).1 (.inr ⟨_, by simp only [SV.den]; rfl⟩)
def evs (ev : Ev1) : List Operand → Option (List SV)
  | [] => some []
  | x :: l => match ev x with
    | some v => match evs ev l with
      | some vs => some (v :: vs)
      | none => none
    | none => none
theorem evs_ok {p : Nat → Nat → Bool} : ∀ {l : List Operand} {vs : List SV}, evs ev l = some vs → (∀ x ∈ l, ∀ v, ev x = some v → ρ x = v.den ε ∧ v.ok p = true) → l.map ρ = SV.dens ε vs ∧ SV.oks p vs = true
  | [], vs, h, _ => by cases h; simp [SV.dens, SV.oks]
  | x :: l, vs, h, hx => by
    unfold evs at h
    split at h <;> try (cases h; done)
    rename_i v hv
    split at h <;> try (cases h; done)
    rename_i us hus
    cases h
    have h1 := hx x List.mem_cons_self v hv
    have h2 := evs_ok hus fun y hy => hx y (List.mem_cons_of_mem _ hy)
    exact ⟨by simp [SV.dens, h1.1, h2.1], by simp [SV.oks, h1.2, h2.2]⟩
def sFunc (ev : Ev1) (f : Fn) (a b : Array Operand) : Option Out := match evs ev a.toList, evs ev b.toList with
  | some x, some y => some ⟨.fn f x y, [], [], []⟩
  | _, _ => none
theorem sFunc_ok {f : Fn} {a b : Array Operand} (ho : o.op = .makeFunc f a b) (h : sFunc ev f a b = some out) (hev : EvOK ev o ρ ε s) : Sound P s o ρ ε H out := by
  unfold sFunc at h
  split at h <;> try (cases h; done)
  rename_i x y hx hy
  cases h
  have h1 := (evs_ok (p := ltB s) (ε := ε) (ρ := ρ) hx fun z hz => hev z (by rw [ho]; simp [Op.operands]; exact .inl (by simpa using hz))).1
  have h2 := (evs_ok (p := ltB s) (ε := ε) (ρ := ρ) hy fun z hz => hev z (by rw [ho]; simp [Op.operands]; exact .inr (by simpa using hz))).1
  refine sound_pure fun R w hM => ?_
  simp only [SV.den]
  refine x_makeFunc ho ?_ ?_
  · rw [← h1, ← Array.toList_map]
  · rw [← h2, ← Array.toList_map]
end
end Go.Sx
