/- Sx2, Sx3. -/
import Derived.Test.YtmhbpifhpolghaaGreatSx1
import Derived.Laws.Tables
import Derived.Great.BuildSlice
import Derived.Laws.MakeOwn
set_option maxRecDepth 100000
set_option linter.unusedVariables false
set_option linter.unusedSimpArgs false
set_option linter.unusedSectionVars false
section
namespace Go.Sx
open Go.RowKit Go.Tk Go.Lib Go.Shelf Go.Vc
inductive CV where
  | op (o : Oper)
  | sv (v : SV)
  | sc (c : SC)
  | nat (n : Nat)
structure Out where
  v : SV
  upd : Heap := []
  rd : List Nm := []
  chk : List (CV × CV) := []
def Out.touch (o : Out) : List Nm := names o.upd ++ o.rd
def ChkOK (l : List (CV × CV)) : Prop := ∀ c ∈ l, c.1 = c.2
theorem ChkOK.nil : ChkOK [] := fun _ h => by cases h
theorem ChkOK.left {a b : List (CV × CV)} (h : ChkOK (a ++ b)) : ChkOK a := fun c hc => h c (List.mem_append_left _ hc)
theorem ChkOK.right {a b : List (CV × CV)} (h : ChkOK (a ++ b)) : ChkOK b := fun c hc => h c (List.mem_append_right _ hc)
def After (ε : Env) (s : Nat) (H : Heap) (R : List Chunk) (o : Out) (u : Value) (w : World) : Prop :=
  ∃ x, u = o.v.den (eset ε s x) ∧ Mem (hden (eset ε s x) o.upd ++ (tden (eset ε s x) H o.rd ++ R)) w
theorem after_same {ε : Env} {s : Nat} {H : Heap} {R : List Chunk} {o : Out} {u : Value} {w : World} (hu : u = o.v.den ε) (h : Mem (hden ε o.upd ++ (tden ε H o.rd ++ R)) w) : After ε s H R o u w :=
  ⟨ε s, by rw [eset_self]; exact ⟨hu, h⟩⟩
def Sound (P : Program) (s : Nat) (o : Oper) (ρ : Operand → Value) (ε : Env) (H : Heap) (out : Out) : Prop :=
  ∀ R w, Mem (tden ε H out.touch ++ R) w → Res P (After ε s H R out) ((execOp ρ o).run P w)
theorem sound_pure {P : Program} {s : Nat} {o : Oper} {ρ : Operand → Value} {ε : Env} {H : Heap} {v : SV} {rd : List Nm} {chk : List (CV × CV)} (h : ∀ R w, Mem (tden ε H rd ++ R) w → (execOp ρ o).run P w = .ok (.value (v.den ε)) w) : Sound P s o ρ ε H ⟨v, [], rd, chk⟩ := by
  intro R w hM
  rw [h R w hM]
  exact after_same rfl hM
def ltB (s : Nat) : Nat → Nat → Bool := fun t _ => Nat.blt t s
theorem ltB_iff {s t k : Nat} : ltB s t k = true ↔ t < s := by unfold ltB; rw [Nat.blt_eq]
theorem dens_eset {ε : Env} {s : Nat} {x : Nat → Rv} {l : List SV} (h : SV.oks (ltB s) l = true) : SV.dens (eset ε s x) l = SV.dens ε l :=
  SV.dens_congr (fun t k ht => eset_ne' (by have := ltB_iff.1 ht; omega)) l h
theorem scden_eset {ε : Env} {s : Nat} {x : Nat → Rv} {n : Nm} {c : SC} (hn : n.1 < s) (h : c.ok (ltB s) = true) : c.den (eset ε s x) n.1 n.2 = c.den ε n.1 n.2 :=
  SC.den_congr (fun t k ht => eset_ne' (by have := ltB_iff.1 ht; omega)) _ _ (ltB_iff.2 hn) c h
def still {α : Type} (P : Program) : Sem α → Option α
  | .pure a => some a
  | .program k => still P (k P)
  | .mark _ k => still P k
  | .choose q k => bif q.forced then still P (k 0) else none
  | _ => none
theorem still_run {α : Type} {P : Program} {x : Sem α} {a : α} (h : still P x = some a) (w : World) : x.run P w = .ok a w := by
  induction x with
  | pure b => cases h; rfl
  | program k ih => exact ih P h
  | mark m k ih => exact ih h
  | choose q k ih =>
    unfold still at h
    cases hq : q.forced with
    | false => rw [hq] at h; cases h
    | true =>
      rw [hq] at h
      show (if q.forced then (k 0).run P w else _) = _
      rw [if_pos hq]
      exact ih 0 h
  | _ => cases h
mutual
def plain : SV → Option Value
  | .val v => some v
  | .agg cs => match plains cs with
    | some vs => some (.agg vs.toArray)
    | none => none
  | .tup cs => match plains cs with
    | some vs => some (.tuple vs.toArray)
    | none => none
  | _ => none
def plains : List SV → Option (List Value)
  | [] => some []
  | v :: l => match plain v with
    | some u => match plains l with
      | some us => some (u :: us)
      | none => none
    | none => none
end
mutual
theorem plain_den (ε : Env) : ∀ (v : SV) (u : Value), plain v = some u → v.den ε = u
  | .val v, u, h => by simp only [plain, Option.some.injEq] at h; simp [SV.den, h]
  | .agg cs, u, h => by
    simp only [plain] at h
    split at h
    · rename_i vs hvs
      cases h
      simp [SV.den, plains_den ε cs vs hvs]
    · cases h
  | .tup cs, u, h => by
    simp only [plain] at h
    split at h
    · rename_i vs hvs
      cases h
      simp [SV.den, plains_den ε cs vs hvs]
    · cases h
  | .ptr s k off, u, h => by simp [plain] at h
  | .elt s k p b j, u, h => by simp [plain] at h
  | .raw s k, u, h => by simp [plain] at h
  | .map s k, u, h => by simp [plain] at h
  | .win s k _ _ _, u, h => by simp [plain] at h
  | .fn f a b, u, h => by simp [plain] at h
theorem plains_den (ε : Env) : ∀ (l : List SV) (us : List Value), plains l = some us → SV.dens ε l = us
  | [], us, h => by simp only [plains, Option.some.injEq] at h; simp [SV.dens, ← h]
  | v :: l, us, h => by
    simp only [plains] at h
    split at h
    · rename_i u hu
      split at h
      · rename_i us' hus
        cases h
        simp [SV.dens, plain_den ε v u hu, plains_den ε l us' hus]
      · cases h
    · cases h
end
def ofV1 : Value → SV
  | .agg cs => .agg (cs.toList.map .val)
  | v => .val v
def ofV : Value → SV
  | .tuple vs => .tup (vs.toList.map ofV1)
  | v => ofV1 v
theorem dens_val (ε : Env) (l : List Value) : SV.dens ε (l.map .val) = l := by
  rw [dens_map, List.map_map]
  conv => rhs; rw [← List.map_id l]
  exact List.map_congr_left fun v _ => by simp [SV.den]
theorem ofV1_den (ε : Env) (v : Value) : (ofV1 v).den ε = v := by
  cases v <;> simp [ofV1, SV.den, dens_val]
theorem ofV_den (ε : Env) (v : Value) : (ofV v).den ε = v := by
  cases v <;> try (simp [ofV, ofV1_den]; done)
  rename_i vs
  simp only [ofV, SV.den, dens_map, List.map_map]
  have : vs.toList.map (SV.den ε ∘ ofV1) = vs.toList := by
    conv => rhs; rw [← List.map_id vs.toList]
    exact List.map_congr_left fun v _ => ofV1_den ε v
  rw [this]
abbrev Ev1 := Operand → Option SV
def EvOK (ev : Ev1) (o : Oper) (ρ : Operand → Value) (ε : Env) (s : Nat) : Prop := ∀ x ∈ o.op.operands, ∀ v, ev x = some v → ρ x = v.den ε ∧ v.ok (ltB s) = true
def evPlain (ev : Ev1) (x : Operand) : Option Value := match ev x with
  | some v => plain v
  | none => none
def notSel : Op → Bool
  | .select _ _ => false
  | _ => true
def sStill (P : Program) (o : Oper) (ev : Ev1) : Option Out :=
  bif notSel o.op && o.op.operands.all (fun x => (evPlain ev x).isSome) then
    match still P (execOp (fun x => (evPlain ev x).getD undef) o) with
    | some (.value v) => some ⟨ofV v, [], [], []⟩
    | _ => none
  else none
theorem sStill_ok {P : Program} {s : Nat} {o : Oper} {ev : Ev1} {ρ : Operand → Value} {ε : Env} {H : Heap} {out : Out} (h : sStill P o ev = some out) (hev : EvOK ev o ρ ε s) : Sound P s o ρ ε H out := by
  unfold sStill at h
  cases hc : notSel o.op && o.op.operands.all (fun x => (evPlain ev x).isSome) with
  | false => rw [hc] at h; cases h
  | true =>
    rw [hc] at h
    rw [Bool.and_eq_true] at hc
    have hρ : execOp ρ o = execOp (fun x => (evPlain ev x).getD undef) o := by
      refine execOp_congr o (fun cs b e => by rw [e] at hc; cases hc.1) fun x hx => ?_
      have h1 := Array.all_eq_true_iff_forall_mem.1 hc.2 x hx
      obtain ⟨u, hu⟩ := Option.isSome_iff_exists.1 h1
      rw [hu]
      unfold evPlain at hu
      split at hu
      · rename_i v hv
        rw [(hev x hx v hv).1]
        exact plain_den ε v u hu
      · cases hu
    simp only [cond_true] at h
    split at h
    · rename_i v hv
      cases h
      refine sound_pure fun R w hM => ?_
      rw [hρ, still_run hv w, ofV_den]
    · cases h
def sMove (ev : Ev1) (x : Operand) : Option Out := match ev x with
  | some v => some ⟨v, [], [], []⟩
  | none => none
section
variable {P : Program} {s : Nat} {o : Oper} {ev : Ev1} {ρ : Operand → Value} {ε : Env} {H : Heap} {out : Out}
theorem sMove_ok {x : Operand} (ho : o.op = .move x ∨ o.op = .assign x) (h : sMove ev x = some out) (hev : EvOK ev o ρ ε s) : Sound P s o ρ ε H out := by
  unfold sMove at h
  split at h
  · rename_i v hv
    cases h
    refine sound_pure fun R w hM => ?_
    rcases ho with ho | ho
    · exact x_move ho (hev x (by rw [ho]; simp [Op.operands]) v hv).1
    · exact x_assign ho (hev x (by rw [ho]; simp [Op.operands]) v hv).1
  · cases h
def sPick (ev : Ev1) (c x y : Operand) : Option Out := match ev c with
  | some (.val (.bool true)) => sMove ev x
  | some (.val (.bool false)) => sMove ev y
  | _ => none
theorem sPick_ok {c x y : Operand} (ho : o.op = .pick c x y) (h : sPick ev c x y = some out) (hev : EvOK ev o ρ ε s) : Sound P s o ρ ε H out := by
  unfold sPick at h
  have e := fun z (hz : z = c ∨ z = x ∨ z = y) => hev z (by rw [ho]; simpa [Op.operands] using hz)
  split at h <;> try (cases h; done)
  · rename_i hc
    unfold sMove at h
    split at h
    · rename_i v hv
      cases h
      exact sound_pure fun R w hM => x_pick (b := true) ho ((e c (.inl rfl) _ hc).1.trans (by simp [SV.den])) (e x (.inr (.inl rfl)) v hv).1
    · cases h
  · rename_i hc
    unfold sMove at h
    split at h
    · rename_i v hv
      cases h
      exact sound_pure fun R w hM => x_pick (b := false) ho ((e c (.inl rfl) _ hc).1.trans (by simp [SV.den])) (e y (.inr (.inr rfl)) v hv).1
    · cases h
def sExtract (ev : Ev1) (x : Operand) (i : Nat) : Option Out := match ev x with
  | some (.tup vs) => match vs[i]? with
    | some v => some ⟨v, [], [], []⟩
    | none => none
  | _ => none
theorem sExtract_ok {x : Operand} {i : Nat} (ho : o.op = .extract x i) (h : sExtract ev x i = some out) (hev : EvOK ev o ρ ε s) : Sound P s o ρ ε H out := by
  unfold sExtract at h
  split at h <;> try (cases h; done)
  rename_i vs hx
  split at h
  · rename_i v hv
    cases h
    refine sound_pure fun R w hM => x_extract (vs := (SV.dens ε vs).toArray) ho ((hev x (by rw [ho]; simp [Op.operands]) _ hx).1.trans (by simp only [SV.den])) ?_
    rw [List.getElem?_toArray, dens_get, hv]; rfl
  · cases h
def sNil (ev : Ev1) (x : Operand) : Option Out := match ev x with
  | some (.ptr s k off) => some ⟨.ptr s k off, [], [], []⟩
  | some (.elt s k p b j) => some ⟨.elt s k p b j, [], [], []⟩
  | some (.fn (.func f) a b) => some ⟨.fn (.func f) a b, [], [], []⟩
  | some (.map s k) => some ⟨.map s k, [], [], []⟩
  | _ => none
theorem x_nilV {x : Operand} {v : Value} {w : World} (ho : o.op = .nilCheck x) (hx : ρ x = v) (hv : (∃ f a b, v = .func (.func f) a b) ∨ ∃ m, v = .map m) : (execOp ρ o).run P w = .ok (.value v) w := by
  unfold execOp; rw [ho]
  rcases hv with ⟨f, a, b, rfl⟩ | ⟨m, rfl⟩ <;> simp [hx]
theorem sNil_ok {x : Operand} (ho : o.op = .nilCheck x) (h : sNil ev x = some out) (hev : EvOK ev o ρ ε s) : Sound P s o ρ ε H out := by
  unfold sNil at h
  have e := hev x (by rw [ho]; simp [Op.operands])
  split at h <;> try (cases h; done)
  all_goals rename_i hx; cases h; refine sound_pure fun R w hM => ?_
  · have := x_nil (P := P) (w := w) ho ((e _ hx).1.trans (by simp only [SV.den]; rfl))
    simpa only [SV.den] using this
  · have := x_nil (P := P) (w := w) ho ((e _ hx).1.trans (by simp only [SV.den]; rfl))
    simpa only [SV.den] using this
  · exact x_nilV ho (e _ hx).1 (.inl ⟨_, _, _, by simp only [SV.den]; rfl⟩)
  · exact x_nilV ho (e _ hx).1 (.inr ⟨_, by simp only [SV.den]; rfl⟩)
def evs (ev : Ev1) : List Operand → Option (List SV)
  | [] => some []
  | x :: l => match ev x with
    | some v => match evs ev l with
      | some vs => some (v :: vs)
      | none => none
    | none => none
theorem evs_ok {p : Nat → Nat → Bool} : ∀ {l : List Operand} {vs : List SV}, evs ev l = some vs → (∀ x ∈ l, ∀ v, ev x = some v → ρ x = v.den ε ∧ v.ok p = true) → l.map ρ = SV.dens ε vs ∧ SV.oks p vs = true
  | [], vs, h, _ => by cases h; simp [SV.dens, SV.oks]
  | x :: l, vs, h, hx => by
    unfold evs at h
    split at h <;> try (cases h; done)
    rename_i v hv
    split at h <;> try (cases h; done)
    rename_i us hus
    cases h
    have h1 := hx x List.mem_cons_self v hv
    have h2 := evs_ok hus fun y hy => hx y (List.mem_cons_of_mem _ hy)
    exact ⟨by simp [SV.dens, h1.1, h2.1], by simp [SV.oks, h1.2, h2.2]⟩
def sFunc (ev : Ev1) (f : Fn) (a b : Array Operand) : Option Out := match evs ev a.toList, evs ev b.toList with
  | some x, some y => some ⟨.fn f x y, [], [], []⟩
  | _, _ => none
theorem sFunc_ok {f : Fn} {a b : Array Operand} (ho : o.op = .makeFunc f a b) (h : sFunc ev f a b = some out) (hev : EvOK ev o ρ ε s) : Sound P s o ρ ε H out := by
  unfold sFunc at h
  split at h <;> try (cases h; done)
  rename_i x y hx hy
  cases h
  have h1 := (evs_ok (p := ltB s) (ε := ε) (ρ := ρ) hx fun z hz => hev z (by rw [ho]; simp [Op.operands]; exact .inl (by simpa using hz))).1
  have h2 := (evs_ok (p := ltB s) (ε := ε) (ρ := ρ) hy fun z hz => hev z (by rw [ho]; simp [Op.operands]; exact .inr (by simpa using hz))).1
  refine sound_pure fun R w hM => ?_
  simp only [SV.den]
  refine x_makeFunc ho ?_ ?_
  · rw [← h1, ← Array.toList_map]
  · rw [← h2, ← Array.toList_map]
end
def SV.one : SV → Bool
  | .val v => v.oneCell'
  | .agg _ => false
  | .tup _ => false
  | .any _ _ => false
  | _ => true
def cellsOf : SV → List SV
  | .agg cs => cs
  | v => [v]
theorem one_den {ε : Env} {v : SV} (h : v.one = true) : (v.den ε).oneCell' = true := by
  cases v <;> simp only [SV.one, SV.den] at h ⊢ <;> try rfl
  all_goals first
    | exact h
    | (cases h; done)
    | (unfold asSl; split <;> rfl)
    | (unfold winV; split <;> rfl)
theorem cells_one {v : Value} (h : v.oneCell' = true) : v.cells = #[v] := by cases v <;> first | rfl | cases h
theorem cells_den {ε : Env} {v : SV} (h : (cellsOf v).all SV.one = true) : (v.den ε).cells = (SV.dens ε (cellsOf v)).toArray := by
  have key : v.one = true → (v.den ε).cells = #[v.den ε] := fun h => cells_one (one_den h)
  cases v with
  | agg cs => simp [SV.den, cellsOf, Value.cells]
  | _ =>
    simp only [cellsOf, List.all_cons, List.all_nil, Bool.and_true] at h
    rw [key h]; simp [cellsOf, SV.dens]
theorem dens_one {ε : Env} {l : List SV} (h : l.all SV.one = true) : (SV.dens ε l).all (·.oneCell') = true := by
  rw [dens_map, List.all_map]
  exact List.all_eq_true.2 fun v hv => one_den (List.all_eq_true.1 h v hv)
theorem oks_cellsOf {p : Nat → Nat → Bool} {v : SV} (h : v.ok p = true) : SV.oks p (cellsOf v) = true := by
  cases v <;> simp only [cellsOf, SV.ok, SV.oks, Bool.and_true] at h ⊢ <;> exact h
def aggN (P : Program) (t : TypeId) : Option Nat := match P.info? t with
  | some i => bif aggT P t i.size then some i.size else none
  | none => none
def partAt (P : Program) (t : TypeId) (cs : List SV) (j : Nat) : Option SV :=
  bif plainT P t then cs[j]?
  else match aggN P t with
    | some n => bif Nat.beq ((cs.drop j).take n).length n then some (.agg ((cs.drop j).take n)) else none
    | none => none
theorem aggN_T {P : Program} {t n : Nat} (h : aggN P t = some n) : aggT P t n = true := by
  unfold aggN at h
  split at h
  · rename_i i hi
    cases hb : aggT P t i.size with
    | true => rw [hb] at h; cases h; exact hb
    | false => rw [hb] at h; cases h
  · cases h
section
variable {P : Program} {s : Nat} {o : Oper} {ev : Ev1} {ρ : Operand → Value} {ε : Env} {H : Heap} {out : Out} {w : World}
theorem partAt_load {t j B O : Nat} {x : Operand} {cs : List SV} {v : SV} (h : partAt P t cs j = some v) (hc : ∀ (i : Nat) u, cs[i]? = some u → w.cell? ⟨B, O + i, none⟩ = some (u.den ε)) (ho : o.op = .load t x) (hx : ρ x = .pointer (some ⟨B, O + j, none⟩)) :
    (execOp ρ o).run P w = .ok (.value (v.den ε)) w := by
  unfold partAt at h
  cases hb : plainT P t with
  | true => rw [hb] at h; exact x_load ho hx hb (hc j v h)
  | false =>
    rw [hb] at h
    simp only [cond_false] at h
    split at h <;> try (cases h; done)
    rename_i n hn
    cases hl : Nat.beq ((cs.drop j).take n).length n with
    | false => rw [hl] at h; cases h
    | true =>
      rw [hl] at h; cases h
      have hl := Nat.eq_of_beq_eq_true hl
      simp only [SV.den]
      refine x_loads ho hx (aggN_T hn) (load_at (by rw [dens_length]; exact hl) fun i u hi => ?_)
      rw [dens_get] at hi
      obtain ⟨y, hy, rfl⟩ := Option.map_eq_some_iff.1 hi
      have hin : i < n := by rw [← hl]; exact (List.getElem?_eq_some_iff.1 hy).1
      rw [List.getElem?_take_of_lt hin, List.getElem?_drop] at hy
      rw [Nat.add_assoc]
      exact hc _ y hy
theorem adOf_asSl (v : Value) : adOf (asSl v) = adOf v := by cases v <;> rfl
theorem row_at {E : TypeId} {size n i : Nat} {v u : Value} {xs : List Value} (h : RowF E size w v n xs) (hi : xs[i]? = some u) : w.cell? ⟨(adOf v).block, (adOf v).off + i, none⟩ = some u := by
  obtain ⟨a, c, rfl, hr, -⟩ := h.row
  obtain ⟨hl, hu⟩ := List.getElem?_eq_some_iff.1 hi
  obtain ⟨b, off, rfl, hc⟩ := hr i hl
  rw [List.getD_eq_getElem?_getD, hi] at hc
  exact hc
def findWin : List (Nat × Nat × List SV) → Nat → Option (Nat × List SV)
  | [], _ => none
  | (q, b, cs) :: l, p => bif Nat.beq q p then some (b, cs) else findWin l p
theorem findWin_mem {p : Nat} {y : Nat × List SV} : ∀ {l : List (Nat × Nat × List SV)}, findWin l p = some y → ∃ q, (q, y.1, y.2) ∈ l
  | [], h => by cases h
  | (q, b, cs) :: l, h => by
    unfold findWin at h
    cases hb : Nat.beq q p with
    | true => rw [hb] at h; cases h; exact ⟨q, List.mem_cons_self⟩
    | false => rw [hb] at h; obtain ⟨r, hr⟩ := findWin_mem h; exact ⟨r, List.mem_cons_of_mem _ hr⟩
def winAt (p b : Nat) (xs : SL) (ws : List (Nat × Nat × List SV)) : Option (List SV × Nat) :=
  match p with
  | 0 => match xs with
    | .deep l => some (l, 0)
    | .shal l => some (l.map SV.val, 0)
  | q => match findWin ws q with
    | some (b', cs) => some (cs, b')
    | none => none
def sLoad (P : Program) (H : Heap) (t : TypeId) (v : SV) : Option Out :=
  match v with
  | .ptr s k off => match hget H (s, k) with
    | .box _ cs => match partAt P t cs off with
      | some u => some ⟨u, [], [(s, k)], []⟩
      | none => none
    | _ => none
  | .elt s k p b j => match hget H (s, k) with
    | .row E size n xs ws => match winAt p b xs ws with
      | some (cs, b') => match partAt P t cs j with
        | some u => some ⟨u, [], [(s, k)], [(.nat b, .nat b')]⟩
        | none => none
      | none => none
    | _ => none
  | _ => none
theorem row_den {s k E size n : Nat} {xs : SL} {ws : List (Nat × Nat × List SV)} {R : List Chunk} (h : Mem ((SC.row E size n xs ws).den ε s k :: R) w) :
    RowF E size w (asSl (ε s k).2) n (xs.den ε) ∧ ∀ y ∈ ws, winOK (xs.den ε) y.2.1 (SV.dens ε y.2.2) := by
  cases ws with
  | nil => exact ⟨h.owns 0 rfl, fun y hy => by cases hy⟩
  | cons y ws => exact ⟨h.of (c := andC _ _) 0 rfl (fun S hS => hS.1.2), h.of (c := andC _ _) 0 rfl (fun S hS => hS.2)⟩
theorem win_cells {s k E size n p b b' : Nat} {xs : SL} {cs : List SV} {ws : List (Nat × Nat × List SV)} {R : List Chunk} (h : Mem ((SC.row E size n xs ws).den ε s k :: R) w) (hw : winAt p b xs ws = some (cs, b')) (i : Nat) (u : SV) (hi : cs[i]? = some u) :
    w.cell? ⟨(adOf (ε s k).2).block, (adOf (ε s k).2).off + b' + i, none⟩ = some (u.den ε) := by
  obtain ⟨h1, h2⟩ := row_den h
  have hu : (SV.dens ε cs)[i]? = some (u.den ε) := by rw [dens_get, hi]; rfl
  have hx : (xs.den ε)[b' + i]? = some (u.den ε) := by
    unfold winAt at hw
    split at hw
    · split at hw
      · cases hw; rw [Nat.zero_add]; exact hu
      · cases hw
        rw [Nat.zero_add]
        rw [dens_val] at hu
        exact hu
    · split at hw <;> try (cases hw; done)
      rename_i b2 cs2 hf
      cases hw
      obtain ⟨q', hq⟩ := findWin_mem hf
      have h3 : winOK (xs.den ε) b' (SV.dens ε cs) := h2 _ hq
      unfold winOK at h3
      have h4 : (((xs.den ε).drop b').take (SV.dens ε cs).length)[i]? = some (u.den ε) := by rw [h3]; exact hu
      rw [List.getElem?_take_of_lt ((List.getElem?_eq_some_iff.1 hu).1), List.getElem?_drop] at h4
      exact h4
  have := row_at h1 hx
  rw [adOf_asSl, ← Nat.add_assoc] at this
  exact this
theorem sLoad_ok {t : TypeId} {x : Operand} {v : SV} (ho : o.op = .load t x) (hx : ρ x = v.den ε) (h : sLoad P H t v = some out) (hk : ChkOK out.chk) : Sound P s o ρ ε H out := by
  unfold sLoad at h
  split at h
  · rename_i s' k off
    split at h <;> try (cases h; done)
    rename_i q cs hg
    split at h <;> try (cases h; done)
    rename_i u hu
    cases h
    refine sound_pure fun R w hM => ?_
    simp only [tden, List.map_cons, List.map_nil, hg, SC.den, List.cons_append, List.nil_append] at hM
    refine partAt_load (B := (ε s' k).1) (O := 0) hu (fun i u hi => ?_) ho (hx.trans (by simp [SV.den]))
    rw [Nat.zero_add]
    refine (hM.box 0 rfl).cell i ?_
    rw [List.getElem?_toArray, dens_get, hi]; rfl
  · rename_i s' k p b j
    split at h <;> try (cases h; done)
    rename_i E size n xs ws hg
    split at h <;> try (cases h; done)
    rename_i cs b' hw
    split at h <;> try (cases h; done)
    rename_i u hu
    cases h
    have hb : b = b' := by have := hk _ List.mem_cons_self; simpa using this
    subst hb
    refine sound_pure fun R w hM => ?_
    simp only [tden, List.map_cons, List.map_nil, hg, List.cons_append, List.nil_append] at hM
    exact partAt_load hu (win_cells hM hw) ho (hx.trans (by simp [SV.den, Nat.add_assoc]))
  · cases h
def overS (cs : List SV) (off : Nat) (nc : List SV) : List SV := cs.take off ++ nc ++ cs.drop (off + nc.length)
theorem overS_den (ε : Env) (cs : List SV) (off : Nat) (nc : List SV) : over (SV.dens ε cs).toArray off (SV.dens ε nc) = (SV.dens ε (overS cs off nc)).toArray := by
  unfold over overS
  simp [dens_map]
def sizeIs (P : Program) (t n : Nat) : Bool := match P.info? t with
  | some i => Nat.beq i.size n
  | none => false
theorem sizeIs_ok {t n : Nat} (h : sizeIs P t n = true) : (P.info? t).map (·.size) = some n := by
  unfold sizeIs at h
  split at h
  · rename_i i hi; rw [hi, Option.map_some, Nat.eq_of_beq_eq_true h]
  · cases h
def overL (xs : SL) (b : Nat) (cs : List SV) : Option SL := match xs with
  | .deep l => some (.deep (overS l b cs))
  | .shal l => match plains cs with
    | some vs => some (.shal (over l.toArray b vs).toList)
    | none => none
theorem overL_den {xs xs' : SL} {b : Nat} {cs : List SV} (h : overL xs b cs = some xs') (ε : Env) : xs'.den ε = (over (xs.den ε).toArray b (SV.dens ε cs)).toList := by
  unfold overL at h
  split at h
  · cases h
    show SV.dens ε _ = _
    rw [show (SL.deep _).den ε = SV.dens ε _ from rfl, overS_den]
  · split at h <;> try (cases h; done)
    rename_i vs hvs
    cases h
    rw [plains_den ε cs vs hvs]; rfl
def sStore (P : Program) (H : Heap) (t : TypeId) (v : SV) (u : SV) : Option Out :=
  bif (cellsOf u).all SV.one && sizeIs P t (cellsOf u).length then
    match v with
    | .ptr s k off => match hget H (s, k) with
      | .box q cs => bif Nat.ble (off + (cellsOf u).length) cs.length then some ⟨.val undef, [((s, k), .box q (overS cs off (cellsOf u)))], [], []⟩ else none
      | _ => none
    | .elt s k p b j => match hget H (s, k) with
      | .row E size n xs ws => match p with
        | 0 => match xs with
          | .deep xs => bif Nat.ble (j + (cellsOf u).length) xs.length && Nat.blt 0 xs.length then some ⟨.val undef, [((s, k), .row E size n (.deep (overS xs j (cellsOf u))) [])], [], [(.nat b, .nat 0)]⟩ else none
          | .shal _ => none
        | q => match findWin ws q with
          | some (b', cs) => bif Nat.ble (j + (cellsOf u).length) cs.length && Nat.blt 0 cs.length then (match overL xs b' (overS cs j (cellsOf u)) with
              | some xs' => some ⟨.val undef, [((s, k), .row E size n xs' [(q, b', overS cs j (cellsOf u))])], [], [(.nat b, .nat b')]⟩
              | none => none) else none
          | none => none
      | _ => none
    | _ => none
  else none
theorem over_over {xs cs nc : List Value} {b j : Nat} (hw : winOK xs b cs) (hl : b + cs.length ≤ xs.length) (hj : j + nc.length ≤ cs.length) :
    (over xs.toArray (b + j) nc).toList = (over xs.toArray b (over cs.toArray j nc).toList).toList := by
  unfold winOK at hw
  unfold over
  simp only [List.append_assoc]
  have e1 : xs.take (b + j) = xs.take b ++ cs.take j := by
    rw [List.take_add]
    congr 1
    rw [← hw, List.take_take, Nat.min_eq_left (by omega)]
  have e2 : xs.drop (b + j + nc.length) = cs.drop (j + nc.length) ++ xs.drop (b + cs.length) := by
    have e3 := (List.take_append_drop (cs.length - (j + nc.length)) (xs.drop (b + j + nc.length))).symm
    rw [e3]
    congr 1
    · have e4 : cs.drop (j + nc.length) = ((xs.drop b).take cs.length).drop (j + nc.length) := by rw [hw]
      rw [e4, List.drop_take, List.drop_drop, Nat.add_assoc]
    · rw [List.drop_drop]; congr 1; omega
  rw [e1, e2]
  simp [List.length_take, List.length_drop]
  congr 5
  omega
theorem winOK_self {xs cs : List Value} {b : Nat} (hl : b + cs.length ≤ xs.length) : winOK (over xs.toArray b cs).toList b cs := by
  unfold winOK over
  simp only [List.append_assoc]
  rw [List.drop_append_of_le_length (by rw [List.length_take]; omega)]
  have : (xs.take b).drop b = [] := List.drop_eq_nil_of_le (by rw [List.length_take]; omega)
  rw [this, List.nil_append, List.take_left]
theorem winOK_len {xs cs : List Value} {b : Nat} (h : winOK xs b cs) (h0 : 0 < cs.length) : b + cs.length ≤ xs.length := by
  unfold winOK at h
  have := congrArg List.length h
  rw [List.length_take, List.length_drop] at this
  omega
attribute [-go_sem] Value.cells in
theorem Mem.storeRow {cs : List Chunk} {w : World} (h : Mem cs w) (i : Nat) {E size n : Nat} {v : Value} {xs : List Value} (hi : cs[i]? = some (rowC E size v n xs)) (t : TypeId) (off : Nat) (u : Value) (cells : List Value) (hv : u.cells = cells.toArray)
    (ht : (P.info? t).map (·.size) = some cells.length) (hl : off + cells.length ≤ xs.length) (h1 : cells.all (·.oneCell') = true) (h0 : 0 < xs.length) :
    ∃ w', Sem.run P (Instr.storeAt t (.pointer (some ⟨(adOf v).block, (adOf v).off + off, none⟩)) u) w = .ok () w' ∧ Mem (cs.set i (rowC E size v n (over xs.toArray off cells).toList)) w' := by
  have hb := h.owns i hi
  obtain ⟨hlen, ⟨h1', h2⟩ | ⟨g, cap, cur, rfl, hbx, hnc, hcm, hcs, htake⟩⟩ := hb
  · subst h2; simp at hlen; rw [hlen] at h0; simp at h0
  have hxl : xs.length ≤ cur.size := by rw [hlen, hcs]; exact Nat.mul_le_mul_right _ hnc
  obtain ⟨w', h4, h2, h3⟩ := run_storeCells P cells off 0 cur w hbx (by omega) h1
  rw [Nat.add_zero] at h3
  have hxc : xs = cur.toList.take xs.length := by rw [hlen]; exact htake.symm
  refine ⟨w', ?_, h.step i hi (fun S hS hlt => ⟨h2.mono (fun k _ e => by rw [e]; exact hS.1 g rfl), fun k => k = g, ⟨fun g' hg => by cases hg; rfl, ?_, .inr ⟨g, cap, _, rfl, h3, hnc, hcm, ?_, ?_⟩⟩, fun k hk => ⟨.inl (by rw [hk]; exact hS.1 g rfl), by rw [hk]; exact h3.lt⟩⟩)⟩
  · obtain ⟨i0, hi0, hs0⟩ := Option.map_eq_some_iff.1 ht
    have hv2 : u.cells.size = cells.length := by rw [hv]; simp
    have hv3 : u.cells.toList = cells := by rw [hv]
    simp [Instr.storeAt, Instr.sureAddr, storeVar, sizeOf, typeInfo, go_sem, hi0, hs0, adOf, hv2, hv3, h4]
  · rw [← hlen]; unfold over; simp [List.length_take]; omega
  · rw [← hcs]; unfold over; simp [List.length_take]; omega
  · rw [← hlen]
    unfold over
    simp only [List.append_assoc]
    rw [List.take_append, List.take_append]
    simp only [List.length_take, Array.length_toList]
    have e1 : min off cur.size = off := by omega
    have e2 : (cur.toList.take off).take xs.length = xs.take off := by
      have e5 : xs.take off = (cur.toList.take xs.length).take off := by rw [← hxc]
      rw [e5, List.take_take, List.take_take, Nat.min_comm]
    have e3 : cells.take (xs.length - off) = cells := List.take_of_length_le (by omega)
    rw [e1, e2, e3]
    congr 2
    have : xs.drop (off + cells.length) = (cur.toList.take xs.length).drop (off + cells.length) := by rw [← hxc]
    rw [this, List.drop_take]
    congr 1; omega
end
end Go.Sx
end
