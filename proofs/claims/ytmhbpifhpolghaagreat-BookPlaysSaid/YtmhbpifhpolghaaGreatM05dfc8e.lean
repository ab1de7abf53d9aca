/- Vcc, Ops, Vcm, Eqs. -/
import Derived.Test.YtmhbpifhpolghaaGreatMem
import Derived.Deep.LoopGhost
import Derived.IntWalk
import Derived.Laws.StructEq
set_option maxRecDepth 100000
set_option linter.unusedVariables false
set_option linter.unusedSimpArgs false
set_option linter.unusedSectionVars false
section
namespace Go.Vc
open Go.RowKit Go.Tk Go.Lib Go.Shelf
section
variable {P : Program} {Q : Exit → Act → World → Prop} {a : Act} {w : World} {x y c : Code}
theorem enter {f : FuncId} {fn : Func} {args : Array Value} {R : Ending → World → Prop} {n : Nat} (hf : P.funcs[f]? = some fn) (hb : fn.body = some c) (hn : fn.ntmps = n) (ha : args.size ≤ n)
    (h : ∀ a : Act, a.tmps.size = n → a.defers = [] → (∀ (i : Nat) v, args[i]? = some v → a.tmps[i]? = some v) → c.wp P (bodyPost P fn R) a w) : Calls P f args w R := by
  refine calls_of_wp hf hb (h _ ?_ rfl fun i v hv => ?_)
  · simp [hn]; omega
  · have := (Array.getElem?_eq_some_iff.1 hv).1
    simp only [Array.getElem?_append, this, if_true]; exact hv
theorem loopx {X : Type} (I : X → Act → World → Prop) (μ : X → Nat) (x0 : X) (h0 : I x0 a w) (round : ∀ x a w, I x a w → c.wp P (Exit.then (fun a' w' => ∃ x', μ x' < μ x ∧ I x' a' w') Q) a w) : (Code.loop c).wp P Q a w :=
  wp_loop_ghost (fun n a w => ∃ x, μ x = n ∧ I x a w) (μ x0) ⟨x0, rfl, h0⟩ fun n a w ⟨x, hn, hI⟩ => wp_mono (round x a w hI) fun e a w q => by
    cases e <;> first | exact q | (obtain ⟨x', h1, h2⟩ := q; exact ⟨μ x', by omega, x', rfl, h2⟩)
end
section
variable {P : Program} {R : Value → World → Prop} {r : Result Next} {w w' : World} {v : Value}
theorem res_ok (hr : r = .ok (.value v) w') (h : R v w') : Res P R r := by subst hr; exact h
theorem res_st (hr : r = .ok .skip w') (h : R undef w') : Res P R r := by subst hr; exact h
theorem res_in {f : FuncId} {args : Array Value} (hr : r = .ok (.enter f args) w') (h : Calls P f args w' fun e w'' => ∃ u, e = .returned u ∧ R u w'') : Res P R r := by subst hr; exact h
end
theorem addr_add (b off n : Nat) : (Addr.mk b off none).add n = ⟨b, off + n, none⟩ := by
  unfold Addr.add
  split
  · rename_i e; subst e; rfl
  · rfl
def plainT (P : Program) (t : TypeId) : Bool := match P.underlying t with
  | some (.struct _) => false
  | some (.array _ _) => false
  | none => false
  | _ => true
def aggT (P : Program) (t : TypeId) (n : Nat) : Bool := (match P.underlying t with
  | some (.struct _) => true
  | some (.array _ _) => true
  | _ => false) && (match P.info? t with
  | some i => i.size == n
  | none => false)
def fieldT (P : Program) (s i off : Nat) : Bool := match P.underlying s with
  | some (.struct fs) => (match fs[i]? with
    | some f => f.offset == off && (match P.info? f.type with
      | some i => i.size != 0
      | none => false)
    | none => false)
  | _ => false
def sliceT (P : Program) (t n : Nat) : Bool := match P.underlying t with
  | some (.slice e) => (match P.info? e with
    | some i => i.size == n
    | none => false)
  | _ => false
def entersB (P : Program) (f : FuncId) : Bool := match P.funcs[f]? with
  | some fn => !(fn.name == "runtime.NumGoroutine") && !fn.body.isNone
  | none => false
theorem wr_i64 {n : Int} (h : -9223372036854775808 ≤ n ∧ n ≤ 9223372036854775807) : IntKind.i64.wrap n = n := IntWalk.i64_in _ h
theorem wr_u64 {n : Int} (h : 0 ≤ n ∧ n ≤ 18446744073709551615) : IntKind.u64.wrap n = n := by rw [IntKind.wrap_u64]; omega
theorem wr_u8 {n : Int} (h : 0 ≤ n ∧ n ≤ 255) : IntKind.u8.wrap n = n := by rw [IntKind.wrap_u8]; omega
theorem run_und {P : Program} {t : TypeId} {d : TypeDesc} {w : World} (h : P.underlying t = some d) : Sem.run P (underlying t) w = .ok d w := by
  unfold underlying
  simp [go_sem, h]
section
variable {P : Program} {w : World} {ρ : Operand → Value} {o : Oper}
theorem x_move {x : Operand} {v : Value} (ho : o.op = .move x) (hx : ρ x = v) : (execOp ρ o).run P w = .ok (.value v) w := by
  unfold execOp; rw [ho]; simp [hx]
theorem x_assign {x : Operand} {v : Value} (ho : o.op = .assign x) (hx : ρ x = v) : (execOp ρ o).run P w = .ok (.value v) w := by
  unfold execOp; rw [ho]; simp [hx]
theorem x_pick {c x y : Operand} {b : Bool} {v : Value} (ho : o.op = .pick c x y) (hc : ρ c = .bool b) (hv : (if b then ρ x else ρ y) = v) : (execOp ρ o).run P w = .ok (.value v) w := by
  unfold execOp; rw [ho]; subst hv; simp [hc, asBool]
theorem x_nil {x : Operand} {a : Addr} (ho : o.op = .nilCheck x) (hx : ρ x = .pointer (some a)) : (execOp ρ o).run P w = .ok (.value (.pointer (some a))) w := by
  unfold execOp; rw [ho]; simp [hx]
theorem x_fieldAddr {s i off : Nat} {x : Operand} {b p q : Nat} (ho : o.op = .fieldAddr s x i) (hx : ρ x = .pointer (some ⟨b, p, none⟩)) (hT : fieldT P s i off = true) (hq : p + off = q) : (execOp ρ o).run P w = .ok (.value (.pointer (some ⟨b, q, none⟩))) w := by
  unfold fieldT at hT
  split at hT
  · rename_i fs hu
    split at hT
    · rename_i f hf
      rw [Bool.and_eq_true] at hT
      obtain ⟨h1, h2⟩ := hT
      split at h2
      · rename_i i0 hi
        have h1 : f.offset = off := by simpa using h1
        have h2 : i0.size ≠ 0 := by simpa using h2
        unfold execOp; rw [ho]
        simp [hx, Instr.fieldAt, Instr.sureAddr, fieldPlace, sizeOf, typeInfo, go_sem, run_und hu, hf, hi, h2, h1, addr_add, hq, Result.andThen]
      · cases h2
    · cases hT
  · cases hT
theorem x_load {t : TypeId} {x : Operand} {b off : Nat} {v : Value} (ho : o.op = .load t x) (hx : ρ x = .pointer (some ⟨b, off, none⟩)) (hT : plainT P t = true) (hc : w.cell? ⟨b, off, none⟩ = some v) : (execOp ρ o).run P w = .ok (.value v) w := by
  unfold plainT at hT
  unfold execOp; rw [ho]
  cases hd : P.underlying t with
  | none => simp [hd] at hT
  | some d => cases d <;> simp [hd] at hT <;> simp [hx, Instr.loadAt, Instr.sureAddr, loadVar, isAgg, go_sem, run_und hd, hc, Result.andThen]
theorem x_loads {t n : Nat} {x : Operand} {b off : Nat} {cs : Array Value} (ho : o.op = .load t x) (hx : ρ x = .pointer (some ⟨b, off, none⟩)) (hT : aggT P t n = true) (hc : Sem.run P (loadCellsFrom ⟨b, off, none⟩ 0 n #[]) w = .ok cs w) : (execOp ρ o).run P w = .ok (.value (.agg cs)) w := by
  unfold aggT at hT
  rw [Bool.and_eq_true] at hT
  obtain ⟨h1, h2⟩ := hT
  split at h2
  · rename_i i0 hi
    have h2 : i0.size = n := by simpa using h2
    unfold execOp; rw [ho]
    cases hd : P.underlying t with
    | none => simp [hd] at h1
    | some d => cases d <;> simp [hd] at h1 <;> simp [Instr.loadAt, Instr.sureAddr, loadVar, isAgg, go_sem, loadCells, sizeOf, typeInfo, hx, run_und hd, hi, h2, hc, Result.andThen]
  · cases h2
theorem x_extract {x : Operand} {i : Nat} {vs : Array Value} {v : Value} (ho : o.op = .extract x i) (hx : ρ x = .tuple vs) (hv : vs[i]? = some v) : (execOp ρ o).run P w = .ok (.value v) w := by
  unfold execOp; rw [ho]; simp [hx, Instr.extract, hv]
theorem x_call {c : Call} {g : Operand} {f : FuncId} {first cap args : Array Value} (ho : o.op = .call c) (hc : c.callee = .value g) (hg : ρ g = .func (.func f) first cap) (hargs : first ++ c.args.map ρ ++ cap = args) (he : entersB P f = true) : (execOp ρ o).run P w = .ok (.enter f args) w := by
  unfold entersB at he
  split at he
  · rename_i fn hf
    rw [Bool.and_eq_true] at he
    have h1 : (fn.name == "runtime.NumGoroutine") = false := by simpa using he.1
    have h2 : fn.body.isNone = false := by simpa using he.2
    unfold execOp; rw [ho]
    subst hargs
    simp only [resolve, hc, hg, Deferred.ofValue, invoke, callFunc]
    have h1' : ¬ fn.name = "runtime.NumGoroutine" := by simpa using h1
    have h2' : ¬ fn.body = none := fun e => by rw [e] at h2; cases h2
    simp [go_sem, hf, h1', h2', Result.andThen, Array.append_assoc]
  · cases he
theorem x_append {c : Call} {x y : Operand} {t t' : TypeId} {v u r : Value} {w' : World} (ho : o.op = .call c) (hc : c.callee = .builtin .append) (ha : c.args = #[x, y]) (ht : c.argTypes = #[t, t']) (hx : ρ x = v) (hy : ρ y = u) (hr : Sem.run P (Builtin.append_ #[t, t'] o.type #[v, u]) w = .ok r w') : (execOp ρ o).run P w = .ok (.value r) w' := by
  unfold execOp; rw [ho]
  simp only [resolve, hc, ha, ht]
  simp [invoke, builtin, hx, hy, hr, Result.andThen]
theorem x_makeFunc {fn : Fn} {first cap : Array Operand} {vs us : Array Value} (ho : o.op = .makeFunc fn first cap) (h1 : first.map ρ = vs) (h2 : cap.map ρ = us) : (execOp ρ o).run P w = .ok (.value (.func fn vs us)) w := by
  unfold execOp; rw [ho]; simp [h1, h2, Instr.makeFunc]
theorem x_box {t : TypeId} {x : Operand} {v : Value} (ho : o.op = .box t x) (hx : ρ x = v) : (execOp ρ o).run P w = .ok (.value (.pointer (some ⟨w.heap.size, 0, none⟩))) (w.alloc (.cells v.cells t)) := by
  unfold execOp; rw [ho]; simp [hx, Instr.box, newVar, newRow, go_sem]
theorem x_alloc {t : TypeId} {z : Value} (ho : o.op = .alloc t) (hz : (P.info? t).bind (·.zero) = some z) : (execOp ρ o).run P w = .ok (.value (.pointer (some ⟨w.heap.size, 0, none⟩))) (w.alloc (.cells z.cells t)) := by
  obtain ⟨i0, hi, hz⟩ := Option.bind_eq_some_iff.1 hz
  unfold execOp; rw [ho]; simp [Instr.alloc, newVar, newRow, zeroValue, typeInfo, go_sem, hi, hz]
theorem x_store {t : TypeId} {x y : Operand} {w' : World} {p v : Value} (ho : o.op = .store t x y) (hx : ρ x = p) (hy : ρ y = v) (hr : Sem.run P (Instr.storeAt t p v) w = .ok () w') : (execOp ρ o).run P w = .ok .skip w' := by
  unfold execOp; rw [ho]; simp [hx, hy, hr]
end
end Go.Vc
end
section
namespace Go.Vc
open Go.RowKit Go.Tk Go.Lib
def setL (L : Nat → Bool) (i : Nat) : Nat → Bool := fun j => bif Nat.beq j i then true else L j
def GoesM (V : Nat → (Nat → Rv) → Value) (Ω : (Nat → Bool) → (Nat → Rv) → World → Prop) (i : Nat) (L : Nat → Bool) (e : Nat → Rv) (u : Value) (w' : World) : Prop := ∃ x, u = V i (upd e i x) ∧ Ω (setL L i) (upd e i x) w'
def runsM (P : Program) (l0 : List Oper) (old : Nat → Nat → Bool) (a0 : Act) (V : Nat → (Nat → Rv) → Value) (Ω : (Nat → Bool) → (Nat → Rv) → World → Prop) (anc : List (List Nat)) : List Oper → Nat → Prop
  | [], _ => True
  | o :: l, i => (∀ L e w ρ, L i = false → (∀ x, x ∈ anc.getD i [] → L x = true) → (∀ x, x < l0.length → i ∈ anc.getD x [] → L x = false) → (∀ x, x < l0.length → L x = true → ∀ y, y ∈ anc.getD x [] → L y = true) → Ω L e w → Ev l0 old i (fun j => V j e) a0 ρ →
      if want (fun j => V j e) o.guard = true then Res P (GoesM V Ω i L e) ((execOp ρ o).run P w) else GoesM V Ω i L e undef w) ∧ runsM P l0 old a0 V Ω anc l (i + 1)
theorem runsM_get {P : Program} {l0 : List Oper} {old : Nat → Nat → Bool} {a0 : Act} {V : Nat → (Nat → Rv) → Value} {Ω : (Nat → Bool) → (Nat → Rv) → World → Prop} {anc : List (List Nat)} : ∀ {l : List Oper} {i : Nat}, runsM P l0 old a0 V Ω anc l i → ∀ j o, l[j]? = some o →
    ∀ L e w ρ, L (i + j) = false → (∀ x, x ∈ anc.getD (i + j) [] → L x = true) → (∀ x, x < l0.length → (i + j) ∈ anc.getD x [] → L x = false) → (∀ x, x < l0.length → L x = true → ∀ y, y ∈ anc.getD x [] → L y = true) → Ω L e w → Ev l0 old (i + j) (fun j => V j e) a0 ρ →
      if want (fun j => V j e) o.guard = true then Res P (GoesM V Ω (i + j) L e) ((execOp ρ o).run P w) else GoesM V Ω (i + j) L e undef w
  | [], _, _, j, o, h => by simp at h
  | o :: l, i, h, 0, o', h1 => by
    simp only [List.getElem?_cons_zero, Option.some.injEq] at h1
    subst h1
    exact h.1
  | o :: l, i, h, j + 1, o', h1 => by
    rw [show i + (j + 1) = i + 1 + j from by omega]
    exact runsM_get h.2 j o' (by simpa using h1)
def depsM (V : Nat → (Nat → Rv) → Value) (anc : List (List Nat)) : Nat → Nat → Prop
  | 0, _ => True
  | n + 1, i => (∀ e e' : Nat → Rv, (∀ r, (r = i ∨ r ∈ anc.getD i []) → e r = e' r) → V i e = V i e') ∧ depsM V anc n (i + 1)
theorem depsM_get {V : Nat → (Nat → Rv) → Value} {anc : List (List Nat)} : ∀ {n i : Nat}, depsM V anc n i → ∀ j, j < n → ∀ e e' : Nat → Rv, (∀ r, (r = i + j ∨ r ∈ anc.getD (i + j) []) → e r = e' r) → V (i + j) e = V (i + j) e'
  | 0, _, _, j, hj => by omega
  | n + 1, i, h, 0, _ => h.1
  | n + 1, i, h, j + 1, hj => by
    rw [show i + (j + 1) = i + 1 + j from by omega]
    exact depsM_get h.2 j (by omega)
structure EnvM (ops : Array Oper) (V : Nat → (Nat → Rv) → Value) (Ω : (Nat → Bool) → (Nat → Rv) → World → Prop) (a0 : Act) (listed : Array Bool) (a : Act) (w : World) (e : Nat → Rv) : Prop where
  defers : a.defers = a0.defers
  size : a.tmps.size = a0.tmps.size
  got : ∀ (i : Nat) (o : Oper) (d : Nat), ops[i]? = some o → o.dst = some d → listed.getD i false = true → a.tmps[d]? = some (V i e)
  old : ∀ (d : Nat), (∀ (i : Nat) (o : Oper), ops[i]? = some o → listed.getD i false = true → o.dst ≠ some d) → a.tmps[d]? = a0.tmps[d]?
  closed : ∀ (i : Nat) (o : Oper), ops[i]? = some o → listed.getD i false = true → ∀ e ∈ o.after, Region.binds .any e = true → listed.getD e.on false = true
  world : Ω (fun j => listed.getD j false) e w
end Go.Vc
end
section
namespace Go.Vc
open Go.RowKit Go.Tk Go.Lib Go.Shelf
section
variable {P : Program} {w : World} {ρ : Operand → Value} {o : Oper}
theorem x_eqA {t t' : TypeId} {x y : Operand} {xs ys : Array Value} {b : Bool} (ho : o.op = .binOp .eql t x y t') (hx : ρ x = .agg xs) (hy : ρ y = .agg ys) (hg : P.eqGuardType P.depth t = false) (hq : (Op.equalIn 10000 t (.agg xs) (.agg ys)).run P w = .ok b w) : (execOp ρ o).run P w = .ok (.value (.bool b)) w := by
  have h1 := fun (op : BinOp) (x y : Operand) => run_eqGuard_agg w op t x y xs ys hg
  have h2 := run_eql_struct (P := P) w t xs ys
  rw [hq] at h2
  unfold execOp; rw [ho]
  simp [hx, hy, h1, h2, Result.andThen]
theorem x_neA {t t' : TypeId} {x y : Operand} {xs ys : Array Value} {b c : Bool} (ho : o.op = .binOp .neq t x y t') (hx : ρ x = .agg xs) (hy : ρ y = .agg ys) (hg : P.eqGuardType P.depth t = false) (hq : (Op.equalIn 10000 t (.agg xs) (.agg ys)).run P w = .ok b w) (hc : (!b) = c) : (execOp ρ o).run P w = .ok (.value (.bool c)) w := by
  have h1 := fun (op : BinOp) (x y : Operand) => run_eqGuard_agg w op t x y xs ys hg
  have h2 := run_neq_struct (P := P) w t xs ys
  rw [hq] at h2
  unfold execOp; rw [ho]
  simp [hx, hy, h1, h2, hc, Result.andThen]
end
def Reads (R : List Chunk) (a : Option Addr) (xs : List Value) : Prop := ∀ w, Mem R w → Row w a xs
theorem Reads.more {c : Chunk} {R : List Chunk} {a : Option Addr} {xs : List Value} (h : Reads R a xs) : Reads (c :: R) a xs := fun w hm => h w hm.tail
theorem Reads.nil {R : List Chunk} {a : Option Addr} : Reads R a [] := fun _ _ => Row.nil
theorem Reads.old {w0 : World} {R : List Chunk} {a : Option Addr} {xs : List Value} (h : Row w0 a xs) (i : Nat) (hi : R[i]? = some (oldC w0)) : Reads R a xs := fun w hm => h.kept (hm.below i hi)
theorem Reads.own {E : TypeId} {size n c : Nat} {R : List Chunk} {a : Option Addr} {xs : List Value} (i : Nat) (hi : R[i]? = some (rowC E size (.slice a n c) n xs)) : Reads R a xs := fun w hm => rd_row.row hm i hi
theorem load_at {P : Program} {w : World} {b off n : Nat} {cs : List Value} (hn : cs.length = n) (h : ∀ (j : Nat) v, cs[j]? = some v → w.cell? ⟨b, off + j, none⟩ = some v) : Sem.run P (loadCellsFrom ⟨b, off, none⟩ 0 n #[]) w = .ok cs.toArray w := by
  have := Go.Proofs.run_loadCellsFrom_list P w (Addr.mk b off none) cs n hn (fun j v hj => by
    rw [addr_add]; exact h j v hj)
  simpa using this
section
variable {P : Program} {a : Act} {w : World}
attribute [-go_sem] loadCellsFrom loadVar
end
end Go.Vc
end
