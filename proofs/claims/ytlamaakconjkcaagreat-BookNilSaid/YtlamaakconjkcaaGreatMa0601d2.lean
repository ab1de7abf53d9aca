/- Vcc, Ops. -/
import Derived.Test.YtlamaakconjkcaaGreatMem
import Derived.Deep.LoopGhost
import Derived.IntWalk
section
namespace Go.Vc
set_option linter.unusedVariables false
set_option linter.unusedSimpArgs false
open Go.RowKit Go.Tk Go.Lib Go.Shelf

section
variable {P : Program} {Q : Exit → Act → World → Prop} {a : Act} {w : World} {x y c : Code}
theorem enter {f : FuncId} {fn : Func} {args : Array Value} {R : Ending → World → Prop} {n : Nat} (hf : P.funcs[f]? = some fn) (hb : fn.body = some c) (hn : fn.ntmps = n) (ha : args.size ≤ n)
    (h : ∀ a : Act, a.tmps.size = n → a.defers = [] → (∀ (i : Nat) v, args[i]? = some v → a.tmps[i]? = some v) → c.wp P (bodyPost P fn R) a w) : Calls P f args w R := by
  refine calls_of_wp hf hb (h _ ?_ rfl fun i v hv => ?_)
  · simp [hn]; omega
  · have := (Array.getElem?_eq_some_iff.1 hv).1
    simp only [Array.getElem?_append, this, if_true]; exact hv
theorem then_n {K : Act → World → Prop} (h : K a w) : Exit.then K Q .normal a w := h
theorem then_x {K : Act → World → Prop} {id : Nat} (h : Q (.exit id) a w) : Exit.then K Q (.exit id) a w := h
theorem then_r {K : Act → World → Prop} (h : Q .ret a w) : Exit.then K Q .ret a w := h
theorem blk_n {id : Nat} (h : Q .normal a w) : Exit.inBlock id Q .normal a w := h
theorem blk_x {id : Nat} (h : Q .normal a w) : Exit.inBlock id Q (.exit id) a w := by simp [Exit.inBlock]; exact h
theorem blk_o {id id' : Nat} (hne : id' ≠ id) (h : Q (.exit id') a w) : Exit.inBlock id Q (.exit id') a w := by simp [Exit.inBlock, hne]; exact h
theorem blk_r {id : Nat} (h : Q .ret a w) : Exit.inBlock id Q .ret a w := h
theorem cond_t {d : Nat} (hc : a.tmps[d]? = some (.bool true)) (h : x.wp P Q a w) : (Code.cond (.tmp d) x y).wp P Q a w := wp_cond_true (by simp [Act.eval, hc]) h
theorem cond_f {d : Nat} (hc : a.tmps[d]? = some (.bool false)) (h : y.wp P Q a w) : (Code.cond (.tmp d) x y).wp P Q a w := wp_cond_false (by simp [Act.eval, hc]) h
theorem cond_b {d : Nat} {b : Bool} (hc : a.tmps[d]? = some (.bool b)) (h1 : b = true → x.wp P Q a w) (h2 : b = false → y.wp P Q a w) : (Code.cond (.tmp d) x y).wp P Q a w := wp_cond_split (by simp [Act.eval, hc]) h1 h2
theorem seq_cut (J : Act → World → Prop) (h1 : x.wp P (Exit.then J Q) a w) (h2 : ∀ a w, J a w → y.wp P Q a w) : (Code.seq x y).wp P Q a w :=
  wp_seq (wp_mono h1 fun e a w q => by cases e <;> first | exact h2 _ _ q | exact q)
theorem loopx {X : Type} (I : X → Act → World → Prop) (μ : X → Nat) (x0 : X) (h0 : I x0 a w) (round : ∀ x a w, I x a w → c.wp P (Exit.then (fun a' w' => ∃ x', μ x' < μ x ∧ I x' a' w') Q) a w) : (Code.loop c).wp P Q a w :=
  wp_loop_ghost (fun n a w => ∃ x, μ x = n ∧ I x a w) (μ x0) ⟨x0, rfl, h0⟩ fun n a w ⟨x, hn, hI⟩ => wp_mono (round x a w hI) fun e a w q => by
    cases e <;> first | exact q | (obtain ⟨x', h1, h2⟩ := q; exact ⟨μ x', by omega, x', rfl, h2⟩)
theorem ret_0 {fn : Func} {R : Ending → World → Prop} (hr : fn.results = #[]) (hd : a.defers = []) (h : R (.returned (.tuple #[])) w) : bodyPost P fn R .ret a w :=
  ⟨hd, _, by simp [results, hr, go_sem], h⟩
theorem ret_1 {fn : Func} {R : Ending → World → Prop} {d : Nat} {v : Value} (hr : fn.results = #[.tmp d]) (hd : a.defers = []) (g : a.tmps[d]? = some v) (h : R (.returned v) w) : bodyPost P fn R .ret a w :=
  ⟨hd, v, by simp [results, hr, go_sem, g], h⟩
theorem ret_2 {fn : Func} {R : Ending → World → Prop} {d d' : Nat} {v v' : Value} (hr : fn.results = #[.tmp d, .tmp d']) (hd : a.defers = []) (g : a.tmps[d]? = some v) (g' : a.tmps[d']? = some v') (h : R (.returned (.tuple #[v, v'])) w) : bodyPost P fn R .ret a w :=
  ⟨hd, _, by simp [results, hr, go_sem, g, g'], h⟩
theorem ret_3 {fn : Func} {R : Ending → World → Prop} {d d' d'' : Nat} {v v' v'' : Value} (hr : fn.results = #[.tmp d, .tmp d', .tmp d'']) (hd : a.defers = []) (g : a.tmps[d]? = some v) (g' : a.tmps[d']? = some v') (g'' : a.tmps[d'']? = some v'') (h : R (.returned (.tuple #[v, v', v''])) w) : bodyPost P fn R .ret a w :=
  ⟨hd, _, by simp [results, hr, go_sem, g, g', g''], h⟩
theorem end_r {fn : Func} {R : Ending → World → Prop} (h : bodyPost P fn R .ret a w) : bodyPost P fn R .normal a w := h
end

section
variable {P : Program} {R : Value → World → Prop} {r : Result Next} {w w' : World} {v : Value}
theorem res_ok (hr : r = .ok (.value v) w') (h : R v w') : Res P R r := by subst hr; exact h
theorem res_st (hr : r = .ok .skip w') (h : R undef w') : Res P R r := by subst hr; exact h
theorem res_in {f : FuncId} {args : Array Value} (hr : r = .ok (.enter f args) w') (h : Calls P f args w' fun e w'' => ∃ u, e = .returned u ∧ R u w'') : Res P R r := by subst hr; exact h
end

/-! ### loads -/
theorem load_part {P : Program} {w : World} {b off n : Nat} {q : Option TypeId} {vs : Array Value} (h : BoxE q w b vs) (part : List Value) (hn : part.length = n) (hl : off + n ≤ vs.size) (hp : (vs.toList.drop off).take n = part) :
    Sem.run P (loadCellsFrom ⟨b, off, none⟩ 0 n #[]) w = .ok part.toArray w := by
  subst hn
  exact Go.Proofs.run_loadCellsFrom_list P w (Addr.mk b off none) part part.length rfl (fun j v hj => by
    have : (Addr.mk b off none).add j = ⟨b, off + j, none⟩ := by
      unfold Addr.add
      split
      · rename_i e; subst e; rfl
      · rfl
    rw [this]
    refine h.cell _ ?_
    have hjl := (List.getElem?_eq_some_iff.1 hj).1
    rw [← hp, List.getElem?_take_of_lt hjl, List.getElem?_drop] at hj
    simpa using hj)
theorem load_row {P : Program} {w : World} {b off n : Nat} {xs : List Value} (h : Row w (some ⟨b, off, none⟩) xs) (k : Nat) (part : List Value) (hn : part.length = n) (hl : k + n ≤ xs.length) (hp : (xs.drop k).take n = part) :
    Sem.run P (loadCellsFrom ⟨b, off + k, none⟩ 0 n #[]) w = .ok part.toArray w := by
  subst hn
  exact Go.Proofs.run_loadCellsFrom_list P w (Addr.mk b (off + k) none) part part.length rfl (fun j v hj => by
    have : (Addr.mk b (off + k) none).add j = ⟨b, off + k + j, none⟩ := by
      unfold Addr.add
      split
      · rename_i e; subst e; rfl
      · rfl
    rw [this]
    have hjl := (List.getElem?_eq_some_iff.1 hj).1
    obtain ⟨b', off', e, hc⟩ := h (k + j) (by omega)
    cases e
    rw [Nat.add_assoc, hc]
    rw [← hp, List.getElem?_take_of_lt hjl, List.getElem?_drop] at hj
    rw [List.getD_eq_getElem?_getD, hj]; rfl)
theorem op1 {Ω : Nat → (Nat → Rv) → World → Prop} {Ev' : (Nat → Rv) → (Operand → Value) → Prop} {X : Nat → (Nat → Rv) → World → (Operand → Value) → Prop} {a b : Nat} (hab : b = a) (h : ∀ e w ρ, Ω a e w → Ev' e ρ → X a e w ρ) : ∀ k e w ρ, a ≤ k → k ≤ b → Ω k e w → Ev' e ρ → X k e w ρ := by
  intro k e w ρ h1 h2 hO hE
  obtain rfl : k = a := Nat.le_antisymm (hab ▸ h2) h1
  exact h e w ρ hO hE
theorem op2 {Ω : Nat → (Nat → Rv) → World → Prop} {Ev' : (Nat → Rv) → (Operand → Value) → Prop} {V' : (Nat → Rv) → Nat → Value} {A B : Nat → (Nat → Rv) → World → (Operand → Value) → Prop} {a b : Nat} (hab : b = a) (h : ∀ e w ρ, Ω a e w → Ev' e ρ → A a e w ρ) : ∀ k e w ρ, a ≤ k → k ≤ b → Ω k e w → Ev' e ρ → if want (V' e) none = true then A k e w ρ else B k e w ρ := by
  intro k e w ρ h1 h2 hO hE
  obtain rfl : k = a := Nat.le_antisymm (hab ▸ h2) h1
  exact (if_pos rfl).mpr (h e w ρ hO hE)
end Go.Vc
end
section
namespace Go.Vc
set_option linter.unusedVariables false
set_option linter.unusedSimpArgs false
open Go.RowKit Go.Tk Go.Lib Go.Shelf

theorem addr_add (b off n : Nat) : (Addr.mk b off none).add n = ⟨b, off + n, none⟩ := by
  unfold Addr.add
  split
  · rename_i e; subst e; rfl
  · rfl
def plainT (P : Program) (t : TypeId) : Bool := match P.underlying t with
  | some (.struct _) => false
  | some (.array _ _) => false
  | none => false
  | _ => true
def aggT (P : Program) (t : TypeId) (n : Nat) : Bool := (match P.underlying t with
  | some (.struct _) => true
  | some (.array _ _) => true
  | _ => false) && (match P.info? t with
  | some i => i.size == n
  | none => false)
def fieldT (P : Program) (s i off : Nat) : Bool := match P.underlying s with
  | some (.struct fs) => (match fs[i]? with
    | some f => f.offset == off && (match P.info? f.type with
      | some i => i.size != 0
      | none => false)
    | none => false)
  | _ => false
def sliceT (P : Program) (t n : Nat) : Bool := match P.underlying t with
  | some (.slice e) => (match P.info? e with
    | some i => i.size == n
    | none => false)
  | _ => false
def intT (P : Program) (t : TypeId) (k : IntKind) : Bool := match P.underlying t with
  | some (.int k') => k' == k
  | _ => false
def entersB (P : Program) (f : FuncId) : Bool := match P.funcs[f]? with
  | some fn => !(fn.name == "runtime.NumGoroutine") && !fn.body.isNone
  | none => false

theorem row_cell {w : World} {E : TypeId} {size n : Nat} {v : Value} {xs : List Value} (h : RowF E size w v n xs) : v.cells = #[v] ∧ v.oneCell' = true := by
  obtain ⟨a, c, rfl, -⟩ := h.row
  exact ⟨rfl, rfl⟩
theorem row_one {w : World} {b : Nat} {v : Value} (h : w.cell? ⟨b, 0, none⟩ = some v) : Row w (some ⟨b, 0, none⟩) [v] := fun i hi => by
  obtain rfl : i = 0 := by simp at hi; omega
  exact ⟨_, _, rfl, h⟩
theorem wr_i64 {n : Int} (h : -9223372036854775808 ≤ n ∧ n ≤ 9223372036854775807) : IntKind.i64.wrap n = n := IntWalk.i64_in _ h
theorem wr_u64 {n : Int} (h : 0 ≤ n ∧ n ≤ 18446744073709551615) : IntKind.u64.wrap n = n := by rw [IntKind.wrap_u64]; omega
theorem wr_u32 {n : Int} (h : 0 ≤ n ∧ n ≤ 4294967295) : IntKind.u32.wrap n = n := by rw [IntKind.wrap_u32]; omega
theorem wr_u16 {n : Int} (h : 0 ≤ n ∧ n ≤ 65535) : IntKind.u16.wrap n = n := by rw [IntKind.wrap_u16]; omega
theorem wr_u8 {n : Int} (h : 0 ≤ n ∧ n ≤ 255) : IntKind.u8.wrap n = n := by rw [IntKind.wrap_u8]; omega

theorem run_und {P : Program} {t : TypeId} {d : TypeDesc} {w : World} (h : P.underlying t = some d) : Sem.run P (underlying t) w = .ok d w := by
  unfold underlying
  simp [go_sem, h]
section
variable {P : Program} {w : World} {ρ : Operand → Value} {o : Oper}
theorem x_move {x : Operand} {v : Value} (ho : o.op = .move x) (hx : ρ x = v) : (execOp ρ o).run P w = .ok (.value v) w := by
  unfold execOp; rw [ho]; simp [hx]
theorem x_assign {x : Operand} {v : Value} (ho : o.op = .assign x) (hx : ρ x = v) : (execOp ρ o).run P w = .ok (.value v) w := by
  unfold execOp; rw [ho]; simp [hx]
theorem x_pick {c x y : Operand} {b : Bool} {v : Value} (ho : o.op = .pick c x y) (hc : ρ c = .bool b) (hv : (if b then ρ x else ρ y) = v) : (execOp ρ o).run P w = .ok (.value v) w := by
  unfold execOp; rw [ho]; subst hv; simp [hc, asBool]
theorem x_nil {x : Operand} {a : Addr} (ho : o.op = .nilCheck x) (hx : ρ x = .pointer (some a)) : (execOp ρ o).run P w = .ok (.value (.pointer (some a))) w := by
  unfold execOp; rw [ho]; simp [hx]
theorem x_fieldAddr {s i off : Nat} {x : Operand} {b p q : Nat} (ho : o.op = .fieldAddr s x i) (hx : ρ x = .pointer (some ⟨b, p, none⟩)) (hT : fieldT P s i off = true) (hq : p + off = q) : (execOp ρ o).run P w = .ok (.value (.pointer (some ⟨b, q, none⟩))) w := by
  unfold fieldT at hT
  split at hT
  · rename_i fs hu
    split at hT
    · rename_i f hf
      rw [Bool.and_eq_true] at hT
      obtain ⟨h1, h2⟩ := hT
      split at h2
      · rename_i i0 hi
        have h1 : f.offset = off := by simpa using h1
        have h2 : i0.size ≠ 0 := by simpa using h2
        unfold execOp; rw [ho]
        simp [hx, Instr.fieldAt, Instr.sureAddr, fieldPlace, sizeOf, typeInfo, go_sem, run_und hu, hf, hi, h2, h1, addr_add, hq, Result.andThen]
      · cases h2
    · cases hT
  · cases hT
theorem x_load {t : TypeId} {x : Operand} {b off : Nat} {v : Value} (ho : o.op = .load t x) (hx : ρ x = .pointer (some ⟨b, off, none⟩)) (hT : plainT P t = true) (hc : w.cell? ⟨b, off, none⟩ = some v) : (execOp ρ o).run P w = .ok (.value v) w := by
  unfold plainT at hT
  unfold execOp; rw [ho]
  cases hd : P.underlying t with
  | none => simp [hd] at hT
  | some d => cases d <;> simp [hd] at hT <;> simp [hx, Instr.loadAt, Instr.sureAddr, loadVar, isAgg, go_sem, run_und hd, hc, Result.andThen]
theorem x_loads {t n : Nat} {x : Operand} {b off : Nat} {cs : Array Value} (ho : o.op = .load t x) (hx : ρ x = .pointer (some ⟨b, off, none⟩)) (hT : aggT P t n = true) (hc : Sem.run P (loadCellsFrom ⟨b, off, none⟩ 0 n #[]) w = .ok cs w) : (execOp ρ o).run P w = .ok (.value (.agg cs)) w := by
  unfold aggT at hT
  rw [Bool.and_eq_true] at hT
  obtain ⟨h1, h2⟩ := hT
  split at h2
  · rename_i i0 hi
    have h2 : i0.size = n := by simpa using h2
    unfold execOp; rw [ho]
    cases hd : P.underlying t with
    | none => simp [hd] at h1
    | some d => cases d <;> simp [hd] at h1 <;> simp [Instr.loadAt, Instr.sureAddr, loadVar, isAgg, go_sem, loadCells, sizeOf, typeInfo, hx, run_und hd, hi, h2, hc, Result.andThen]
  · cases h2
theorem x_add {t t' : TypeId} {x y : Operand} {k : IntKind} {a b c : Int} (ho : o.op = .binOp .add t x y t') (hx : ρ x = .int k a) (hy : ρ y = .int k b) (hw : k.wrap (a + b) = c) : (execOp ρ o).run P w = .ok (.value (.int k c)) w := by
  unfold execOp; rw [ho]; simp [hx, hy, eqGuard, binOp, Op.intArith, hw]
theorem x_sub {t t' : TypeId} {x y : Operand} {k : IntKind} {a b c : Int} (ho : o.op = .binOp .sub t x y t') (hx : ρ x = .int k a) (hy : ρ y = .int k b) (hw : k.wrap (a - b) = c) : (execOp ρ o).run P w = .ok (.value (.int k c)) w := by
  unfold execOp; rw [ho]; simp [hx, hy, eqGuard, binOp, Op.intArith, hw]
theorem x_mul {t t' : TypeId} {x y : Operand} {k : IntKind} {a b c : Int} (ho : o.op = .binOp .mul t x y t') (hx : ρ x = .int k a) (hy : ρ y = .int k b) (hw : k.wrap (a * b) = c) : (execOp ρ o).run P w = .ok (.value (.int k c)) w := by
  unfold execOp; rw [ho]; simp [hx, hy, eqGuard, binOp, Op.intArith, hw]
theorem x_quo {t t' : TypeId} {x y : Operand} {k : IntKind} {a b c : Int} (ho : o.op = .binOp .quo t x y t') (hx : ρ x = .int k a) (hy : ρ y = .int k b) (hb : b ≠ 0) (hw : k.wrap (a.tdiv b) = c) : (execOp ρ o).run P w = .ok (.value (.int k c)) w := by
  unfold execOp; rw [ho]; simp [hx, hy, eqGuard, binOp, Op.intDiv, hb, hw]
theorem x_rem {t t' : TypeId} {x y : Operand} {k : IntKind} {a b c : Int} (ho : o.op = .binOp .rem t x y t') (hx : ρ x = .int k a) (hy : ρ y = .int k b) (hb : b ≠ 0) (hw : a.tmod b = c) : (execOp ρ o).run P w = .ok (.value (.int k c)) w := by
  unfold execOp; rw [ho]; simp [hx, hy, eqGuard, binOp, Op.intDiv, hb, hw]
theorem x_lss {t t' : TypeId} {x y : Operand} {k : IntKind} {a b : Int} {c : Bool} (ho : o.op = .binOp .lss t x y t') (hx : ρ x = .int k a) (hy : ρ y = .int k b) (hc : decide (a < b) = c) : (execOp ρ o).run P w = .ok (.value (.bool c)) w := by
  unfold execOp; rw [ho]; simp [hx, hy, eqGuard, binOp, Op.intCmp, hc]
theorem x_leq {t t' : TypeId} {x y : Operand} {k : IntKind} {a b : Int} {c : Bool} (ho : o.op = .binOp .leq t x y t') (hx : ρ x = .int k a) (hy : ρ y = .int k b) (hc : decide (a ≤ b) = c) : (execOp ρ o).run P w = .ok (.value (.bool c)) w := by
  unfold execOp; rw [ho]; simp [hx, hy, eqGuard, binOp, Op.intCmp, hc]
theorem x_gtr {t t' : TypeId} {x y : Operand} {k : IntKind} {a b : Int} {c : Bool} (ho : o.op = .binOp .gtr t x y t') (hx : ρ x = .int k a) (hy : ρ y = .int k b) (hc : decide (a > b) = c) : (execOp ρ o).run P w = .ok (.value (.bool c)) w := by
  unfold execOp; rw [ho]; subst hc; simp [hx, hy, eqGuard, binOp, Op.intCmp]
theorem x_geq {t t' : TypeId} {x y : Operand} {k : IntKind} {a b : Int} {c : Bool} (ho : o.op = .binOp .geq t x y t') (hx : ρ x = .int k a) (hy : ρ y = .int k b) (hc : decide (a ≥ b) = c) : (execOp ρ o).run P w = .ok (.value (.bool c)) w := by
  unfold execOp; rw [ho]; subst hc; simp [hx, hy, eqGuard, binOp, Op.intCmp]
theorem x_eql {t t' : TypeId} {x y : Operand} {k : IntKind} {a b : Int} {c : Bool} (ho : o.op = .binOp .eql t x y t') (hx : ρ x = .int k a) (hy : ρ y = .int k b) (hc : decide (a = b) = c) : (execOp ρ o).run P w = .ok (.value (.bool c)) w := by
  have hc : (a == b) = c := hc
  unfold execOp; rw [ho]; simp [hx, hy, eqGuard, binOp, Op.intCmp, hc]
theorem x_neq {t t' : TypeId} {x y : Operand} {k : IntKind} {a b : Int} {c : Bool} (ho : o.op = .binOp .neq t x y t') (hx : ρ x = .int k a) (hy : ρ y = .int k b) (hc : (!decide (a = b)) = c) : (execOp ρ o).run P w = .ok (.value (.bool c)) w := by
  have hc : (a != b) = c := hc
  unfold execOp; rw [ho]; simp [hx, hy, eqGuard, binOp, Op.intCmp, hc]
theorem x_not {t : TypeId} {x : Operand} {b c : Bool} (ho : o.op = .unOp .not t x) (hx : ρ x = .bool b) (hc : (!b) = c) : (execOp ρ o).run P w = .ok (.value (.bool c)) w := by
  unfold execOp; rw [ho]; subst hc; simp [hx, Op.unary]
theorem x_conv {s d : TypeId} {x : Operand} {k k' : IntKind} {n m : Int} (ho : o.op = .convert s d x) (hx : ρ x = .int k n) (hT : intT P d k' = true) (hs : plainT P s = true) (hw : k'.wrap n = m) : (execOp ρ o).run P w = .ok (.value (.int k' m)) w := by
  unfold intT at hT
  unfold plainT at hs
  split at hT
  · rename_i kk hu
    have hT : kk = k' := by simpa using hT
    subst hT
    unfold execOp; rw [ho]
    cases hd : P.underlying s with
    | none => simp [hd] at hs
    | some t => cases t <;> simp [hx, convert, go_sem, run_und hu, run_und hd, Conv.intToInt, hw, Result.andThen] <;> simp [hd] at hs
  · cases hT
theorem x_len {t n : Nat} {x : Operand} {c : Call} {a : Option Addr} {l m : Nat} (ho : o.op = .call c) (hc : c.callee = .builtin .len) (ha : c.args = #[x]) (ht : c.argTypes = #[t]) (hx : ρ x = .slice a l m) (hT : sliceT P t n = true) : (execOp ρ o).run P w = .ok (.value (.int .i64 l)) w := by
  unfold sliceT at hT
  split at hT
  · rename_i e hu
    unfold execOp; rw [ho]
    simp [resolve, hc, ha, ht, hx, invoke, builtin, Builtin.len_, go_sem, run_und hu, goInt, Result.andThen]
  · cases hT
theorem x_lenS {t : Nat} {x : Operand} {c : Call} {s : ByteArray} (ho : o.op = .call c) (hc : c.callee = .builtin .len) (ha : c.args = #[x]) (ht : c.argTypes = #[t]) (hx : ρ x = .string s) (hT : P.underlying t = some .string) : (execOp ρ o).run P w = .ok (.value (.int .i64 s.size)) w := by
  unfold execOp; rw [ho]
  simp [resolve, hc, ha, ht, hx, invoke, builtin, Builtin.len_, go_sem, run_und hT, goInt, Result.andThen]
theorem x_extract {x : Operand} {i : Nat} {vs : Array Value} {v : Value} (ho : o.op = .extract x i) (hx : ρ x = .tuple vs) (hv : vs[i]? = some v) : (execOp ρ o).run P w = .ok (.value v) w := by
  unfold execOp; rw [ho]; simp [hx, Instr.extract, hv]
theorem x_idx {t n : Nat} {x y : Operand} {b off l m i q : Nat} {k : IntKind} (ho : o.op = .indexAddr t x y) (hx : ρ x = .slice (some ⟨b, off, none⟩) l m) (hy : ρ y = .int k (i : Int)) (hT : sliceT P t n = true) (hi : i < l) (hq : off + i * n = q) : (execOp ρ o).run P w = .ok (.value (.pointer (some ⟨b, q, none⟩))) w := by
  unfold sliceT at hT
  split at hT
  · rename_i e hu
    split at hT
    · rename_i i0 hi0
      have hT : i0.size = n := by simpa using hT
      unfold execOp; rw [ho]
      simp [hx, hy, Instr.indexAt, asIntOf, go_sem, run_und hu, sizeOf, typeInfo, hi0, hT, hi, addr_add, hq, Result.andThen]
    · cases hT
  · cases hT
theorem x_call {c : Call} {g : Operand} {f : FuncId} {first cap args : Array Value} (ho : o.op = .call c) (hc : c.callee = .value g) (hg : ρ g = .func (.func f) first cap) (hargs : first ++ c.args.map ρ ++ cap = args) (he : entersB P f = true) : (execOp ρ o).run P w = .ok (.enter f args) w := by
  unfold entersB at he
  split at he
  · rename_i fn hf
    rw [Bool.and_eq_true] at he
    have h1 : (fn.name == "runtime.NumGoroutine") = false := by simpa using he.1
    have h2 : fn.body.isNone = false := by simpa using he.2
    unfold execOp; rw [ho]
    subst hargs
    simp only [resolve, hc, hg, Deferred.ofValue, invoke, callFunc]
    have h1' : ¬ fn.name = "runtime.NumGoroutine" := by simpa using h1
    have h2' : ¬ fn.body = none := fun e => by rw [e] at h2; cases h2
    simp [go_sem, hf, h1', h2', Result.andThen, Array.append_assoc]
  · cases he
theorem x_append {c : Call} {x y : Operand} {t t' : TypeId} {v u r : Value} {w' : World} (ho : o.op = .call c) (hc : c.callee = .builtin .append) (ha : c.args = #[x, y]) (ht : c.argTypes = #[t, t']) (hx : ρ x = v) (hy : ρ y = u) (hr : Sem.run P (Builtin.append_ #[t, t'] o.type #[v, u]) w = .ok r w') : (execOp ρ o).run P w = .ok (.value r) w' := by
  unfold execOp; rw [ho]
  simp only [resolve, hc, ha, ht]
  simp [invoke, builtin, hx, hy, hr, Result.andThen]
theorem x_buildSlice {t : TypeId} {n : Nat} {ps : Array (Nat × Operand)} {qs : Array (Nat × Value)} {v : Value} {w' : World} (ho : o.op = .buildSlice t n ps) (hq : ps.map (fun (i, x) => (i, ρ x)) = qs) (hr : Sem.run P (Instr.buildSlice t n qs) w = .ok v w') : (execOp ρ o).run P w = .ok (.value v) w' := by
  unfold execOp; rw [ho]; subst hq; simp [hr]
theorem x_shr {t t' : TypeId} {x y : Operand} {k k' : IntKind} {a c : Int} {b : Nat} (ho : o.op = .binOp .shr t x y t') (hx : ρ x = .int k a) (hy : ρ y = .int k' (b : Int)) (hb : b ≤ k.bits) (hc : a / 2 ^ b = c) : (execOp ρ o).run P w = .ok (.value (.int k c)) w := by
  unfold execOp; rw [ho]
  have h1 : ¬ (b : Int) < 0 := by omega
  have h2 : min b k.bits = b := by omega
  have h3 : a.fdiv (2 ^ b) = a / 2 ^ b := Int.fdiv_eq_ediv_of_nonneg _ (Int.pow_nonneg (by decide))
  simp [hx, hy, eqGuard, binOp, Op.shift, h1, h2, h3, hc]
theorem x_shl {t t' : TypeId} {x y : Operand} {k k' : IntKind} {a c : Int} {b : Nat} (ho : o.op = .binOp .shl t x y t') (hx : ρ x = .int k a) (hy : ρ y = .int k' (b : Int)) (hb : b ≤ k.bits) (hc : k.wrap (a * 2 ^ b) = c) : (execOp ρ o).run P w = .ok (.value (.int k c)) w := by
  unfold execOp; rw [ho]
  have h1 : ¬ (b : Int) < 0 := by omega
  have h2 : min b k.bits = b := by omega
  simp [hx, hy, eqGuard, binOp, Op.shift, h1, h2, hc]
theorem or_add {y x : Int} (h0 : 0 ≤ y) (h1 : y < 72057594037927936) (h2 : 0 ≤ x) (h3 : x ≤ 255) : IntKind.u64.wrap ((BitVec.ofInt 64 (y * 256) ||| BitVec.ofInt 64 x).toNat : Int) = y * 256 + x := by
  obtain ⟨n, rfl⟩ := Int.eq_ofNat_of_zero_le h0
  obtain ⟨m, rfl⟩ := Int.eq_ofNat_of_zero_le h2
  have e1 : (BitVec.ofInt 64 ((n : Int) * 256)).toNat = 2 ^ 8 * n := by
    rw [BitVec.toNat_ofInt]; omega
  have e2 : (BitVec.ofInt 64 (m : Int)).toNat = m := by
    rw [BitVec.toNat_ofInt]; omega
  rw [BitVec.toNat_or, e1, e2, ← Nat.two_pow_add_eq_or_of_lt (by omega : m < 2 ^ 8)]
  rw [wr_u64 (by omega)]
  omega
theorem x_or256 {t t' : TypeId} {x y : Operand} {a b : Int} (ho : o.op = .binOp .or t x y t') (hx : ρ x = .int .u64 (a * 256)) (hy : ρ y = .int .u64 b) (h0 : 0 ≤ a) (h1 : a < 72057594037927936) (h2 : 0 ≤ b) (h3 : b ≤ 255) : (execOp ρ o).run P w = .ok (.value (.int .u64 (a * 256 + b))) w := by
  unfold execOp; rw [ho]
  have := or_add h0 h1 h2 h3
  simp [hx, hy, eqGuard, binOp, Op.intBits, IntKind.bits]
  exact this
theorem addr_map0 (a : Option Addr) : a.map (·.add 0) = a := by cases a <;> simp [Addr.add]
theorem x_sliceHi {t n : Nat} {x y : Operand} {a : Option Addr} {l c h : Nat} {k : IntKind} (ho : o.op = .slice t x none (some y) none) (hx : ρ x = .slice a l c) (hy : ρ y = .int k (h : Int)) (hT : sliceT P t n = true) (hh : h ≤ c) : (execOp ρ o).run P w = .ok (.value (.slice a h c)) w := by
  unfold sliceT at hT
  split at hT
  · rename_i e hu
    split at hT
    · rename_i i0 hi0
      have hT : i0.size = n := by simpa using hT
      unfold execOp; rw [ho]
      have h2 : (0 : Int) ≤ h ∧ (h : Int) ≤ c := by omega
      have e : (if c = 0 then a else a.map (·.add (0 * n))) = a := by split <;> simp [addr_map0]
      simp [hx, hy, Instr.sliceAt, Instr.slice, Instr.sliceBounds, Instr.sliceBound, asIntOf, go_sem, run_und hu, sizeOf, typeInfo, hi0, hT, h2, hh, Result.andThen, Addr.add]
    · cases hT
  · cases hT
theorem x_sliceLo {t n : Nat} {x y : Operand} {a : Option Addr} {l c h : Nat} {k : IntKind} (ho : o.op = .slice t x (some y) none none) (hx : ρ x = .slice a l c) (hy : ρ y = .int k (h : Int)) (hT : sliceT P t n = true) (hh : h ≤ l) : (execOp ρ o).run P w = .ok (.value (.slice (if c = h then a else a.map (·.add (h * n))) (l - h) (c - h))) w := by
  unfold sliceT at hT
  split at hT
  · rename_i e hu
    split at hT
    · rename_i i0 hi0
      have hT : i0.size = n := by simpa using hT
      unfold execOp; rw [ho]
      have h2 : (0 : Int) ≤ h ∧ (h : Int) ≤ l := by omega
      simp [hx, hy, Instr.sliceAt, Instr.slice, Instr.sliceBounds, Instr.sliceBound, asIntOf, go_sem, run_und hu, sizeOf, typeInfo, hi0, hT, h2, hh, Result.andThen]
    · cases hT
  · cases hT
theorem x_makeFunc {fn : Fn} {first cap : Array Operand} {vs us : Array Value} (ho : o.op = .makeFunc fn first cap) (h1 : first.map ρ = vs) (h2 : cap.map ρ = us) : (execOp ρ o).run P w = .ok (.value (.func fn vs us)) w := by
  unfold execOp; rw [ho]; simp [h1, h2, Instr.makeFunc]
theorem x_box {t : TypeId} {x : Operand} {v : Value} (ho : o.op = .box t x) (hx : ρ x = v) : (execOp ρ o).run P w = .ok (.value (.pointer (some ⟨w.heap.size, 0, none⟩))) (w.alloc (.cells v.cells t)) := by
  unfold execOp; rw [ho]; simp [hx, Instr.box, newVar, newRow, go_sem]
theorem x_alloc {t : TypeId} {z : Value} (ho : o.op = .alloc t) (hz : (P.info? t).bind (·.zero) = some z) : (execOp ρ o).run P w = .ok (.value (.pointer (some ⟨w.heap.size, 0, none⟩))) (w.alloc (.cells z.cells t)) := by
  obtain ⟨i0, hi, hz⟩ := Option.bind_eq_some_iff.1 hz
  unfold execOp; rw [ho]; simp [Instr.alloc, newVar, newRow, zeroValue, typeInfo, go_sem, hi, hz]
theorem x_store {t : TypeId} {x y : Operand} {w' : World} {p v : Value} (ho : o.op = .store t x y) (hx : ρ x = p) (hy : ρ y = v) (hr : Sem.run P (Instr.storeAt t p v) w = .ok () w') : (execOp ρ o).run P w = .ok .skip w' := by
  unfold execOp; rw [ho]; simp [hx, hy, hr]
end
end Go.Vc
end
