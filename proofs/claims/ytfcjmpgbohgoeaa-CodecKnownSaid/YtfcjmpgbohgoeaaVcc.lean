/- Whole functions by rules over frames of which some slots are known. -/
import Derived.Test.YtfcjmpgbohgoeaaMem
import Derived.Deep.LoopGhost
import Derived.IntWalk
namespace Go.Vc
set_option linter.unusedVariables false
set_option linter.unusedSimpArgs false
open Go.RowKit Go.Tk Go.Lib Go.Shelf

section
variable {P : Program} {Q : Exit → Act → World → Prop} {a : Act} {w : World} {x y c : Code}
theorem enter {f : FuncId} {fn : Func} {args : Array Value} {R : Ending → World → Prop} {n : Nat} (hf : P.funcs[f]? = some fn) (hb : fn.body = some c) (hn : fn.ntmps = n) (ha : args.size ≤ n)
    (h : ∀ a : Act, a.tmps.size = n → a.defers = [] → (∀ (i : Nat) v, args[i]? = some v → a.tmps[i]? = some v) → c.wp P (bodyPost P fn R) a w) : Calls P f args w R := by
  refine calls_of_wp hf hb (h _ ?_ rfl fun i v hv => ?_)
  · simp [hn]; omega
  · have := (Array.getElem?_eq_some_iff.1 hv).1
    simp only [Array.getElem?_append, this, if_true]; exact hv
theorem then_n {K : Act → World → Prop} (h : K a w) : Exit.then K Q .normal a w := h
theorem then_x {K : Act → World → Prop} {id : Nat} (h : Q (.exit id) a w) : Exit.then K Q (.exit id) a w := h
theorem then_r {K : Act → World → Prop} (h : Q .ret a w) : Exit.then K Q .ret a w := h
theorem blk_n {id : Nat} (h : Q .normal a w) : Exit.inBlock id Q .normal a w := h
theorem blk_x {id : Nat} (h : Q .normal a w) : Exit.inBlock id Q (.exit id) a w := by simp [Exit.inBlock]; exact h
theorem blk_r {id : Nat} (h : Q .ret a w) : Exit.inBlock id Q .ret a w := h
theorem cond_t {d : Nat} (hc : a.tmps[d]? = some (.bool true)) (h : x.wp P Q a w) : (Code.cond (.tmp d) x y).wp P Q a w := wp_cond_true (by simp [Act.eval, hc]) h
theorem cond_f {d : Nat} (hc : a.tmps[d]? = some (.bool false)) (h : y.wp P Q a w) : (Code.cond (.tmp d) x y).wp P Q a w := wp_cond_false (by simp [Act.eval, hc]) h
theorem seq_cut (J : Act → World → Prop) (h1 : x.wp P (Exit.then J Q) a w) (h2 : ∀ a w, J a w → y.wp P Q a w) : (Code.seq x y).wp P Q a w :=
  wp_seq (wp_mono h1 fun e a w q => by cases e <;> first | exact h2 _ _ q | exact q)
theorem loopx {X : Type} (I : X → Act → World → Prop) (μ : X → Nat) (x0 : X) (h0 : I x0 a w) (round : ∀ x a w, I x a w → c.wp P (Exit.then (fun a' w' => ∃ x', μ x' < μ x ∧ I x' a' w') Q) a w) : (Code.loop c).wp P Q a w :=
  wp_loop_ghost (fun n a w => ∃ x, μ x = n ∧ I x a w) (μ x0) ⟨x0, rfl, h0⟩ fun n a w ⟨x, hn, hI⟩ => wp_mono (round x a w hI) fun e a w q => by
    cases e <;> first | exact q | (obtain ⟨x', h1, h2⟩ := q; exact ⟨μ x', by omega, x', rfl, h2⟩)
theorem ret_0 {fn : Func} {R : Ending → World → Prop} (hr : fn.results = #[]) (hd : a.defers = []) (h : R (.returned (.tuple #[])) w) : bodyPost P fn R .ret a w :=
  ⟨hd, _, by simp [results, hr, go_sem], h⟩
theorem ret_1 {fn : Func} {R : Ending → World → Prop} {d : Nat} {v : Value} (hr : fn.results = #[.tmp d]) (hd : a.defers = []) (g : a.tmps[d]? = some v) (h : R (.returned v) w) : bodyPost P fn R .ret a w :=
  ⟨hd, v, by simp [results, hr, go_sem, g], h⟩
theorem ret_2 {fn : Func} {R : Ending → World → Prop} {d d' : Nat} {v v' : Value} (hr : fn.results = #[.tmp d, .tmp d']) (hd : a.defers = []) (g : a.tmps[d]? = some v) (g' : a.tmps[d']? = some v') (h : R (.returned (.tuple #[v, v'])) w) : bodyPost P fn R .ret a w :=
  ⟨hd, _, by simp [results, hr, go_sem, g, g'], h⟩
theorem end_r {fn : Func} {R : Ending → World → Prop} (h : bodyPost P fn R .ret a w) : bodyPost P fn R .normal a w := h
end

section
variable {P : Program} {R : Value → World → Prop} {r : Result Next} {w w' : World} {v : Value}
theorem res_ok (hr : r = .ok (.value v) w') (h : R v w') : Res P R r := by subst hr; exact h
theorem res_st (hr : r = .ok .skip w') (h : R undef w') : Res P R r := by subst hr; exact h
theorem res_in {f : FuncId} {args : Array Value} (hr : r = .ok (.enter f args) w') (h : Calls P f args w' fun e w'' => ∃ u, e = .returned u ∧ R u w'') : Res P R r := by subst hr; exact h
end

/-! ### loads -/
theorem load_part {P : Program} {w : World} {b off n : Nat} {q : Option TypeId} {vs : Array Value} (h : BoxE q w b vs) (part : List Value) (hn : part.length = n) (hl : off + n ≤ vs.size) (hp : (vs.toList.drop off).take n = part) :
    Sem.run P (loadCellsFrom ⟨b, off, none⟩ 0 n #[]) w = .ok part.toArray w := by
  subst hn
  exact Go.Proofs.run_loadCellsFrom_list P w (Addr.mk b off none) part part.length rfl (fun j v hj => by
    have : (Addr.mk b off none).add j = ⟨b, off + j, none⟩ := by
      unfold Addr.add
      split
      · rename_i e; subst e; rfl
      · rfl
    rw [this]
    refine h.cell _ ?_
    have hjl := (List.getElem?_eq_some_iff.1 hj).1
    rw [← hp, List.getElem?_take_of_lt hjl, List.getElem?_drop] at hj
    simpa using hj)
theorem op1 {Ω : Nat → (Nat → Rv) → World → Prop} {Ev' : (Nat → Rv) → (Operand → Value) → Prop} {X : Nat → (Nat → Rv) → World → (Operand → Value) → Prop} {a b : Nat} (hab : b = a) (h : ∀ e w ρ, Ω a e w → Ev' e ρ → X a e w ρ) : ∀ k e w ρ, a ≤ k → k ≤ b → Ω k e w → Ev' e ρ → X k e w ρ := by
  intro k e w ρ h1 h2 hO hE
  obtain rfl : k = a := Nat.le_antisymm (hab ▸ h2) h1
  exact h e w ρ hO hE
theorem op2 {Ω : Nat → (Nat → Rv) → World → Prop} {Ev' : (Nat → Rv) → (Operand → Value) → Prop} {V' : (Nat → Rv) → Nat → Value} {A B : Nat → (Nat → Rv) → World → (Operand → Value) → Prop} {a b : Nat} (hab : b = a) (h : ∀ e w ρ, Ω a e w → Ev' e ρ → A a e w ρ) : ∀ k e w ρ, a ≤ k → k ≤ b → Ω k e w → Ev' e ρ → if want (V' e) none = true then A k e w ρ else B k e w ρ := by
  intro k e w ρ h1 h2 hO hE
  obtain rfl : k = a := Nat.le_antisymm (hab ▸ h2) h1
  exact (if_pos rfl).mpr (h e w ρ hO hE)
end Go.Vc
