/- What comparisons of structs, strings and slices come to; rows that are only read; results that lie in memory. -/
import Derived.Test.YtfcjmpgbohgoeaaOps
import Derived.Test.YtfcjmpgbohgoeaaRowS
import Derived.Test.YtfcjmpgbohgoeaaVcm
import Derived.Laws.StructEq
namespace Go.Vc
open Go.RowKit Go.Tk Go.Lib Go.Shelf
set_option linter.unusedVariables false
set_option linter.unusedSimpArgs false

section
variable {P : Program} {w : World} {ρ : Operand → Value} {o : Oper}
theorem x_eqA {t t' : TypeId} {x y : Operand} {xs ys : Array Value} {b : Bool} (ho : o.op = .binOp .eql t x y t') (hx : ρ x = .agg xs) (hy : ρ y = .agg ys) (hg : P.eqGuardType P.depth t = false) (hq : (Op.equalIn 10000 t (.agg xs) (.agg ys)).run P w = .ok b w) : (execOp ρ o).run P w = .ok (.value (.bool b)) w := by
  have h1 := fun (op : BinOp) (x y : Operand) => run_eqGuard_agg w op t x y xs ys hg
  have h2 := run_eql_struct (P := P) w t xs ys
  rw [hq] at h2
  unfold execOp; rw [ho]
  simp [hx, hy, h1, h2, Result.andThen]
theorem x_neA {t t' : TypeId} {x y : Operand} {xs ys : Array Value} {b c : Bool} (ho : o.op = .binOp .neq t x y t') (hx : ρ x = .agg xs) (hy : ρ y = .agg ys) (hg : P.eqGuardType P.depth t = false) (hq : (Op.equalIn 10000 t (.agg xs) (.agg ys)).run P w = .ok b w) (hc : (!b) = c) : (execOp ρ o).run P w = .ok (.value (.bool c)) w := by
  have h1 := fun (op : BinOp) (x y : Operand) => run_eqGuard_agg w op t x y xs ys hg
  have h2 := run_neq_struct (P := P) w t xs ys
  rw [hq] at h2
  unfold execOp; rw [ho]
  simp [hx, hy, h1, h2, hc, Result.andThen]
theorem x_eqS {t t' : TypeId} {x y : Operand} {a b : ByteArray} {c : Bool} (ho : o.op = .binOp .eql t x y t') (hx : ρ x = .string a) (hy : ρ y = .string b) (hc : decide (a = b) = c) : (execOp ρ o).run P w = .ok (.value (.bool c)) w := by
  have hc : (a.toList == b.toList) = c := by rw [← beq_toListBytes, ba_beq]; exact hc
  unfold execOp; rw [ho]; simp [hx, hy, eqGuard, binOp, Op.stringOp, hc]
theorem x_eqNil {t t' e : TypeId} {x y : Operand} {a : Option Addr} {l m : Nat} {c : Bool} (ht : P.underlying t = some (.slice e)) (ho : o.op = .binOp .eql t x y t') (hx : ρ x = .slice a l m) (hy : ρ y = .slice none 0 0) (hc : a.isNone = c) : (execOp ρ o).run P w = .ok (.value (.bool c)) w := by
  have h2 : (binOp .eql t (.slice a l m) (.slice none 0 0)).run P w = .ok (.bool a.isNone) w := by
    have h : ∀ d : Nat, (Op.equalIn (d + 1) t (.slice a l m) (.slice none 0 0)).run P w = .ok a.isNone w := fun d => by
      cases a <;> simp [Op.equalIn, run_underlying ht]
    simp only [binOp]
    simp [Op.equal, Op.maxDepth, h 9999]
  unfold execOp; rw [ho]; simp [hx, hy, eqGuard, h2, hc]
end

theorem w_yes {V : Nat → Value} {g : Option (Nat × Bool)} {A B : Prop} (h : want V g = true) (hA : A) : if want V g = true then A else B := by rw [if_pos h]; exact hA
theorem w_no {V : Nat → Value} {g : Option (Nat × Bool)} {A B : Prop} (h : want V g = false) (hB : B) : if want V g = true then A else B := by rw [if_neg (by rw [h]; decide)]; exact hB
theorem want_of {V : Nat → Value} {g : Nat} {b : Bool} (c : Bool) (hv : V g = .bool c) : want V (some (g, b)) = (c == b) := by unfold want; simp only [hv]

/-- a value under a guard -/
def gd (c b : Bool) (v : Value) : Value := bif c == b then v else undef
theorem gd_yes {c b : Bool} {v : Value} (h : (c == b) = true) : gd c b v = v := by unfold gd; rw [h]; rfl
theorem gd_no {c b : Bool} {v : Value} (h : (c == b) = false) : gd c b v = undef := by unfold gd; rw [h]; rfl
theorem gd_t {c : Bool} {v : Value} (h : c = true) : gd c true v = v := gd_yes (by rw [h]; rfl)
theorem gd_f {c : Bool} {v : Value} (h : c = false) : gd c false v = v := gd_yes (by rw [h]; rfl)
theorem op3 {P : Program} {Ω : Nat → (Nat → Rv) → World → Prop} {Ev' : (Nat → Rv) → (Operand → Value) → Prop} {V : Nat → (Nat → Rv) → Value} {ticks : List Nat} {i g : Nat} {b : Bool} {r : World → (Operand → Value) → Result Next} {a d : Nat} (c : Bool) (hab : d = a) (hg : ∀ e, V g e = .bool c) (ht : ticks.contains i = false)
    (hno : (c == b) = false → ∀ e, undef = V i e) (h : (c == b) = true → ∀ e w ρ, Ω a e w → Ev' e ρ → Res P (Goes V Ω ticks i a e) (r w ρ)) :
    ∀ k e w ρ, a ≤ k → k ≤ d → Ω k e w → Ev' e ρ → if want (fun j => V j e) (some (g, b)) = true then Res P (Goes V Ω ticks i k e) (r w ρ) else Goes V Ω ticks i k e undef w := by
  intro k e w ρ h1 h2 hO hE
  obtain rfl : k = a := Nat.le_antisymm (hab ▸ h2) h1
  cases hC : (c == b) with
  | true => exact w_yes ((want_of c (hg e)).trans hC) (h hC e w ρ hO hE)
  | false => exact w_no ((want_of c (hg e)).trans hC) (goes_still ht (hno hC e) hO)
theorem x_pickAnd {P : Program} {w : World} {ρ : Operand → Value} {o : Oper} {c x y : Operand} {z p : Bool} (ho : o.op = .pick c x y) (hc : ρ c = .bool z) (hx : z = true → ρ x = .bool p) (hy : ρ y = .bool false) : (execOp ρ o).run P w = .ok (.value (.bool (z && p))) w := by
  cases z with
  | true => exact x_pick ho hc (hx rfl)
  | false => exact x_pick ho hc hy
theorem x_pickOr {P : Program} {w : World} {ρ : Operand → Value} {o : Oper} {c x y : Operand} {z p : Bool} (ho : o.op = .pick c x y) (hc : ρ c = .bool z) (hy : z = false → ρ y = .bool p) (hx : ρ x = .bool true) : (execOp ρ o).run P w = .ok (.value (.bool (z || p))) w := by
  cases z with
  | true => exact x_pick ho hc hx
  | false => exact x_pick ho hc (hy rfl)

/-! ### rows that are only read -/
def Reads (R : List Chunk) (a : Option Addr) (xs : List Value) : Prop := ∀ w, Mem R w → Row w a xs
theorem Reads.elem {α : Type} {enc : α → List Value} {size : Nat} (hk : ∀ x, (enc x).length = size) (hs : 0 < size) {R : List Chunk} {a : Option Addr} {l : List α} (h : Reads R a (cellsL enc l)) {i : Nat} {x : α} (hx : l[i]? = some x) {w0 : World} (hw : Mem R w0) :
    ∃ b off, a = some ⟨b, off, none⟩ ∧ ∀ w, Mem R w → ∀ (j : Nat) v, (enc x)[j]? = some v → w.cell? ⟨b, off + i * size + j, none⟩ = some v := by
  obtain ⟨hi, hxx⟩ := List.getElem?_eq_some_iff.1 hx
  obtain ⟨b, off, ha, -⟩ := (h w0 hw).thing hk hi hs
  refine ⟨b, off, ha, fun w hm j v hj => ?_⟩
  obtain ⟨b', off', ha', hc⟩ := (h w hm).thing hk hi hs
  rw [ha] at ha'
  cases ha'
  have hjs : j < size := by have := (List.getElem?_eq_some_iff.1 hj).1; rw [hk] at this; exact this
  rw [Nat.add_assoc, hc j hjs, hxx, List.getD_eq_getElem?_getD, hj]; rfl
theorem Reads.more {c : Chunk} {R : List Chunk} {a : Option Addr} {xs : List Value} (h : Reads R a xs) : Reads (c :: R) a xs := fun w hm => h w hm.tail
theorem Reads.nil {R : List Chunk} {a : Option Addr} : Reads R a [] := fun _ _ => Row.nil
theorem Reads.old {w0 : World} {R : List Chunk} {a : Option Addr} {xs : List Value} (h : Row w0 a xs) (i : Nat) (hi : R[i]? = some (oldC w0)) : Reads R a xs := fun w hm => h.kept (hm.below i hi)
theorem Reads.own {E : TypeId} {size n c : Nat} {R : List Chunk} {a : Option Addr} {xs : List Value} (i : Nat) (hi : R[i]? = some (rowC E size (.slice a n c) n xs)) : Reads R a xs := fun w hm => rd_row.row hm i hi
theorem load_at {P : Program} {w : World} {b off n : Nat} {cs : List Value} (hn : cs.length = n) (h : ∀ (j : Nat) v, cs[j]? = some v → w.cell? ⟨b, off + j, none⟩ = some v) : Sem.run P (loadCellsFrom ⟨b, off, none⟩ 0 n #[]) w = .ok cs.toArray w := by
  have := Go.Proofs.run_loadCellsFrom_list P w (Addr.mk b off none) cs n hn (fun j v hj => by
    rw [addr_add]; exact h j v hj)
  simpa using this

/-! ### results that lie in memory -/
section
variable {P : Program} {a : Act} {w : World}
attribute [-go_sem] loadCellsFrom loadVar
theorem loadVar_run {t b n : Nat} {cs : Array Value} (hT : aggT P t n = true) (hc : Sem.run P (loadCellsFrom ⟨b, 0, none⟩ 0 n #[]) w = .ok cs w) : Sem.run P (loadVar t ⟨b, 0, none⟩) w = .ok (.agg cs) w := by
  unfold aggT at hT
  rw [Bool.and_eq_true] at hT
  obtain ⟨h1, h2⟩ := hT
  split at h2
  · rename_i i0 hi
    have h2 : i0.size = n := by simpa using h2
    cases hd : P.underlying t with
    | none => simp [hd] at h1
    | some d => cases d <;> simp [hd] at h1 <;> simp [loadVar, isAgg, go_sem, loadCells, sizeOf, typeInfo, run_und hd, hi, h2, hc, Result.andThen]
  · cases h2
theorem ret_c {fn : Func} {R : Ending → World → Prop} {d t b n : Nat} {cs : Array Value} (hr : fn.results = #[.cell d t]) (hd : a.defers = []) (g : a.tmps[d]? = some (.pointer (some ⟨b, 0, none⟩))) (hT : aggT P t n = true) (hc : Sem.run P (loadCellsFrom ⟨b, 0, none⟩ 0 n #[]) w = .ok cs w) (h : R (.returned (.agg cs)) w) : bodyPost P fn R .ret a w :=
  ⟨hd, _, by simp [results, hr, go_sem, g, loadVar_run hT hc], h⟩
theorem ret_cv {fn : Func} {R : Ending → World → Prop} {d d' t b n : Nat} {v : Value} {cs : Array Value} (hr : fn.results = #[.cell d t, .tmp d']) (hd : a.defers = []) (g : a.tmps[d]? = some (.pointer (some ⟨b, 0, none⟩))) (hT : aggT P t n = true) (hc : Sem.run P (loadCellsFrom ⟨b, 0, none⟩ 0 n #[]) w = .ok cs w) (g' : a.tmps[d']? = some v) (h : R (.returned (.tuple #[.agg cs, v])) w) : bodyPost P fn R .ret a w :=
  ⟨hd, _, by simp [results, hr, go_sem, g, g', loadVar_run hT hc], h⟩
end

/-! ### lists alike -/
def listB {α : Type} (f : α → α → Bool) : List α → List α → Bool
  | [], [] => true
  | x :: xs, y :: ys => f x y && listB f xs ys
  | _, _ => false
theorem listB_len {α : Type} {f : α → α → Bool} : ∀ {xs ys : List α}, xs.length ≠ ys.length → listB f xs ys = false
  | [], [], h => absurd rfl h
  | [], _ :: _, _ => rfl
  | _ :: _, [], _ => rfl
  | x :: xs, y :: ys, h => by
    unfold listB; rw [listB_len (xs := xs) (ys := ys) (fun e => h (by simp [e])), Bool.and_false]
theorem listB_step {α : Type} {f : α → α → Bool} {xs ys : List α} {i : Nat} {x y : α} (hx : xs[i]? = some x) (hy : ys[i]? = some y) : listB f (xs.drop i) (ys.drop i) = (f x y && listB f (xs.drop (i + 1)) (ys.drop (i + 1))) := by
  obtain ⟨h1, h2⟩ := List.getElem?_eq_some_iff.1 hx
  obtain ⟨h3, h4⟩ := List.getElem?_eq_some_iff.1 hy
  rw [List.drop_eq_getElem_cons h1, List.drop_eq_getElem_cons h3, h2, h4]; rfl
theorem listB_end {α : Type} {f : α → α → Bool} {xs ys : List α} {i : Nat} (hi : xs.length ≤ i) (hl : xs.length = ys.length) : listB f (xs.drop i) (ys.drop i) = true := by
  rw [List.drop_of_length_le hi, List.drop_of_length_le (by omega)]; rfl
theorem list_at {α : Type} {l : List α} {i : Nat} (h : i < l.length) : ∃ x, l[i]? = some x := ⟨l[i], List.getElem?_eq_getElem h⟩
end Go.Vc
