/- What comparisons of structs, strings and slices come to; rows that are only read; results that lie in memory. -/
import Derived.Test.YtfnneghddndeiaaMa0601d2
import Derived.Test.YtfnneghddndeiaaRowS
import Derived.Test.YtfnneghddndeiaaVcm
import Derived.Laws.StructEq
namespace Go.Vc
open Go.RowKit Go.Tk Go.Lib Go.Shelf
set_option linter.unusedVariables false
set_option linter.unusedSimpArgs false
section
variable {P : Program} {w : World} {ρ : Operand → Value} {o : Oper}
theorem x_eqA {t t' : TypeId} {x y : Operand} {xs ys : Array Value} {b : Bool} (ho : o.op = .binOp .eql t x y t') (hx : ρ x = .agg xs) (hy : ρ y = .agg ys) (hg : P.eqGuardType P.depth t = false) (hq : (Op.equalIn 10000 t (.agg xs) (.agg ys)).run P w = .ok b w) : (execOp ρ o).run P w = .ok (.value (.bool b)) w := by
  have h1 := fun (op : BinOp) (x y : Operand) => run_eqGuard_agg w op t x y xs ys hg
  have h2 := run_eql_struct (P := P) w t xs ys
  rw [hq] at h2
  unfold execOp; rw [ho]
  simp [hx, hy, h1, h2, Result.andThen]
theorem x_neA {t t' : TypeId} {x y : Operand} {xs ys : Array Value} {b c : Bool} (ho : o.op = .binOp .neq t x y t') (hx : ρ x = .agg xs) (hy : ρ y = .agg ys) (hg : P.eqGuardType P.depth t = false) (hq : (Op.equalIn 10000 t (.agg xs) (.agg ys)).run P w = .ok b w) (hc : (!b) = c) : (execOp ρ o).run P w = .ok (.value (.bool c)) w := by
  have h1 := fun (op : BinOp) (x y : Operand) => run_eqGuard_agg w op t x y xs ys hg
  have h2 := run_neq_struct (P := P) w t xs ys
  rw [hq] at h2
  unfold execOp; rw [ho]
  simp [hx, hy, h1, h2, hc, Result.andThen]
end
def Reads (R : List Chunk) (a : Option Addr) (xs : List Value) : Prop := ∀ w, Mem R w → Row w a xs
theorem Reads.more {c : Chunk} {R : List Chunk} {a : Option Addr} {xs : List Value} (h : Reads R a xs) : Reads (c :: R) a xs := fun w hm => h w hm.tail
theorem Reads.nil {R : List Chunk} {a : Option Addr} : Reads R a [] := fun _ _ => Row.nil
theorem Reads.old {w0 : World} {R : List Chunk} {a : Option Addr} {xs : List Value} (h : Row w0 a xs) (i : Nat) (hi : R[i]? = some (oldC w0)) : Reads R a xs := fun w hm => h.kept (hm.below i hi)
theorem Reads.own {E : TypeId} {size n c : Nat} {R : List Chunk} {a : Option Addr} {xs : List Value} (i : Nat) (hi : R[i]? = some (rowC E size (.slice a n c) n xs)) : Reads R a xs := fun w hm => rd_row.row hm i hi
theorem load_at {P : Program} {w : World} {b off n : Nat} {cs : List Value} (hn : cs.length = n) (h : ∀ (j : Nat) v, cs[j]? = some v → w.cell? ⟨b, off + j, none⟩ = some v) : Sem.run P (loadCellsFrom ⟨b, off, none⟩ 0 n #[]) w = .ok cs.toArray w := by
  have := Go.Proofs.run_loadCellsFrom_list P w (Addr.mk b off none) cs n hn (fun j v hj => by
    rw [addr_add]; exact h j v hj)
  simpa using this
section
variable {P : Program} {a : Act} {w : World}
attribute [-go_sem] loadCellsFrom loadVar
end
end Go.Vc
