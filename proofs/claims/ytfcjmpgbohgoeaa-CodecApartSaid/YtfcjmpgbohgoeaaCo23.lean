/- CODEC: the walk of CodecBack. -/
import Derived.Test.YtfcjmpgbohgoeaaCo17
import Derived.Test.YtfcjmpgbohgoeaaCo18
import Derived.Test.YtfcjmpgbohgoeaaCo19
import Derived.Test.YtfcjmpgbohgoeaaCo22
namespace Go.Proofs.Ytfcjmpgbohgoeaa
open Go.RowKit Go.Lib Go.Tk Go.Shelf Go.Vc
set_option linter.unusedVariables false
set_option linter.unusedSimpArgs false
attribute [-go_sem] loadCellsFrom
theorem rdM {D : Chunk} {a : Option Addr} {xs : List Value} (h : Rd D a xs) {cs : List Chunk} (i : Nat) (hi : cs[i]? = some D) : Reads cs a xs := fun w hm => h.row hm i hi
theorem x_neB {P : Program} {w : World} {ρ : Operand → Value} {o : Oper} {t t' : TypeId} {x y : Operand} {a b c : Bool} (ht : P.underlying t = some .bool) (ho : o.op = .binOp .neq t x y t') (hx : ρ x = .bool a) (hy : ρ y = .bool b) (hc : (!(a == b)) = c) : (execOp ρ o).run P w = .ok (.value (.bool c)) w := by
 have h : ∀ d : Nat, (Op.equalIn (d + 1) t (.bool a) (.bool b)).run P w = .ok (a == b) w := fun d => run_equalIn_bool w d t a b ht
 have h2 : (binOp .neq t (.bool a) (.bool b)).run P w = .ok (.bool c) w := by
  simp only [binOp]
  simp [Op.equal, Op.maxDepth, h 9999, hc]
 unfold execOp; rw [ho]; simp [hx, hy, eqGuard, h2]
theorem By.app {a b : List Int} (h : By a) (k : By b) : By (a ++ b) := fun x hx => (List.mem_append.1 hx).elim (h x) (k x)
theorem by_enc (x : Int) (n : Nat) : By (encN x n) := be_in _ _
theorem by_len (n : Nat) : By (lenBy n) := be_in _ _
theorem by_flat {α : Type} {f : α → List Int} (h : ∀ x, By (f x)) (l : List α) : By (l.map f).flatten := fun x hx => by
 obtain ⟨r, hr, hx⟩ := List.mem_flatten.1 hx
 obtain ⟨y, _, rfl⟩ := List.mem_map.1 hr
 exact h y x hx
theorem by_tick (t : TickV) : By (tickBy t) := (by_enc _ _).app (by_enc _ _)
theorem by_leg (t : LegV) : By (legBy t) := (by_enc _ _).app ((by_enc _ _).app (by_enc _ _))
theorem by_text (s : ByteArray) : By (textBy s) := (by_len _).app (bytesOf_in s)
theorem by_tax (t : TaxV) : By (taxBy t) := (by_text _).app (by_enc _ _)
theorem by_cmd (c : CmdV) : By (cmdBy c) := (by_enc _ _).app ((by_tick _).app ((by_enc _ _).app ((by_enc _ _).app ((by_text _).app (((by_len _).app (by_flat by_leg _)).app ((by_enc _ _).app (((by_len _).app (by_flat by_tax _)).app (by_enc _ _))))))))
theorem by_msg (m : MsgV) : By (msgBy m) := (by_enc _ _).app ((by_tick _).app ((by_enc _ _).app ((by_leg _).app ((by_enc _ _).app ((by_enc _ _).app ((by_enc _ _).app ((by_enc _ _).app (by_enc _ _))))))))
theorem by_rec (r : RecV) : By (recBy r) := (by_enc _ _).app (by
 split
 · exact by_cmd _
 ·
  split
  · exact (by_enc _ _).app ((by_enc _ _).app (by_msg _))
  · exact (by_enc _ _).app (by_enc _ _))
theorem put_by {r : RecV} (hi : RecIn r) : By (putB r) := by
 by_cases h : putE r = 0
 · rw [putB_eq h hi]; exact by_rec r
 · rw [putB_no h]; intro x hx; cases hx
theorem put_small {r : RecV} (hi : RecIn r) (hg : greatV r = false) : (putB r).length ≤ 400000 := by
 by_cases h : putE r = 0
 ·
  obtain ⟨⟨h1, h2, h3⟩, h4⟩ := not_great hg
  have h5 := sumC_le _ h4
  have h6 := recBy_len r
  have h7 : sizeV r ≤ 400000 := by
   unfold sizeV
   split
   · omega
   · split <;> omega
  rw [putB_eq h hi]; omega
 · rw [putB_no h]; exact Nat.zero_le _
theorem isRow_bytes {w : World} {a : Option Addr} {n c : Nat} {zs : List Int} (h : IsRow .u8 w a n c zs) : ∃ xs : List Int, xs.length = n ∧ Row w a (xs.map (.int .u8)) ∧ n ≤ c ∧ n ≤ maxLen ∧ (a = none → c = 0) ∧ By xs := by
 have hnc : n ≤ c := by
  rcases h with ⟨-, rfl, rfl, -⟩ | ⟨x, -, hl, -⟩
  · exact Nat.le_refl _
  · exact hl
 obtain ⟨xs, h1, h2, h3, h4, h5⟩ := h.row
 exact ⟨xs, h1, h2, hnc, h3, h4, fun x hx => wf_u8 (h5 x hx)⟩
end Go.Proofs.Ytfcjmpgbohgoeaa
