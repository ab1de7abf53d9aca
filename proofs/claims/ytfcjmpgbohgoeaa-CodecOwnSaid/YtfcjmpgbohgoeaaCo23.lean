/- CODEC: the walk of CodecBack. -/
import Derived.Test.YtfcjmpgbohgoeaaCo17
import Derived.Test.YtfcjmpgbohgoeaaCo18
import Derived.Test.YtfcjmpgbohgoeaaCo19
import Derived.Test.YtfcjmpgbohgoeaaCo22
namespace Go.Proofs.Ytfcjmpgbohgoeaa
open Go.RowKit Go.Lib Go.Tk Go.Shelf Go.Vc
set_option linter.unusedVariables false
set_option linter.unusedSimpArgs false
attribute [-go_sem] loadCellsFrom
theorem rdM {D : Chunk} {a : Option Addr} {xs : List Value} (h : Rd D a xs) {cs : List Chunk} (i : Nat) (hi : cs[i]? = some D) : Reads cs a xs := fun w hm => h.row hm i hi
theorem sameW_self (r : RecV) : sameW r r = true := (sameW_iff r r).2 rfl
theorem By.app {a b : List Int} (h : By a) (k : By b) : By (a ++ b) := fun x hx => (List.mem_append.1 hx).elim (h x) (k x)
theorem by_enc (x : Int) (n : Nat) : By (encN x n) := be_in _ _
theorem by_len (n : Nat) : By (lenBy n) := be_in _ _
theorem by_flat {α : Type} {f : α → List Int} (h : ∀ x, By (f x)) (l : List α) : By (l.map f).flatten := fun x hx => by
 obtain ⟨r, hr, hx⟩ := List.mem_flatten.1 hx
 obtain ⟨y, _, rfl⟩ := List.mem_map.1 hr
 exact h y x hx
theorem by_tick (t : TickV) : By (tickBy t) := (by_enc _ _).app (by_enc _ _)
theorem by_leg (t : LegV) : By (legBy t) := (by_enc _ _).app ((by_enc _ _).app (by_enc _ _))
theorem by_text (s : ByteArray) : By (textBy s) := (by_len _).app (bytesOf_in s)
theorem by_tax (t : TaxV) : By (taxBy t) := (by_text _).app (by_enc _ _)
theorem by_cmd (c : CmdV) : By (cmdBy c) := (by_enc _ _).app ((by_tick _).app ((by_enc _ _).app ((by_enc _ _).app ((by_text _).app (((by_len _).app (by_flat by_leg _)).app ((by_enc _ _).app (((by_len _).app (by_flat by_tax _)).app (by_enc _ _))))))))
theorem by_msg (m : MsgV) : By (msgBy m) := (by_enc _ _).app ((by_tick _).app ((by_enc _ _).app ((by_leg _).app ((by_enc _ _).app ((by_enc _ _).app ((by_enc _ _).app ((by_enc _ _).app (by_enc _ _))))))))
theorem by_rec (r : RecV) : By (recBy r) := (by_enc _ _).app (by
 split
 · exact by_cmd _
 ·
  split
  · exact (by_enc _ _).app ((by_enc _ _).app (by_msg _))
  · exact (by_enc _ _).app (by_enc _ _))
theorem put_by {r : RecV} (hi : RecIn r) : By (putB r) := by
 by_cases h : putE r = 0
 · rw [putB_eq h hi]; exact by_rec r
 · rw [putB_no h]; intro x hx; cases hx
theorem put_small {r : RecV} (hi : RecIn r) (hg : greatV r = false) : (putB r).length ≤ 400000 := by
 by_cases h : putE r = 0
 ·
  obtain ⟨⟨h1, h2, h3⟩, h4⟩ := not_great hg
  have h5 := sumC_le _ h4
  have h6 := recBy_len r
  have h7 : sizeV r ≤ 400000 := by
   unfold sizeV
   split
   · omega
   · split <;> omega
  rw [putB_eq h hi]; omega
 · rw [putB_no h]; exact Nat.zero_le _
end Go.Proofs.Ytfcjmpgbohgoeaa
