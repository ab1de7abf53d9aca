/- Cr5, SxC, Cp1, Cp2, Cp3, Cp4. -/
import Derived.Test.YtfcjmpgbohgoeaaSxB
import Derived.Test.YtfcjmpgbohgoeaaM44
import Derived.Test.YtfcjmpgbohgoeaaCo14
import Derived.Test.YtfcjmpgbohgoeaaCr6
import Derived.Test.YtfcjmpgbohgoeaaM43
import Derived.Test.YtfcjmpgbohgoeaaCo12
section
namespace Go.Proofs.Ytfcjmpgbohgoeaa
open Go.RowKit Go.Lib Go.Tk Go.Shelf Go.Vc Go.Sx
set_option linter.unusedVariables false
set_option linter.unusedSimpArgs false
theorem rdv' {E : TypeId} {size n c : Nat} {v : Value} {a : Option Addr} {xs : List Value} (h : v = .slice a n c) : Rd (rowC E size v n xs) a xs := by subst h; exact rd_row
def u8Row (bs : List Int) : SC := .row 5 1 bs.length (.shal (bs.map (.int .u8))) []
/-- codec.Get by contract -/
theorem getk_ok (bs : List Int) (hin : ∀ x ∈ bs, 0 ≤ x ∧ x ≤ 255) (hb : bs.length ≤ 800000) :
    CallOK Try.prog 16 [.raw 0 0] [] [((0, 0), u8Row bs)] (.tup [.agg (recS (getR bs) (.raw 1 0) (.raw 1 1)), .val (.int .i64 (getE bs))]) [((0, 0), u8Row bs), ((1, 0), legRow (getR bs).cmd.legs.length (cellsL legE (getR bs).cmd.legs)), ((1, 1), taxRow (getR bs).cmd.taxes.length (cellsL taxE (getR bs).cmd.taxes))] := by
  intro ε R w hM
  have hM : Mem (rowC 5 1 (asSl (ε 0 0).2) bs.length (bs.map (.int .u8)) :: R) w := hM
  obtain ⟨a, c, hv, -, h1, -, h2⟩ := (hM.owns 0 rfl).row
  have e : (SV.dens ε [.raw 0 0]).toArray = #[.slice a bs.length c] := by rw [← hv]; rfl
  rw [e]
  refine (get_at a c bs _ R w hM (rdv' hv) h1 h2 hin hb).mono ?_
  rintro e' w' ⟨vl, vt, rfl, hm⟩
  have e1 : asSl vl = vl := asSl_self (hm.owns 0 rfl)
  have e2 : asSl vt = vt := asSl_self (hm.owns 1 rfl)
  refine ⟨fun k => (0, bif Nat.beq k 0 then vl else vt), ?_, ?_⟩
  · have : recCells (getR bs) vl vt = recCells (getR bs) (asSl vl) (asSl vt) := by rw [e1, e2]
    rw [this]; rfl
  · have hm : Mem (rowC 36 3 (asSl vl) (getR bs).cmd.legs.length (cellsL legE (getR bs).cmd.legs) :: rowC 58 2 (asSl vt) (getR bs).cmd.taxes.length (cellsL taxE (getR bs).cmd.taxes) :: rowC 5 1 (asSl (ε 0 0).2) bs.length (bs.map (.int .u8)) :: R) w' := by rw [e1, e2]; exact hm
    exact hm.front 2 rfl
theorem puts_ok : CallOK Try.prog 15 [] [] [] (.val (.bool true)) [] := fun ε R w hM =>
  (puts_at R w hM).mono fun e w' ⟨h, hm⟩ => ⟨fun _ => (0, undef), h, hm⟩
end Go.Proofs.Ytfcjmpgbohgoeaa
end
section
namespace Go.Sx
set_option linter.unusedVariables false
set_option linter.unusedSimpArgs false
open Go.RowKit Go.Tk Go.Lib Go.Shelf Go.Vc
end Go.Sx
end
section
namespace Go.Proofs.Ytfcjmpgbohgoeaa
open Go.RowKit Go.Lib Go.Tk Go.Shelf Go.Vc Go.Sx
set_option linter.unusedVariables false
set_option linter.unusedSimpArgs false
def u8R (xs : List Value) (n : Nat) : SC := .row 5 1 n (.shal xs) []
def cB (l : List Int) : List Value := l.map (.int .u8)
end Go.Proofs.Ytfcjmpgbohgoeaa
end
section
namespace Go.Proofs.Ytfcjmpgbohgoeaa
open Go.RowKit Go.Lib Go.Tk Go.Shelf Go.Vc Go.Sx
set_option linter.unusedVariables false
set_option linter.unusedSimpArgs false
def n0 (c : CmdV) : Nat := 1 + 9 + 1 + 8 + (1 + c.name.size) + 1
end Go.Proofs.Ytfcjmpgbohgoeaa
end
section
namespace Go.Proofs.Ytfcjmpgbohgoeaa
open Go.RowKit Go.Lib Go.Tk Go.Shelf Go.Vc Go.Sx
set_option linter.unusedVariables false
set_option linter.unusedSimpArgs false
end Go.Proofs.Ytfcjmpgbohgoeaa
end
section
namespace Go.Proofs.Ytfcjmpgbohgoeaa
open Go.RowKit Go.Lib Go.Tk Go.Shelf Go.Vc Go.Sx
set_option linter.unusedVariables false
set_option linter.unusedSimpArgs false
end Go.Proofs.Ytfcjmpgbohgoeaa
end
