/- Co20, Co21, Co22, Co26, Co27, Co28, Co29, Cr1, Cr2, Cr3, Cr6. -/
import Derived.Test.YtfcjmpgbohgoeaaCo16
import Derived.Test.YtfcjmpgbohgoeaaCo14
import Derived.Laws.MakeOwn
import Derived.Test.YtfcjmpgbohgoeaaSxA
import Derived.Test.YtfcjmpgbohgoeaaCo13
import Derived.Test.YtfcjmpgbohgoeaaSxB
import Derived.Test.YtfcjmpgbohgoeaaCo10
section
namespace Go.Proofs.Ytfcjmpgbohgoeaa
open Go.RowKit Go.Lib Go.Tk Go.Shelf Go.Vc
set_option linter.unusedVariables false
set_option linter.unusedSimpArgs false

def By (bs : List Int) : Prop := ∀ x ∈ bs, 0 ≤ x ∧ x ≤ 255
/-- f reads what E lays, and nothing else -/
structure Takes {α : Type} (f : WS → α → α × WS) (z : α) (Ok : α → Prop) (E : α → List Int) : Prop where
 back : ∀ x, Ok x → ∀ rest, f ⟨false, E x ++ rest⟩ z = (x, ⟨false, rest⟩)
 fwd : ∀ σ, σ.bad = false → By σ.bs → (f σ z).2.bad = false → Ok (f σ z).1 ∧ σ.bs = E (f σ z).1 ++ (f σ z).2.bs
 bad : ∀ σ, σ.bad = true → (f σ z).2.bad = true
theorem By.rest {a b : List Int} (h : By (a ++ b)) : By b := fun x hx => h x (List.mem_append_right _ hx)
theorem Takes.weaken {α : Type} {f : WS → α → α × WS} {z : α} {Ok Ok' : α → Prop} {E E' : α → List Int} (h : Takes f z Ok E) (ho : ∀ x, Ok x ↔ Ok' x) (he : ∀ x, Ok x → E x = E' x) : Takes f z Ok' E' where
 back x hx rest := by rw [← he x ((ho x).2 hx)]; exact h.back x ((ho x).2 hx) rest
 fwd σ h1 h2 h3 := by
  obtain ⟨k1, k2⟩ := h.fwd σ h1 h2 h3
  exact ⟨(ho _).1 k1, by rw [← he _ k1]; exact k2⟩
 bad := h.bad
end Go.Proofs.Ytfcjmpgbohgoeaa
end
section
namespace Go.Proofs.Ytfcjmpgbohgoeaa
open Go.RowKit Go.Lib Go.Tk Go.Shelf Go.Vc
set_option linter.unusedVariables false
set_option linter.unusedSimpArgs false
end Go.Proofs.Ytfcjmpgbohgoeaa
end
section
namespace Go.Proofs.Ytfcjmpgbohgoeaa
open Go.RowKit Go.Lib Go.Tk Go.Shelf Go.Vc
set_option linter.unusedVariables false
set_option linter.unusedSimpArgs false
/-! ### the laws in plain words -/
end Go.Proofs.Ytfcjmpgbohgoeaa
end
section
namespace Go.Proofs.Ytfcjmpgbohgoeaa
open Go.RowKit Go.Lib Go.Tk Go.Shelf Go.Vc
set_option linter.unusedVariables false
set_option linter.unusedSimpArgs false
attribute [-go_sem] loadCellsFrom
end Go.Proofs.Ytfcjmpgbohgoeaa
end
section
namespace Go.Proofs.Ytfcjmpgbohgoeaa
open Go.RowKit Go.Lib Go.Tk Go.Shelf Go.Vc
set_option linter.unusedVariables false
set_option linter.unusedSimpArgs false
attribute [-go_sem] loadCellsFrom
theorem x_makeSlice {P : Program} {w w' : World} {ρ : Operand → Value} {o : Oper} {t : TypeId} {x y : Operand} {v u r : Value} (ho : o.op = .makeSlice t x y) (hx : ρ x = v) (hy : ρ y = u) (hr : (Instr.makeSlice t v u).run P w = .ok r w') : (execOp ρ o).run P w = .ok (.value r) w' := by
 unfold execOp; rw [ho]; simp [hx, hy, hr]
end Go.Proofs.Ytfcjmpgbohgoeaa
end
section
namespace Go.Proofs.Ytfcjmpgbohgoeaa
open Go.RowKit Go.Lib Go.Tk Go.Shelf Go.Vc
set_option linter.unusedVariables false
set_option linter.unusedSimpArgs false
attribute [-go_sem] loadCellsFrom
end Go.Proofs.Ytfcjmpgbohgoeaa
end
section
namespace Go.Proofs.Ytfcjmpgbohgoeaa
open Go.RowKit Go.Lib Go.Tk Go.Shelf Go.Vc
set_option linter.unusedVariables false
set_option linter.unusedSimpArgs false
attribute [-go_sem] loadCellsFrom
end Go.Proofs.Ytfcjmpgbohgoeaa
end
section
namespace Go.Proofs.Ytfcjmpgbohgoeaa
open Go.RowKit Go.Lib Go.Tk Go.Shelf Go.Vc Go.Sx
set_option linter.unusedVariables false
set_option linter.unusedSimpArgs false
end Go.Proofs.Ytfcjmpgbohgoeaa
end
section
namespace Go.Proofs.Ytfcjmpgbohgoeaa
open Go.RowKit Go.Lib Go.Tk Go.Shelf Go.Vc Go.Sx
set_option linter.unusedVariables false
set_option linter.unusedSimpArgs false
def legRow (n : Nat) (xs : List Value) : SC := .row 36 3 n (.shal xs) []
def taxRow (n : Nat) (xs : List Value) : SC := .row 58 2 n (.shal xs) []
end Go.Proofs.Ytfcjmpgbohgoeaa
end
section
namespace Go.Proofs.Ytfcjmpgbohgoeaa
open Go.RowKit Go.Lib Go.Tk Go.Shelf Go.Vc Go.Sx
set_option linter.unusedVariables false
set_option linter.unusedSimpArgs false
def cmdS (c : CmdV) (vl vt : SV) : List SV := [.val (.int .u8 c.kind), .val (.int .u8 c.tick.c), .val (.int .u64 c.tick.r), .val (.int .u8 c.at_), .val (.string c.name), vl, .val (.int .i64 c.fare), vt, .val (.int .i64 c.penalty), .val (.int .i64 c.amount)]
def msgS (m : MsgV) : List SV := [.val (.int .u8 m.kind), .val (.int .u8 m.tick.c), .val (.int .u64 m.tick.r), .val (.int .u8 m.at_), .val (.int .u8 m.leg.c), .val (.int .u16 m.leg.f), .val (.int .u32 m.leg.x), .val (.int .i64 m.value), .val (.int .u8 m.status), .val (.int .u32 m.nonce), .val (.int .i64 m.amount), .val (.int .i64 m.code)]
def recS (r : RecV) (vl vt : SV) : List SV := .val (.int .u8 r.kind) :: (cmdS r.cmd vl vt ++ .val (.int .u8 r.frm) :: .val (.int .u64 r.number) :: msgS r.msg)
end Go.Proofs.Ytfcjmpgbohgoeaa
end
section
namespace Go.Proofs.Ytfcjmpgbohgoeaa
open Go.RowKit Go.Lib Go.Tk Go.Shelf Go.Vc Go.Sx
set_option linter.unusedVariables false
set_option linter.unusedSimpArgs false
def RS : Nat := 14
def saleS (c : CmdV) (vl vt : SV) : List SV := [.val (.string c.name), vl, .val (.int .i64 c.fare), vt, .val (.int .i64 c.penalty)]
def legS (l : LegV) : List SV := [.val (.int .u8 l.c), .val (.int .u16 l.f), .val (.int .u32 l.x)]
def taxS (t : TaxV) : List SV := [.val (.string t.code), .val (.int .i64 t.amt)]
theorem legS_at {l : List LegV} {i : Nat} {x : LegV} (h : l[i]? = some x) (ε : Env) (j : Nat) (v : SV) (hv : (legS x)[j]? = some v) : (cellsL legE l)[i * 3 + j]? = some (v.den ε) :=
  cells_at (enc := legE) (fun _ => rfl) h (by
    have h1 : SV.dens ε (legS x) = legE x := rfl
    rw [← h1, dens_get, hv]; rfl)
theorem taxS_at {l : List TaxV} {i : Nat} {x : TaxV} (h : l[i]? = some x) (ε : Env) (j : Nat) (v : SV) (hv : (taxS x)[j]? = some v) : (cellsL taxE l)[i * 2 + j]? = some (v.den ε) :=
  cells_at (enc := taxE) (fun _ => rfl) h (by
    have h1 : SV.dens ε (taxS x) = taxE x := rfl
    rw [← h1, dens_get, hv]; rfl)
def tickS (t : TickV) : List SV := [.val (.int .u8 t.c), .val (.int .u64 t.r)]
end Go.Proofs.Ytfcjmpgbohgoeaa
end
