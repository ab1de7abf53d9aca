/- Co16, Co20, Co21, Co22, Co26, Co27, Co28, Co29. -/
import Derived.Test.YtfcjmpgbohgoeaaM42
import Derived.Test.YtfcjmpgbohgoeaaCo14
import Derived.Laws.MakeOwn
section
namespace Go.Proofs.Ytfcjmpgbohgoeaa
open Go.RowKit Go.Lib Go.Tk Go.Shelf Go.Vc
set_option linter.unusedVariables false
set_option linter.unusedSimpArgs false

def encN (x : Int) (n : Nat) : List Int := be (IntKind.u64.wrap x) n
def tickBy (t : TickV) : List Int := encN t.c 1 ++ encN t.r 8
def legBy (l : LegV) : List Int := encN l.c 1 ++ (encN l.f 2 ++ encN l.x 4)
def lenBy (n : Nat) : List Int := be (n : Int) 1
def textBy (s : ByteArray) : List Int := lenBy s.size ++ bytesOf s
def taxBy (t : TaxV) : List Int := textBy t.code ++ encN t.amt 8
def legsBy (l : List LegV) : List Int := lenBy l.length ++ (l.map legBy).flatten
def taxesBy (l : List TaxV) : List Int := lenBy l.length ++ (l.map taxBy).flatten
def cmdBy (c : CmdV) : List Int := encN c.kind 1 ++ (tickBy c.tick ++ (encN c.at_ 1 ++ (encN c.amount 8 ++ (textBy c.name ++ (legsBy c.legs ++ (encN c.fare 8 ++ (taxesBy c.taxes ++ encN c.penalty 8)))))))
def msgBy (m : MsgV) : List Int := encN m.kind 1 ++ (tickBy m.tick ++ (encN m.at_ 1 ++ (legBy m.leg ++ (encN m.value 8 ++ (encN m.status 1 ++ (encN m.nonce 4 ++ (encN m.amount 8 ++ encN m.code 8)))))))
def recBy (r : RecV) : List Int := encN r.kind 1 ++ (if r.kind = 1 then cmdBy r.cmd else if r.kind = 2 then encN r.frm 1 ++ (encN r.number 8 ++ msgBy r.msg) else encN r.frm 1 ++ encN r.number 8)
/-! ### sizes -/
end Go.Proofs.Ytfcjmpgbohgoeaa
end
section
namespace Go.Proofs.Ytfcjmpgbohgoeaa
open Go.RowKit Go.Lib Go.Tk Go.Shelf Go.Vc
set_option linter.unusedVariables false
set_option linter.unusedSimpArgs false

def By (bs : List Int) : Prop := ∀ x ∈ bs, 0 ≤ x ∧ x ≤ 255
/-- f reads what E lays, and nothing else -/
structure Takes {α : Type} (f : WS → α → α × WS) (z : α) (Ok : α → Prop) (E : α → List Int) : Prop where
 back : ∀ x, Ok x → ∀ rest, f ⟨false, E x ++ rest⟩ z = (x, ⟨false, rest⟩)
 fwd : ∀ σ, σ.bad = false → By σ.bs → (f σ z).2.bad = false → Ok (f σ z).1 ∧ σ.bs = E (f σ z).1 ++ (f σ z).2.bs
 bad : ∀ σ, σ.bad = true → (f σ z).2.bad = true
theorem By.rest {a b : List Int} (h : By (a ++ b)) : By b := fun x hx => h x (List.mem_append_right _ hx)
theorem Takes.weaken {α : Type} {f : WS → α → α × WS} {z : α} {Ok Ok' : α → Prop} {E E' : α → List Int} (h : Takes f z Ok E) (ho : ∀ x, Ok x ↔ Ok' x) (he : ∀ x, Ok x → E x = E' x) : Takes f z Ok' E' where
 back x hx rest := by rw [← he x ((ho x).2 hx)]; exact h.back x ((ho x).2 hx) rest
 fwd σ h1 h2 h3 := by
  obtain ⟨k1, k2⟩ := h.fwd σ h1 h2 h3
  exact ⟨(ho _).1 k1, by rw [← he _ k1]; exact k2⟩
 bad := h.bad
end Go.Proofs.Ytfcjmpgbohgoeaa
end
section
namespace Go.Proofs.Ytfcjmpgbohgoeaa
open Go.RowKit Go.Lib Go.Tk Go.Shelf Go.Vc
set_option linter.unusedVariables false
set_option linter.unusedSimpArgs false
end Go.Proofs.Ytfcjmpgbohgoeaa
end
section
namespace Go.Proofs.Ytfcjmpgbohgoeaa
open Go.RowKit Go.Lib Go.Tk Go.Shelf Go.Vc
set_option linter.unusedVariables false
set_option linter.unusedSimpArgs false
/-! ### the laws in plain words -/
end Go.Proofs.Ytfcjmpgbohgoeaa
end
section
namespace Go.Proofs.Ytfcjmpgbohgoeaa
open Go.RowKit Go.Lib Go.Tk Go.Shelf Go.Vc
set_option linter.unusedVariables false
set_option linter.unusedSimpArgs false
attribute [-go_sem] loadCellsFrom
end Go.Proofs.Ytfcjmpgbohgoeaa
end
section
namespace Go.Proofs.Ytfcjmpgbohgoeaa
open Go.RowKit Go.Lib Go.Tk Go.Shelf Go.Vc
set_option linter.unusedVariables false
set_option linter.unusedSimpArgs false
attribute [-go_sem] loadCellsFrom
theorem x_makeSlice {P : Program} {w w' : World} {ρ : Operand → Value} {o : Oper} {t : TypeId} {x y : Operand} {v u r : Value} (ho : o.op = .makeSlice t x y) (hx : ρ x = v) (hy : ρ y = u) (hr : (Instr.makeSlice t v u).run P w = .ok r w') : (execOp ρ o).run P w = .ok (.value r) w' := by
 unfold execOp; rw [ho]; simp [hx, hy, hr]
end Go.Proofs.Ytfcjmpgbohgoeaa
end
section
namespace Go.Proofs.Ytfcjmpgbohgoeaa
open Go.RowKit Go.Lib Go.Tk Go.Shelf Go.Vc
set_option linter.unusedVariables false
set_option linter.unusedSimpArgs false
attribute [-go_sem] loadCellsFrom
end Go.Proofs.Ytfcjmpgbohgoeaa
end
section
namespace Go.Proofs.Ytfcjmpgbohgoeaa
open Go.RowKit Go.Lib Go.Tk Go.Shelf Go.Vc
set_option linter.unusedVariables false
set_option linter.unusedSimpArgs false
attribute [-go_sem] loadCellsFrom
end Go.Proofs.Ytfcjmpgbohgoeaa
end
