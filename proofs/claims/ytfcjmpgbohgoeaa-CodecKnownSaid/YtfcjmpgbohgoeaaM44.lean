/- Cr1, Cr2, Cr3, Cr4. -/
import Derived.Test.YtfcjmpgbohgoeaaM43
import Derived.Test.YtfcjmpgbohgoeaaSxA
import Derived.Test.YtfcjmpgbohgoeaaCo13
section
namespace Go.Proofs.Ytfcjmpgbohgoeaa
open Go.RowKit Go.Lib Go.Tk Go.Shelf Go.Vc Go.Sx
set_option linter.unusedVariables false
set_option linter.unusedSimpArgs false
end Go.Proofs.Ytfcjmpgbohgoeaa
end
section
namespace Go.Proofs.Ytfcjmpgbohgoeaa
open Go.RowKit Go.Lib Go.Tk Go.Shelf Go.Vc Go.Sx
set_option linter.unusedVariables false
set_option linter.unusedSimpArgs false
def legRow (n : Nat) (xs : List Value) : SC := .row 36 3 n (.shal xs) []
def taxRow (n : Nat) (xs : List Value) : SC := .row 58 2 n (.shal xs) []
end Go.Proofs.Ytfcjmpgbohgoeaa
end
section
namespace Go.Proofs.Ytfcjmpgbohgoeaa
open Go.RowKit Go.Lib Go.Tk Go.Shelf Go.Vc Go.Sx
set_option linter.unusedVariables false
set_option linter.unusedSimpArgs false
def cmdS (c : CmdV) (vl vt : SV) : List SV := [.val (.int .u8 c.kind), .val (.int .u8 c.tick.c), .val (.int .u64 c.tick.r), .val (.int .u8 c.at_), .val (.string c.name), vl, .val (.int .i64 c.fare), vt, .val (.int .i64 c.penalty), .val (.int .i64 c.amount)]
def msgS (m : MsgV) : List SV := [.val (.int .u8 m.kind), .val (.int .u8 m.tick.c), .val (.int .u64 m.tick.r), .val (.int .u8 m.at_), .val (.int .u8 m.leg.c), .val (.int .u16 m.leg.f), .val (.int .u32 m.leg.x), .val (.int .i64 m.value), .val (.int .u8 m.status), .val (.int .u32 m.nonce), .val (.int .i64 m.amount), .val (.int .i64 m.code)]
def recS (r : RecV) (vl vt : SV) : List SV := .val (.int .u8 r.kind) :: (cmdS r.cmd vl vt ++ .val (.int .u8 r.frm) :: .val (.int .u64 r.number) :: msgS r.msg)
end Go.Proofs.Ytfcjmpgbohgoeaa
end
section
namespace Go.Proofs.Ytfcjmpgbohgoeaa
open Go.RowKit Go.Lib Go.Tk Go.Shelf Go.Vc Go.Sx
set_option linter.unusedVariables false
set_option linter.unusedSimpArgs false
/-- two readings agree as long as nothing is wrong -/
structure Agr {α : Type} (f g : WS → α × WS) : Prop where
  run : ∀ σ, By σ.bs → σ.bad = false → By (f σ).2.bs ∧ (((f σ).2.bad = false ∧ g σ = f σ) ∨ ((f σ).2.bad = true ∧ (g σ).2.bad = true))
  stickF : ∀ σ, σ.bad = true → (f σ).2.bad = true
  stickG : ∀ σ, σ.bad = true → (g σ).2.bad = true
  byF : ∀ σ, By σ.bs → By (f σ).2.bs
def bnd2 {α β : Type} (f : WS → α × WS) (F : α → WS → β × WS) : WS → β × WS := fun σ => F (f σ).1 (f σ).2
theorem Agr.bind {α β : Type} {f g : WS → α × WS} {F G : α → WS → β × WS} (h : Agr f g) (H : ∀ x, Agr (F x) (G x)) : Agr (bnd2 f F) (bnd2 g G) where
  run σ hb h0 := by
    unfold bnd2
    obtain ⟨h1, ⟨h2, h3⟩ | ⟨h2, h3⟩⟩ := h.run σ hb h0
    · rw [h3]; exact (H _).run _ h1 h2
    · exact ⟨(H _).byF _ h1, .inr ⟨(H _).stickF _ h2, (H _).stickG _ h3⟩⟩
  stickF σ h0 := (H _).stickF _ (h.stickF σ h0)
  stickG σ h0 := (H _).stickG _ (h.stickG σ h0)
  byF σ hb := (H _).byF _ (h.byF σ hb)
theorem Agr.pure {α : Type} (x : α) : Agr (fun σ => (x, σ)) (fun σ => (x, σ)) := ⟨fun σ hb h0 => ⟨hb, .inl ⟨h0, rfl⟩⟩, fun _ h => h, fun _ h => h, fun _ h => h⟩
theorem Agr.congr {α : Type} {f g f' g' : WS → α × WS} (h : Agr f g) (hf : f' = f) (hg : g' = g) : Agr f' g' := by subst hf; subst hg; exact h
attribute [local irreducible] cmdF msgF
end Go.Proofs.Ytfcjmpgbohgoeaa
end
