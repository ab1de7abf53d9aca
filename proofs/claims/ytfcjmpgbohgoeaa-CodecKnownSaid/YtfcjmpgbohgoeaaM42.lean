/- Flat, Co15. -/
import Derived.Test.YtfcjmpgbohgoeaaM5
import Derived.WideShapes
import Derived.Lib.SmallJoins
import Derived.Test.YtfcjmpgbohgoeaaCo14
section
namespace Go.Tk
set_option linter.unusedVariables false
set_option linter.unusedSimpArgs false
open Go.RowKit Go.Lib Go.WideShapes

variable {H : Type} {enc : TypeId × Value → H} {P : Program} {w : World} {base : Nat} {spare : Nat → Bool} {held : Bool}

def FlatAs (enc : TypeId × Value → H) (P : Program) (w : World) (base : Nat) (spare : Nat → Bool) (held : Bool) : List TypeId → List Value → Prop
  | [], cs => cs = []
  | t :: ts, cs => ∃ v cs', cs = v :: cs' ∧ (∃ n y, DataW.trod enc P w base spare held n t [v] = some y) ∧ FlatAs enc P w base spare held ts cs'
theorem FlatAs.append : ∀ {ts us : List TypeId} {cs ds : List Value}, FlatAs enc P w base spare held ts cs → FlatAs enc P w base spare held us ds → FlatAs enc P w base spare held (ts ++ us) (cs ++ ds)
  | [], _, _, _, h, k => by cases h; exact k
  | _ :: _, _, _, _, ⟨v, cs', e, hv, h⟩, k => by subst e; exact ⟨v, _, rfl, hv, h.append k⟩

end Go.Tk
end
section
namespace Go.Proofs.Ytfcjmpgbohgoeaa
set_option linter.unusedSimpArgs false
open Go.RowKit Go.Lib Go.Tk Go.Shelf Go.Vc Go.WideShapes Go.Joins Go.ChangeShapes
set_option linter.unusedVariables false
def In : IntKind → Int → Prop
 | .u8, x => 0 ≤ x ∧ x ≤ 255
 | .u16, x => 0 ≤ x ∧ x ≤ 65535
 | .u32, x => 0 ≤ x ∧ x ≤ 4294967295
 | .u64, x => 0 ≤ x ∧ x ≤ 18446744073709551615
 | .i64, x => -9223372036854775808 ≤ x ∧ x ≤ 9223372036854775807
 | _, _ => False
structure LegIn (l : LegV) : Prop where
 c : In .u8 l.c
 f : In .u16 l.f
 x : In .u32 l.x
structure TaxIn (t : TaxV) : Prop where
 code : t.code.size ≤ maxLen
 amt : In .i64 t.amt
structure TickIn (t : TickV) : Prop where
 c : In .u8 t.c
 r : In .u64 t.r
structure CmdIn (c : CmdV) : Prop where
 kind : In .u8 c.kind
 tick : TickIn c.tick
 at_ : In .u8 c.at_
 name : c.name.size ≤ maxLen
 nl : c.legs.length ≤ maxLen
 legs : ∀ l ∈ c.legs, LegIn l
 fare : In .i64 c.fare
 nt : c.taxes.length ≤ maxLen
 taxes : ∀ t ∈ c.taxes, TaxIn t
 penalty : In .i64 c.penalty
 amount : In .i64 c.amount
structure MsgIn (m : MsgV) : Prop where
 kind : In .u8 m.kind
 tick : TickIn m.tick
 at_ : In .u8 m.at_
 leg : LegIn m.leg
 value : In .i64 m.value
 status : In .u8 m.status
 nonce : In .u32 m.nonce
 amount : In .i64 m.amount
 code : In .i64 m.code
structure RecIn (r : RecV) : Prop where
 kind : In .u8 r.kind
 cmd : CmdIn r.cmd
 frm : In .u8 r.frm
 number : In .u64 r.number
 msg : MsgIn r.msg
theorem RecIn.w {r : RecV} (h : RecIn r) (h1 : r.cmd.legs.length ≤ 1000000) (h2 : r.cmd.taxes.length ≤ 1000000) : RecW r := ⟨h.number, h.cmd.tick.r, h.msg.tick.r, h1, h2⟩
variable {H : Type} {enc : TypeId × Value → H} {w : World} {base : Nat} {spare : Nat → Bool} {held : Bool}
end Go.Proofs.Ytfcjmpgbohgoeaa
end
