/-
  No cell of these rows narrows 'for every input' (looked for: loops, veiled, ifaces, maps, wideKeys, modest, calm, conditions, laid).
  DERIVED. THE GIVEN ROWS OF THIS SEAT. 4 by the template 'for every input the law returns true; each argument reads behind the call as it read before'; 0 by the template 'total and deterministic' (their statements: YtifapcpcemigdaaGreatTotals.lean).
  GIVEN WITH THE SEED: the statements are not yours to turn. If you find one false, say at which input.
  Laid BY PROGRAM, IN A SANDBOX (cutbox-rows.mjs): the forced cells as the released guide's own fill.sh prints them over the translation b00e195300c84365… (all of the seat's roots in one cut). By AI agents, Wed Nov 11 2026. No macro, syntax, notation, axiom, sorry.
-/
import Derived.Test.YtifapcpcemigdaaGreatChecked
import GoSem.Claim
import GoSem.ClaimJoined
import GoSem.ClaimMapViews
import Derived.JoinedTies
import Derived.KernelRfl
namespace Go.Proofs.YtifapcpcemigdaaGreat
/- THE CELL 'sum', in the pinned program and in every row, IS THE sha256 OF THE DUMP (.gsa) THAT YtifapcpcemigdaaGreatProg.lean LOADS. Nothing in Lean hashes anything: it is a label: what it is worth is what the hold of that sum in a sandbox is worth. -/
noncomputable def Tryz.pinned : Pinned := { name := "ytifapcpcemigdaagreat", sum := "b00e195300c84365202b15821044851875c220bad7b018b9a330c5c9077cefa3", checked := Tryz.checked }
namespace Rows
def none {H : Type} : Left H := { results := [], args := [] }

/-- 'tarmaclaw20.OfficeMoney': WHATEVER THE INPUT: true; the input reads as it did. -/
def officeMoneySpec : ChangeSpec := { name := "officeMoney", fn := fun _ => fun
  | [d1, d2, d3] => { results := [.lit (.bool true)], args := [d1, d2, d3] }
  | _ => none }
def officeMoneyRow : OpenClaim := { program := "ytifapcpcemigdaagreat", sum := "b00e195300c84365202b15821044851875c220bad7b018b9a330c5c9077cefa3", func := "tarmac/tarmaclaw20.OfficeMoney", spec := "officeMoney", inPlace := ["maps.clone", "internal/bytealg.IndexByteString"], unfollowed := true, recurses := true, plainKeys := false, apart := false }
def OfficeMoneySaid : Prop := officeMoneyRow.holds Tryz.pinned (OpenSpec.ofChange officeMoneySpec)

/-- ITS FALSE NEIGHBOUR: 'it returns false'. Refute it at one input. -/
def officeMoneyWrong : ChangeSpec := { name := "officeMoney", fn := fun _ => fun
  | [d1, d2, d3] => { results := [.lit (.bool false)], args := [d1, d2, d3] }
  | _ => none }
def OfficeMoneyWrongFalsely : Prop := officeMoneyRow.holds Tryz.pinned (OpenSpec.ofChange officeMoneyWrong)

/-- 'tarmaclaw20.OfficeNil': WHATEVER THE INPUT: true; the input reads as it did. -/
def officeNilSpec : ChangeSpec := { name := "officeNil", fn := fun _ => fun
  | [d] => { results := [.lit (.bool true)], args := [d] }
  | _ => none }
def officeNilRow : OpenClaim := { program := "ytifapcpcemigdaagreat", sum := "b00e195300c84365202b15821044851875c220bad7b018b9a330c5c9077cefa3", func := "tarmac/tarmaclaw20.OfficeNil", spec := "officeNil", inPlace := ["maps.clone", "internal/bytealg.IndexByteString"], unfollowed := true, recurses := true, plainKeys := false, apart := false }
def OfficeNilSaid : Prop := officeNilRow.holds Tryz.pinned (OpenSpec.ofChange officeNilSpec)

/-- ITS FALSE NEIGHBOUR: 'it returns false'. Refute it at one input. -/
def officeNilWrong : ChangeSpec := { name := "officeNil", fn := fun _ => fun
  | [d] => { results := [.lit (.bool false)], args := [d] }
  | _ => none }
def OfficeNilWrongFalsely : Prop := officeNilRow.holds Tryz.pinned (OpenSpec.ofChange officeNilWrong)

/-- 'tarmaclaw20.OfficeReplays': WHATEVER THE INPUT: true; the input reads as it did. -/
def officeReplaysSpec : ChangeSpec := { name := "officeReplays", fn := fun _ => fun
  | [d1, d2, d3] => { results := [.lit (.bool true)], args := [d1, d2, d3] }
  | _ => none }
def officeReplaysRow : OpenClaim := { program := "ytifapcpcemigdaagreat", sum := "b00e195300c84365202b15821044851875c220bad7b018b9a330c5c9077cefa3", func := "tarmac/tarmaclaw20.OfficeReplays", spec := "officeReplays", inPlace := ["maps.clone", "internal/bytealg.IndexByteString"], unfollowed := true, recurses := true, plainKeys := false, apart := false }
def OfficeReplaysSaid : Prop := officeReplaysRow.holds Tryz.pinned (OpenSpec.ofChange officeReplaysSpec)

/-- ITS FALSE NEIGHBOUR: 'it returns false'. Refute it at one input. -/
def officeReplaysWrong : ChangeSpec := { name := "officeReplays", fn := fun _ => fun
  | [d1, d2, d3] => { results := [.lit (.bool false)], args := [d1, d2, d3] }
  | _ => none }
def OfficeReplaysWrongFalsely : Prop := officeReplaysRow.holds Tryz.pinned (OpenSpec.ofChange officeReplaysWrong)

/-- 'tarmaclaw20.OfficePure': WHATEVER THE INPUT: true; the input reads as it did. -/
def officePureSpec : ChangeSpec := { name := "officePure", fn := fun _ => fun
  | [d1, d2, d3] => { results := [.lit (.bool true)], args := [d1, d2, d3] }
  | _ => none }
def officePureRow : OpenClaim := { program := "ytifapcpcemigdaagreat", sum := "b00e195300c84365202b15821044851875c220bad7b018b9a330c5c9077cefa3", func := "tarmac/tarmaclaw20.OfficePure", spec := "officePure", inPlace := ["maps.clone", "internal/bytealg.IndexByteString"], unfollowed := true, recurses := true, plainKeys := false, apart := false }
def OfficePureSaid : Prop := officePureRow.holds Tryz.pinned (OpenSpec.ofChange officePureSpec)

/-- ITS FALSE NEIGHBOUR: 'it returns false'. Refute it at one input. -/
def officePureWrong : ChangeSpec := { name := "officePure", fn := fun _ => fun
  | [d1, d2, d3] => { results := [.lit (.bool false)], args := [d1, d2, d3] }
  | _ => none }
def OfficePureWrongFalsely : Prop := officePureRow.holds Tryz.pinned (OpenSpec.ofChange officePureWrong)

/- THE SECOND FORM. 'bulk': how many values and letters a reading holds, each counted each time it is reached (what is shared counts as often as it is met; a slice's spare places count too). A statement '..UptoSaid' is the law's where the arguments, and the package variables that the reading takes, are together of bulk at most 1048576: NARROWER than '..Said'. Prove '..Said' where nothing that the law and all that it calls make is longer than what came in: it says more and counts as full. Else prove '..UptoSaid'. A law counts once. -/
mutual
def uptoBulk {H : Type} : DataW H → Nat
  | .lit (.string bytes) => bytes.length + 1
  | .lit _ => 1
  | .nil => 1
  | .ptr d => uptoBulk d + 1
  | .slice elems spare => uptoBulkAll elems + uptoBulkAll spare + 1
  | .agg parts => uptoBulkAll parts + 1
  | .iface _ d => uptoBulk d + 1
  | .map entries => uptoBulkEntries entries + 1
  | .held _ => 1
def uptoBulkAll {H : Type} : List (DataW H) → Nat
  | [] => 0
  | d :: r => uptoBulk d + uptoBulkAll r
def uptoBulkEntries {H : Type} : List (Lit × DataW H) → Nat
  | [] => 0
  | x :: r => uptoBulkEntry x + uptoBulkEntries r
def uptoBulkEntry {H : Type} : Lit × DataW H → Nat
  | (.string bytes, d) => bytes.length + uptoBulk d + 1
  | (_, d) => uptoBulk d + 1
 end
def uptoSmall : (H : Type) → List (DataW H) → Bool := fun _ ds => decide (uptoBulkAll ds ≤ 1048576)
def OpenSpec.upto (s : _root_.Go.ChangeSpec) : _root_.Go.OpenSpec := { _root_.Go.OpenSpec.ofChange s with cond := some uptoSmall }

/-- 'tarmaclaw20.OfficeMoney', WHERE WHAT IT READS IS OF BULK AT MOST 1048576: true; the input reads as it did. -/
def officeMoneyUptoRow : OpenClaim := { program := "ytifapcpcemigdaagreat", sum := "b00e195300c84365202b15821044851875c220bad7b018b9a330c5c9077cefa3", func := "tarmac/tarmaclaw20.OfficeMoney", spec := "officeMoney", inPlace := ["maps.clone", "internal/bytealg.IndexByteString"], unfollowed := true, recurses := true, plainKeys := false, apart := false, narrowed := true }
def OfficeMoneyUptoSaid : Prop := officeMoneyUptoRow.holds Tryz.pinned (OpenSpec.upto officeMoneySpec)

/-- 'tarmaclaw20.OfficeNil', WHERE WHAT IT READS IS OF BULK AT MOST 1048576: true; the input reads as it did. -/
def officeNilUptoRow : OpenClaim := { program := "ytifapcpcemigdaagreat", sum := "b00e195300c84365202b15821044851875c220bad7b018b9a330c5c9077cefa3", func := "tarmac/tarmaclaw20.OfficeNil", spec := "officeNil", inPlace := ["maps.clone", "internal/bytealg.IndexByteString"], unfollowed := true, recurses := true, plainKeys := false, apart := false, narrowed := true }
def OfficeNilUptoSaid : Prop := officeNilUptoRow.holds Tryz.pinned (OpenSpec.upto officeNilSpec)

/-- 'tarmaclaw20.OfficeReplays', WHERE WHAT IT READS IS OF BULK AT MOST 1048576: true; the input reads as it did. -/
def officeReplaysUptoRow : OpenClaim := { program := "ytifapcpcemigdaagreat", sum := "b00e195300c84365202b15821044851875c220bad7b018b9a330c5c9077cefa3", func := "tarmac/tarmaclaw20.OfficeReplays", spec := "officeReplays", inPlace := ["maps.clone", "internal/bytealg.IndexByteString"], unfollowed := true, recurses := true, plainKeys := false, apart := false, narrowed := true }
def OfficeReplaysUptoSaid : Prop := officeReplaysUptoRow.holds Tryz.pinned (OpenSpec.upto officeReplaysSpec)

/-- 'tarmaclaw20.OfficePure', WHERE WHAT IT READS IS OF BULK AT MOST 1048576: true; the input reads as it did. -/
def officePureUptoRow : OpenClaim := { program := "ytifapcpcemigdaagreat", sum := "b00e195300c84365202b15821044851875c220bad7b018b9a330c5c9077cefa3", func := "tarmac/tarmaclaw20.OfficePure", spec := "officePure", inPlace := ["maps.clone", "internal/bytealg.IndexByteString"], unfollowed := true, recurses := true, plainKeys := false, apart := false, narrowed := true }
def OfficePureUptoSaid : Prop := officePureUptoRow.holds Tryz.pinned (OpenSpec.upto officePureSpec)

end Rows
end Go.Proofs.YtifapcpcemigdaaGreat
