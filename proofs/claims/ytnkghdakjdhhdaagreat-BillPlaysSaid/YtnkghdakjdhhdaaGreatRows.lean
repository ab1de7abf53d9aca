/-
  No cell of these rows narrows 'for every input' (looked for: loops, veiled, ifaces, maps, wideKeys, modest, calm, conditions, laid).
  DERIVED. THE GIVEN ROWS OF THIS SEAT. 6 by the template 'for every input the law returns true; each argument reads behind the call as it read before'; 0 by the template 'total and deterministic' (their statements: YtnkghdakjdhhdaaGreatTotals.lean).
  GIVEN WITH THE SEED: the statements are not yours to turn. If you find one false, say at which input.
  Laid BY PROGRAM, IN A SANDBOX (cutbox-rows.mjs): the forced cells as the released guide's own fill.sh prints them over the translation 0a5330e4400367ab… (all of the seat's roots in one cut). By AI agents, Wed Nov 11 2026. No macro, syntax, notation, axiom, sorry.
-/
import Derived.Test.YtnkghdakjdhhdaaGreatChecked
import GoSem.Claim
import GoSem.ClaimJoined
import GoSem.ClaimMapViews
import Derived.JoinedTies
import Derived.KernelRfl
namespace Go.Proofs.YtnkghdakjdhhdaaGreat
/- THE CELL 'sum', in the pinned program and in every row, IS THE sha256 OF THE DUMP (.gsa) THAT YtnkghdakjdhhdaaGreatProg.lean LOADS. Nothing in Lean hashes anything: it is a label: what it is worth is what the hold of that sum in a sandbox is worth. -/
noncomputable def Tryz.pinned : Pinned := { name := "ytnkghdakjdhhdaagreat", sum := "0a5330e4400367abd566acdd3af90950011d9c133bf4932bc6868c035364c84b", checked := Tryz.checked }
namespace Rows
def none {H : Type} : Left H := { results := [], args := [] }

/-- 'tarmaclaw16.HandoverStranger': WHATEVER THE INPUT: true; the input reads as it did. -/
def handoverStrangerSpec : ChangeSpec := { name := "handoverStranger", fn := fun _ => fun
  | [d1, d2, d3, d4, d5, d6] => { results := [.lit (.bool true)], args := [d1, d2, d3, d4, d5, d6] }
  | _ => none }
def handoverStrangerRow : OpenClaim := { program := "ytnkghdakjdhhdaagreat", sum := "0a5330e4400367abd566acdd3af90950011d9c133bf4932bc6868c035364c84b", func := "tarmac/tarmaclaw16.HandoverStranger", spec := "handoverStranger", inPlace := ["internal/bytealg.IndexByteString", "maps.clone"], unfollowed := true, recurses := true, plainKeys := false, apart := false }
def HandoverStrangerSaid : Prop := handoverStrangerRow.holds Tryz.pinned (OpenSpec.ofChange handoverStrangerSpec)

/-- ITS FALSE NEIGHBOUR: 'it returns false'. Refute it at one input. -/
def handoverStrangerWrong : ChangeSpec := { name := "handoverStranger", fn := fun _ => fun
  | [d1, d2, d3, d4, d5, d6] => { results := [.lit (.bool false)], args := [d1, d2, d3, d4, d5, d6] }
  | _ => none }
def HandoverStrangerWrongFalsely : Prop := handoverStrangerRow.holds Tryz.pinned (OpenSpec.ofChange handoverStrangerWrong)

/-- 'tarmaclaw15.BookPlays': WHATEVER THE INPUT: true; the input reads as it did. -/
def bookPlaysSpec : ChangeSpec := { name := "bookPlays", fn := fun _ => fun
  | [d1, d2, d3] => { results := [.lit (.bool true)], args := [d1, d2, d3] }
  | _ => none }
def bookPlaysRow : OpenClaim := { program := "ytnkghdakjdhhdaagreat", sum := "0a5330e4400367abd566acdd3af90950011d9c133bf4932bc6868c035364c84b", func := "tarmac/tarmaclaw15.BookPlays", spec := "bookPlays", inPlace := ["internal/bytealg.IndexByteString", "maps.clone"], unfollowed := true, recurses := true, plainKeys := false, apart := false }
def BookPlaysSaid : Prop := bookPlaysRow.holds Tryz.pinned (OpenSpec.ofChange bookPlaysSpec)

/-- ITS FALSE NEIGHBOUR: 'it returns false'. Refute it at one input. -/
def bookPlaysWrong : ChangeSpec := { name := "bookPlays", fn := fun _ => fun
  | [d1, d2, d3] => { results := [.lit (.bool false)], args := [d1, d2, d3] }
  | _ => none }
def BookPlaysWrongFalsely : Prop := bookPlaysRow.holds Tryz.pinned (OpenSpec.ofChange bookPlaysWrong)

/-- 'tarmaclaw16.HandoverStays': WHATEVER THE INPUT: true; the input reads as it did. -/
def handoverStaysSpec : ChangeSpec := { name := "handoverStays", fn := fun _ => fun
  | [d1, d2, d3, d4] => { results := [.lit (.bool true)], args := [d1, d2, d3, d4] }
  | _ => none }
def handoverStaysRow : OpenClaim := { program := "ytnkghdakjdhhdaagreat", sum := "0a5330e4400367abd566acdd3af90950011d9c133bf4932bc6868c035364c84b", func := "tarmac/tarmaclaw16.HandoverStays", spec := "handoverStays", inPlace := ["internal/bytealg.IndexByteString", "maps.clone"], unfollowed := true, recurses := true, plainKeys := false, apart := false }
def HandoverStaysSaid : Prop := handoverStaysRow.holds Tryz.pinned (OpenSpec.ofChange handoverStaysSpec)

/-- ITS FALSE NEIGHBOUR: 'it returns false'. Refute it at one input. -/
def handoverStaysWrong : ChangeSpec := { name := "handoverStays", fn := fun _ => fun
  | [d1, d2, d3, d4] => { results := [.lit (.bool false)], args := [d1, d2, d3, d4] }
  | _ => none }
def HandoverStaysWrongFalsely : Prop := handoverStaysRow.holds Tryz.pinned (OpenSpec.ofChange handoverStaysWrong)

/-- 'tarmaclaw18.BillPlays': WHATEVER THE INPUT: true; the input reads as it did. -/
def billPlaysSpec : ChangeSpec := { name := "billPlays", fn := fun _ => fun
  | [d1, d2, d3, d4] => { results := [.lit (.bool true)], args := [d1, d2, d3, d4] }
  | _ => none }
def billPlaysRow : OpenClaim := { program := "ytnkghdakjdhhdaagreat", sum := "0a5330e4400367abd566acdd3af90950011d9c133bf4932bc6868c035364c84b", func := "tarmac/tarmaclaw18.BillPlays", spec := "billPlays", inPlace := ["internal/bytealg.IndexByteString"], unfollowed := true, recurses := true, plainKeys := false, apart := false }
def BillPlaysSaid : Prop := billPlaysRow.holds Tryz.pinned (OpenSpec.ofChange billPlaysSpec)

/-- ITS FALSE NEIGHBOUR: 'it returns false'. Refute it at one input. -/
def billPlaysWrong : ChangeSpec := { name := "billPlays", fn := fun _ => fun
  | [d1, d2, d3, d4] => { results := [.lit (.bool false)], args := [d1, d2, d3, d4] }
  | _ => none }
def BillPlaysWrongFalsely : Prop := billPlaysRow.holds Tryz.pinned (OpenSpec.ofChange billPlaysWrong)

/-- 'tarmaclaw18.BillAlone': WHATEVER THE INPUT: true; the input reads as it did. -/
def billAloneSpec : ChangeSpec := { name := "billAlone", fn := fun _ => fun
  | [d1, d2, d3, d4] => { results := [.lit (.bool true)], args := [d1, d2, d3, d4] }
  | _ => none }
def billAloneRow : OpenClaim := { program := "ytnkghdakjdhhdaagreat", sum := "0a5330e4400367abd566acdd3af90950011d9c133bf4932bc6868c035364c84b", func := "tarmac/tarmaclaw18.BillAlone", spec := "billAlone", inPlace := ["internal/bytealg.IndexByteString", "maps.clone"], unfollowed := true, recurses := true, plainKeys := false, apart := false }
def BillAloneSaid : Prop := billAloneRow.holds Tryz.pinned (OpenSpec.ofChange billAloneSpec)

/-- ITS FALSE NEIGHBOUR: 'it returns false'. Refute it at one input. -/
def billAloneWrong : ChangeSpec := { name := "billAlone", fn := fun _ => fun
  | [d1, d2, d3, d4] => { results := [.lit (.bool false)], args := [d1, d2, d3, d4] }
  | _ => none }
def BillAloneWrongFalsely : Prop := billAloneRow.holds Tryz.pinned (OpenSpec.ofChange billAloneWrong)

/-- 'tarmaclaw18.BillStays': WHATEVER THE INPUT: true; the input reads as it did. -/
def billStaysSpec : ChangeSpec := { name := "billStays", fn := fun _ => fun
  | [d1, d2, d3, d4] => { results := [.lit (.bool true)], args := [d1, d2, d3, d4] }
  | _ => none }
def billStaysRow : OpenClaim := { program := "ytnkghdakjdhhdaagreat", sum := "0a5330e4400367abd566acdd3af90950011d9c133bf4932bc6868c035364c84b", func := "tarmac/tarmaclaw18.BillStays", spec := "billStays", inPlace := ["internal/bytealg.IndexByteString", "maps.clone"], unfollowed := true, recurses := true, plainKeys := false, apart := false }
def BillStaysSaid : Prop := billStaysRow.holds Tryz.pinned (OpenSpec.ofChange billStaysSpec)

/-- ITS FALSE NEIGHBOUR: 'it returns false'. Refute it at one input. -/
def billStaysWrong : ChangeSpec := { name := "billStays", fn := fun _ => fun
  | [d1, d2, d3, d4] => { results := [.lit (.bool false)], args := [d1, d2, d3, d4] }
  | _ => none }
def BillStaysWrongFalsely : Prop := billStaysRow.holds Tryz.pinned (OpenSpec.ofChange billStaysWrong)

/- THE SECOND FORM. 'bulk': how many values and letters a reading holds, each counted each time it is reached (what is shared counts as often as it is met; a slice's spare places count too). A statement '..UptoSaid' is the law's where the arguments, and the package variables that the reading takes, are together of bulk at most 1048576: NARROWER than '..Said'. Prove '..Said' where nothing that the law and all that it calls make is longer than what came in: it says more and counts as full. Else prove '..UptoSaid'. A law counts once. -/
mutual
def uptoBulk {H : Type} : DataW H → Nat
  | .lit (.string bytes) => bytes.length + 1
  | .lit _ => 1
  | .nil => 1
  | .ptr d => uptoBulk d + 1
  | .slice elems spare => uptoBulkAll elems + uptoBulkAll spare + 1
  | .agg parts => uptoBulkAll parts + 1
  | .iface _ d => uptoBulk d + 1
  | .map entries => uptoBulkEntries entries + 1
  | .held _ => 1
def uptoBulkAll {H : Type} : List (DataW H) → Nat
  | [] => 0
  | d :: r => uptoBulk d + uptoBulkAll r
def uptoBulkEntries {H : Type} : List (Lit × DataW H) → Nat
  | [] => 0
  | x :: r => uptoBulkEntry x + uptoBulkEntries r
def uptoBulkEntry {H : Type} : Lit × DataW H → Nat
  | (.string bytes, d) => bytes.length + uptoBulk d + 1
  | (_, d) => uptoBulk d + 1
 end
def uptoSmall : (H : Type) → List (DataW H) → Bool := fun _ ds => decide (uptoBulkAll ds ≤ 1048576)
def OpenSpec.upto (s : _root_.Go.ChangeSpec) : _root_.Go.OpenSpec := { _root_.Go.OpenSpec.ofChange s with cond := some uptoSmall }

/-- 'tarmaclaw16.HandoverStranger', WHERE WHAT IT READS IS OF BULK AT MOST 1048576: true; the input reads as it did. -/
def handoverStrangerUptoRow : OpenClaim := { program := "ytnkghdakjdhhdaagreat", sum := "0a5330e4400367abd566acdd3af90950011d9c133bf4932bc6868c035364c84b", func := "tarmac/tarmaclaw16.HandoverStranger", spec := "handoverStranger", inPlace := ["internal/bytealg.IndexByteString", "maps.clone"], unfollowed := true, recurses := true, plainKeys := false, apart := false, narrowed := true }
def HandoverStrangerUptoSaid : Prop := handoverStrangerUptoRow.holds Tryz.pinned (OpenSpec.upto handoverStrangerSpec)

/-- 'tarmaclaw15.BookPlays', WHERE WHAT IT READS IS OF BULK AT MOST 1048576: true; the input reads as it did. -/
def bookPlaysUptoRow : OpenClaim := { program := "ytnkghdakjdhhdaagreat", sum := "0a5330e4400367abd566acdd3af90950011d9c133bf4932bc6868c035364c84b", func := "tarmac/tarmaclaw15.BookPlays", spec := "bookPlays", inPlace := ["internal/bytealg.IndexByteString", "maps.clone"], unfollowed := true, recurses := true, plainKeys := false, apart := false, narrowed := true }
def BookPlaysUptoSaid : Prop := bookPlaysUptoRow.holds Tryz.pinned (OpenSpec.upto bookPlaysSpec)

/-- 'tarmaclaw16.HandoverStays', WHERE WHAT IT READS IS OF BULK AT MOST 1048576: true; the input reads as it did. -/
def handoverStaysUptoRow : OpenClaim := { program := "ytnkghdakjdhhdaagreat", sum := "0a5330e4400367abd566acdd3af90950011d9c133bf4932bc6868c035364c84b", func := "tarmac/tarmaclaw16.HandoverStays", spec := "handoverStays", inPlace := ["internal/bytealg.IndexByteString", "maps.clone"], unfollowed := true, recurses := true, plainKeys := false, apart := false, narrowed := true }
def HandoverStaysUptoSaid : Prop := handoverStaysUptoRow.holds Tryz.pinned (OpenSpec.upto handoverStaysSpec)

/-- 'tarmaclaw18.BillPlays', WHERE WHAT IT READS IS OF BULK AT MOST 1048576: true; the input reads as it did. -/
def billPlaysUptoRow : OpenClaim := { program := "ytnkghdakjdhhdaagreat", sum := "0a5330e4400367abd566acdd3af90950011d9c133bf4932bc6868c035364c84b", func := "tarmac/tarmaclaw18.BillPlays", spec := "billPlays", inPlace := ["internal/bytealg.IndexByteString"], unfollowed := true, recurses := true, plainKeys := false, apart := false, narrowed := true }
def BillPlaysUptoSaid : Prop := billPlaysUptoRow.holds Tryz.pinned (OpenSpec.upto billPlaysSpec)

/-- 'tarmaclaw18.BillAlone', WHERE WHAT IT READS IS OF BULK AT MOST 1048576: true; the input reads as it did. -/
def billAloneUptoRow : OpenClaim := { program := "ytnkghdakjdhhdaagreat", sum := "0a5330e4400367abd566acdd3af90950011d9c133bf4932bc6868c035364c84b", func := "tarmac/tarmaclaw18.BillAlone", spec := "billAlone", inPlace := ["internal/bytealg.IndexByteString", "maps.clone"], unfollowed := true, recurses := true, plainKeys := false, apart := false, narrowed := true }
def BillAloneUptoSaid : Prop := billAloneUptoRow.holds Tryz.pinned (OpenSpec.upto billAloneSpec)

/-- 'tarmaclaw18.BillStays', WHERE WHAT IT READS IS OF BULK AT MOST 1048576: true; the input reads as it did. -/
def billStaysUptoRow : OpenClaim := { program := "ytnkghdakjdhhdaagreat", sum := "0a5330e4400367abd566acdd3af90950011d9c133bf4932bc6868c035364c84b", func := "tarmac/tarmaclaw18.BillStays", spec := "billStays", inPlace := ["internal/bytealg.IndexByteString", "maps.clone"], unfollowed := true, recurses := true, plainKeys := false, apart := false, narrowed := true }
def BillStaysUptoSaid : Prop := billStaysUptoRow.holds Tryz.pinned (OpenSpec.upto billStaysSpec)

end Rows
end Go.Proofs.YtnkghdakjdhhdaaGreat
