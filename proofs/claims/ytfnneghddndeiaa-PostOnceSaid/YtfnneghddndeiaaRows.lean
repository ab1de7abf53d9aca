/-
  No cell of these rows narrows 'for every input' (looked for: loops, veiled, ifaces, maps, wideKeys, modest, calm, conditions, laid).
  DERIVED. THE GIVEN ROWS OF THIS SEAT. 3 by the template 'for every input the law returns true; each argument reads behind the call as it read before'; 0 by the template 'total and deterministic' (their statements: YtfnneghddndeiaaTotals.lean).
  GIVEN WITH THE SEED: the statements are not yours to turn. If you find one false, say at which input.
  Laid BY PROGRAM, IN A SANDBOX (cutbox-rows.mjs): the forced cells as the released guide's own fill.sh prints them over the translation 7abf1db42a6094e9… (all of the seat's roots in one cut). By AI agents, Wed Nov 11 2026. No macro, syntax, notation, axiom, sorry.
-/
import Derived.Test.YtfnneghddndeiaaChecked
import GoSem.Claim
import GoSem.ClaimJoined
import GoSem.ClaimMapViews
import Derived.JoinedTies
import Derived.KernelRfl
namespace Go.Proofs.Ytfnneghddndeiaa
/- THE CELL 'sum', in the pinned program and in every row, IS THE sha256 OF THE DUMP (.gsa) THAT YtfnneghddndeiaaProg.lean LOADS. Nothing in Lean hashes anything: it is a label: what it is worth is what the hold of that sum in a sandbox is worth. -/
noncomputable def Try.pinned : Pinned := { name := "ytfnneghddndeiaa", sum := "7abf1db42a6094e995439b40427bf357a9cd11e92f92ff4028ebe67ffc71bddd", checked := Try.checked }
namespace Rows
def none {H : Type} : Left H := { results := [], args := [] }

/-- 'tarmaclaw19.PostOnce': WHATEVER THE INPUT: true; the input reads as it did. -/
def postOnceSpec : ChangeSpec := { name := "postOnce", fn := fun _ => fun
  | [d] => { results := [.lit (.bool true)], args := [d] }
  | _ => none }
def postOnceRow : OpenClaim := { program := "ytfnneghddndeiaa", sum := "7abf1db42a6094e995439b40427bf357a9cd11e92f92ff4028ebe67ffc71bddd", func := "tarmac/tarmaclaw19.PostOnce", spec := "postOnce", unfollowed := true, recurses := true, apart := false }
def PostOnceSaid : Prop := postOnceRow.holds Try.pinned (OpenSpec.ofChange postOnceSpec)

/-- ITS FALSE NEIGHBOUR: 'it returns false'. Refute it at one input. -/
def postOnceWrong : ChangeSpec := { name := "postOnce", fn := fun _ => fun
  | [d] => { results := [.lit (.bool false)], args := [d] }
  | _ => none }
def PostOnceWrongFalsely : Prop := postOnceRow.holds Try.pinned (OpenSpec.ofChange postOnceWrong)

/-- 'tarmaclaw19.PostNumbers': WHATEVER THE INPUT: true; the input reads as it did. -/
def postNumbersSpec : ChangeSpec := { name := "postNumbers", fn := fun _ => fun
  | [d1, d2, d3] => { results := [.lit (.bool true)], args := [d1, d2, d3] }
  | _ => none }
def postNumbersRow : OpenClaim := { program := "ytfnneghddndeiaa", sum := "7abf1db42a6094e995439b40427bf357a9cd11e92f92ff4028ebe67ffc71bddd", func := "tarmac/tarmaclaw19.PostNumbers", spec := "postNumbers", unfollowed := true, recurses := true, apart := false }
def PostNumbersSaid : Prop := postNumbersRow.holds Try.pinned (OpenSpec.ofChange postNumbersSpec)

/-- ITS FALSE NEIGHBOUR: 'it returns false'. Refute it at one input. -/
def postNumbersWrong : ChangeSpec := { name := "postNumbers", fn := fun _ => fun
  | [d1, d2, d3] => { results := [.lit (.bool false)], args := [d1, d2, d3] }
  | _ => none }
def PostNumbersWrongFalsely : Prop := postNumbersRow.holds Try.pinned (OpenSpec.ofChange postNumbersWrong)

/-- 'tarmaclaw19.PostNil': WHATEVER THE INPUT: true; the input reads as it did. -/
def postNilSpec : ChangeSpec := { name := "postNil", fn := fun _ => fun
  | [d] => { results := [.lit (.bool true)], args := [d] }
  | _ => none }
def postNilRow : OpenClaim := { program := "ytfnneghddndeiaa", sum := "7abf1db42a6094e995439b40427bf357a9cd11e92f92ff4028ebe67ffc71bddd", func := "tarmac/tarmaclaw19.PostNil", spec := "postNil", unfollowed := true, recurses := true, apart := false }
def PostNilSaid : Prop := postNilRow.holds Try.pinned (OpenSpec.ofChange postNilSpec)

/-- ITS FALSE NEIGHBOUR: 'it returns false'. Refute it at one input. -/
def postNilWrong : ChangeSpec := { name := "postNil", fn := fun _ => fun
  | [d] => { results := [.lit (.bool false)], args := [d] }
  | _ => none }
def PostNilWrongFalsely : Prop := postNilRow.holds Try.pinned (OpenSpec.ofChange postNilWrong)

/- THE SECOND FORM. 'bulk': how many values and letters a reading holds, each counted each time it is reached (what is shared counts as often as it is met; a slice's spare places count too). A statement '..UptoSaid' is the law's where the arguments, and the package variables that the reading takes, are together of bulk at most 1048576: NARROWER than '..Said'. Prove '..Said' where nothing that the law and all that it calls make is longer than what came in: it says more and counts as full. Else prove '..UptoSaid'. A law counts once. -/
mutual
def uptoBulk {H : Type} : DataW H → Nat
  | .lit (.string bytes) => bytes.length + 1
  | .lit _ => 1
  | .nil => 1
  | .ptr d => uptoBulk d + 1
  | .slice elems spare => uptoBulkAll elems + uptoBulkAll spare + 1
  | .agg parts => uptoBulkAll parts + 1
  | .iface _ d => uptoBulk d + 1
  | .map entries => uptoBulkEntries entries + 1
  | .held _ => 1
def uptoBulkAll {H : Type} : List (DataW H) → Nat
  | [] => 0
  | d :: r => uptoBulk d + uptoBulkAll r
def uptoBulkEntries {H : Type} : List (Lit × DataW H) → Nat
  | [] => 0
  | x :: r => uptoBulkEntry x + uptoBulkEntries r
def uptoBulkEntry {H : Type} : Lit × DataW H → Nat
  | (.string bytes, d) => bytes.length + uptoBulk d + 1
  | (_, d) => uptoBulk d + 1
 end
def uptoSmall : (H : Type) → List (DataW H) → Bool := fun _ ds => decide (uptoBulkAll ds ≤ 1048576)
def OpenSpec.upto (s : _root_.Go.ChangeSpec) : _root_.Go.OpenSpec := { _root_.Go.OpenSpec.ofChange s with cond := some uptoSmall }

/-- 'tarmaclaw19.PostOnce', WHERE WHAT IT READS IS OF BULK AT MOST 1048576: true; the input reads as it did. -/
def postOnceUptoRow : OpenClaim := { program := "ytfnneghddndeiaa", sum := "7abf1db42a6094e995439b40427bf357a9cd11e92f92ff4028ebe67ffc71bddd", func := "tarmac/tarmaclaw19.PostOnce", spec := "postOnce", unfollowed := true, recurses := true, apart := false, narrowed := true }
def PostOnceUptoSaid : Prop := postOnceUptoRow.holds Try.pinned (OpenSpec.upto postOnceSpec)

/-- 'tarmaclaw19.PostNumbers', WHERE WHAT IT READS IS OF BULK AT MOST 1048576: true; the input reads as it did. -/
def postNumbersUptoRow : OpenClaim := { program := "ytfnneghddndeiaa", sum := "7abf1db42a6094e995439b40427bf357a9cd11e92f92ff4028ebe67ffc71bddd", func := "tarmac/tarmaclaw19.PostNumbers", spec := "postNumbers", unfollowed := true, recurses := true, apart := false, narrowed := true }
def PostNumbersUptoSaid : Prop := postNumbersUptoRow.holds Try.pinned (OpenSpec.upto postNumbersSpec)

/-- 'tarmaclaw19.PostNil', WHERE WHAT IT READS IS OF BULK AT MOST 1048576: true; the input reads as it did. -/
def postNilUptoRow : OpenClaim := { program := "ytfnneghddndeiaa", sum := "7abf1db42a6094e995439b40427bf357a9cd11e92f92ff4028ebe67ffc71bddd", func := "tarmac/tarmaclaw19.PostNil", spec := "postNil", unfollowed := true, recurses := true, apart := false, narrowed := true }
def PostNilUptoSaid : Prop := postNilUptoRow.holds Try.pinned (OpenSpec.upto postNilSpec)

end Rows
end Go.Proofs.Ytfnneghddndeiaa
