/-
  No cell of these rows narrows 'for every input' (looked for: loops, veiled, ifaces, maps, wideKeys, modest, calm, conditions, laid).
  DERIVED. THE GIVEN ROWS OF THIS SEAT. 4 by the template 'for every input the law returns true; each argument reads behind the call as it read before'; 0 by the template 'total and deterministic' (their statements: YtjeppnhkgiljpaaTotals.lean).
  GIVEN WITH THE SEED: the statements are not yours to turn. If you find one false, say at which input.
  Laid BY PROGRAM, IN A SANDBOX (cutbox-rows.mjs): the forced cells as the released guide's own fill.sh prints them over the translation 7170e362df8ef73f… (all of the seat's roots in one cut). By AI agents, Wed Nov 11 2026. No macro, syntax, notation, axiom, sorry.
-/
import Derived.Test.YtjeppnhkgiljpaaChecked
import GoSem.Claim
import GoSem.ClaimJoined
import GoSem.ClaimMapViews
import Derived.JoinedTies
import Derived.KernelRfl
namespace Go.Proofs.Ytjeppnhkgiljpaa
/- THE CELL 'sum', in the pinned program and in every row, IS THE sha256 OF THE DUMP (.gsa) THAT YtjeppnhkgiljpaaProg.lean LOADS. Nothing in Lean hashes anything: it is a label: what it is worth is what the hold of that sum in a sandbox is worth. -/
noncomputable def Try.pinned : Pinned := { name := "ytjeppnhkgiljpaa", sum := "7170e362df8ef73fc0f692d783a7bbe6c9a83c667aa5767c30d390158bf7c07e", checked := Try.checked }
namespace Rows
def none {H : Type} : Left H := { results := [], args := [] }

/-- 'tarmaclaw17.ExchangeNil': WHATEVER THE INPUT: true; the input reads as it did. -/
def exchangeNilSpec : ChangeSpec := { name := "exchangeNil", fn := fun _ => fun
  | [d] => { results := [.lit (.bool true)], args := [d] }
  | _ => none }
def exchangeNilRow : OpenClaim := { program := "ytjeppnhkgiljpaa", sum := "7170e362df8ef73fc0f692d783a7bbe6c9a83c667aa5767c30d390158bf7c07e", func := "tarmac/tarmaclaw17.ExchangeNil", spec := "exchangeNil", inPlace := ["internal/bytealg.IndexByteString"], unfollowed := true, recurses := true, plainKeys := false, apart := false }
def ExchangeNilSaid : Prop := exchangeNilRow.holds Try.pinned (OpenSpec.ofChange exchangeNilSpec)

/-- ITS FALSE NEIGHBOUR: 'it returns false'. Refute it at one input. -/
def exchangeNilWrong : ChangeSpec := { name := "exchangeNil", fn := fun _ => fun
  | [d] => { results := [.lit (.bool false)], args := [d] }
  | _ => none }
def ExchangeNilWrongFalsely : Prop := exchangeNilRow.holds Try.pinned (OpenSpec.ofChange exchangeNilWrong)

/-- 'tarmaclaw16.HandoverNil': WHATEVER THE INPUT: true; the input reads as it did. -/
def handoverNilSpec : ChangeSpec := { name := "handoverNil", fn := fun _ => fun
  | [d] => { results := [.lit (.bool true)], args := [d] }
  | _ => none }
def handoverNilRow : OpenClaim := { program := "ytjeppnhkgiljpaa", sum := "7170e362df8ef73fc0f692d783a7bbe6c9a83c667aa5767c30d390158bf7c07e", func := "tarmac/tarmaclaw16.HandoverNil", spec := "handoverNil", inPlace := ["internal/bytealg.IndexByteString"], unfollowed := true, recurses := true, plainKeys := false, apart := false }
def HandoverNilSaid : Prop := handoverNilRow.holds Try.pinned (OpenSpec.ofChange handoverNilSpec)

/-- ITS FALSE NEIGHBOUR: 'it returns false'. Refute it at one input. -/
def handoverNilWrong : ChangeSpec := { name := "handoverNil", fn := fun _ => fun
  | [d] => { results := [.lit (.bool false)], args := [d] }
  | _ => none }
def HandoverNilWrongFalsely : Prop := handoverNilRow.holds Try.pinned (OpenSpec.ofChange handoverNilWrong)

/-- 'tarmaclaw16.HandoverOne': WHATEVER THE INPUT: true; the input reads as it did. -/
def handoverOneSpec : ChangeSpec := { name := "handoverOne", fn := fun _ => fun
  | [d] => { results := [.lit (.bool true)], args := [d] }
  | _ => none }
def handoverOneRow : OpenClaim := { program := "ytjeppnhkgiljpaa", sum := "7170e362df8ef73fc0f692d783a7bbe6c9a83c667aa5767c30d390158bf7c07e", func := "tarmac/tarmaclaw16.HandoverOne", spec := "handoverOne", inPlace := ["internal/bytealg.IndexByteString"], unfollowed := true, recurses := true, plainKeys := false, apart := false }
def HandoverOneSaid : Prop := handoverOneRow.holds Try.pinned (OpenSpec.ofChange handoverOneSpec)

/-- ITS FALSE NEIGHBOUR: 'it returns false'. Refute it at one input. -/
def handoverOneWrong : ChangeSpec := { name := "handoverOne", fn := fun _ => fun
  | [d] => { results := [.lit (.bool false)], args := [d] }
  | _ => none }
def HandoverOneWrongFalsely : Prop := handoverOneRow.holds Try.pinned (OpenSpec.ofChange handoverOneWrong)

/-- 'tarmaclaw16.HandoverAnswers': WHATEVER THE INPUT: true; the input reads as it did. -/
def handoverAnswersSpec : ChangeSpec := { name := "handoverAnswers", fn := fun _ => fun
  | [d] => { results := [.lit (.bool true)], args := [d] }
  | _ => none }
def handoverAnswersRow : OpenClaim := { program := "ytjeppnhkgiljpaa", sum := "7170e362df8ef73fc0f692d783a7bbe6c9a83c667aa5767c30d390158bf7c07e", func := "tarmac/tarmaclaw16.HandoverAnswers", spec := "handoverAnswers", inPlace := ["internal/bytealg.IndexByteString"], unfollowed := true, recurses := true, plainKeys := false, apart := false }
def HandoverAnswersSaid : Prop := handoverAnswersRow.holds Try.pinned (OpenSpec.ofChange handoverAnswersSpec)

/-- ITS FALSE NEIGHBOUR: 'it returns false'. Refute it at one input. -/
def handoverAnswersWrong : ChangeSpec := { name := "handoverAnswers", fn := fun _ => fun
  | [d] => { results := [.lit (.bool false)], args := [d] }
  | _ => none }
def HandoverAnswersWrongFalsely : Prop := handoverAnswersRow.holds Try.pinned (OpenSpec.ofChange handoverAnswersWrong)

/- THE SECOND FORM. 'bulk': how many values and letters a reading holds, each counted each time it is reached (what is shared counts as often as it is met; a slice's spare places count too). A statement '..UptoSaid' is the law's where the arguments, and the package variables that the reading takes, are together of bulk at most 1048576: NARROWER than '..Said'. Prove '..Said' where nothing that the law and all that it calls make is longer than what came in: it says more and counts as full. Else prove '..UptoSaid'. A law counts once. -/
mutual
def uptoBulk {H : Type} : DataW H → Nat
  | .lit (.string bytes) => bytes.length + 1
  | .lit _ => 1
  | .nil => 1
  | .ptr d => uptoBulk d + 1
  | .slice elems spare => uptoBulkAll elems + uptoBulkAll spare + 1
  | .agg parts => uptoBulkAll parts + 1
  | .iface _ d => uptoBulk d + 1
  | .map entries => uptoBulkEntries entries + 1
  | .held _ => 1
def uptoBulkAll {H : Type} : List (DataW H) → Nat
  | [] => 0
  | d :: r => uptoBulk d + uptoBulkAll r
def uptoBulkEntries {H : Type} : List (Lit × DataW H) → Nat
  | [] => 0
  | x :: r => uptoBulkEntry x + uptoBulkEntries r
def uptoBulkEntry {H : Type} : Lit × DataW H → Nat
  | (.string bytes, d) => bytes.length + uptoBulk d + 1
  | (_, d) => uptoBulk d + 1
 end
def uptoSmall : (H : Type) → List (DataW H) → Bool := fun _ ds => decide (uptoBulkAll ds ≤ 1048576)
def OpenSpec.upto (s : _root_.Go.ChangeSpec) : _root_.Go.OpenSpec := { _root_.Go.OpenSpec.ofChange s with cond := some uptoSmall }

/-- 'tarmaclaw17.ExchangeNil', WHERE WHAT IT READS IS OF BULK AT MOST 1048576: true; the input reads as it did. -/
def exchangeNilUptoRow : OpenClaim := { program := "ytjeppnhkgiljpaa", sum := "7170e362df8ef73fc0f692d783a7bbe6c9a83c667aa5767c30d390158bf7c07e", func := "tarmac/tarmaclaw17.ExchangeNil", spec := "exchangeNil", inPlace := ["internal/bytealg.IndexByteString"], unfollowed := true, recurses := true, plainKeys := false, apart := false, narrowed := true }
def ExchangeNilUptoSaid : Prop := exchangeNilUptoRow.holds Try.pinned (OpenSpec.upto exchangeNilSpec)

/-- 'tarmaclaw16.HandoverNil', WHERE WHAT IT READS IS OF BULK AT MOST 1048576: true; the input reads as it did. -/
def handoverNilUptoRow : OpenClaim := { program := "ytjeppnhkgiljpaa", sum := "7170e362df8ef73fc0f692d783a7bbe6c9a83c667aa5767c30d390158bf7c07e", func := "tarmac/tarmaclaw16.HandoverNil", spec := "handoverNil", inPlace := ["internal/bytealg.IndexByteString"], unfollowed := true, recurses := true, plainKeys := false, apart := false, narrowed := true }
def HandoverNilUptoSaid : Prop := handoverNilUptoRow.holds Try.pinned (OpenSpec.upto handoverNilSpec)

/-- 'tarmaclaw16.HandoverOne', WHERE WHAT IT READS IS OF BULK AT MOST 1048576: true; the input reads as it did. -/
def handoverOneUptoRow : OpenClaim := { program := "ytjeppnhkgiljpaa", sum := "7170e362df8ef73fc0f692d783a7bbe6c9a83c667aa5767c30d390158bf7c07e", func := "tarmac/tarmaclaw16.HandoverOne", spec := "handoverOne", inPlace := ["internal/bytealg.IndexByteString"], unfollowed := true, recurses := true, plainKeys := false, apart := false, narrowed := true }
def HandoverOneUptoSaid : Prop := handoverOneUptoRow.holds Try.pinned (OpenSpec.upto handoverOneSpec)

/-- 'tarmaclaw16.HandoverAnswers', WHERE WHAT IT READS IS OF BULK AT MOST 1048576: true; the input reads as it did. -/
def handoverAnswersUptoRow : OpenClaim := { program := "ytjeppnhkgiljpaa", sum := "7170e362df8ef73fc0f692d783a7bbe6c9a83c667aa5767c30d390158bf7c07e", func := "tarmac/tarmaclaw16.HandoverAnswers", spec := "handoverAnswers", inPlace := ["internal/bytealg.IndexByteString"], unfollowed := true, recurses := true, plainKeys := false, apart := false, narrowed := true }
def HandoverAnswersUptoSaid : Prop := handoverAnswersUptoRow.holds Try.pinned (OpenSpec.upto handoverAnswersSpec)

end Rows
end Go.Proofs.Ytjeppnhkgiljpaa
