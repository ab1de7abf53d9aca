/-
  No cell of these rows narrows 'for every input' (looked for: loops, veiled, ifaces, maps, wideKeys, modest, calm, conditions, laid).
  DERIVED. THE GIVEN ROWS OF THIS SEAT. 10 by the template 'for every input the law returns true; each argument reads behind the call as it read before'; 0 by the template 'total and deterministic' (their statements: YtijldpkchmpjkaaTotals.lean).
  GIVEN WITH THE SEED: the statements are not yours to turn. If you find one false, say at which input.
  Laid BY PROGRAM, IN A SANDBOX (cutbox-rows.mjs): the forced cells as the released guide's own fill.sh prints them over the translation d44b914b5af3a9e2… (all of the seat's roots in one cut). By AI agents, Wed Nov 11 2026. No macro, syntax, notation, axiom, sorry.
-/
import Derived.Test.YtijldpkchmpjkaaChecked
import GoSem.Claim
import GoSem.ClaimJoined
import GoSem.ClaimMapViews
import Derived.JoinedTies
import Derived.KernelRfl
namespace Go.Proofs.Ytijldpkchmpjkaa
/- THE CELL 'sum', in the pinned program and in every row, IS THE sha256 OF THE DUMP (.gsa) THAT YtijldpkchmpjkaaProg.lean LOADS. Nothing in Lean hashes anything: it is a label: what it is worth is what the hold of that sum in a sandbox is worth. -/
noncomputable def Try.pinned : Pinned := { name := "ytijldpkchmpjkaa", sum := "d44b914b5af3a9e23bbd9b2489f52eae3d2fc648bc99e0cae630116514cb959f", checked := Try.checked }
namespace Rows
def none {H : Type} : Left H := { results := [], args := [] }

/-- 'tarmaclaw06.ProrateTimes': WHATEVER THE INPUT: true; the input reads as it did. -/
def prorateTimesSpec : ChangeSpec := { name := "prorateTimes", fn := fun _ => fun
  | [d1, d2, d3] => { results := [.lit (.bool true)], args := [d1, d2, d3] }
  | _ => none }
def prorateTimesRow : OpenClaim := { program := "ytijldpkchmpjkaa", sum := "d44b914b5af3a9e23bbd9b2489f52eae3d2fc648bc99e0cae630116514cb959f", func := "tarmac/tarmaclaw06.ProrateTimes", spec := "prorateTimes", unfollowed := true, recurses := true, apart := false }
def ProrateTimesSaid : Prop := prorateTimesRow.holds Try.pinned (OpenSpec.ofChange prorateTimesSpec)

/-- ITS FALSE NEIGHBOUR: 'it returns false'. Refute it at one input. -/
def prorateTimesWrong : ChangeSpec := { name := "prorateTimes", fn := fun _ => fun
  | [d1, d2, d3] => { results := [.lit (.bool false)], args := [d1, d2, d3] }
  | _ => none }
def ProrateTimesWrongFalsely : Prop := prorateTimesRow.holds Try.pinned (OpenSpec.ofChange prorateTimesWrong)

/-- 'tarmaclaw06.ProrateEqual': WHATEVER THE INPUT: true; the input reads as it did. -/
def prorateEqualSpec : ChangeSpec := { name := "prorateEqual", fn := fun _ => fun
  | [d1, d2, d3] => { results := [.lit (.bool true)], args := [d1, d2, d3] }
  | _ => none }
def prorateEqualRow : OpenClaim := { program := "ytijldpkchmpjkaa", sum := "d44b914b5af3a9e23bbd9b2489f52eae3d2fc648bc99e0cae630116514cb959f", func := "tarmac/tarmaclaw06.ProrateEqual", spec := "prorateEqual", unfollowed := true, recurses := true, apart := false }
def ProrateEqualSaid : Prop := prorateEqualRow.holds Try.pinned (OpenSpec.ofChange prorateEqualSpec)

/-- ITS FALSE NEIGHBOUR: 'it returns false'. Refute it at one input. -/
def prorateEqualWrong : ChangeSpec := { name := "prorateEqual", fn := fun _ => fun
  | [d1, d2, d3] => { results := [.lit (.bool false)], args := [d1, d2, d3] }
  | _ => none }
def ProrateEqualWrongFalsely : Prop := prorateEqualRow.holds Try.pinned (OpenSpec.ofChange prorateEqualWrong)

/-- 'tarmaclaw06.ProrateExact': WHATEVER THE INPUT: true; the input reads as it did. -/
def prorateExactSpec : ChangeSpec := { name := "prorateExact", fn := fun _ => fun
  | [d1, d2] => { results := [.lit (.bool true)], args := [d1, d2] }
  | _ => none }
def prorateExactRow : OpenClaim := { program := "ytijldpkchmpjkaa", sum := "d44b914b5af3a9e23bbd9b2489f52eae3d2fc648bc99e0cae630116514cb959f", func := "tarmac/tarmaclaw06.ProrateExact", spec := "prorateExact", unfollowed := true, recurses := true, apart := false }
def ProrateExactSaid : Prop := prorateExactRow.holds Try.pinned (OpenSpec.ofChange prorateExactSpec)

/-- ITS FALSE NEIGHBOUR: 'it returns false'. Refute it at one input. -/
def prorateExactWrong : ChangeSpec := { name := "prorateExact", fn := fun _ => fun
  | [d1, d2] => { results := [.lit (.bool false)], args := [d1, d2] }
  | _ => none }
def ProrateExactWrongFalsely : Prop := prorateExactRow.holds Try.pinned (OpenSpec.ofChange prorateExactWrong)

/-- 'tarmaclaw06.ProrateTells': WHATEVER THE INPUT: true; the input reads as it did. -/
def prorateTellsSpec : ChangeSpec := { name := "prorateTells", fn := fun _ => fun
  | [d1, d2, d3] => { results := [.lit (.bool true)], args := [d1, d2, d3] }
  | _ => none }
def prorateTellsRow : OpenClaim := { program := "ytijldpkchmpjkaa", sum := "d44b914b5af3a9e23bbd9b2489f52eae3d2fc648bc99e0cae630116514cb959f", func := "tarmac/tarmaclaw06.ProrateTells", spec := "prorateTells", unfollowed := true, recurses := true, apart := false }
def ProrateTellsSaid : Prop := prorateTellsRow.holds Try.pinned (OpenSpec.ofChange prorateTellsSpec)

/-- ITS FALSE NEIGHBOUR: 'it returns false'. Refute it at one input. -/
def prorateTellsWrong : ChangeSpec := { name := "prorateTells", fn := fun _ => fun
  | [d1, d2, d3] => { results := [.lit (.bool false)], args := [d1, d2, d3] }
  | _ => none }
def ProrateTellsWrongFalsely : Prop := prorateTellsRow.holds Try.pinned (OpenSpec.ofChange prorateTellsWrong)

/-- 'tarmaclaw06.ProrateWhole': WHATEVER THE INPUT: true; the input reads as it did. -/
def prorateWholeSpec : ChangeSpec := { name := "prorateWhole", fn := fun _ => fun
  | [d1, d2] => { results := [.lit (.bool true)], args := [d1, d2] }
  | _ => none }
def prorateWholeRow : OpenClaim := { program := "ytijldpkchmpjkaa", sum := "d44b914b5af3a9e23bbd9b2489f52eae3d2fc648bc99e0cae630116514cb959f", func := "tarmac/tarmaclaw06.ProrateWhole", spec := "prorateWhole", unfollowed := true, recurses := true, apart := false }
def ProrateWholeSaid : Prop := prorateWholeRow.holds Try.pinned (OpenSpec.ofChange prorateWholeSpec)

/-- ITS FALSE NEIGHBOUR: 'it returns false'. Refute it at one input. -/
def prorateWholeWrong : ChangeSpec := { name := "prorateWhole", fn := fun _ => fun
  | [d1, d2] => { results := [.lit (.bool false)], args := [d1, d2] }
  | _ => none }
def ProrateWholeWrongFalsely : Prop := prorateWholeRow.holds Try.pinned (OpenSpec.ofChange prorateWholeWrong)

/-- 'tarmaclaw09.TicketAlone': WHATEVER THE INPUT: true; the input reads as it did. -/
def ticketAloneSpec : ChangeSpec := { name := "ticketAlone", fn := fun _ => fun
  | [d1, d2, d3, d4, d5] => { results := [.lit (.bool true)], args := [d1, d2, d3, d4, d5] }
  | _ => none }
def ticketAloneRow : OpenClaim := { program := "ytijldpkchmpjkaa", sum := "d44b914b5af3a9e23bbd9b2489f52eae3d2fc648bc99e0cae630116514cb959f", func := "tarmac/tarmaclaw09.TicketAlone", spec := "ticketAlone", inPlace := ["internal/bytealg.IndexByteString"], unfollowed := true, recurses := true, apart := false }
def TicketAloneSaid : Prop := ticketAloneRow.holds Try.pinned (OpenSpec.ofChange ticketAloneSpec)

/-- ITS FALSE NEIGHBOUR: 'it returns false'. Refute it at one input. -/
def ticketAloneWrong : ChangeSpec := { name := "ticketAlone", fn := fun _ => fun
  | [d1, d2, d3, d4, d5] => { results := [.lit (.bool false)], args := [d1, d2, d3, d4, d5] }
  | _ => none }
def TicketAloneWrongFalsely : Prop := ticketAloneRow.holds Try.pinned (OpenSpec.ofChange ticketAloneWrong)

/-- 'tarmaclaw09.TicketTaxes': WHATEVER THE INPUT: true; the input reads as it did. -/
def ticketTaxesSpec : ChangeSpec := { name := "ticketTaxes", fn := fun _ => fun
  | [d1, d2, d3, d4] => { results := [.lit (.bool true)], args := [d1, d2, d3, d4] }
  | _ => none }
def ticketTaxesRow : OpenClaim := { program := "ytijldpkchmpjkaa", sum := "d44b914b5af3a9e23bbd9b2489f52eae3d2fc648bc99e0cae630116514cb959f", func := "tarmac/tarmaclaw09.TicketTaxes", spec := "ticketTaxes", inPlace := ["internal/bytealg.IndexByteString"], unfollowed := true, recurses := true, apart := false }
def TicketTaxesSaid : Prop := ticketTaxesRow.holds Try.pinned (OpenSpec.ofChange ticketTaxesSpec)

/-- ITS FALSE NEIGHBOUR: 'it returns false'. Refute it at one input. -/
def ticketTaxesWrong : ChangeSpec := { name := "ticketTaxes", fn := fun _ => fun
  | [d1, d2, d3, d4] => { results := [.lit (.bool false)], args := [d1, d2, d3, d4] }
  | _ => none }
def TicketTaxesWrongFalsely : Prop := ticketTaxesRow.holds Try.pinned (OpenSpec.ofChange ticketTaxesWrong)

/-- 'tarmaclaw09.TicketPrice': WHATEVER THE INPUT: true; the input reads as it did. -/
def ticketPriceSpec : ChangeSpec := { name := "ticketPrice", fn := fun _ => fun
  | [d1, d2, d3] => { results := [.lit (.bool true)], args := [d1, d2, d3] }
  | _ => none }
def ticketPriceRow : OpenClaim := { program := "ytijldpkchmpjkaa", sum := "d44b914b5af3a9e23bbd9b2489f52eae3d2fc648bc99e0cae630116514cb959f", func := "tarmac/tarmaclaw09.TicketPrice", spec := "ticketPrice", inPlace := ["internal/bytealg.IndexByteString"], unfollowed := true, recurses := true, apart := false }
def TicketPriceSaid : Prop := ticketPriceRow.holds Try.pinned (OpenSpec.ofChange ticketPriceSpec)

/-- ITS FALSE NEIGHBOUR: 'it returns false'. Refute it at one input. -/
def ticketPriceWrong : ChangeSpec := { name := "ticketPrice", fn := fun _ => fun
  | [d1, d2, d3] => { results := [.lit (.bool false)], args := [d1, d2, d3] }
  | _ => none }
def TicketPriceWrongFalsely : Prop := ticketPriceRow.holds Try.pinned (OpenSpec.ofChange ticketPriceWrong)

/-- 'tarmaclaw09.TicketGives': WHATEVER THE INPUT: true; the input reads as it did. -/
def ticketGivesSpec : ChangeSpec := { name := "ticketGives", fn := fun _ => fun
  | [d1, d2, d3, d4, d5] => { results := [.lit (.bool true)], args := [d1, d2, d3, d4, d5] }
  | _ => none }
def ticketGivesRow : OpenClaim := { program := "ytijldpkchmpjkaa", sum := "d44b914b5af3a9e23bbd9b2489f52eae3d2fc648bc99e0cae630116514cb959f", func := "tarmac/tarmaclaw09.TicketGives", spec := "ticketGives", inPlace := ["internal/bytealg.IndexByteString"], unfollowed := true, recurses := true, apart := false }
def TicketGivesSaid : Prop := ticketGivesRow.holds Try.pinned (OpenSpec.ofChange ticketGivesSpec)

/-- ITS FALSE NEIGHBOUR: 'it returns false'. Refute it at one input. -/
def ticketGivesWrong : ChangeSpec := { name := "ticketGives", fn := fun _ => fun
  | [d1, d2, d3, d4, d5] => { results := [.lit (.bool false)], args := [d1, d2, d3, d4, d5] }
  | _ => none }
def TicketGivesWrongFalsely : Prop := ticketGivesRow.holds Try.pinned (OpenSpec.ofChange ticketGivesWrong)

/-- 'tarmaclaw09.TicketWhole': WHATEVER THE INPUT: true; the input reads as it did. -/
def ticketWholeSpec : ChangeSpec := { name := "ticketWhole", fn := fun _ => fun
  | [d1, d2, d3, d4] => { results := [.lit (.bool true)], args := [d1, d2, d3, d4] }
  | _ => none }
def ticketWholeRow : OpenClaim := { program := "ytijldpkchmpjkaa", sum := "d44b914b5af3a9e23bbd9b2489f52eae3d2fc648bc99e0cae630116514cb959f", func := "tarmac/tarmaclaw09.TicketWhole", spec := "ticketWhole", inPlace := ["internal/bytealg.IndexByteString"], unfollowed := true, recurses := true, apart := false }
def TicketWholeSaid : Prop := ticketWholeRow.holds Try.pinned (OpenSpec.ofChange ticketWholeSpec)

/-- ITS FALSE NEIGHBOUR: 'it returns false'. Refute it at one input. -/
def ticketWholeWrong : ChangeSpec := { name := "ticketWhole", fn := fun _ => fun
  | [d1, d2, d3, d4] => { results := [.lit (.bool false)], args := [d1, d2, d3, d4] }
  | _ => none }
def TicketWholeWrongFalsely : Prop := ticketWholeRow.holds Try.pinned (OpenSpec.ofChange ticketWholeWrong)

/- THE SECOND FORM. 'bulk': how many values and letters a reading holds, each counted each time it is reached (what is shared counts as often as it is met; a slice's spare places count too). A statement '..UptoSaid' is the law's where the arguments, and the package variables that the reading takes, are together of bulk at most 1048576: NARROWER than '..Said'. Prove '..Said' where nothing that the law and all that it calls make is longer than what came in: it says more and counts as full. Else prove '..UptoSaid'. A law counts once. -/
mutual
def uptoBulk {H : Type} : DataW H → Nat
  | .lit (.string bytes) => bytes.length + 1
  | .lit _ => 1
  | .nil => 1
  | .ptr d => uptoBulk d + 1
  | .slice elems spare => uptoBulkAll elems + uptoBulkAll spare + 1
  | .agg parts => uptoBulkAll parts + 1
  | .iface _ d => uptoBulk d + 1
  | .map entries => uptoBulkEntries entries + 1
  | .held _ => 1
def uptoBulkAll {H : Type} : List (DataW H) → Nat
  | [] => 0
  | d :: r => uptoBulk d + uptoBulkAll r
def uptoBulkEntries {H : Type} : List (Lit × DataW H) → Nat
  | [] => 0
  | x :: r => uptoBulkEntry x + uptoBulkEntries r
def uptoBulkEntry {H : Type} : Lit × DataW H → Nat
  | (.string bytes, d) => bytes.length + uptoBulk d + 1
  | (_, d) => uptoBulk d + 1
 end
def uptoSmall : (H : Type) → List (DataW H) → Bool := fun _ ds => decide (uptoBulkAll ds ≤ 1048576)
def OpenSpec.upto (s : _root_.Go.ChangeSpec) : _root_.Go.OpenSpec := { _root_.Go.OpenSpec.ofChange s with cond := some uptoSmall }

/-- 'tarmaclaw06.ProrateTimes', WHERE WHAT IT READS IS OF BULK AT MOST 1048576: true; the input reads as it did. -/
def prorateTimesUptoRow : OpenClaim := { program := "ytijldpkchmpjkaa", sum := "d44b914b5af3a9e23bbd9b2489f52eae3d2fc648bc99e0cae630116514cb959f", func := "tarmac/tarmaclaw06.ProrateTimes", spec := "prorateTimes", unfollowed := true, recurses := true, apart := false, narrowed := true }
def ProrateTimesUptoSaid : Prop := prorateTimesUptoRow.holds Try.pinned (OpenSpec.upto prorateTimesSpec)

/-- 'tarmaclaw06.ProrateEqual', WHERE WHAT IT READS IS OF BULK AT MOST 1048576: true; the input reads as it did. -/
def prorateEqualUptoRow : OpenClaim := { program := "ytijldpkchmpjkaa", sum := "d44b914b5af3a9e23bbd9b2489f52eae3d2fc648bc99e0cae630116514cb959f", func := "tarmac/tarmaclaw06.ProrateEqual", spec := "prorateEqual", unfollowed := true, recurses := true, apart := false, narrowed := true }
def ProrateEqualUptoSaid : Prop := prorateEqualUptoRow.holds Try.pinned (OpenSpec.upto prorateEqualSpec)

/-- 'tarmaclaw06.ProrateExact', WHERE WHAT IT READS IS OF BULK AT MOST 1048576: true; the input reads as it did. -/
def prorateExactUptoRow : OpenClaim := { program := "ytijldpkchmpjkaa", sum := "d44b914b5af3a9e23bbd9b2489f52eae3d2fc648bc99e0cae630116514cb959f", func := "tarmac/tarmaclaw06.ProrateExact", spec := "prorateExact", unfollowed := true, recurses := true, apart := false, narrowed := true }
def ProrateExactUptoSaid : Prop := prorateExactUptoRow.holds Try.pinned (OpenSpec.upto prorateExactSpec)

/-- 'tarmaclaw06.ProrateTells', WHERE WHAT IT READS IS OF BULK AT MOST 1048576: true; the input reads as it did. -/
def prorateTellsUptoRow : OpenClaim := { program := "ytijldpkchmpjkaa", sum := "d44b914b5af3a9e23bbd9b2489f52eae3d2fc648bc99e0cae630116514cb959f", func := "tarmac/tarmaclaw06.ProrateTells", spec := "prorateTells", unfollowed := true, recurses := true, apart := false, narrowed := true }
def ProrateTellsUptoSaid : Prop := prorateTellsUptoRow.holds Try.pinned (OpenSpec.upto prorateTellsSpec)

/-- 'tarmaclaw06.ProrateWhole', WHERE WHAT IT READS IS OF BULK AT MOST 1048576: true; the input reads as it did. -/
def prorateWholeUptoRow : OpenClaim := { program := "ytijldpkchmpjkaa", sum := "d44b914b5af3a9e23bbd9b2489f52eae3d2fc648bc99e0cae630116514cb959f", func := "tarmac/tarmaclaw06.ProrateWhole", spec := "prorateWhole", unfollowed := true, recurses := true, apart := false, narrowed := true }
def ProrateWholeUptoSaid : Prop := prorateWholeUptoRow.holds Try.pinned (OpenSpec.upto prorateWholeSpec)

/-- 'tarmaclaw09.TicketAlone', WHERE WHAT IT READS IS OF BULK AT MOST 1048576: true; the input reads as it did. -/
def ticketAloneUptoRow : OpenClaim := { program := "ytijldpkchmpjkaa", sum := "d44b914b5af3a9e23bbd9b2489f52eae3d2fc648bc99e0cae630116514cb959f", func := "tarmac/tarmaclaw09.TicketAlone", spec := "ticketAlone", inPlace := ["internal/bytealg.IndexByteString"], unfollowed := true, recurses := true, apart := false, narrowed := true }
def TicketAloneUptoSaid : Prop := ticketAloneUptoRow.holds Try.pinned (OpenSpec.upto ticketAloneSpec)

/-- 'tarmaclaw09.TicketTaxes', WHERE WHAT IT READS IS OF BULK AT MOST 1048576: true; the input reads as it did. -/
def ticketTaxesUptoRow : OpenClaim := { program := "ytijldpkchmpjkaa", sum := "d44b914b5af3a9e23bbd9b2489f52eae3d2fc648bc99e0cae630116514cb959f", func := "tarmac/tarmaclaw09.TicketTaxes", spec := "ticketTaxes", inPlace := ["internal/bytealg.IndexByteString"], unfollowed := true, recurses := true, apart := false, narrowed := true }
def TicketTaxesUptoSaid : Prop := ticketTaxesUptoRow.holds Try.pinned (OpenSpec.upto ticketTaxesSpec)

/-- 'tarmaclaw09.TicketPrice', WHERE WHAT IT READS IS OF BULK AT MOST 1048576: true; the input reads as it did. -/
def ticketPriceUptoRow : OpenClaim := { program := "ytijldpkchmpjkaa", sum := "d44b914b5af3a9e23bbd9b2489f52eae3d2fc648bc99e0cae630116514cb959f", func := "tarmac/tarmaclaw09.TicketPrice", spec := "ticketPrice", inPlace := ["internal/bytealg.IndexByteString"], unfollowed := true, recurses := true, apart := false, narrowed := true }
def TicketPriceUptoSaid : Prop := ticketPriceUptoRow.holds Try.pinned (OpenSpec.upto ticketPriceSpec)

/-- 'tarmaclaw09.TicketGives', WHERE WHAT IT READS IS OF BULK AT MOST 1048576: true; the input reads as it did. -/
def ticketGivesUptoRow : OpenClaim := { program := "ytijldpkchmpjkaa", sum := "d44b914b5af3a9e23bbd9b2489f52eae3d2fc648bc99e0cae630116514cb959f", func := "tarmac/tarmaclaw09.TicketGives", spec := "ticketGives", inPlace := ["internal/bytealg.IndexByteString"], unfollowed := true, recurses := true, apart := false, narrowed := true }
def TicketGivesUptoSaid : Prop := ticketGivesUptoRow.holds Try.pinned (OpenSpec.upto ticketGivesSpec)

/-- 'tarmaclaw09.TicketWhole', WHERE WHAT IT READS IS OF BULK AT MOST 1048576: true; the input reads as it did. -/
def ticketWholeUptoRow : OpenClaim := { program := "ytijldpkchmpjkaa", sum := "d44b914b5af3a9e23bbd9b2489f52eae3d2fc648bc99e0cae630116514cb959f", func := "tarmac/tarmaclaw09.TicketWhole", spec := "ticketWhole", inPlace := ["internal/bytealg.IndexByteString"], unfollowed := true, recurses := true, apart := false, narrowed := true }
def TicketWholeUptoSaid : Prop := ticketWholeUptoRow.holds Try.pinned (OpenSpec.upto ticketWholeSpec)

end Rows
end Go.Proofs.Ytijldpkchmpjkaa
