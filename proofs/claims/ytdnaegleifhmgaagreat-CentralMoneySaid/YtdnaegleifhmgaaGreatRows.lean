/-
  No cell of these rows narrows 'for every input' (looked for: loops, veiled, ifaces, maps, wideKeys, modest, calm, conditions, laid).
  DERIVED. THE GIVEN ROWS OF THIS SEAT. 5 by the template 'for every input the law returns true; each argument reads behind the call as it read before'; 0 by the template 'total and deterministic' (their statements: YtdnaegleifhmgaaGreatTotals.lean).
  GIVEN WITH THE SEED: the statements are not yours to turn. If you find one false, say at which input.
  Laid BY PROGRAM, IN A SANDBOX (cutbox-rows.mjs): the forced cells as the released guide's own fill.sh prints them over the translation 486520789953a229… (all of the seat's roots in one cut). By AI agents, Wed Nov 11 2026. No macro, syntax, notation, axiom, sorry.
-/
import Derived.Test.YtdnaegleifhmgaaGreatChecked
import GoSem.Claim
import GoSem.ClaimJoined
import GoSem.ClaimMapViews
import Derived.JoinedTies
import Derived.KernelRfl
namespace Go.Proofs.YtdnaegleifhmgaaGreat
/- THE CELL 'sum', in the pinned program and in every row, IS THE sha256 OF THE DUMP (.gsa) THAT YtdnaegleifhmgaaGreatProg.lean LOADS. Nothing in Lean hashes anything: it is a label: what it is worth is what the hold of that sum in a sandbox is worth. -/
noncomputable def Tryz.pinned : Pinned := { name := "ytdnaegleifhmgaagreat", sum := "486520789953a229d03e39f6f086eabfde815bee5b044c67bad7dd5f504794e3", checked := Tryz.checked }
namespace Rows
def none {H : Type} : Left H := { results := [], args := [] }

/-- 'tarmaclaw24.CentralAlone': WHATEVER THE INPUT: true; the input reads as it did. -/
def centralAloneSpec : ChangeSpec := { name := "centralAlone", fn := fun _ => fun
  | [d1, d2] => { results := [.lit (.bool true)], args := [d1, d2] }
  | _ => none }
def centralAloneRow : OpenClaim := { program := "ytdnaegleifhmgaagreat", sum := "486520789953a229d03e39f6f086eabfde815bee5b044c67bad7dd5f504794e3", func := "tarmac/tarmaclaw24.CentralAlone", spec := "centralAlone", inPlace := ["internal/bytealg.IndexByteString"], unfollowed := true, recurses := true, plainKeys := false, apart := false }
def CentralAloneSaid : Prop := centralAloneRow.holds Tryz.pinned (OpenSpec.ofChange centralAloneSpec)

/-- ITS FALSE NEIGHBOUR: 'it returns false'. Refute it at one input. -/
def centralAloneWrong : ChangeSpec := { name := "centralAlone", fn := fun _ => fun
  | [d1, d2] => { results := [.lit (.bool false)], args := [d1, d2] }
  | _ => none }
def CentralAloneWrongFalsely : Prop := centralAloneRow.holds Tryz.pinned (OpenSpec.ofChange centralAloneWrong)

/-- 'tarmaclaw24.CentralOnce': WHATEVER THE INPUT: true; the input reads as it did. -/
def centralOnceSpec : ChangeSpec := { name := "centralOnce", fn := fun _ => fun
  | [d1, d2] => { results := [.lit (.bool true)], args := [d1, d2] }
  | _ => none }
def centralOnceRow : OpenClaim := { program := "ytdnaegleifhmgaagreat", sum := "486520789953a229d03e39f6f086eabfde815bee5b044c67bad7dd5f504794e3", func := "tarmac/tarmaclaw24.CentralOnce", spec := "centralOnce", inPlace := ["internal/bytealg.IndexByteString"], unfollowed := true, recurses := true, plainKeys := false, apart := false }
def CentralOnceSaid : Prop := centralOnceRow.holds Tryz.pinned (OpenSpec.ofChange centralOnceSpec)

/-- ITS FALSE NEIGHBOUR: 'it returns false'. Refute it at one input. -/
def centralOnceWrong : ChangeSpec := { name := "centralOnce", fn := fun _ => fun
  | [d1, d2] => { results := [.lit (.bool false)], args := [d1, d2] }
  | _ => none }
def CentralOnceWrongFalsely : Prop := centralOnceRow.holds Tryz.pinned (OpenSpec.ofChange centralOnceWrong)

/-- 'tarmaclaw24.CentralPlays': WHATEVER THE INPUT: true; the input reads as it did. -/
def centralPlaysSpec : ChangeSpec := { name := "centralPlays", fn := fun _ => fun
  | [d1, d2] => { results := [.lit (.bool true)], args := [d1, d2] }
  | _ => none }
def centralPlaysRow : OpenClaim := { program := "ytdnaegleifhmgaagreat", sum := "486520789953a229d03e39f6f086eabfde815bee5b044c67bad7dd5f504794e3", func := "tarmac/tarmaclaw24.CentralPlays", spec := "centralPlays", inPlace := ["internal/bytealg.IndexByteString", "maps.clone"], unfollowed := true, recurses := true, plainKeys := false, apart := false }
def CentralPlaysSaid : Prop := centralPlaysRow.holds Tryz.pinned (OpenSpec.ofChange centralPlaysSpec)

/-- ITS FALSE NEIGHBOUR: 'it returns false'. Refute it at one input. -/
def centralPlaysWrong : ChangeSpec := { name := "centralPlays", fn := fun _ => fun
  | [d1, d2] => { results := [.lit (.bool false)], args := [d1, d2] }
  | _ => none }
def CentralPlaysWrongFalsely : Prop := centralPlaysRow.holds Tryz.pinned (OpenSpec.ofChange centralPlaysWrong)

/-- 'tarmaclaw24.CentralNil': WHATEVER THE INPUT: true; the input reads as it did. -/
def centralNilSpec : ChangeSpec := { name := "centralNil", fn := fun _ => fun
  | [d] => { results := [.lit (.bool true)], args := [d] }
  | _ => none }
def centralNilRow : OpenClaim := { program := "ytdnaegleifhmgaagreat", sum := "486520789953a229d03e39f6f086eabfde815bee5b044c67bad7dd5f504794e3", func := "tarmac/tarmaclaw24.CentralNil", spec := "centralNil", inPlace := ["internal/bytealg.IndexByteString", "maps.clone"], unfollowed := true, recurses := true, plainKeys := false, apart := false }
def CentralNilSaid : Prop := centralNilRow.holds Tryz.pinned (OpenSpec.ofChange centralNilSpec)

/-- ITS FALSE NEIGHBOUR: 'it returns false'. Refute it at one input. -/
def centralNilWrong : ChangeSpec := { name := "centralNil", fn := fun _ => fun
  | [d] => { results := [.lit (.bool false)], args := [d] }
  | _ => none }
def CentralNilWrongFalsely : Prop := centralNilRow.holds Tryz.pinned (OpenSpec.ofChange centralNilWrong)

/-- 'tarmaclaw24.CentralMoney': WHATEVER THE INPUT: true; the input reads as it did. -/
def centralMoneySpec : ChangeSpec := { name := "centralMoney", fn := fun _ => fun
  | [d1, d2] => { results := [.lit (.bool true)], args := [d1, d2] }
  | _ => none }
def centralMoneyRow : OpenClaim := { program := "ytdnaegleifhmgaagreat", sum := "486520789953a229d03e39f6f086eabfde815bee5b044c67bad7dd5f504794e3", func := "tarmac/tarmaclaw24.CentralMoney", spec := "centralMoney", inPlace := ["internal/bytealg.IndexByteString"], unfollowed := true, recurses := true, plainKeys := false, apart := false }
def CentralMoneySaid : Prop := centralMoneyRow.holds Tryz.pinned (OpenSpec.ofChange centralMoneySpec)

/-- ITS FALSE NEIGHBOUR: 'it returns false'. Refute it at one input. -/
def centralMoneyWrong : ChangeSpec := { name := "centralMoney", fn := fun _ => fun
  | [d1, d2] => { results := [.lit (.bool false)], args := [d1, d2] }
  | _ => none }
def CentralMoneyWrongFalsely : Prop := centralMoneyRow.holds Tryz.pinned (OpenSpec.ofChange centralMoneyWrong)

/- THE SECOND FORM. 'bulk': how many values and letters a reading holds, each counted each time it is reached (what is shared counts as often as it is met; a slice's spare places count too). A statement '..UptoSaid' is the law's where the arguments, and the package variables that the reading takes, are together of bulk at most 1048576: NARROWER than '..Said'. Prove '..Said' where nothing that the law and all that it calls make is longer than what came in: it says more and counts as full. Else prove '..UptoSaid'. A law counts once. -/
mutual
def uptoBulk {H : Type} : DataW H → Nat
  | .lit (.string bytes) => bytes.length + 1
  | .lit _ => 1
  | .nil => 1
  | .ptr d => uptoBulk d + 1
  | .slice elems spare => uptoBulkAll elems + uptoBulkAll spare + 1
  | .agg parts => uptoBulkAll parts + 1
  | .iface _ d => uptoBulk d + 1
  | .map entries => uptoBulkEntries entries + 1
  | .held _ => 1
def uptoBulkAll {H : Type} : List (DataW H) → Nat
  | [] => 0
  | d :: r => uptoBulk d + uptoBulkAll r
def uptoBulkEntries {H : Type} : List (Lit × DataW H) → Nat
  | [] => 0
  | x :: r => uptoBulkEntry x + uptoBulkEntries r
def uptoBulkEntry {H : Type} : Lit × DataW H → Nat
  | (.string bytes, d) => bytes.length + uptoBulk d + 1
  | (_, d) => uptoBulk d + 1
 end
def uptoSmall : (H : Type) → List (DataW H) → Bool := fun _ ds => decide (uptoBulkAll ds ≤ 1048576)
def OpenSpec.upto (s : _root_.Go.ChangeSpec) : _root_.Go.OpenSpec := { _root_.Go.OpenSpec.ofChange s with cond := some uptoSmall }

/-- 'tarmaclaw24.CentralAlone', WHERE WHAT IT READS IS OF BULK AT MOST 1048576: true; the input reads as it did. -/
def centralAloneUptoRow : OpenClaim := { program := "ytdnaegleifhmgaagreat", sum := "486520789953a229d03e39f6f086eabfde815bee5b044c67bad7dd5f504794e3", func := "tarmac/tarmaclaw24.CentralAlone", spec := "centralAlone", inPlace := ["internal/bytealg.IndexByteString"], unfollowed := true, recurses := true, plainKeys := false, apart := false, narrowed := true }
def CentralAloneUptoSaid : Prop := centralAloneUptoRow.holds Tryz.pinned (OpenSpec.upto centralAloneSpec)

/-- 'tarmaclaw24.CentralOnce', WHERE WHAT IT READS IS OF BULK AT MOST 1048576: true; the input reads as it did. -/
def centralOnceUptoRow : OpenClaim := { program := "ytdnaegleifhmgaagreat", sum := "486520789953a229d03e39f6f086eabfde815bee5b044c67bad7dd5f504794e3", func := "tarmac/tarmaclaw24.CentralOnce", spec := "centralOnce", inPlace := ["internal/bytealg.IndexByteString"], unfollowed := true, recurses := true, plainKeys := false, apart := false, narrowed := true }
def CentralOnceUptoSaid : Prop := centralOnceUptoRow.holds Tryz.pinned (OpenSpec.upto centralOnceSpec)

/-- 'tarmaclaw24.CentralPlays', WHERE WHAT IT READS IS OF BULK AT MOST 1048576: true; the input reads as it did. -/
def centralPlaysUptoRow : OpenClaim := { program := "ytdnaegleifhmgaagreat", sum := "486520789953a229d03e39f6f086eabfde815bee5b044c67bad7dd5f504794e3", func := "tarmac/tarmaclaw24.CentralPlays", spec := "centralPlays", inPlace := ["internal/bytealg.IndexByteString", "maps.clone"], unfollowed := true, recurses := true, plainKeys := false, apart := false, narrowed := true }
def CentralPlaysUptoSaid : Prop := centralPlaysUptoRow.holds Tryz.pinned (OpenSpec.upto centralPlaysSpec)

/-- 'tarmaclaw24.CentralNil', WHERE WHAT IT READS IS OF BULK AT MOST 1048576: true; the input reads as it did. -/
def centralNilUptoRow : OpenClaim := { program := "ytdnaegleifhmgaagreat", sum := "486520789953a229d03e39f6f086eabfde815bee5b044c67bad7dd5f504794e3", func := "tarmac/tarmaclaw24.CentralNil", spec := "centralNil", inPlace := ["internal/bytealg.IndexByteString", "maps.clone"], unfollowed := true, recurses := true, plainKeys := false, apart := false, narrowed := true }
def CentralNilUptoSaid : Prop := centralNilUptoRow.holds Tryz.pinned (OpenSpec.upto centralNilSpec)

/-- 'tarmaclaw24.CentralMoney', WHERE WHAT IT READS IS OF BULK AT MOST 1048576: true; the input reads as it did. -/
def centralMoneyUptoRow : OpenClaim := { program := "ytdnaegleifhmgaagreat", sum := "486520789953a229d03e39f6f086eabfde815bee5b044c67bad7dd5f504794e3", func := "tarmac/tarmaclaw24.CentralMoney", spec := "centralMoney", inPlace := ["internal/bytealg.IndexByteString"], unfollowed := true, recurses := true, plainKeys := false, apart := false, narrowed := true }
def CentralMoneyUptoSaid : Prop := centralMoneyUptoRow.holds Tryz.pinned (OpenSpec.upto centralMoneySpec)

end Rows
end Go.Proofs.YtdnaegleifhmgaaGreat
