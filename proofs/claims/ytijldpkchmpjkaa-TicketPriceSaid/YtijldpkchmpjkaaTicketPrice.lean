/- TicketPrice, at every input. -/
import Derived.Test.YtijldpkchmpjkaaTick18
import Derived.Test.YtijldpkchmpjkaaOpen
namespace Go.Proofs.Ytijldpkchmpjkaa
open Go.RowKit Go.Lib Go.Tk

theorem tprice_walk (s : SaleV) (A : SaleA) (n : Int) (x : Tax) (w : World) (hs : SaleAt w s A) (sw : SaleW s) (_wn : (Lit.int .i64 n).wf = true) (xo : TaxOk x) :
    Calls Try.prog 10 #[saleAgg s A, .int .i64 n, .agg #[.string x.code, .int .i64 x.amt]] w fun e w' => e = .returned (.bool true) ∧ Below w.heap.size w w' := by
  cases hg : greatB s with
  | true => exact tprice_great s A n x w sw.nl sw.nt sw.name hg
  | false =>
    have g1 := great_no' hg
    have ok := sw.small (by omega) (by omega)
    by_cases he : checkE s n = 0
    · exact tprice_small s A n x w hs ok xo hg he
    · exact tprice_early s A n x w hs ok hg he
end Go.Proofs.Ytijldpkchmpjkaa
