/- TicketTaxes, at every input. -/
import Derived.Test.YtijldpkchmpjkaaTick15
import Derived.Test.YtijldpkchmpjkaaOpen
namespace Go.Proofs.Ytijldpkchmpjkaa
open Go.RowKit Go.Lib Go.Tk

theorem taxes_walk (s : SaleV) (A : SaleA) (n i k : Int) (w : World) (hs : SaleAt w s A) (sw : SaleW s) (_wn : (Lit.int .i64 n).wf = true) (_wi : (Lit.int .i64 i).wf = true) (_wk : (Lit.int .i64 k).wf = true) :
    Calls Try.prog 9 #[saleAgg s A, .int .i64 n, .int .i64 i, .int .i64 k] w fun e w' => e = .returned (.bool true) ∧ Below w.heap.size w w' := by
  by_cases hg : greatB s = true ∨ s.taxes.length = 0
  · exact taxes_early s A n i k w sw.nl sw.nt sw.name hg
  · have h1 : greatB s = false := by cases h : greatB s <;> simp_all
    have g1 := great_no' h1
    exact taxes_small s A n i k w hs (sw.small (by omega) (by omega)) h1 (by omega)
end Go.Proofs.Ytijldpkchmpjkaa
