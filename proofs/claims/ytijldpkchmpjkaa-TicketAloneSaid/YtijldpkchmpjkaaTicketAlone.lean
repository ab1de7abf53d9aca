/- TicketAlone, at every input. -/
import Derived.Test.YtijldpkchmpjkaaTick14
import Derived.Test.YtijldpkchmpjkaaOpen
namespace Go.Proofs.Ytijldpkchmpjkaa
open Go.RowKit Go.Lib Go.Tk

theorem alone_walk (c r c' r' : Int) (s : SaleV) (A : SaleA) (o : SaleV) (Ao : SaleA) (n : Int) (w : World) (hc : 0 ≤ c ∧ c ≤ 255) (_hr : 0 ≤ r ∧ r ≤ 18446744073709551615) (hc' : 0 ≤ c' ∧ c' ≤ 255) (_hr' : 0 ≤ r' ∧ r' ≤ 18446744073709551615)
    (hs : SaleAt w s A) (sw : SaleW s) (ho : SaleAt w o Ao) (ow : SaleW o) (_wn : (Lit.int .i64 n).wf = true) :
    Calls Try.prog 8 #[.agg #[.int .u8 c, .int .u64 r], .agg #[.int .u8 c', .int .u64 r'], saleAgg s A, saleAgg o Ao, .int .i64 n] w fun e w' => e = .returned (.bool true) ∧ Below w.heap.size w w' := by
  by_cases hg : greatB s = true ∨ greatB o = true
  · exact alone_great c r c' r' n s A o Ao w sw.nl sw.nt sw.name ow.nl ow.nt ow.name hg
  · have h1 : greatB s = false := by cases h : greatB s <;> simp_all
    have h2 : greatB o = false := by cases h : greatB o <;> simp_all
    have g1 := great_no h1
    have g2 := great_no h2
    exact alone_small c r c' r' n s A o Ao w hs ho (sw.small (by omega) (by omega)) (ow.small (by omega) (by omega)) hc.1 hc.2 hc'.1 hc'.2 h1 h2
end Go.Proofs.Ytijldpkchmpjkaa
