/- TicketGives, at every input. -/
import Derived.Test.YtijldpkchmpjkaaTick22
import Derived.Test.YtijldpkchmpjkaaOpenDoc
namespace Go.Proofs.Ytijldpkchmpjkaa
open Go.RowKit Go.Lib Go.Tk

theorem tgives_walk (v p : Int) (d : DocV) (D : DocA) (sa : Option Addr) (st : List Int) (sc : Nat) (pa : Option Addr) (pl : List Bool) (pc : Nat) (w : World) (wv : (Lit.int .i64 v).wf = true) (wp : (Lit.int .i64 p).wf = true)
    (hd : DocAt w d D) (ok : DocOk d) (sw : SaleW d.s) (lv : d.vals.length ≤ maxLen) (hs : Row w sa (st.map (.int .u8))) (ls : st.length ≤ maxLen) (_hp : Row w pa (pl.map .bool)) (lp : pl.length ≤ maxLen) :
    Calls Try.prog 11 #[.int .i64 v, .int .i64 p, docAgg d D, .slice sa st.length sc, .slice pa pl.length pc] w fun e w' => e = .returned (.bool true) ∧ Below w.heap.size w w' := by
  by_cases hg : greatB d.s = true ∨ 60 < d.vals.length ∨ 60 < st.length ∨ 60 < pl.length
  · exact gives_great v p d D sa st.length sc pa pl.length pc w sw.nl sw.nt sw.name lv ls lp hg
  · have h1 : greatB d.s = false := by cases h : greatB d.s <;> simp_all
    exact gives_small v p d D st sa st.length sc pa pl.length pc w hs rfl hd ok sw.nl sw.nt sw.name (wfi64 wv) (wfi64 wp) h1 (by omega) (by omega) (by omega)
end Go.Proofs.Ytijldpkchmpjkaa
