/- TicketWhole, at every input. -/
import Derived.Test.YtijldpkchmpjkaaTick25
import Derived.Test.YtijldpkchmpjkaaOpenDoc
namespace Go.Proofs.Ytijldpkchmpjkaa
open Go.RowKit Go.Lib Go.Tk

theorem twhole_walk (c r : Int) (s : SaleV) (A : SaleA) (n : Int) (wa : Option Addr) (wl : List Bool) (wc : Nat) (w : World) (hc : 0 ≤ c ∧ c ≤ 255) (_hr : 0 ≤ r ∧ r ≤ 18446744073709551615) (hs : SaleAt w s A) (sw : SaleW s) (_wn : (Lit.int .i64 n).wf = true)
    (hw : Row w wa (wl.map .bool)) (lw : wl.length ≤ maxLen) :
    Calls Try.prog 12 #[.agg #[.int .u8 c, .int .u64 r], saleAgg s A, .int .i64 n, .slice wa wl.length wc] w fun e w' => e = .returned (.bool true) ∧ Below w.heap.size w w' := by
  by_cases hg : greatB s = true ∨ 60 < wl.length
  · exact whole_great c r n s A wa wl.length wc w sw.nl sw.nt sw.name lw hg
  · have h1 : greatB s = false := by cases h : greatB s <;> simp_all
    have g1 := great_no9 h1
    have ok := sw.small (by omega) (by omega)
    by_cases he : makeE c r s n = 0
    · have hck : checkE s n = 0 := by
        unfold makeE at he
        split at he
        · cases he
        · exact he
      obtain ⟨-, -, hsh, -⟩ := check_shape hck
      obtain ⟨hE, hpos, l1, l2, f0, f1⟩ := shape_share ok hsh
      have hp : 0 ≤ s.pen ∧ s.pen ≤ 1125899906842624 := by
        simp only [shapeB, Bool.and_eq_true] at hsh
        obtain ⟨⟨⟨⟨-, -⟩, h3⟩, -⟩, -⟩ := hsh
        simp only [must3, List.all_cons, List.all_nil, Bool.and_true, Bool.and_eq_true, amtB, decide_eq_true_eq] at h3
        exact h3.2
      have hlen : (shareL s.fare (wsOf s)).length = s.legs.length := by rw [shareL_len, ws_len]
      refine whole_some c r n s A wa wl wc w hs ok hc.1 hc.2 h1 hw (by omega) he _ rfl hlen l1 l2 f0 f1 hp.1 hp.2 (fun x hx => ?_) (shareL_sum _ _ hpos) (share_sum_ok (ws_pos ok) hpos f0 f1)
      obtain ⟨i, hi, rfl⟩ := List.getElem_of_mem hx
      have := (shareL_bd (ws_pos ok) hpos f0 (i := i) (by rw [shareL_len] at hi; exact hi)).1
      simpa [List.getD_eq_getElem?_getD, hi] using this
    · exact whole_none c r n s A wa wl.length wc w hs ok hc.1 hc.2 h1 (by omega) he
end Go.Proofs.Ytijldpkchmpjkaa
