/- TicketPrice: the walk. -/
import Derived.Test.YtijldpkchmpjkaaTick16
import Derived.Deep.RegionHeld3
namespace Go.Proofs.Ytijldpkchmpjkaa
open Go.RowKit Go.Lib Go.Tk Go.Sort Go.Shelf
attribute [-go_sem] loadCellsFrom

abbrev saleCs (s : SaleV) (A : SaleA) : Array Value := #[.string s.name, .slice A.la s.legs.length A.lc, .int .i64 s.fare, .slice A.ta s.taxes.length A.tc, .int .i64 s.pen]

set_option maxRecDepth 100000 in
set_option maxHeartbeats 4000000 in
/-- where the sale may not be, or is too great -/
theorem tprice_early (s : SaleV) (A : SaleA) (n : Int) (x : Tax) (w : World) (hs : SaleAt w s A) (ok : SaleOk s) (hg : greatB s = false) (he : checkE s n ≠ 0) :
    Calls Try.prog 10 #[saleAgg s A, .int .i64 n, .agg #[.string x.code, .int .i64 x.amt]] w fun e w' => e = .returned (.bool true) ∧ Below w.heap.size w w' := by
  have nn := great_no' hg
  obtain ⟨la, lc, ta, tc⟩ := A
  have K1 := hid (fun w' => great_any s ⟨la, lc, ta, tc⟩ w' (by have := nn.1; unfold maxLen; omega) (by have := nn.2.1; unfold maxLen; omega) ok.name)
  have C1 := hid (fun w' (hb : Below w.heap.size w w') => tcheck_any s ⟨la, lc, ta, tc⟩ n w' (hs.kept hb) ok)
  have HG := hid hg
  have KK := checkE_kinds s n
  obtain ⟨ce, hce⟩ : ∃ ce, checkE s n = ce := ⟨_, rfl⟩
  rw [hce] at C1 KK he
  clear hs ok hg hce nn
  unfold saleAgg at K1 C1 ⊢
  dsimp only at K1 C1 ⊢
  obtain ⟨W1, hW1⟩ : ∃ W1, W1 = (w.alloc (.cells #[.string s.name, .slice la s.legs.length lc, .int .i64 s.fare, .slice ta s.taxes.length tc, .int .i64 s.pen] 49)).alloc (.cells #[.string x.code, .int .i64 x.amt] 60) := ⟨_, rfl⟩
  have xs : Box W1 w.heap.size #[.string s.name, .slice la s.legs.length lc, .int .i64 s.fare, .slice ta s.taxes.length tc, .int .i64 s.pen] := by rw [hW1]; exact (Box.new rfl).kept (below_alloc _ _)
  have b1 : Below w.heap.size w W1 := by rw [hW1]; exact bt (below_alloc _ _) (below_alloc _ _)
  have ld0 := box_load (n := 5) xs rfl
  rw [hW1] at ld0
  have HW := hid hW1
  clear hW1
  go_enter Try.func10, Try.ntmps10
  go_wp2_with fail
  rw [← HW.out]
  refine (K1.out _).mono ?_
  rintro e w2 ⟨rfl, hb2⟩
  rw [HG.out]
  have ld2 := box_load (n := 5) (xs.kept hb2) rfl
  have b2 := bt b1 hb2
  clear ld0 xs b1 hb2
  go_wp2_with fail
  refine (C1.out _ b2).mono ?_
  rintro e w3 ⟨rfl, hb3⟩
  have B3 := hid (bt b2 hb3)
  clear ld2 b2 hb3
  rcases KK with h | h | h | h
  · exact absurd h he
  all_goals
    subst h
    go_wp2_with fail
    refine (wakes9 _).mono ?_
    rintro e w4 ⟨rfl, hb4⟩
    go_wp2
    go_ret
    exact ⟨rfl, bt B3.out hb4⟩

set_option maxRecDepth 100000 in
set_option maxHeartbeats 4000000 in
theorem tprice_great (s : SaleV) (A : SaleA) (n : Int) (x : Tax) (w : World) (h1 : s.legs.length ≤ maxLen) (h2 : s.taxes.length ≤ maxLen) (h3 : s.name.size ≤ maxLen) (hg : greatB s = true) :
    Calls Try.prog 10 #[saleAgg s A, .int .i64 n, .agg #[.string x.code, .int .i64 x.amt]] w fun e w' => e = .returned (.bool true) ∧ Below w.heap.size w w' := by
  obtain ⟨la, lc, ta, tc⟩ := A
  have K1 := hid (fun w' => great_any s ⟨la, lc, ta, tc⟩ w' h1 h2 h3)
  have HG := hid hg
  clear hg h1 h2 h3
  unfold saleAgg at K1 ⊢
  dsimp only at K1 ⊢
  obtain ⟨W1, hW1⟩ : ∃ W1, W1 = (w.alloc (.cells #[.string s.name, .slice la s.legs.length lc, .int .i64 s.fare, .slice ta s.taxes.length tc, .int .i64 s.pen] 49)).alloc (.cells #[.string x.code, .int .i64 x.amt] 60) := ⟨_, rfl⟩
  have xs : Box W1 w.heap.size #[.string s.name, .slice la s.legs.length lc, .int .i64 s.fare, .slice ta s.taxes.length tc, .int .i64 s.pen] := by rw [hW1]; exact (Box.new rfl).kept (below_alloc _ _)
  have b1 : Below w.heap.size w W1 := by rw [hW1]; exact bt (below_alloc _ _) (below_alloc _ _)
  have ld0 := box_load (n := 5) xs rfl
  rw [hW1] at ld0
  have HW := hid hW1
  clear hW1
  go_enter Try.func10, Try.ntmps10
  go_wp2_with fail
  rw [← HW.out]
  refine (K1.out _).mono ?_
  rintro e w2 ⟨rfl, hb2⟩
  rw [HG.out]
  have B2 := hid (bt b1 hb2)
  clear ld0 xs b1 hb2
  go_wp2_with fail
  refine (wakes9 _).mono ?_
  rintro e w4 ⟨rfl, hb4⟩
  go_wp2
  go_ret
  exact ⟨rfl, bt B2.out hb4⟩
end Go.Proofs.Ytijldpkchmpjkaa
