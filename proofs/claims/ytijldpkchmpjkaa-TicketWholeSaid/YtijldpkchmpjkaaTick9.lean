/- TICKET 9: whether two sales are alike; a sale that is known. -/
import Derived.Test.YtijldpkchmpjkaaTick8
namespace Go.Proofs.Ytijldpkchmpjkaa
open Go.RowKit Go.Lib Go.Tk

theorem sale_eq {s o : SaleV} : s = o ↔ s.name = o.name ∧ s.fare = o.fare ∧ s.pen = o.pen ∧ s.legs = o.legs ∧ s.taxes = o.taxes := by
  constructor
  · intro h; subst h; exact ⟨rfl, rfl, rfl, rfl, rfl⟩
  · intro ⟨h1, h2, h3, h4, h5⟩; cases s; cases o; simp_all

set_option maxRecDepth 100000 in
set_option maxHeartbeats 2000000 in
theorem same_any (s o : SaleV) (A B : SaleA) (w : World) (hs : SaleAt w s A) (ho : SaleAt w o B) (l1 : s.legs.length ≤ 1000) (l2 : o.legs.length ≤ 1000) (l3 : s.taxes.length ≤ 1000) (l4 : o.taxes.length ≤ 1000) :
    Calls Try.prog 27 #[saleAgg s A, saleAgg o B] w fun e w' => e = .returned (.bool (decide (s = o))) ∧ Below w.heap.size w w' := by
  have K1 := hid (fun w' (hb : Below w.heap.size w w') => eqLeg_any s.legs o.legs A.la B.la _ _ A.lc B.lc w' rfl rfl (hs.legs.kept hb) (ho.legs.kept hb) (by omega) (by omega))
  have K2 := hid (fun w' (hb : Below w.heap.size w w') => eqTax_any s.taxes o.taxes A.ta B.ta _ _ A.tc B.tc w' rfl rfl (hs.taxes.kept hb) (ho.taxes.kept hb) (by omega) (by omega))
  have hb : ∀ X Y, Below w.heap.size w ((w.alloc X).alloc Y) := fun X Y => (below_alloc w X).alloc (by simp) Y
  have HB := hid hb
  clear hs ho hb
  unfold saleAgg
  by_cases h1 : s.name = o.name
  · by_cases h2 : s.fare = o.fare
    · by_cases h3 : s.pen = o.pen
      · have F := hid (show decide (s = o) = (decide (s.legs = o.legs) && decide (s.taxes = o.taxes)) by
          rw [Bool.eq_iff_iff]; simp [sale_eq, h1, h2, h3])
        rw [← h1, ← h2, ← h3]
        clear h1 h2 h3
        cases hl : decide (s.legs = o.legs) with
        | false =>
          have G := hid (show decide (s = o) = false by rw [F.out, hl]; rfl)
          go_enter Try.func27, Try.ntmps27
          go_wp2_with fail
          refine (K1.out _ (HB.out _ _)).mono ?_
          rintro e w2 ⟨rfl, hb2⟩
          rw [hl]
          clear hl
          go_wp2
          go_ret
          exact ⟨ret_bool G.out.symm, (HB.out _ _).trans (hb2.mono (by simp; omega))⟩
        | true =>
          have G := hid (show decide (s = o) = decide (s.taxes = o.taxes) by rw [F.out, hl]; rfl)
          go_enter Try.func27, Try.ntmps27
          go_wp2_with fail
          refine (K1.out _ (HB.out _ _)).mono ?_
          rintro e w2 ⟨rfl, hb2⟩
          rw [hl]
          clear hl
          have b2 := (HB.out (.cells #[.string s.name, .slice A.la s.legs.length A.lc, .int .i64 s.fare, .slice A.ta s.taxes.length A.tc, .int .i64 s.pen] 49) (.cells #[.string s.name, .slice B.la o.legs.length B.lc, .int .i64 s.fare, .slice B.ta o.taxes.length B.tc, .int .i64 s.pen] 49)).trans (hb2.mono (by simp; omega))
          have x1 := ((Box.new (w := w) (vs := #[.string s.name, .slice A.la s.legs.length A.lc, .int .i64 s.fare, .slice A.ta s.taxes.length A.tc, .int .i64 s.pen]) (E := 49) rfl).kept (below_alloc _ (.cells #[.string s.name, .slice B.la o.legs.length B.lc, .int .i64 s.fare, .slice B.ta o.taxes.length B.tc, .int .i64 s.pen] 49))).kept hb2
          have x2 := (Box.new (w := w.alloc (.cells #[.string s.name, .slice A.la s.legs.length A.lc, .int .i64 s.fare, .slice A.ta s.taxes.length A.tc, .int .i64 s.pen] 49)) (vs := #[.string s.name, .slice B.la o.legs.length B.lc, .int .i64 s.fare, .slice B.ta o.taxes.length B.tc, .int .i64 s.pen]) (E := 49) (b := w.heap.size + 1) (by simp)).kept hb2
          have k1 := x1.cell 3 rfl
          have k2 := x2.cell 3 rfl
          have B2 := hid b2
          clear x1 x2 hb2 b2
          go_wp2_with fail
          refine (K2.out _ B2.out).mono ?_
          rintro e w3 ⟨rfl, hb3⟩
          clear k1 k2
          generalize decide (s.taxes = o.taxes) = q at *
          go_wp2
          go_ret
          exact ⟨ret_bool G.out.symm, bt B2.out hb3⟩
      · have G := hid (show decide (s = o) = false from decide_eq_false (by rw [sale_eq]; simp [h3]))
        rw [← h1, ← h2]
        have q1 := beq_eq_false_iff_ne.2 h3
        clear h1 h2 h3
        go_enter Try.func27, Try.ntmps27
        go_wp2
        go_ret
        exact ⟨ret_bool G.out.symm, HB.out _ _⟩
    · have G := hid (show decide (s = o) = false from decide_eq_false (by rw [sale_eq]; simp [h2]))
      rw [← h1]
      have q1 := beq_eq_false_iff_ne.2 h2
      clear h1 h2
      go_enter Try.func27, Try.ntmps27
      go_wp2
      go_ret
      exact ⟨ret_bool G.out.symm, HB.out _ _⟩
  · have G := hid (show decide (s = o) = false from decide_eq_false (by rw [sale_eq]; simp [h1]))
    have q1 := ba_toList_ne h1
    clear h1
    go_enter Try.func27, Try.ntmps27
    go_wp2
    go_ret
    exact ⟨ret_bool G.out.symm, HB.out _ _⟩
end Go.Proofs.Ytijldpkchmpjkaa
