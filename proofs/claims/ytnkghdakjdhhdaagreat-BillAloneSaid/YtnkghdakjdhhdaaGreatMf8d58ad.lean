/- Tick6, Tick7, Tick8, Tick9, SortRow, ProPlain. -/
import Derived.Test.YtnkghdakjdhhdaaGreatMa56f6b2
import Derived.Test.YtnkghdakjdhhdaaGreatM64f4c37
import Derived.Shelf.SlSortCmp.KitK
set_option maxRecDepth 100000
set_option linter.unusedVariables false
set_option linter.unusedSimpArgs false
set_option linter.unusedSectionVars false
section
namespace Go.Proofs.YtnkghdakjdhhdaaGreat
open Go.RowKit Go.Lib Go.Tk
theorem boxS_new (w : World) (s : SaleV) (la : Option Addr) (lc : Nat) (ta : Option Addr) (tc : Nat) (E : TypeId) : BoxS (w.alloc (.cells #[.string s.name, .slice la s.legs.length lc, .int .i64 s.fare, .slice ta s.taxes.length tc, .int .i64 s.pen] E)) w.heap.size s ⟨la, lc, ta, tc⟩ :=
  ⟨by rw [cell_new rfl]; rfl, by rw [cell_new rfl]; rfl, by rw [cell_new rfl]; rfl, by rw [cell_new rfl]; rfl, by rw [cell_new rfl]; rfl⟩
structure FunsAt (w : World) (b : Nat) : Prop where
  f1 : w.cell? ⟨b + 2, 0, none⟩ = some (.func (.func 144) #[] #[.pointer (some ⟨b, 0, none⟩)])
  f2 : w.cell? ⟨b + 2, 1, none⟩ = some (.func (.func 146) #[] #[.pointer (some ⟨b, 0, none⟩)])
  f3 : w.cell? ⟨b + 2, 2, none⟩ = some (.func (.func 147) #[] #[.pointer (some ⟨b, 0, none⟩)])
  f4 : w.cell? ⟨b + 2, 3, none⟩ = some (.func (.func 149) #[] #[.pointer (some ⟨b, 0, none⟩), .pointer (some ⟨b + 1, 0, none⟩)])
  f5 : w.cell? ⟨b + 2, 4, none⟩ = some (.func (.func 152) #[] #[.pointer (some ⟨b, 0, none⟩)])
theorem FunsAt.kept {w w' : World} {b : Nat} (h : FunsAt w b) (hb : Below w.heap.size w w') : FunsAt w' b :=
  ⟨cell_kept hb h.f1, cell_kept hb h.f2, cell_kept hb h.f3, cell_kept hb h.f4, cell_kept hb h.f5⟩
set_option maxHeartbeats 4000000 in
theorem tcheck_any (s : SaleV) (A : SaleA) (n : Int) (w : World) (hs : SaleAt w s A) (ok : SaleOk s) :
    Calls Tryz.prog 123 #[saleAgg s A, .int .i64 n] w fun e w' => e = .returned (.int .i64 (checkE s n)) ∧ Below w.heap.size w w' := by
  obtain ⟨la, lc, ta, tc⟩ := A
  have HS : Aside (SaleAt w s ⟨la, lc, ta, tc⟩) := hs
  have OK : Aside (SaleOk s) := ok
  clear hs ok
  unfold saleAgg
  dsimp only
  by_cases h1 : n < 2
  · have F := hid (show checkE s n = 1 by unfold checkE; rw [if_pos (.inl h1)])
    have d1 : decide (n < 2) = true := decide_eq_true h1
    go_enter Tryz.func123, Tryz.ntmps123
    go_wp2
    go_ret
    exact ⟨ret_i F.out.symm, ((Below.refl _ _).alloc (Nat.le_refl _) _).alloc (by simp) _⟩
  have d1 : decide (n < 2) = false := decide_eq_false h1
  by_cases h2 : n > 8
  · have F := hid (show checkE s n = 1 by unfold checkE; rw [if_pos (.inr h2)])
    have d2 : decide (n > 8) = true := decide_eq_true h2
    go_enter Tryz.func123, Tryz.ntmps123
    go_wp2
    go_ret
    exact ⟨ret_i F.out.symm, ((Below.refl _ _).alloc (Nat.le_refl _) _).alloc (by simp) _⟩
  have d2 : decide (n > 8) = false := decide_eq_false h2
  have FN := hid (show checkE s n = if shapeB s n then (sumFrom 0 (priceL s)).2 else 90 by unfold checkE; rw [if_neg (by omega)])
  clear h1 h2
  go_enter Tryz.func123, Tryz.ntmps123
  go_wp2
  have hbx : BoxS (((w.alloc (.cells #[.string s.name, .slice la s.legs.length lc, .int .i64 s.fare, .slice ta s.taxes.length tc, .int .i64 s.pen] 64)).alloc (.cells #[.int .i64 n] 3)).alloc (.cells #[.func (.func 144) #[] #[.pointer (some ⟨w.heap.size, 0, none⟩)], .func (.func 146) #[] #[.pointer (some ⟨w.heap.size, 0, none⟩)], .func (.func 147) #[] #[.pointer (some ⟨w.heap.size, 0, none⟩)], .func (.func 149) #[] #[.pointer (some ⟨w.heap.size, 0, none⟩), .pointer (some ⟨w.heap.size + 1, 0, none⟩)], .func (.func 152) #[] #[.pointer (some ⟨w.heap.size, 0, none⟩)]] 36)) w.heap.size s ⟨la, lc, ta, tc⟩ := ((boxS_new w s la lc ta tc _).kept (below_alloc _ _)).kept (below_alloc _ _)
  have hcn : (((w.alloc (.cells #[.string s.name, .slice la s.legs.length lc, .int .i64 s.fare, .slice ta s.taxes.length tc, .int .i64 s.pen] 64)).alloc (.cells #[.int .i64 n] 3)).alloc (.cells #[.func (.func 144) #[] #[.pointer (some ⟨w.heap.size, 0, none⟩)], .func (.func 146) #[] #[.pointer (some ⟨w.heap.size, 0, none⟩)], .func (.func 147) #[] #[.pointer (some ⟨w.heap.size, 0, none⟩)], .func (.func 149) #[] #[.pointer (some ⟨w.heap.size, 0, none⟩), .pointer (some ⟨w.heap.size + 1, 0, none⟩)], .func (.func 152) #[] #[.pointer (some ⟨w.heap.size, 0, none⟩)]] 36)).cell? ⟨w.heap.size + 1, 0, none⟩ = some (.int .i64 n) := cell_kept (below_alloc _ _) (by rw [cell_new (by simp)]; rfl)
  have hf : FunsAt (((w.alloc (.cells #[.string s.name, .slice la s.legs.length lc, .int .i64 s.fare, .slice ta s.taxes.length tc, .int .i64 s.pen] 64)).alloc (.cells #[.int .i64 n] 3)).alloc (.cells #[.func (.func 144) #[] #[.pointer (some ⟨w.heap.size, 0, none⟩)], .func (.func 146) #[] #[.pointer (some ⟨w.heap.size, 0, none⟩)], .func (.func 147) #[] #[.pointer (some ⟨w.heap.size, 0, none⟩)], .func (.func 149) #[] #[.pointer (some ⟨w.heap.size, 0, none⟩), .pointer (some ⟨w.heap.size + 1, 0, none⟩)], .func (.func 152) #[] #[.pointer (some ⟨w.heap.size, 0, none⟩)]] 36)) w.heap.size := ⟨by rw [cell_new (by simp)]; rfl, by rw [cell_new (by simp)]; rfl, by rw [cell_new (by simp)]; rfl, by rw [cell_new (by simp)]; rfl, by rw [cell_new (by simp)]; rfl⟩
  have hb : Below w.heap.size w (((w.alloc (.cells #[.string s.name, .slice la s.legs.length lc, .int .i64 s.fare, .slice ta s.taxes.length tc, .int .i64 s.pen] 64)).alloc (.cells #[.int .i64 n] 3)).alloc (.cells #[.func (.func 144) #[] #[.pointer (some ⟨w.heap.size, 0, none⟩)], .func (.func 146) #[] #[.pointer (some ⟨w.heap.size, 0, none⟩)], .func (.func 147) #[] #[.pointer (some ⟨w.heap.size, 0, none⟩)], .func (.func 149) #[] #[.pointer (some ⟨w.heap.size, 0, none⟩), .pointer (some ⟨w.heap.size + 1, 0, none⟩)], .func (.func 152) #[] #[.pointer (some ⟨w.heap.size, 0, none⟩)]] 36)) := (((Below.refl _ _).alloc (Nat.le_refl _) _).alloc (by simp) _).alloc (by simp; omega) _
  generalize ((w.alloc (.cells #[.string s.name, .slice la s.legs.length lc, .int .i64 s.fare, .slice ta s.taxes.length tc, .int .i64 s.pen] 64)).alloc (.cells #[.int .i64 n] 3)).alloc (.cells #[.func (.func 144) #[] #[.pointer (some ⟨w.heap.size, 0, none⟩)], .func (.func 146) #[] #[.pointer (some ⟨w.heap.size, 0, none⟩)], .func (.func 147) #[] #[.pointer (some ⟨w.heap.size, 0, none⟩)], .func (.func 149) #[] #[.pointer (some ⟨w.heap.size, 0, none⟩), .pointer (some ⟨w.heap.size + 1, 0, none⟩)], .func (.func 152) #[] #[.pointer (some ⟨w.heap.size, 0, none⟩)]] 36) = wb at *
  have BX : Aside (BoxS wb w.heap.size s ⟨la, lc, ta, tc⟩) := hbx
  have CN : Aside (wb.cell? ⟨w.heap.size + 1, 0, none⟩ = some (.int .i64 n)) := hcn
  have FU : Aside (FunsAt wb w.heap.size) := hf
  have B0 : Aside (Below w.heap.size w wb) := hb
  clear hbx hcn hf hb
  refine wp_loop_rounds 6 ?_
  have HSb : Aside (SaleAt wb s ⟨la, lc, ta, tc⟩) := HS.out.kept B0.out
  rw [rounds_succ]
  have c0 := FU.out.f1
  go_wp2_with fail
  refine (must1_any s _ _ _ BX.out OK.out).mono ?_
  rintro e w1 ⟨rfl, hb1⟩
  replace BX : Aside (BoxS w1 w.heap.size s ⟨la, lc, ta, tc⟩) := BX.out.kept hb1
  replace FU : Aside (FunsAt w1 w.heap.size) := FU.out.kept hb1
  replace HSb : Aside (SaleAt w1 s ⟨la, lc, ta, tc⟩) := HSb.out.kept hb1
  replace CN : Aside (w1.cell? ⟨w.heap.size + 1, 0, none⟩ = some (.int .i64 n)) := cell_kept hb1 CN.out
  replace B0 : Aside (Below w.heap.size w w1) := bt B0.out hb1
  clear hb1 c0
  cases hm1 : must1 s with
  | false =>
    have F := hid (show checkE s n = 90 by rw [FN.out, if_neg (by simp [shapeB, hm1])])
    go_wp2
    go_ret
    exact ⟨ret_i F.out.symm, B0.out⟩
  | true =>
    have M1 := hid hm1
    clear hm1
    go_wp2
    rw [rounds_succ]
    have c0 := FU.out.f2
    go_wp2_with fail
    refine (must2_any s _ _ _ BX.out OK.out).mono ?_
    rintro e w2 ⟨rfl, hb2⟩
    replace BX : Aside (BoxS w2 w.heap.size s ⟨la, lc, ta, tc⟩) := BX.out.kept hb2
    replace FU : Aside (FunsAt w2 w.heap.size) := FU.out.kept hb2
    replace HSb : Aside (SaleAt w2 s ⟨la, lc, ta, tc⟩) := HSb.out.kept hb2
    replace CN : Aside (w2.cell? ⟨w.heap.size + 1, 0, none⟩ = some (.int .i64 n)) := cell_kept hb2 CN.out
    replace B0 : Aside (Below w.heap.size w w2) := bt B0.out hb2
    clear hb2 c0
    cases hm2 : must2 s with
    | false =>
      have F := hid (show checkE s n = 90 by rw [FN.out, if_neg (by simp [shapeB, hm2])])
      go_wp2
      go_ret
      exact ⟨ret_i F.out.symm, B0.out⟩
    | true =>
      have M2 := hid hm2
      clear hm2
      go_wp2
      rw [rounds_succ]
      have c0 := FU.out.f3
      go_wp2_with fail
      refine (must3_any s _ _ _ BX.out).mono ?_
      rintro e w3 ⟨rfl, hb3⟩
      replace BX : Aside (BoxS w3 w.heap.size s ⟨la, lc, ta, tc⟩) := BX.out.kept hb3
      replace FU : Aside (FunsAt w3 w.heap.size) := FU.out.kept hb3
      replace HSb : Aside (SaleAt w3 s ⟨la, lc, ta, tc⟩) := HSb.out.kept hb3
      replace CN : Aside (w3.cell? ⟨w.heap.size + 1, 0, none⟩ = some (.int .i64 n)) := cell_kept hb3 CN.out
      replace B0 : Aside (Below w.heap.size w w3) := bt B0.out hb3
      clear hb3 c0
      cases hm3 : must3 s with
      | false =>
        have F := hid (show checkE s n = 90 by rw [FN.out, if_neg (by simp [shapeB, hm3])])
        go_wp2
        go_ret
        exact ⟨ret_i F.out.symm, B0.out⟩
      | true =>
        have M3 := hid hm3
        clear hm3
        go_wp2
        rw [rounds_succ]
        have c0 := FU.out.f4
        go_wp2_with fail
        refine (must4_any s _ n _ _ _ BX.out HSb.out OK.out CN.out).mono ?_
        rintro e w4 ⟨rfl, hb4⟩
        replace BX : Aside (BoxS w4 w.heap.size s ⟨la, lc, ta, tc⟩) := BX.out.kept hb4
        replace FU : Aside (FunsAt w4 w.heap.size) := FU.out.kept hb4
        replace HSb : Aside (SaleAt w4 s ⟨la, lc, ta, tc⟩) := HSb.out.kept hb4
        replace CN : Aside (w4.cell? ⟨w.heap.size + 1, 0, none⟩ = some (.int .i64 n)) := cell_kept hb4 CN.out
        replace B0 : Aside (Below w.heap.size w w4) := bt B0.out hb4
        clear hb4 c0
        cases hm4 : must4 s n with
        | false =>
          have F := hid (show checkE s n = 90 by rw [FN.out, if_neg (by simp [shapeB, hm4])])
          go_wp2
          go_ret
          exact ⟨ret_i F.out.symm, B0.out⟩
        | true =>
          have M4 := hid hm4
          clear hm4
          go_wp2
          rw [rounds_succ]
          have c0 := FU.out.f5
          go_wp2_with fail
          refine (must5_any s _ _ _ BX.out HSb.out OK.out).mono ?_
          rintro e w5 ⟨rfl, hb5⟩
          replace BX : Aside (BoxS w5 w.heap.size s ⟨la, lc, ta, tc⟩) := BX.out.kept hb5
          replace FU : Aside (FunsAt w5 w.heap.size) := FU.out.kept hb5
          replace HSb : Aside (SaleAt w5 s ⟨la, lc, ta, tc⟩) := HSb.out.kept hb5
          replace CN : Aside (w5.cell? ⟨w.heap.size + 1, 0, none⟩ = some (.int .i64 n)) := cell_kept hb5 CN.out
          replace B0 : Aside (Below w.heap.size w w5) := bt B0.out hb5
          clear hb5 c0
          cases hm5 : must5 s with
          | false =>
            have F := hid (show checkE s n = 90 by rw [FN.out, if_neg (by simp [shapeB, hm5])])
            go_wp2
            go_ret
            exact ⟨ret_i F.out.symm, B0.out⟩
          | true =>
            have M5 := hid hm5
            clear hm5
            go_wp2
            rw [rounds_succ]
            have HSH := hid (show checkE s n = (sumFrom 0 (priceL s)).2 by rw [FN.out, if_pos (by simp [shapeB, M1.out, M2.out, M3.out, M4.out, M5.out])])
            obtain ⟨k0, k1, k2, k3, k4⟩ := BX.out
            go_wp2_with fail
            refine (price_any s ⟨la, lc, ta, tc⟩ w5 HSb.out OK.out).mono ?_
            rintro e w6 ⟨rfl, hb6⟩
            clear k0 k1 k2 k3 k4
            go_wp2
            go_ret
            exact ⟨ret_i HSH.out.symm, bt B0.out hb6⟩
end Go.Proofs.YtnkghdakjdhhdaaGreat
end
section
namespace Go.Proofs.YtnkghdakjdhhdaaGreat
open Go.RowKit Go.Lib Go.Tk
theorem owns_slice {w : World} {base : Nat} {E : TypeId} {size n : Nat} {v : Value} {xs : List Value} (h : w.ownsRow base E size v n xs) : ∃ a c, v = .slice a n c ∧ Row w a xs ∧ (a = none → c = 0) ∧ (∀ x, a = some x → base ≤ x.block) := by
  obtain ⟨hl, h1 | ⟨g, cap, cur, hv, h2⟩⟩ := h
  · obtain ⟨rfl, rfl⟩ := h1
    have : xs = [] := List.length_eq_zero_iff.1 (by simpa using hl)
    subst this
    exact ⟨none, 0, rfl, Row.nil, fun _ => rfl, fun x h => by cases h⟩
  · subst hv
    obtain ⟨a, c, hv, hr, _⟩ := row_of_owns (w := w) (base := base) (e := E) (size := size) (v := .slice (some ⟨g, 0, none⟩) n cap) ⟨hl, .inr ⟨g, cap, cur, rfl, h2⟩⟩
    cases hv
    exact ⟨_, _, rfl, hr, (fun h => by cases h), fun x h => by cases h; exact h2.1⟩
end Go.Proofs.YtnkghdakjdhhdaaGreat
end
section
namespace Go.Proofs.YtnkghdakjdhhdaaGreat
open Go.RowKit Go.Lib Go.Tk
structure OwnedS (w : World) (base : Nat) (s : SaleV) (A : SaleA) : Prop where
  legs : w.ownsRow base 31 3 (.slice A.la s.legs.length A.lc) s.legs.length (cellsL encLeg s.legs)
  taxes : w.ownsRow base 189 2 (.slice A.ta s.taxes.length A.tc) s.taxes.length (cellsL encTax s.taxes)
  apart : Apart (.slice A.la s.legs.length A.lc) (.slice A.ta s.taxes.length A.tc)
theorem OwnedS.at {w : World} {base : Nat} {s : SaleV} {A : SaleA} (h : OwnedS w base s A) : SaleAt w s A := by
  obtain ⟨a, c, e, hr, hn, _⟩ := owns_slice h.legs
  cases e
  obtain ⟨a, c, e, hr2, hn2, _⟩ := owns_slice h.taxes
  cases e
  exact ⟨hr, hr2, hn, hn2⟩
theorem OwnedS.kept {w w' : World} {base : Nat} {s : SaleV} {A : SaleA} (h : OwnedS w base s A) (hb : Below w.heap.size w w') : OwnedS w' base s A :=
  ⟨ownsRow_below h.legs hb, ownsRow_below h.taxes hb, h.apart⟩
end Go.Proofs.YtnkghdakjdhhdaaGreat
end
section
namespace Go.Proofs.YtnkghdakjdhhdaaGreat
open Go.RowKit Go.Lib Go.Tk
theorem sale_eq {s o : SaleV} : s = o ↔ s.name = o.name ∧ s.fare = o.fare ∧ s.pen = o.pen ∧ s.legs = o.legs ∧ s.taxes = o.taxes := by
  constructor
  · intro h; subst h; exact ⟨rfl, rfl, rfl, rfl, rfl⟩
  · intro ⟨h1, h2, h3, h4, h5⟩; cases s; cases o; simp_all
set_option maxRecDepth 100000 in
set_option maxHeartbeats 2000000 in
theorem same_any (s o : SaleV) (A B : SaleA) (w : World) (hs : SaleAt w s A) (ho : SaleAt w o B) (l1 : s.legs.length ≤ 1000) (l2 : o.legs.length ≤ 1000) (l3 : s.taxes.length ≤ 1000) (l4 : o.taxes.length ≤ 1000) :
    Calls Tryz.prog 120 #[saleAgg s A, saleAgg o B] w fun e w' => e = .returned (.bool (decide (s = o))) ∧ Below w.heap.size w w' := by
  have K1 := hid (fun w' (hb : Below w.heap.size w w') => eqLeg_any s.legs o.legs A.la B.la _ _ A.lc B.lc w' rfl rfl (hs.legs.kept hb) (ho.legs.kept hb) (by omega) (by omega))
  have K2 := hid (fun w' (hb : Below w.heap.size w w') => eqTax_any s.taxes o.taxes A.ta B.ta _ _ A.tc B.tc w' rfl rfl (hs.taxes.kept hb) (ho.taxes.kept hb) (by omega) (by omega))
  have hb : ∀ X Y, Below w.heap.size w ((w.alloc X).alloc Y) := fun X Y => (below_alloc w X).alloc (by simp) Y
  have HB := hid hb
  clear hs ho hb
  unfold saleAgg
  by_cases h1 : s.name = o.name
  · by_cases h2 : s.fare = o.fare
    · by_cases h3 : s.pen = o.pen
      · have F := hid (show decide (s = o) = (decide (s.legs = o.legs) && decide (s.taxes = o.taxes)) by
          rw [Bool.eq_iff_iff]; simp [sale_eq, h1, h2, h3])
        rw [← h1, ← h2, ← h3]
        clear h1 h2 h3
        cases hl : decide (s.legs = o.legs) with
        | false =>
          have G := hid (show decide (s = o) = false by rw [F.out, hl]; rfl)
          go_enter Tryz.func120, Tryz.ntmps120
          go_wp2_with fail
          refine (K1.out _ (HB.out _ _)).mono ?_
          rintro e w2 ⟨rfl, hb2⟩
          rw [hl]
          clear hl
          go_wp2
          go_ret
          exact ⟨ret_bool G.out.symm, (HB.out _ _).trans (hb2.mono (by simp; omega))⟩
        | true =>
          have G := hid (show decide (s = o) = decide (s.taxes = o.taxes) by rw [F.out, hl]; rfl)
          go_enter Tryz.func120, Tryz.ntmps120
          go_wp2_with fail
          refine (K1.out _ (HB.out _ _)).mono ?_
          rintro e w2 ⟨rfl, hb2⟩
          rw [hl]
          clear hl
          have b2 := (HB.out (.cells #[.string s.name, .slice A.la s.legs.length A.lc, .int .i64 s.fare, .slice A.ta s.taxes.length A.tc, .int .i64 s.pen] 64) (.cells #[.string s.name, .slice B.la o.legs.length B.lc, .int .i64 s.fare, .slice B.ta o.taxes.length B.tc, .int .i64 s.pen] 64)).trans (hb2.mono (by simp; omega))
          have x1 := ((Box.new (w := w) (vs := #[.string s.name, .slice A.la s.legs.length A.lc, .int .i64 s.fare, .slice A.ta s.taxes.length A.tc, .int .i64 s.pen]) (E := 64) rfl).kept (below_alloc _ (.cells #[.string s.name, .slice B.la o.legs.length B.lc, .int .i64 s.fare, .slice B.ta o.taxes.length B.tc, .int .i64 s.pen] 64))).kept hb2
          have x2 := (Box.new (w := w.alloc (.cells #[.string s.name, .slice A.la s.legs.length A.lc, .int .i64 s.fare, .slice A.ta s.taxes.length A.tc, .int .i64 s.pen] 64)) (vs := #[.string s.name, .slice B.la o.legs.length B.lc, .int .i64 s.fare, .slice B.ta o.taxes.length B.tc, .int .i64 s.pen]) (E := 64) (b := w.heap.size + 1) (by simp)).kept hb2
          have k1 := x1.cell 3 rfl
          have k2 := x2.cell 3 rfl
          have B2 := hid b2
          clear x1 x2 hb2 b2
          go_wp2_with fail
          refine (K2.out _ B2.out).mono ?_
          rintro e w3 ⟨rfl, hb3⟩
          clear k1 k2
          generalize decide (s.taxes = o.taxes) = q at *
          go_wp2
          go_ret
          exact ⟨ret_bool G.out.symm, bt B2.out hb3⟩
      · have G := hid (show decide (s = o) = false from decide_eq_false (by rw [sale_eq]; simp [h3]))
        rw [← h1, ← h2]
        have q1 := beq_eq_false_iff_ne.2 h3
        clear h1 h2 h3
        go_enter Tryz.func120, Tryz.ntmps120
        go_wp2
        go_ret
        exact ⟨ret_bool G.out.symm, HB.out _ _⟩
    · have G := hid (show decide (s = o) = false from decide_eq_false (by rw [sale_eq]; simp [h2]))
      rw [← h1]
      have q1 := beq_eq_false_iff_ne.2 h2
      clear h1 h2
      go_enter Tryz.func120, Tryz.ntmps120
      go_wp2
      go_ret
      exact ⟨ret_bool G.out.symm, HB.out _ _⟩
  · have G := hid (show decide (s = o) = false from decide_eq_false (by rw [sale_eq]; simp [h1]))
    have q1 := ba_toList_ne h1
    clear h1
    go_enter Tryz.func120, Tryz.ntmps120
    go_wp2
    go_ret
    exact ⟨ret_bool G.out.symm, HB.out _ _⟩
end Go.Proofs.YtnkghdakjdhhdaaGreat
end
section
namespace Go.Tk
open Go.RowKit Go.Lib Go.Sort Go.Proofs
variable {α : Type} [Inhabited α] {enc : α → List Value} {k : Nat}
theorem flat_get (hk : ∀ x, (enc x).length = k) (d : Array α) (t : Nat) (h : t < d.size * k) : ((d.toList.map enc).flatten).getD t undef = (flatK enc k d)[t]! := by
  have k0 : 0 < k := by
    rcases Nat.eq_zero_or_pos k with e | e
    · subst e; simp at h
    · exact e
  rw [get_flatK _ _ _ _ h]
  have hq : t / k < d.size := (Nat.div_lt_iff_lt_mul k0).2 h
  have e1 : ∀ (l : List α) (t : Nat), t < l.length * k → ((l.map enc).flatten)[t]? = ((l[t / k]?).map fun x => (enc x).getD (t % k) undef) := by
    intro l
    induction l with
    | nil => intro t h; simp at h
    | cons x l ih =>
      intro t h
      rw [List.map_cons, List.flatten_cons]
      by_cases ht : t < k
      · rw [List.getElem?_append_left (by rw [hk]; exact ht), Nat.div_eq_of_lt ht, Nat.mod_eq_of_lt ht]
        simp [List.getD_eq_getElem?_getD, hk, ht]
      · have h2 : t < l.length * k + k := by rw [List.length_cons, Nat.add_mul, Nat.one_mul] at h; exact h
        have e1 : t / k = (t - k) / k + 1 := Nat.div_eq_sub_div k0 (by omega)
        have e2 : t % k = (t - k) % k := Nat.mod_eq_sub_mod (by omega)
        rw [List.getElem?_append_right (by rw [hk]; omega), hk, ih (t - k) (by omega), e1, e2]
        simp
  rw [List.getD_eq_getElem?_getD, e1 d.toList t (by simpa using h)]
  have hm := Nat.mod_lt t k0
  have hz : d[t / k]! = d[t / k] := getElem!_pos d _ hq
  rw [hz]
  have : d.toList[t / k]? = some d[t / k] := by simp [hq]
  rw [this]
  simp only [Option.map_some, Option.getD_some]
  rw [getElem!_pos _ _ (by rw [hk]; exact hm)]
  simp [List.getD_eq_getElem?_getD, hk, hm]
omit [Inhabited α] in
theorem flat_len (hk : ∀ x, (enc x).length = k) (d : Array α) : ((d.toList.map enc).flatten).length = d.size * k := by
  have : ∀ l : List α, ((l.map enc).flatten).length = l.length * k := by
    intro l
    induction l with
    | nil => simp
    | cons x l ih => rw [List.map_cons, List.flatten_cons, List.length_append, ih, hk, List.length_cons, Nat.add_mul]; omega
  simpa using this d.toList
theorem holdsK_of_owns {w : World} {base : Nat} {e : TypeId} {g n cap : Nat} (hk : ∀ x, (enc x).length = k) (d : Array α) (hn : d.size = n) (h : w.ownsRow base e k (.slice (some ⟨g, 0, none⟩) n cap) n ((d.toList.map enc).flatten)) : HoldsK enc k w g 0 d := by
  subst hn
  intro j hj
  have hj' : j < d.size * k := by simpa using hj
  refine ⟨?_, h.frozenAt (0 + j)⟩
  rw [Nat.zero_add, h.cellAt j hj', ← flat_get hk d j hj', List.getD_eq_getElem?_getD]
  have : j < ((d.toList.map enc).flatten).length := by rw [flat_len hk]; exact hj'
  rw [List.getElem?_eq_getElem this]; rfl
theorem row_of_holdsK {w : World} {g : Nat} (hk : ∀ x, (enc x).length = k) (d : Array α) (h : HoldsK enc k w g 0 d) : Row w (some ⟨g, 0, none⟩) ((d.toList.map enc).flatten) := by
  intro i hi
  rw [flat_len hk] at hi
  refine ⟨g, 0, rfl, ?_⟩
  rw [(h i (by simpa using hi)).1, flat_get hk d i hi]; rfl
theorem swk_grown {w0 w : World} {g off : Nat} {d : Array α} (h : SWK enc k w0 g off d w) : w0.grownBy w (some g) := by
  obtain ⟨n, os, rfl⟩ := h
  refine ⟨rfl, rfl, rfl, ?_, fun j hj hne => ?_⟩
  · unfold sortWorldK; rw [size_grow, size_putRowK]; exact Nat.le_add_right _ _
  · unfold sortWorldK
    rw [heap_grow_old _ _ (by rw [size_putRowK]; exact hj)]
    unfold putRowK putRow mapBlock
    rw [Array.getElem?_modify, if_neg (by intro e; exact hne (by rw [e]))]
    rfl
end Go.Tk
end
section
namespace Go.Tk
def lt2 (a b : Int × Nat) : Prop := b.1 < a.1 ∨ (a.1 = b.1 ∧ a.2 < b.2)
instance (a b : Int × Nat) : Decidable (lt2 a b) := by unfold lt2; exact inferInstance
theorem lt2_irrefl (a : Int × Nat) : ¬ lt2 a a := by unfold lt2; omega
theorem lt2_trans {a b c : Int × Nat} (h : lt2 a b) (k : lt2 b c) : lt2 a c := by unfold lt2 at *; omega
theorem lt2_asymm {a b : Int × Nat} (h : lt2 a b) : ¬ lt2 b a := by unfold lt2 at *; omega
theorem lt2_total {a b : Int × Nat} (h : a ≠ b) : lt2 a b ∨ lt2 b a := by
  unfold lt2
  have : a.1 ≠ b.1 ∨ a.2 ≠ b.2 := by
    rcases Decidable.em (a.1 = b.1) with h1 | h1
    · right; intro h2; exact h (Prod.ext h1 h2)
    · exact .inl h1
  omega
theorem sorted_unique : ∀ {S T : List (Int × Nat)}, S.Pairwise lt2 → T.Pairwise lt2 → S.Perm T → S = T
  | [], T, _, _, h => (List.nil_perm.1 h).symm
  | x :: S, [], _, _, h => absurd h.length_eq (by simp)
  | x :: S, y :: T, hS, hT, h => by
    obtain ⟨s1, s2⟩ := List.pairwise_cons.1 hS
    obtain ⟨t1, t2⟩ := List.pairwise_cons.1 hT
    have hxy : x = y := by
      rcases Decidable.em (x = y) with e | e
      · exact e
      · have h1 : x ∈ y :: T := h.mem_iff.1 (List.mem_cons_self)
        have h2 : y ∈ x :: S := h.mem_iff.2 (List.mem_cons_self)
        rcases List.mem_cons.1 h1 with h1 | h1
        · exact absurd h1 e
        · rcases List.mem_cons.1 h2 with h2 | h2
          · exact absurd h2.symm e
          · exact absurd (s1 y h2) (lt2_asymm (t1 x h1))
    subst hxy
    rw [sorted_unique s2 t2 (List.Perm.cons_inv h)]
end Go.Tk
end
