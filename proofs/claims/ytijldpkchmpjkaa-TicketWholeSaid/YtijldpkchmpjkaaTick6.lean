/- TICKET 6: Check. -/
import Derived.Test.YtijldpkchmpjkaaTick5
namespace Go.Proofs.Ytijldpkchmpjkaa
open Go.RowKit Go.Lib Go.Tk

theorem boxS_new (w : World) (s : SaleV) (la : Option Addr) (lc : Nat) (ta : Option Addr) (tc : Nat) (E : TypeId) : BoxS (w.alloc (.cells #[.string s.name, .slice la s.legs.length lc, .int .i64 s.fare, .slice ta s.taxes.length tc, .int .i64 s.pen] E)) w.heap.size s ⟨la, lc, ta, tc⟩ :=
  ⟨by rw [cell_new rfl]; rfl, by rw [cell_new rfl]; rfl, by rw [cell_new rfl]; rfl, by rw [cell_new rfl]; rfl, by rw [cell_new rfl]; rfl⟩
structure FunsAt (w : World) (b : Nat) : Prop where
  f1 : w.cell? ⟨b + 2, 0, none⟩ = some (.func (.func 44) #[] #[.pointer (some ⟨b, 0, none⟩)])
  f2 : w.cell? ⟨b + 2, 1, none⟩ = some (.func (.func 46) #[] #[.pointer (some ⟨b, 0, none⟩)])
  f3 : w.cell? ⟨b + 2, 2, none⟩ = some (.func (.func 47) #[] #[.pointer (some ⟨b, 0, none⟩)])
  f4 : w.cell? ⟨b + 2, 3, none⟩ = some (.func (.func 49) #[] #[.pointer (some ⟨b, 0, none⟩), .pointer (some ⟨b + 1, 0, none⟩)])
  f5 : w.cell? ⟨b + 2, 4, none⟩ = some (.func (.func 52) #[] #[.pointer (some ⟨b, 0, none⟩)])
theorem FunsAt.kept {w w' : World} {b : Nat} (h : FunsAt w b) (hb : Below w.heap.size w w') : FunsAt w' b :=
  ⟨cell_kept hb h.f1, cell_kept hb h.f2, cell_kept hb h.f3, cell_kept hb h.f4, cell_kept hb h.f5⟩

set_option maxHeartbeats 4000000 in
theorem tcheck_any (s : SaleV) (A : SaleA) (n : Int) (w : World) (hs : SaleAt w s A) (ok : SaleOk s) :
    Calls Try.prog 25 #[saleAgg s A, .int .i64 n] w fun e w' => e = .returned (.int .i64 (checkE s n)) ∧ Below w.heap.size w w' := by
  obtain ⟨la, lc, ta, tc⟩ := A
  have HS : Aside (SaleAt w s ⟨la, lc, ta, tc⟩) := hs
  have OK : Aside (SaleOk s) := ok
  clear hs ok
  unfold saleAgg
  dsimp only
  by_cases h1 : n < 2
  · have F := hid (show checkE s n = 1 by unfold checkE; rw [if_pos (.inl h1)])
    have d1 : decide (n < 2) = true := decide_eq_true h1
    go_enter Try.func25, Try.ntmps25
    go_wp2
    go_ret
    exact ⟨ret_i F.out.symm, ((Below.refl _ _).alloc (Nat.le_refl _) _).alloc (by simp) _⟩
  have d1 : decide (n < 2) = false := decide_eq_false h1
  by_cases h2 : n > 8
  · have F := hid (show checkE s n = 1 by unfold checkE; rw [if_pos (.inr h2)])
    have d2 : decide (n > 8) = true := decide_eq_true h2
    go_enter Try.func25, Try.ntmps25
    go_wp2
    go_ret
    exact ⟨ret_i F.out.symm, ((Below.refl _ _).alloc (Nat.le_refl _) _).alloc (by simp) _⟩
  have d2 : decide (n > 8) = false := decide_eq_false h2
  have FN := hid (show checkE s n = if shapeB s n then (sumFrom 0 (priceL s)).2 else 90 by unfold checkE; rw [if_neg (by omega)])
  clear h1 h2
  go_enter Try.func25, Try.ntmps25
  go_wp2
  have hbx : BoxS (((w.alloc (.cells #[.string s.name, .slice la s.legs.length lc, .int .i64 s.fare, .slice ta s.taxes.length tc, .int .i64 s.pen] 49)).alloc (.cells #[.int .i64 n] 3)).alloc (.cells #[.func (.func 44) #[] #[.pointer (some ⟨w.heap.size, 0, none⟩)], .func (.func 46) #[] #[.pointer (some ⟨w.heap.size, 0, none⟩)], .func (.func 47) #[] #[.pointer (some ⟨w.heap.size, 0, none⟩)], .func (.func 49) #[] #[.pointer (some ⟨w.heap.size, 0, none⟩), .pointer (some ⟨w.heap.size + 1, 0, none⟩)], .func (.func 52) #[] #[.pointer (some ⟨w.heap.size, 0, none⟩)]] 24)) w.heap.size s ⟨la, lc, ta, tc⟩ := ((boxS_new w s la lc ta tc _).kept (below_alloc _ _)).kept (below_alloc _ _)
  have hcn : (((w.alloc (.cells #[.string s.name, .slice la s.legs.length lc, .int .i64 s.fare, .slice ta s.taxes.length tc, .int .i64 s.pen] 49)).alloc (.cells #[.int .i64 n] 3)).alloc (.cells #[.func (.func 44) #[] #[.pointer (some ⟨w.heap.size, 0, none⟩)], .func (.func 46) #[] #[.pointer (some ⟨w.heap.size, 0, none⟩)], .func (.func 47) #[] #[.pointer (some ⟨w.heap.size, 0, none⟩)], .func (.func 49) #[] #[.pointer (some ⟨w.heap.size, 0, none⟩), .pointer (some ⟨w.heap.size + 1, 0, none⟩)], .func (.func 52) #[] #[.pointer (some ⟨w.heap.size, 0, none⟩)]] 24)).cell? ⟨w.heap.size + 1, 0, none⟩ = some (.int .i64 n) := cell_kept (below_alloc _ _) (by rw [cell_new (by simp)]; rfl)
  have hf : FunsAt (((w.alloc (.cells #[.string s.name, .slice la s.legs.length lc, .int .i64 s.fare, .slice ta s.taxes.length tc, .int .i64 s.pen] 49)).alloc (.cells #[.int .i64 n] 3)).alloc (.cells #[.func (.func 44) #[] #[.pointer (some ⟨w.heap.size, 0, none⟩)], .func (.func 46) #[] #[.pointer (some ⟨w.heap.size, 0, none⟩)], .func (.func 47) #[] #[.pointer (some ⟨w.heap.size, 0, none⟩)], .func (.func 49) #[] #[.pointer (some ⟨w.heap.size, 0, none⟩), .pointer (some ⟨w.heap.size + 1, 0, none⟩)], .func (.func 52) #[] #[.pointer (some ⟨w.heap.size, 0, none⟩)]] 24)) w.heap.size := ⟨by rw [cell_new (by simp)]; rfl, by rw [cell_new (by simp)]; rfl, by rw [cell_new (by simp)]; rfl, by rw [cell_new (by simp)]; rfl, by rw [cell_new (by simp)]; rfl⟩
  have hb : Below w.heap.size w (((w.alloc (.cells #[.string s.name, .slice la s.legs.length lc, .int .i64 s.fare, .slice ta s.taxes.length tc, .int .i64 s.pen] 49)).alloc (.cells #[.int .i64 n] 3)).alloc (.cells #[.func (.func 44) #[] #[.pointer (some ⟨w.heap.size, 0, none⟩)], .func (.func 46) #[] #[.pointer (some ⟨w.heap.size, 0, none⟩)], .func (.func 47) #[] #[.pointer (some ⟨w.heap.size, 0, none⟩)], .func (.func 49) #[] #[.pointer (some ⟨w.heap.size, 0, none⟩), .pointer (some ⟨w.heap.size + 1, 0, none⟩)], .func (.func 52) #[] #[.pointer (some ⟨w.heap.size, 0, none⟩)]] 24)) := (((Below.refl _ _).alloc (Nat.le_refl _) _).alloc (by simp) _).alloc (by simp; omega) _
  generalize ((w.alloc (.cells #[.string s.name, .slice la s.legs.length lc, .int .i64 s.fare, .slice ta s.taxes.length tc, .int .i64 s.pen] 49)).alloc (.cells #[.int .i64 n] 3)).alloc (.cells #[.func (.func 44) #[] #[.pointer (some ⟨w.heap.size, 0, none⟩)], .func (.func 46) #[] #[.pointer (some ⟨w.heap.size, 0, none⟩)], .func (.func 47) #[] #[.pointer (some ⟨w.heap.size, 0, none⟩)], .func (.func 49) #[] #[.pointer (some ⟨w.heap.size, 0, none⟩), .pointer (some ⟨w.heap.size + 1, 0, none⟩)], .func (.func 52) #[] #[.pointer (some ⟨w.heap.size, 0, none⟩)]] 24) = wb at *
  have BX : Aside (BoxS wb w.heap.size s ⟨la, lc, ta, tc⟩) := hbx
  have CN : Aside (wb.cell? ⟨w.heap.size + 1, 0, none⟩ = some (.int .i64 n)) := hcn
  have FU : Aside (FunsAt wb w.heap.size) := hf
  have B0 : Aside (Below w.heap.size w wb) := hb
  clear hbx hcn hf hb
  refine wp_loop_rounds 6 ?_
  have HSb : Aside (SaleAt wb s ⟨la, lc, ta, tc⟩) := HS.out.kept B0.out
  rw [rounds_succ]
  have c0 := FU.out.f1
  go_wp2_with fail
  refine (must1_any s _ _ _ BX.out OK.out).mono ?_
  rintro e w1 ⟨rfl, hb1⟩
  replace BX : Aside (BoxS w1 w.heap.size s ⟨la, lc, ta, tc⟩) := BX.out.kept hb1
  replace FU : Aside (FunsAt w1 w.heap.size) := FU.out.kept hb1
  replace HSb : Aside (SaleAt w1 s ⟨la, lc, ta, tc⟩) := HSb.out.kept hb1
  replace CN : Aside (w1.cell? ⟨w.heap.size + 1, 0, none⟩ = some (.int .i64 n)) := cell_kept hb1 CN.out
  replace B0 : Aside (Below w.heap.size w w1) := bt B0.out hb1
  clear hb1 c0
  cases hm1 : must1 s with
  | false =>
    have F := hid (show checkE s n = 90 by rw [FN.out, if_neg (by simp [shapeB, hm1])])
    go_wp2
    go_ret
    exact ⟨ret_i F.out.symm, B0.out⟩
  | true =>
    have M1 := hid hm1
    clear hm1
    go_wp2
    rw [rounds_succ]
    have c0 := FU.out.f2
    go_wp2_with fail
    refine (must2_any s _ _ _ BX.out OK.out).mono ?_
    rintro e w2 ⟨rfl, hb2⟩
    replace BX : Aside (BoxS w2 w.heap.size s ⟨la, lc, ta, tc⟩) := BX.out.kept hb2
    replace FU : Aside (FunsAt w2 w.heap.size) := FU.out.kept hb2
    replace HSb : Aside (SaleAt w2 s ⟨la, lc, ta, tc⟩) := HSb.out.kept hb2
    replace CN : Aside (w2.cell? ⟨w.heap.size + 1, 0, none⟩ = some (.int .i64 n)) := cell_kept hb2 CN.out
    replace B0 : Aside (Below w.heap.size w w2) := bt B0.out hb2
    clear hb2 c0
    cases hm2 : must2 s with
    | false =>
      have F := hid (show checkE s n = 90 by rw [FN.out, if_neg (by simp [shapeB, hm2])])
      go_wp2
      go_ret
      exact ⟨ret_i F.out.symm, B0.out⟩
    | true =>
      have M2 := hid hm2
      clear hm2
      go_wp2
      rw [rounds_succ]
      have c0 := FU.out.f3
      go_wp2_with fail
      refine (must3_any s _ _ _ BX.out).mono ?_
      rintro e w3 ⟨rfl, hb3⟩
      replace BX : Aside (BoxS w3 w.heap.size s ⟨la, lc, ta, tc⟩) := BX.out.kept hb3
      replace FU : Aside (FunsAt w3 w.heap.size) := FU.out.kept hb3
      replace HSb : Aside (SaleAt w3 s ⟨la, lc, ta, tc⟩) := HSb.out.kept hb3
      replace CN : Aside (w3.cell? ⟨w.heap.size + 1, 0, none⟩ = some (.int .i64 n)) := cell_kept hb3 CN.out
      replace B0 : Aside (Below w.heap.size w w3) := bt B0.out hb3
      clear hb3 c0
      cases hm3 : must3 s with
      | false =>
        have F := hid (show checkE s n = 90 by rw [FN.out, if_neg (by simp [shapeB, hm3])])
        go_wp2
        go_ret
        exact ⟨ret_i F.out.symm, B0.out⟩
      | true =>
        have M3 := hid hm3
        clear hm3
        go_wp2
        rw [rounds_succ]
        have c0 := FU.out.f4
        go_wp2_with fail
        refine (must4_any s _ n _ _ _ BX.out HSb.out OK.out CN.out).mono ?_
        rintro e w4 ⟨rfl, hb4⟩
        replace BX : Aside (BoxS w4 w.heap.size s ⟨la, lc, ta, tc⟩) := BX.out.kept hb4
        replace FU : Aside (FunsAt w4 w.heap.size) := FU.out.kept hb4
        replace HSb : Aside (SaleAt w4 s ⟨la, lc, ta, tc⟩) := HSb.out.kept hb4
        replace CN : Aside (w4.cell? ⟨w.heap.size + 1, 0, none⟩ = some (.int .i64 n)) := cell_kept hb4 CN.out
        replace B0 : Aside (Below w.heap.size w w4) := bt B0.out hb4
        clear hb4 c0
        cases hm4 : must4 s n with
        | false =>
          have F := hid (show checkE s n = 90 by rw [FN.out, if_neg (by simp [shapeB, hm4])])
          go_wp2
          go_ret
          exact ⟨ret_i F.out.symm, B0.out⟩
        | true =>
          have M4 := hid hm4
          clear hm4
          go_wp2
          rw [rounds_succ]
          have c0 := FU.out.f5
          go_wp2_with fail
          refine (must5_any s _ _ _ BX.out HSb.out OK.out).mono ?_
          rintro e w5 ⟨rfl, hb5⟩
          replace BX : Aside (BoxS w5 w.heap.size s ⟨la, lc, ta, tc⟩) := BX.out.kept hb5
          replace FU : Aside (FunsAt w5 w.heap.size) := FU.out.kept hb5
          replace HSb : Aside (SaleAt w5 s ⟨la, lc, ta, tc⟩) := HSb.out.kept hb5
          replace CN : Aside (w5.cell? ⟨w.heap.size + 1, 0, none⟩ = some (.int .i64 n)) := cell_kept hb5 CN.out
          replace B0 : Aside (Below w.heap.size w w5) := bt B0.out hb5
          clear hb5 c0
          cases hm5 : must5 s with
          | false =>
            have F := hid (show checkE s n = 90 by rw [FN.out, if_neg (by simp [shapeB, hm5])])
            go_wp2
            go_ret
            exact ⟨ret_i F.out.symm, B0.out⟩
          | true =>
            have M5 := hid hm5
            clear hm5
            go_wp2
            rw [rounds_succ]
            have HSH := hid (show checkE s n = (sumFrom 0 (priceL s)).2 by rw [FN.out, if_pos (by simp [shapeB, M1.out, M2.out, M3.out, M4.out, M5.out])])
            obtain ⟨k0, k1, k2, k3, k4⟩ := BX.out
            go_wp2_with fail
            refine (price_any s ⟨la, lc, ta, tc⟩ w5 HSb.out OK.out).mono ?_
            rintro e w6 ⟨rfl, hb6⟩
            clear k0 k1 k2 k3 k4
            go_wp2
            go_ret
            exact ⟨ret_i HSH.out.symm, bt B0.out hb6⟩
end Go.Proofs.Ytijldpkchmpjkaa
