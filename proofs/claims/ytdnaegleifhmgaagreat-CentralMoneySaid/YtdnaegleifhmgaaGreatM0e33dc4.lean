/- Tick5, Tick6. -/
import Derived.Test.YtdnaegleifhmgaaGreatMfa6bb7c
set_option maxRecDepth 100000
set_option linter.unusedVariables false
set_option linter.unusedSimpArgs false
set_option linter.unusedSectionVars false
section
namespace Go.Proofs.YtdnaegleifhmgaaGreat
open Go.RowKit Go.Lib Go.Tk
structure BoxS (w : World) (b : Nat) (s : SaleV) (A : SaleA) : Prop where
  c0 : w.cell? ⟨b, 0, none⟩ = some (.string s.name)
  c1 : w.cell? ⟨b, 1, none⟩ = some (.slice A.la s.legs.length A.lc)
  c2 : w.cell? ⟨b, 2, none⟩ = some (.int .i64 s.fare)
  c3 : w.cell? ⟨b, 3, none⟩ = some (.slice A.ta s.taxes.length A.tc)
  c4 : w.cell? ⟨b, 4, none⟩ = some (.int .i64 s.pen)
theorem cell_kept {w w' : World} (hb : Below w.heap.size w w') {b o : Nat} {v : Value} (h : w.cell? ⟨b, o, none⟩ = some v) : w'.cell? ⟨b, o, none⟩ = some v := by
  rw [hb.cell (p := ⟨b, o, none⟩) (lt_of_cell h)]; exact h
theorem BoxS.kept {w w' : World} {b : Nat} {s : SaleV} {A : SaleA} (h : BoxS w b s A) (hb : Below w.heap.size w w') : BoxS w' b s A :=
  ⟨cell_kept hb h.c0, cell_kept hb h.c1, cell_kept hb h.c2, cell_kept hb h.c3, cell_kept hb h.c4⟩
def must1 (s : SaleV) : Bool := decide (1 ≤ s.name.size) && decide (s.name.size ≤ 32) && lettersB [32, 47] s.name.data.toList
def must2 (s : SaleV) : Bool := decide (1 ≤ s.legs.length) && decide (s.legs.length ≤ 4) && decide (s.taxes.length ≤ 4)
def must3 (s : SaleV) : Bool := [s.fare, s.pen].all amtB
def must4 (s : SaleV) (n : Int) : Bool := !s.legs.any (legBad n)
def must5 (s : SaleV) : Bool := !s.taxes.any taxBad
def shapeB (s : SaleV) (n : Int) : Bool := must1 s && must2 s && must3 s && must4 s n && must5 s
def checkE (s : SaleV) (n : Int) : Int := if n < 2 ∨ 8 < n then 1 else if shapeB s n then (sumFrom 0 (priceL s)).2 else 90
set_option maxHeartbeats 1000000 in
theorem must1_any (s : SaleV) (A : SaleA) (b : Nat) (w : World) (h : BoxS w b s A) (ok : SaleOk s) :
    Calls Tryz.prog 143 #[.pointer (some ⟨b, 0, none⟩)] w fun e w' => e = .returned (.bool (must1 s)) ∧ Below w.heap.size w w' := by
  obtain ⟨c0, -, -, -, -⟩ := h
  have hn := ok.name
  clear ok
  have hn' := hn
  unfold maxLen at hn'
  by_cases h1 : 1 ≤ s.name.size
  · by_cases h2 : s.name.size ≤ 32
    · have F := hid (show must1 s = lettersB [32, 47] s.name.data.toList by simp [must1, h1, h2])
      have d1 : decide ((s.name.size : Int) ≥ 1) = true := decide_eq_true (by omega)
      have d2 : decide ((s.name.size : Int) ≤ 32) = true := decide_eq_true (by omega)
      generalize s.name = nm at *
      go_enter Tryz.func143, Tryz.ntmps143
      go_wp2_with fail
      refine (letters_any nm _ _ hn).mono ?_
      rintro e w' ⟨rfl, rfl⟩
      go_wp2
      go_ret
      exact ⟨ret_bool F.out.symm, Below.refl _ _⟩
    · have F := hid (show must1 s = false by simp [must1, h2])
      have d1 : decide ((s.name.size : Int) ≥ 1) = true := decide_eq_true (by omega)
      have d2 : decide ((s.name.size : Int) ≤ 32) = false := decide_eq_false (by omega)
      generalize s.name = nm at *
      go_enter Tryz.func143, Tryz.ntmps143
      go_wp2
      go_ret
      exact ⟨ret_bool F.out.symm, Below.refl _ _⟩
  · have F := hid (show must1 s = false by unfold must1; rw [decide_eq_false h1]; rfl)
    have d1 : decide ((s.name.size : Int) ≥ 1) = false := decide_eq_false (by omega)
    generalize s.name = nm at *
    go_enter Tryz.func143, Tryz.ntmps143
    go_wp2
    go_ret
    exact ⟨ret_bool F.out.symm, Below.refl _ _⟩
set_option maxHeartbeats 1000000 in
theorem must2_any (s : SaleV) (A : SaleA) (b : Nat) (w : World) (h : BoxS w b s A) (ok : SaleOk s) :
    Calls Tryz.prog 145 #[.pointer (some ⟨b, 0, none⟩)] w fun e w' => e = .returned (.bool (must2 s)) ∧ Below w.heap.size w w' := by
  obtain ⟨-, c1, -, c3, -⟩ := h
  have h5 := ok.nl
  have h6 := ok.nt
  obtain ⟨nl, hnl⟩ : ∃ k, k = s.legs.length := ⟨_, rfl⟩
  obtain ⟨nt, hnt⟩ : ∃ k, k = s.taxes.length := ⟨_, rfl⟩
  have hm : must2 s = (decide (1 ≤ nl) && decide (nl ≤ 4) && decide (nt ≤ 4)) := by unfold must2; rw [← hnl, ← hnt]
  rw [← hnl] at c1 h5
  rw [← hnt] at c3 h6
  clear hnl hnt ok
  by_cases h1 : 1 ≤ nl
  · have d1 : decide ((nl : Int) ≥ 1) = true := decide_eq_true (by omega)
    by_cases h2 : nl ≤ 4
    · have d2 : decide ((nl : Int) ≤ 4) = true := decide_eq_true (by omega)
      by_cases h3 : nt ≤ 4
      · have d3 : decide ((nt : Int) ≤ 4) = true := decide_eq_true (by omega)
        have F := hid (show must2 s = true by rw [hm]; simp [h1, h2, h3])
        clear hm
        go_enter Tryz.func145, Tryz.ntmps145
        go_wp2
        go_ret
        exact ⟨ret_bool F.out.symm, Below.refl _ _⟩
      · have d3 : decide ((nt : Int) ≤ 4) = false := decide_eq_false (by omega)
        have F := hid (show must2 s = false by rw [hm]; simp [h3])
        clear hm
        go_enter Tryz.func145, Tryz.ntmps145
        go_wp2
        go_ret
        exact ⟨ret_bool F.out.symm, Below.refl _ _⟩
    · have d2 : decide ((nl : Int) ≤ 4) = false := decide_eq_false (by omega)
      have F := hid (show must2 s = false by rw [hm]; simp [h2])
      clear hm
      go_enter Tryz.func145, Tryz.ntmps145
      go_wp2
      go_ret
      exact ⟨ret_bool F.out.symm, Below.refl _ _⟩
  · have d1 : decide ((nl : Int) ≥ 1) = false := decide_eq_false (by omega)
    have F := hid (show must2 s = false by rw [hm, decide_eq_false h1]; rfl)
    clear hm
    go_enter Tryz.func145, Tryz.ntmps145
    go_wp2
    go_ret
    exact ⟨ret_bool F.out.symm, Below.refl _ _⟩
set_option maxHeartbeats 1000000 in
theorem must3_any (s : SaleV) (A : SaleA) (b : Nat) (w : World) (h : BoxS w b s A) :
    Calls Tryz.prog 146 #[.pointer (some ⟨b, 0, none⟩)] w fun e w' => e = .returned (.bool (must3 s)) ∧ Below w.heap.size w w' := by
  obtain ⟨-, -, c2, -, c4⟩ := h
  have F := hid (show must3 s = [s.fare, s.pen].all amtB from rfl)
  generalize s.fare = x at *
  generalize s.pen = y at *
  go_enter Tryz.func146, Tryz.ntmps146
  go_wp2_with fail
  refine (amounts_any _ 2 _ [x, y] _ rfl (row_new (vs := [.int .i64 x, .int .i64 y]) (by simp)) (by omega)).mono ?_
  rintro e w2 ⟨rfl, hb⟩
  generalize [x, y].all amtB = q at *
  go_wp2
  go_ret
  exact ⟨ret_bool F.out.symm, ((Below.refl _ _).alloc (Nat.le_refl _) _).trans (hb.mono (by simp))⟩
set_option maxHeartbeats 1000000 in
theorem must4_any (s : SaleV) (A : SaleA) (n : Int) (b nb : Nat) (w : World) (h : BoxS w b s A) (hs : SaleAt w s A) (ok : SaleOk s) (hc : w.cell? ⟨nb, 0, none⟩ = some (.int .i64 n)) :
    Calls Tryz.prog 148 #[.pointer (some ⟨b, 0, none⟩), .pointer (some ⟨nb, 0, none⟩)] w fun e w' => e = .returned (.bool (must4 s n)) ∧ Below w.heap.size w w' := by
  obtain ⟨-, c1, -, -, -⟩ := h
  have hnl := ok.nl
  have KEY := hid (hasLeg_any n nb s.legs A.la _ A.lc w rfl (by omega) hs.legs (fun x hx => (ok.legs x hx).1) hc)
  have F := hid (show must4 s n = !s.legs.any (legBad n) from rfl)
  clear hs ok
  go_enter Tryz.func148, Tryz.ntmps148
  go_wp2_with fail
  refine KEY.out.mono ?_
  rintro e w2 ⟨rfl, hb⟩
  generalize s.legs.any (legBad n) = q at *
  go_wp2
  go_ret
  exact ⟨ret_bool F.out.symm, hb⟩
set_option maxHeartbeats 1000000 in
theorem must5_any (s : SaleV) (A : SaleA) (b : Nat) (w : World) (h : BoxS w b s A) (hs : SaleAt w s A) (ok : SaleOk s) :
    Calls Tryz.prog 151 #[.pointer (some ⟨b, 0, none⟩)] w fun e w' => e = .returned (.bool (must5 s)) ∧ Below w.heap.size w w' := by
  obtain ⟨-, -, -, c3, -⟩ := h
  have hnl := ok.nt
  have KEY := hid (hasTax_any s.taxes A.ta _ A.tc w rfl (by omega) hs.taxes (fun x hx => (ok.taxes x hx).1))
  have F := hid (show must5 s = !s.taxes.any taxBad from rfl)
  clear hs ok
  go_enter Tryz.func151, Tryz.ntmps151
  go_wp2_with fail
  refine KEY.out.mono ?_
  rintro e w2 ⟨rfl, hb⟩
  generalize s.taxes.any taxBad = q at *
  go_wp2
  go_ret
  exact ⟨ret_bool F.out.symm, hb⟩
end Go.Proofs.YtdnaegleifhmgaaGreat
end
section
namespace Go.Proofs.YtdnaegleifhmgaaGreat
open Go.RowKit Go.Lib Go.Tk
theorem boxS_new (w : World) (s : SaleV) (la : Option Addr) (lc : Nat) (ta : Option Addr) (tc : Nat) (E : TypeId) : BoxS (w.alloc (.cells #[.string s.name, .slice la s.legs.length lc, .int .i64 s.fare, .slice ta s.taxes.length tc, .int .i64 s.pen] E)) w.heap.size s ⟨la, lc, ta, tc⟩ :=
  ⟨by rw [cell_new rfl]; rfl, by rw [cell_new rfl]; rfl, by rw [cell_new rfl]; rfl, by rw [cell_new rfl]; rfl, by rw [cell_new rfl]; rfl⟩
structure FunsAt (w : World) (b : Nat) : Prop where
  f1 : w.cell? ⟨b + 2, 0, none⟩ = some (.func (.func 143) #[] #[.pointer (some ⟨b, 0, none⟩)])
  f2 : w.cell? ⟨b + 2, 1, none⟩ = some (.func (.func 145) #[] #[.pointer (some ⟨b, 0, none⟩)])
  f3 : w.cell? ⟨b + 2, 2, none⟩ = some (.func (.func 146) #[] #[.pointer (some ⟨b, 0, none⟩)])
  f4 : w.cell? ⟨b + 2, 3, none⟩ = some (.func (.func 148) #[] #[.pointer (some ⟨b, 0, none⟩), .pointer (some ⟨b + 1, 0, none⟩)])
  f5 : w.cell? ⟨b + 2, 4, none⟩ = some (.func (.func 151) #[] #[.pointer (some ⟨b, 0, none⟩)])
theorem FunsAt.kept {w w' : World} {b : Nat} (h : FunsAt w b) (hb : Below w.heap.size w w') : FunsAt w' b :=
  ⟨cell_kept hb h.f1, cell_kept hb h.f2, cell_kept hb h.f3, cell_kept hb h.f4, cell_kept hb h.f5⟩
set_option maxHeartbeats 4000000 in
theorem tcheck_any (s : SaleV) (A : SaleA) (n : Int) (w : World) (hs : SaleAt w s A) (ok : SaleOk s) :
    Calls Tryz.prog 137 #[saleAgg s A, .int .i64 n] w fun e w' => e = .returned (.int .i64 (checkE s n)) ∧ Below w.heap.size w w' := by
  obtain ⟨la, lc, ta, tc⟩ := A
  have HS : Aside (SaleAt w s ⟨la, lc, ta, tc⟩) := hs
  have OK : Aside (SaleOk s) := ok
  clear hs ok
  unfold saleAgg
  dsimp only
  by_cases h1 : n < 2
  · have F := hid (show checkE s n = 1 by unfold checkE; rw [if_pos (.inl h1)])
    have d1 : decide (n < 2) = true := decide_eq_true h1
    go_enter Tryz.func137, Tryz.ntmps137
    go_wp2
    go_ret
    exact ⟨ret_i F.out.symm, ((Below.refl _ _).alloc (Nat.le_refl _) _).alloc (by simp) _⟩
  have d1 : decide (n < 2) = false := decide_eq_false h1
  by_cases h2 : n > 8
  · have F := hid (show checkE s n = 1 by unfold checkE; rw [if_pos (.inr h2)])
    have d2 : decide (n > 8) = true := decide_eq_true h2
    go_enter Tryz.func137, Tryz.ntmps137
    go_wp2
    go_ret
    exact ⟨ret_i F.out.symm, ((Below.refl _ _).alloc (Nat.le_refl _) _).alloc (by simp) _⟩
  have d2 : decide (n > 8) = false := decide_eq_false h2
  have FN := hid (show checkE s n = if shapeB s n then (sumFrom 0 (priceL s)).2 else 90 by unfold checkE; rw [if_neg (by omega)])
  clear h1 h2
  go_enter Tryz.func137, Tryz.ntmps137
  go_wp2
  have hbx : BoxS (((w.alloc (.cells #[.string s.name, .slice la s.legs.length lc, .int .i64 s.fare, .slice ta s.taxes.length tc, .int .i64 s.pen] 35)).alloc (.cells #[.int .i64 n] 3)).alloc (.cells #[.func (.func 143) #[] #[.pointer (some ⟨w.heap.size, 0, none⟩)], .func (.func 145) #[] #[.pointer (some ⟨w.heap.size, 0, none⟩)], .func (.func 146) #[] #[.pointer (some ⟨w.heap.size, 0, none⟩)], .func (.func 148) #[] #[.pointer (some ⟨w.heap.size, 0, none⟩), .pointer (some ⟨w.heap.size + 1, 0, none⟩)], .func (.func 151) #[] #[.pointer (some ⟨w.heap.size, 0, none⟩)]] 24)) w.heap.size s ⟨la, lc, ta, tc⟩ := ((boxS_new w s la lc ta tc _).kept (below_alloc _ _)).kept (below_alloc _ _)
  have hcn : (((w.alloc (.cells #[.string s.name, .slice la s.legs.length lc, .int .i64 s.fare, .slice ta s.taxes.length tc, .int .i64 s.pen] 35)).alloc (.cells #[.int .i64 n] 3)).alloc (.cells #[.func (.func 143) #[] #[.pointer (some ⟨w.heap.size, 0, none⟩)], .func (.func 145) #[] #[.pointer (some ⟨w.heap.size, 0, none⟩)], .func (.func 146) #[] #[.pointer (some ⟨w.heap.size, 0, none⟩)], .func (.func 148) #[] #[.pointer (some ⟨w.heap.size, 0, none⟩), .pointer (some ⟨w.heap.size + 1, 0, none⟩)], .func (.func 151) #[] #[.pointer (some ⟨w.heap.size, 0, none⟩)]] 24)).cell? ⟨w.heap.size + 1, 0, none⟩ = some (.int .i64 n) := cell_kept (below_alloc _ _) (by rw [cell_new (by simp)]; rfl)
  have hf : FunsAt (((w.alloc (.cells #[.string s.name, .slice la s.legs.length lc, .int .i64 s.fare, .slice ta s.taxes.length tc, .int .i64 s.pen] 35)).alloc (.cells #[.int .i64 n] 3)).alloc (.cells #[.func (.func 143) #[] #[.pointer (some ⟨w.heap.size, 0, none⟩)], .func (.func 145) #[] #[.pointer (some ⟨w.heap.size, 0, none⟩)], .func (.func 146) #[] #[.pointer (some ⟨w.heap.size, 0, none⟩)], .func (.func 148) #[] #[.pointer (some ⟨w.heap.size, 0, none⟩), .pointer (some ⟨w.heap.size + 1, 0, none⟩)], .func (.func 151) #[] #[.pointer (some ⟨w.heap.size, 0, none⟩)]] 24)) w.heap.size := ⟨by rw [cell_new (by simp)]; rfl, by rw [cell_new (by simp)]; rfl, by rw [cell_new (by simp)]; rfl, by rw [cell_new (by simp)]; rfl, by rw [cell_new (by simp)]; rfl⟩
  have hb : Below w.heap.size w (((w.alloc (.cells #[.string s.name, .slice la s.legs.length lc, .int .i64 s.fare, .slice ta s.taxes.length tc, .int .i64 s.pen] 35)).alloc (.cells #[.int .i64 n] 3)).alloc (.cells #[.func (.func 143) #[] #[.pointer (some ⟨w.heap.size, 0, none⟩)], .func (.func 145) #[] #[.pointer (some ⟨w.heap.size, 0, none⟩)], .func (.func 146) #[] #[.pointer (some ⟨w.heap.size, 0, none⟩)], .func (.func 148) #[] #[.pointer (some ⟨w.heap.size, 0, none⟩), .pointer (some ⟨w.heap.size + 1, 0, none⟩)], .func (.func 151) #[] #[.pointer (some ⟨w.heap.size, 0, none⟩)]] 24)) := (((Below.refl _ _).alloc (Nat.le_refl _) _).alloc (by simp) _).alloc (by simp; omega) _
  generalize ((w.alloc (.cells #[.string s.name, .slice la s.legs.length lc, .int .i64 s.fare, .slice ta s.taxes.length tc, .int .i64 s.pen] 35)).alloc (.cells #[.int .i64 n] 3)).alloc (.cells #[.func (.func 143) #[] #[.pointer (some ⟨w.heap.size, 0, none⟩)], .func (.func 145) #[] #[.pointer (some ⟨w.heap.size, 0, none⟩)], .func (.func 146) #[] #[.pointer (some ⟨w.heap.size, 0, none⟩)], .func (.func 148) #[] #[.pointer (some ⟨w.heap.size, 0, none⟩), .pointer (some ⟨w.heap.size + 1, 0, none⟩)], .func (.func 151) #[] #[.pointer (some ⟨w.heap.size, 0, none⟩)]] 24) = wb at *
  have BX : Aside (BoxS wb w.heap.size s ⟨la, lc, ta, tc⟩) := hbx
  have CN : Aside (wb.cell? ⟨w.heap.size + 1, 0, none⟩ = some (.int .i64 n)) := hcn
  have FU : Aside (FunsAt wb w.heap.size) := hf
  have B0 : Aside (Below w.heap.size w wb) := hb
  clear hbx hcn hf hb
  refine wp_loop_rounds 6 ?_
  have HSb : Aside (SaleAt wb s ⟨la, lc, ta, tc⟩) := HS.out.kept B0.out
  rw [rounds_succ]
  have c0 := FU.out.f1
  go_wp2_with fail
  refine (must1_any s _ _ _ BX.out OK.out).mono ?_
  rintro e w1 ⟨rfl, hb1⟩
  replace BX : Aside (BoxS w1 w.heap.size s ⟨la, lc, ta, tc⟩) := BX.out.kept hb1
  replace FU : Aside (FunsAt w1 w.heap.size) := FU.out.kept hb1
  replace HSb : Aside (SaleAt w1 s ⟨la, lc, ta, tc⟩) := HSb.out.kept hb1
  replace CN : Aside (w1.cell? ⟨w.heap.size + 1, 0, none⟩ = some (.int .i64 n)) := cell_kept hb1 CN.out
  replace B0 : Aside (Below w.heap.size w w1) := bt B0.out hb1
  clear hb1 c0
  cases hm1 : must1 s with
  | false =>
    have F := hid (show checkE s n = 90 by rw [FN.out, if_neg (by simp [shapeB, hm1])])
    go_wp2
    go_ret
    exact ⟨ret_i F.out.symm, B0.out⟩
  | true =>
    have M1 := hid hm1
    clear hm1
    go_wp2
    rw [rounds_succ]
    have c0 := FU.out.f2
    go_wp2_with fail
    refine (must2_any s _ _ _ BX.out OK.out).mono ?_
    rintro e w2 ⟨rfl, hb2⟩
    replace BX : Aside (BoxS w2 w.heap.size s ⟨la, lc, ta, tc⟩) := BX.out.kept hb2
    replace FU : Aside (FunsAt w2 w.heap.size) := FU.out.kept hb2
    replace HSb : Aside (SaleAt w2 s ⟨la, lc, ta, tc⟩) := HSb.out.kept hb2
    replace CN : Aside (w2.cell? ⟨w.heap.size + 1, 0, none⟩ = some (.int .i64 n)) := cell_kept hb2 CN.out
    replace B0 : Aside (Below w.heap.size w w2) := bt B0.out hb2
    clear hb2 c0
    cases hm2 : must2 s with
    | false =>
      have F := hid (show checkE s n = 90 by rw [FN.out, if_neg (by simp [shapeB, hm2])])
      go_wp2
      go_ret
      exact ⟨ret_i F.out.symm, B0.out⟩
    | true =>
      have M2 := hid hm2
      clear hm2
      go_wp2
      rw [rounds_succ]
      have c0 := FU.out.f3
      go_wp2_with fail
      refine (must3_any s _ _ _ BX.out).mono ?_
      rintro e w3 ⟨rfl, hb3⟩
      replace BX : Aside (BoxS w3 w.heap.size s ⟨la, lc, ta, tc⟩) := BX.out.kept hb3
      replace FU : Aside (FunsAt w3 w.heap.size) := FU.out.kept hb3
      replace HSb : Aside (SaleAt w3 s ⟨la, lc, ta, tc⟩) := HSb.out.kept hb3
      replace CN : Aside (w3.cell? ⟨w.heap.size + 1, 0, none⟩ = some (.int .i64 n)) := cell_kept hb3 CN.out
      replace B0 : Aside (Below w.heap.size w w3) := bt B0.out hb3
      clear hb3 c0
      cases hm3 : must3 s with
      | false =>
        have F := hid (show checkE s n = 90 by rw [FN.out, if_neg (by simp [shapeB, hm3])])
        go_wp2
        go_ret
        exact ⟨ret_i F.out.symm, B0.out⟩
      | true =>
        have M3 := hid hm3
        clear hm3
        go_wp2
        rw [rounds_succ]
        have c0 := FU.out.f4
        go_wp2_with fail
        refine (must4_any s _ n _ _ _ BX.out HSb.out OK.out CN.out).mono ?_
        rintro e w4 ⟨rfl, hb4⟩
        replace BX : Aside (BoxS w4 w.heap.size s ⟨la, lc, ta, tc⟩) := BX.out.kept hb4
        replace FU : Aside (FunsAt w4 w.heap.size) := FU.out.kept hb4
        replace HSb : Aside (SaleAt w4 s ⟨la, lc, ta, tc⟩) := HSb.out.kept hb4
        replace CN : Aside (w4.cell? ⟨w.heap.size + 1, 0, none⟩ = some (.int .i64 n)) := cell_kept hb4 CN.out
        replace B0 : Aside (Below w.heap.size w w4) := bt B0.out hb4
        clear hb4 c0
        cases hm4 : must4 s n with
        | false =>
          have F := hid (show checkE s n = 90 by rw [FN.out, if_neg (by simp [shapeB, hm4])])
          go_wp2
          go_ret
          exact ⟨ret_i F.out.symm, B0.out⟩
        | true =>
          have M4 := hid hm4
          clear hm4
          go_wp2
          rw [rounds_succ]
          have c0 := FU.out.f5
          go_wp2_with fail
          refine (must5_any s _ _ _ BX.out HSb.out OK.out).mono ?_
          rintro e w5 ⟨rfl, hb5⟩
          replace BX : Aside (BoxS w5 w.heap.size s ⟨la, lc, ta, tc⟩) := BX.out.kept hb5
          replace FU : Aside (FunsAt w5 w.heap.size) := FU.out.kept hb5
          replace HSb : Aside (SaleAt w5 s ⟨la, lc, ta, tc⟩) := HSb.out.kept hb5
          replace CN : Aside (w5.cell? ⟨w.heap.size + 1, 0, none⟩ = some (.int .i64 n)) := cell_kept hb5 CN.out
          replace B0 : Aside (Below w.heap.size w w5) := bt B0.out hb5
          clear hb5 c0
          cases hm5 : must5 s with
          | false =>
            have F := hid (show checkE s n = 90 by rw [FN.out, if_neg (by simp [shapeB, hm5])])
            go_wp2
            go_ret
            exact ⟨ret_i F.out.symm, B0.out⟩
          | true =>
            have M5 := hid hm5
            clear hm5
            go_wp2
            rw [rounds_succ]
            have HSH := hid (show checkE s n = (sumFrom 0 (priceL s)).2 by rw [FN.out, if_pos (by simp [shapeB, M1.out, M2.out, M3.out, M4.out, M5.out])])
            obtain ⟨k0, k1, k2, k3, k4⟩ := BX.out
            go_wp2_with fail
            refine (price_any s ⟨la, lc, ta, tc⟩ w5 HSb.out OK.out).mono ?_
            rintro e w6 ⟨rfl, hb6⟩
            clear k0 k1 k2 k3 k4
            go_wp2
            go_ret
            exact ⟨ret_i HSH.out.symm, bt B0.out hb6⟩
end Go.Proofs.YtdnaegleifhmgaaGreat
end
