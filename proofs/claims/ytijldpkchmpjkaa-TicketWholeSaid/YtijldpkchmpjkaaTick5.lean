/- TICKET 5: whether a sale may be. -/
import Derived.Test.YtijldpkchmpjkaaTick4
namespace Go.Proofs.Ytijldpkchmpjkaa
open Go.RowKit Go.Lib Go.Tk

/-- a sale in a box -/
structure BoxS (w : World) (b : Nat) (s : SaleV) (A : SaleA) : Prop where
  c0 : w.cell? ⟨b, 0, none⟩ = some (.string s.name)
  c1 : w.cell? ⟨b, 1, none⟩ = some (.slice A.la s.legs.length A.lc)
  c2 : w.cell? ⟨b, 2, none⟩ = some (.int .i64 s.fare)
  c3 : w.cell? ⟨b, 3, none⟩ = some (.slice A.ta s.taxes.length A.tc)
  c4 : w.cell? ⟨b, 4, none⟩ = some (.int .i64 s.pen)
theorem cell_kept {w w' : World} (hb : Below w.heap.size w w') {b o : Nat} {v : Value} (h : w.cell? ⟨b, o, none⟩ = some v) : w'.cell? ⟨b, o, none⟩ = some v := by
  rw [hb.cell (p := ⟨b, o, none⟩) (lt_of_cell h)]; exact h
theorem BoxS.kept {w w' : World} {b : Nat} {s : SaleV} {A : SaleA} (h : BoxS w b s A) (hb : Below w.heap.size w w') : BoxS w' b s A :=
  ⟨cell_kept hb h.c0, cell_kept hb h.c1, cell_kept hb h.c2, cell_kept hb h.c3, cell_kept hb h.c4⟩

def must1 (s : SaleV) : Bool := decide (1 ≤ s.name.size) && decide (s.name.size ≤ 32) && lettersB [32, 47] s.name.data.toList
def must2 (s : SaleV) : Bool := decide (1 ≤ s.legs.length) && decide (s.legs.length ≤ 4) && decide (s.taxes.length ≤ 4)
def must3 (s : SaleV) : Bool := [s.fare, s.pen].all amtB
def must4 (s : SaleV) (n : Int) : Bool := !s.legs.any (legBad n)
def must5 (s : SaleV) : Bool := !s.taxes.any taxBad
def shapeB (s : SaleV) (n : Int) : Bool := must1 s && must2 s && must3 s && must4 s n && must5 s
def checkE (s : SaleV) (n : Int) : Int := if n < 2 ∨ 8 < n then 1 else if shapeB s n then (sumFrom 0 (priceL s)).2 else 90

set_option maxHeartbeats 1000000 in
theorem must1_any (s : SaleV) (A : SaleA) (b : Nat) (w : World) (h : BoxS w b s A) (ok : SaleOk s) :
    Calls Try.prog 44 #[.pointer (some ⟨b, 0, none⟩)] w fun e w' => e = .returned (.bool (must1 s)) ∧ Below w.heap.size w w' := by
  obtain ⟨c0, -, -, -, -⟩ := h
  have hn := ok.name
  clear ok
  have hn' := hn
  unfold maxLen at hn'
  by_cases h1 : 1 ≤ s.name.size
  · by_cases h2 : s.name.size ≤ 32
    · have F := hid (show must1 s = lettersB [32, 47] s.name.data.toList by simp [must1, h1, h2])
      have d1 : decide ((s.name.size : Int) ≥ 1) = true := decide_eq_true (by omega)
      have d2 : decide ((s.name.size : Int) ≤ 32) = true := decide_eq_true (by omega)
      generalize s.name = nm at *
      go_enter Try.func44, Try.ntmps44
      go_wp2_with fail
      refine (letters_any nm _ _ hn).mono ?_
      rintro e w' ⟨rfl, rfl⟩
      go_wp2
      go_ret
      exact ⟨ret_bool F.out.symm, Below.refl _ _⟩
    · have F := hid (show must1 s = false by simp [must1, h2])
      have d1 : decide ((s.name.size : Int) ≥ 1) = true := decide_eq_true (by omega)
      have d2 : decide ((s.name.size : Int) ≤ 32) = false := decide_eq_false (by omega)
      generalize s.name = nm at *
      go_enter Try.func44, Try.ntmps44
      go_wp2
      go_ret
      exact ⟨ret_bool F.out.symm, Below.refl _ _⟩
  · have F := hid (show must1 s = false by unfold must1; rw [decide_eq_false h1]; rfl)
    have d1 : decide ((s.name.size : Int) ≥ 1) = false := decide_eq_false (by omega)
    generalize s.name = nm at *
    go_enter Try.func44, Try.ntmps44
    go_wp2
    go_ret
    exact ⟨ret_bool F.out.symm, Below.refl _ _⟩

set_option maxHeartbeats 1000000 in
theorem must2_any (s : SaleV) (A : SaleA) (b : Nat) (w : World) (h : BoxS w b s A) (ok : SaleOk s) :
    Calls Try.prog 46 #[.pointer (some ⟨b, 0, none⟩)] w fun e w' => e = .returned (.bool (must2 s)) ∧ Below w.heap.size w w' := by
  obtain ⟨-, c1, -, c3, -⟩ := h
  have h5 := ok.nl
  have h6 := ok.nt
  obtain ⟨nl, hnl⟩ : ∃ k, k = s.legs.length := ⟨_, rfl⟩
  obtain ⟨nt, hnt⟩ : ∃ k, k = s.taxes.length := ⟨_, rfl⟩
  have hm : must2 s = (decide (1 ≤ nl) && decide (nl ≤ 4) && decide (nt ≤ 4)) := by unfold must2; rw [← hnl, ← hnt]
  rw [← hnl] at c1 h5
  rw [← hnt] at c3 h6
  clear hnl hnt ok
  by_cases h1 : 1 ≤ nl
  · have d1 : decide ((nl : Int) ≥ 1) = true := decide_eq_true (by omega)
    by_cases h2 : nl ≤ 4
    · have d2 : decide ((nl : Int) ≤ 4) = true := decide_eq_true (by omega)
      by_cases h3 : nt ≤ 4
      · have d3 : decide ((nt : Int) ≤ 4) = true := decide_eq_true (by omega)
        have F := hid (show must2 s = true by rw [hm]; simp [h1, h2, h3])
        clear hm
        go_enter Try.func46, Try.ntmps46
        go_wp2
        go_ret
        exact ⟨ret_bool F.out.symm, Below.refl _ _⟩
      · have d3 : decide ((nt : Int) ≤ 4) = false := decide_eq_false (by omega)
        have F := hid (show must2 s = false by rw [hm]; simp [h3])
        clear hm
        go_enter Try.func46, Try.ntmps46
        go_wp2
        go_ret
        exact ⟨ret_bool F.out.symm, Below.refl _ _⟩
    · have d2 : decide ((nl : Int) ≤ 4) = false := decide_eq_false (by omega)
      have F := hid (show must2 s = false by rw [hm]; simp [h2])
      clear hm
      go_enter Try.func46, Try.ntmps46
      go_wp2
      go_ret
      exact ⟨ret_bool F.out.symm, Below.refl _ _⟩
  · have d1 : decide ((nl : Int) ≥ 1) = false := decide_eq_false (by omega)
    have F := hid (show must2 s = false by rw [hm, decide_eq_false h1]; rfl)
    clear hm
    go_enter Try.func46, Try.ntmps46
    go_wp2
    go_ret
    exact ⟨ret_bool F.out.symm, Below.refl _ _⟩

set_option maxHeartbeats 1000000 in
theorem must3_any (s : SaleV) (A : SaleA) (b : Nat) (w : World) (h : BoxS w b s A) :
    Calls Try.prog 47 #[.pointer (some ⟨b, 0, none⟩)] w fun e w' => e = .returned (.bool (must3 s)) ∧ Below w.heap.size w w' := by
  obtain ⟨-, -, c2, -, c4⟩ := h
  have F := hid (show must3 s = [s.fare, s.pen].all amtB from rfl)
  generalize s.fare = x at *
  generalize s.pen = y at *
  go_enter Try.func47, Try.ntmps47
  go_wp2_with fail
  refine (amounts_any _ 2 _ [x, y] _ rfl (row_new (vs := [.int .i64 x, .int .i64 y]) (by simp)) (by omega)).mono ?_
  rintro e w2 ⟨rfl, hb⟩
  generalize [x, y].all amtB = q at *
  go_wp2
  go_ret
  exact ⟨ret_bool F.out.symm, ((Below.refl _ _).alloc (Nat.le_refl _) _).trans (hb.mono (by simp))⟩

set_option maxHeartbeats 1000000 in
theorem must4_any (s : SaleV) (A : SaleA) (n : Int) (b nb : Nat) (w : World) (h : BoxS w b s A) (hs : SaleAt w s A) (ok : SaleOk s) (hc : w.cell? ⟨nb, 0, none⟩ = some (.int .i64 n)) :
    Calls Try.prog 49 #[.pointer (some ⟨b, 0, none⟩), .pointer (some ⟨nb, 0, none⟩)] w fun e w' => e = .returned (.bool (must4 s n)) ∧ Below w.heap.size w w' := by
  obtain ⟨-, c1, -, -, -⟩ := h
  have hnl := ok.nl
  have KEY := hid (hasLeg_any n nb s.legs A.la _ A.lc w rfl (by omega) hs.legs (fun x hx => (ok.legs x hx).1) hc)
  have F := hid (show must4 s n = !s.legs.any (legBad n) from rfl)
  clear hs ok
  go_enter Try.func49, Try.ntmps49
  go_wp2_with fail
  refine KEY.out.mono ?_
  rintro e w2 ⟨rfl, hb⟩
  generalize s.legs.any (legBad n) = q at *
  go_wp2
  go_ret
  exact ⟨ret_bool F.out.symm, hb⟩

set_option maxHeartbeats 1000000 in
theorem must5_any (s : SaleV) (A : SaleA) (b : Nat) (w : World) (h : BoxS w b s A) (hs : SaleAt w s A) (ok : SaleOk s) :
    Calls Try.prog 52 #[.pointer (some ⟨b, 0, none⟩)] w fun e w' => e = .returned (.bool (must5 s)) ∧ Below w.heap.size w w' := by
  obtain ⟨-, -, -, c3, -⟩ := h
  have hnl := ok.nt
  have KEY := hid (hasTax_any s.taxes A.ta _ A.tc w rfl (by omega) hs.taxes (fun x hx => (ok.taxes x hx).1))
  have F := hid (show must5 s = !s.taxes.any taxBad from rfl)
  clear hs ok
  go_enter Try.func52, Try.ntmps52
  go_wp2_with fail
  refine KEY.out.mono ?_
  rintro e w2 ⟨rfl, hb⟩
  generalize s.taxes.any taxBad = q at *
  go_wp2
  go_ret
  exact ⟨ret_bool F.out.symm, hb⟩
end Go.Proofs.Ytijldpkchmpjkaa
