/- Bk1, Tick5. -/
import Derived.Test.YtlekbdpdlalhbaaGreatM07854c5
section
namespace Go.Proofs.YtlekbdpdlalhbaaGreat
set_option maxRecDepth 100000
open Go.RowKit Go.Lib Go.Tk Go.Shelf Go.Vc Go.Sx
set_option linter.unusedVariables false
set_option linter.unusedSimpArgs false

structure DocV where
  t : Tid
  s : SaleV
  vals : List Int
  frm : Tid
  dst : Tid
  credit : Int
  paid : Int
  back : Int
  kept : Int
  left : Int
deriving DecidableEq, Inhabited
structure BookV where
  self : Int
  n : Int
  docs : List DocV
  owns : OwnsV
  helds : HeldsV
abbrev CF := Nat → Value → Chunk
def bkH (F : CF) (B : BookV) : Heap := [((0, 0), .box none [.val (.int .u8 B.self), .val (.int .i64 B.n), .map 0 1, .map 0 2, .map 0 3]), ((0, 1), .fam F), ((0, 2), ownsF B.owns), ((0, 3), heldsF B.helds)]
def eN (e : Int) : SV := .val (.int .i64 e)
/-- no such thing: 4 -/
def noneE (b : Bool) : Int := bif b then 0 else 4
def BownsF : Nat := 68
def BheldsF : Nat := 89
def FoundO : Nat := 67
def FoundH : Nat := 88
def OwnF : Nat := 18
def HeldF : Nat := 27
theorem bowns_w (F : CF) (B : BookV) : CallOK Tryz.prog BownsF [.ptr 0 0 0] (bkH F B) [] (.map 0 2) [] := callOK_run 400 [] (by kernel_rfl) (by kernel_rfl)
theorem bhelds_w (F : CF) (B : BookV) : CallOK Tryz.prog BheldsF [.ptr 0 0 0] (bkH F B) [] (.map 0 3) [] := callOK_run 400 [] (by kernel_rfl) (by kernel_rfl)
theorem foundO_w (F : CF) (B : BookV) {k : Kid} (hk : KidOk k) : CallOK Tryz.prog FoundO [.ptr 0 0 0, .fn (.func BownsF) [] [], .agg (kidS k)] (bkH F B) [] (.tup [.agg (ownS ((lkt B.owns k).getD own0)), eN (noneE (lkt B.owns k).isSome)]) [] := by
  have c1 := bowns_w F B
  have c2 := look_owns B.owns hk
  cases hb : lkt B.owns k with
  | none =>
    rw [hb] at c2
    exact callOK_run 400 [hC 4 2 c1, hG 4 4 c2] (by kernel_rfl) (by kernel_rfl)
  | some o =>
    rw [hb] at c2
    exact callOK_run 400 [hC 4 2 c1, hG 4 4 c2] (by kernel_rfl) (by kernel_rfl)
theorem own_w (F : CF) (B : BookV) {k : Kid} (hk : KidOk k) : CallOK Tryz.prog OwnF [.ptr 0 0 0, .agg (kidS k)] (bkH F B) [] (.tup [.agg (ownS ((lkt B.owns k).getD own0)), eN (noneE (lkt B.owns k).isSome)]) [] := by
  have c1 := foundO_w F B hk
  exact callOK_run 400 [hC 1 2 c1] (by kernel_rfl) (by kernel_rfl)
theorem foundH_w (F : CF) (B : BookV) {k : Kid} (hk : KidOk k) : CallOK Tryz.prog FoundH [.ptr 0 0 0, .fn (.func BheldsF) [] [], .agg (kidS k)] (bkH F B) [] (.tup [.agg (heldS ((lkt B.helds k).getD held0)), eN (noneE (lkt B.helds k).isSome)]) [] := by
  have c1 := bhelds_w F B
  have c2 := look_helds B.helds hk
  cases hb : lkt B.helds k with
  | none =>
    rw [hb] at c2
    exact callOK_run 400 [hC 4 2 c1, hG 4 4 c2] (by kernel_rfl) (by kernel_rfl)
  | some o =>
    rw [hb] at c2
    exact callOK_run 400 [hC 4 2 c1, hG 4 4 c2] (by kernel_rfl) (by kernel_rfl)
theorem held_w (F : CF) (B : BookV) {k : Kid} (hk : KidOk k) : CallOK Tryz.prog HeldF [.ptr 0 0 0, .agg (kidS k)] (bkH F B) [] (.tup [.agg (heldS ((lkt B.helds k).getD held0)), eN (noneE (lkt B.helds k).isSome)]) [] := by
  have c1 := foundH_w F B hk
  exact callOK_run 400 [hC 1 2 c1] (by kernel_rfl) (by kernel_rfl)
def SelfF : Nat := 79
def CarrF : Nat := 80
theorem self_w (F : CF) (B : BookV) : CallOK Tryz.prog SelfF [.ptr 0 0 0] (bkH F B) [] (.val (.int .u8 B.self)) [] := callOK_run 400 [] (by kernel_rfl) (by kernel_rfl)
theorem carr_w (F : CF) (B : BookV) : CallOK Tryz.prog CarrF [.ptr 0 0 0] (bkH F B) [] (.val (.int .i64 B.n)) [] := callOK_run 400 [] (by kernel_rfl) (by kernel_rfl)
/-- a coupon set, if there is one -/
def BookV.setO (B : BookV) (k : Kid) (o : OwnV) : BookV := bif (lkt B.owns k).isSome then { B with owns := putt B.owns k o } else B
theorem setO_some {B : BookV} {k : Kid} {o x : OwnV} (h : lkt B.owns k = some x) : B.setO k o = { B with owns := putt B.owns k o } := by unfold BookV.setO; rw [h]; rfl
theorem setO_none {B : BookV} {k : Kid} {o : OwnV} (h : lkt B.owns k = none) : B.setO k o = B := by unfold BookV.setO; rw [h]; rfl
def SetOwnF : Nat := 25
theorem setOwn_w (F : CF) (B : BookV) {k : Kid} (hk : KidOk k) (o : OwnV) : CallOK Tryz.prog SetOwnF [.ptr 0 0 0, .agg (kidS k), .agg (ownS o)] [] (bkH F B) (eN (noneE (lkt B.owns k).isSome)) (bkH F (B.setO k o)) := by
  have c1 := foundO_w F B hk
  have c2 := upd_owns B.owns hk o (List.Perm.refl _)
  cases hb : lkt B.owns k with
  | none =>
    rw [setO_none hb]
    rw [hb] at c1
    exact callOK_run 400 [hC 1 2 c1] (by kernel_rfl) (by kernel_rfl)
  | some x =>
    rw [setO_some hb]
    rw [hb] at c1
    exact callOK_run 400 [hC 1 2 c1, hG 4 6 c2] (by kernel_rfl) (by kernel_rfl)
/-- what of a key may not be: another one's coupon -/
def BookV.badK (B : BookV) (k : Kid) : Bool := decide (k.t.c = B.self) || (decide (B.n ≤ k.t.c) || (decide (k.t.r < 1) || (decide (9999999999 < k.t.r) || decide (4 ≤ k.i))))
def BookV.setHE (B : BookV) (k : Kid) : Int := bif B.badK k then 1 else bif !(lkt B.helds k).isSome && decide (64 ≤ B.helds.length) then 3 else 0
def BookV.setH (B : BookV) (k : Kid) (h : HeldV) : BookV := bif decide (B.setHE k = 0) then { B with helds := putt B.helds k h } else B
def SetHeldF : Nat := 26
theorem setHeld_w (F : CF) (B : BookV) {k : Kid} (hk : KidOk k) (h : HeldV) : CallOK Tryz.prog SetHeldF [.ptr 0 0 0, .agg (kidS k), .agg (heldS h)] [] (bkH F B) (eN (B.setHE k)) (bkH F (B.setH k h)) := by
  have c2 := look_helds B.helds hk
  have c3 := upd_helds B.helds hk h (List.Perm.refl _)
  have c4 := len_helds B.helds
  have w1 : IntKind.i64.wrap k.t.c = k.t.c := wr_i64 (by have := hk.1.1; omega)
  have no : B.badK k = true → B.setHE k = 1 := fun e => by unfold BookV.setHE; rw [e]; rfl
  have no2 : B.setHE k ≠ 0 → B.setH k h = B := fun e => by unfold BookV.setH; rw [decide_eq_false e]; rfl
  have ok2 : B.setHE k = 0 → B.setH k h = { B with helds := putt B.helds k h } := fun e => by unfold BookV.setH; rw [decide_eq_true e]; rfl
  rcases Bool.eq_false_or_eq_true (decide (k.t.c = B.self)) with h1 | h1
  · have e := no (by unfold BookV.badK; rw [h1]; rfl)
    rw [no2 (by rw [e]; decide), e]
    exact callOK_run 400 [hB 4 6 _ _ h1] (by kernel_rfl) (by kernel_rfl)
  rcases Bool.eq_false_or_eq_true (decide (B.n ≤ k.t.c)) with h2 | h2
  · have e := no (by unfold BookV.badK; rw [h1, h2]; rfl)
    rw [no2 (by rw [e]; decide), e]
    exact callOK_run 400 [hB 4 6 _ _ h1, hI 4 10 IntKind.i64 _ _ w1, hB 4 15 _ _ h2] (by kernel_rfl) (by kernel_rfl)
  rcases Bool.eq_false_or_eq_true (decide (k.t.r < 1)) with h3 | h3
  · have e := no (by unfold BookV.badK; rw [h1, h2, h3]; rfl)
    rw [no2 (by rw [e]; decide), e]
    exact callOK_run 400 [hB 4 6 _ _ h1, hI 4 10 IntKind.i64 _ _ w1, hB 4 15 _ _ h2, hB 4 20 _ _ h3] (by kernel_rfl) (by kernel_rfl)
  rcases Bool.eq_false_or_eq_true (decide (9999999999 < k.t.r)) with h4 | h4
  · have e := no (by unfold BookV.badK; rw [h1, h2, h3, h4]; rfl)
    rw [no2 (by rw [e]; decide), e]
    exact callOK_run 400 [hB 4 6 _ _ h1, hI 4 10 IntKind.i64 _ _ w1, hB 4 15 _ _ h2, hB 4 20 _ _ h3, hB 4 25 _ _ h4] (by kernel_rfl) (by kernel_rfl)
  rcases Bool.eq_false_or_eq_true (decide (4 ≤ k.i)) with h5 | h5
  · have e := no (by unfold BookV.badK; rw [h1, h2, h3, h4, h5]; rfl)
    rw [no2 (by rw [e]; decide), e]
    exact callOK_run 400 [hB 4 6 _ _ h1, hI 4 10 IntKind.i64 _ _ w1, hB 4 15 _ _ h2, hB 4 20 _ _ h3, hB 4 25 _ _ h4, hB 4 30 _ _ h5] (by kernel_rfl) (by kernel_rfl)
  have hb : B.badK k = false := by unfold BookV.badK; rw [h1, h2, h3, h4, h5]; rfl
  cases hl : lkt B.helds k with
  | some x =>
    have e : B.setHE k = 0 := by unfold BookV.setHE; rw [hb, hl]; rfl
    rw [ok2 e, e]
    rw [hl] at c2
    exact callOK_run 400 [hB 4 6 _ _ h1, hI 4 10 IntKind.i64 _ _ w1, hB 4 15 _ _ h2, hB 4 20 _ _ h3, hB 4 25 _ _ h4, hB 4 30 _ _ h5, hG 6 5 c2, hG 9 6 c3] (by kernel_rfl) (by kernel_rfl)
  | none =>
    rw [hl] at c2
    rcases Bool.eq_false_or_eq_true (decide (64 ≤ B.helds.length)) with h6 | h6
    · have e : B.setHE k = 3 := by unfold BookV.setHE; rw [hb, hl, h6]; rfl
      have h6' : decide ((64 : Int) ≤ (B.helds.length : Int)) = true := by simp only [decide_eq_true_eq] at h6 ⊢; omega
      rw [no2 (by rw [e]; decide), e]
      exact callOK_run 400 [hB 4 6 _ _ h1, hI 4 10 IntKind.i64 _ _ w1, hB 4 15 _ _ h2, hB 4 20 _ _ h3, hB 4 25 _ _ h4, hB 4 30 _ _ h5, hG 6 5 c2, hG 7 7 c4, hB 7 8 _ _ h6'] (by kernel_rfl) (by kernel_rfl)
    · have e : B.setHE k = 0 := by unfold BookV.setHE; rw [hb, hl, h6]; rfl
      have h6' : decide ((64 : Int) ≤ (B.helds.length : Int)) = false := by simp only [decide_eq_false_iff_not] at h6 ⊢; omega
      rw [ok2 e, e]
      exact callOK_run 400 [hB 4 6 _ _ h1, hI 4 10 IntKind.i64 _ _ w1, hB 4 15 _ _ h2, hB 4 20 _ _ h3, hB 4 25 _ _ h4, hB 4 30 _ _ h5, hG 6 5 c2, hG 7 7 c4, hB 7 8 _ _ h6', hG 9 6 c3] (by kernel_rfl) (by kernel_rfl)
end Go.Proofs.YtlekbdpdlalhbaaGreat
end
section
namespace Go.Proofs.YtlekbdpdlalhbaaGreat
set_option maxRecDepth 100000
open Go.RowKit Go.Lib Go.Tk

/-- a sale in a box -/
structure BoxS (w : World) (b : Nat) (s : SaleV) (A : SaleA) : Prop where
  c0 : w.cell? ⟨b, 0, none⟩ = some (.string s.name)
  c1 : w.cell? ⟨b, 1, none⟩ = some (.slice A.la s.legs.length A.lc)
  c2 : w.cell? ⟨b, 2, none⟩ = some (.int .i64 s.fare)
  c3 : w.cell? ⟨b, 3, none⟩ = some (.slice A.ta s.taxes.length A.tc)
  c4 : w.cell? ⟨b, 4, none⟩ = some (.int .i64 s.pen)
theorem cell_kept {w w' : World} (hb : Below w.heap.size w w') {b o : Nat} {v : Value} (h : w.cell? ⟨b, o, none⟩ = some v) : w'.cell? ⟨b, o, none⟩ = some v := by
  rw [hb.cell (p := ⟨b, o, none⟩) (lt_of_cell h)]; exact h
theorem BoxS.kept {w w' : World} {b : Nat} {s : SaleV} {A : SaleA} (h : BoxS w b s A) (hb : Below w.heap.size w w') : BoxS w' b s A :=
  ⟨cell_kept hb h.c0, cell_kept hb h.c1, cell_kept hb h.c2, cell_kept hb h.c3, cell_kept hb h.c4⟩

def must1 (s : SaleV) : Bool := decide (1 ≤ s.name.size) && decide (s.name.size ≤ 32) && lettersB [32, 47] s.name.data.toList
def must2 (s : SaleV) : Bool := decide (1 ≤ s.legs.length) && decide (s.legs.length ≤ 4) && decide (s.taxes.length ≤ 4)
def must3 (s : SaleV) : Bool := [s.fare, s.pen].all amtB
def must4 (s : SaleV) (n : Int) : Bool := !s.legs.any (legBad n)
def must5 (s : SaleV) : Bool := !s.taxes.any taxBad
def shapeB (s : SaleV) (n : Int) : Bool := must1 s && must2 s && must3 s && must4 s n && must5 s
def checkE (s : SaleV) (n : Int) : Int := if n < 2 ∨ 8 < n then 1 else if shapeB s n then (sumFrom 0 (priceL s)).2 else 90

set_option maxHeartbeats 1000000 in
theorem must1_any (s : SaleV) (A : SaleA) (b : Nat) (w : World) (h : BoxS w b s A) (ok : SaleOk s) :
    Calls Tryz.prog 175 #[.pointer (some ⟨b, 0, none⟩)] w fun e w' => e = .returned (.bool (must1 s)) ∧ Below w.heap.size w w' := by
  obtain ⟨c0, -, -, -, -⟩ := h
  have hn := ok.name
  clear ok
  have hn' := hn
  unfold maxLen at hn'
  by_cases h1 : 1 ≤ s.name.size
  · by_cases h2 : s.name.size ≤ 32
    · have F := hid (show must1 s = lettersB [32, 47] s.name.data.toList by simp [must1, h1, h2])
      have d1 : decide ((s.name.size : Int) ≥ 1) = true := decide_eq_true (by omega)
      have d2 : decide ((s.name.size : Int) ≤ 32) = true := decide_eq_true (by omega)
      generalize s.name = nm at *
      go_enter Tryz.func175, Tryz.ntmps175
      go_wp2_with fail
      refine (letters_any nm _ _ hn).mono ?_
      rintro e w' ⟨rfl, rfl⟩
      go_wp2
      go_ret
      exact ⟨ret_bool F.out.symm, Below.refl _ _⟩
    · have F := hid (show must1 s = false by simp [must1, h2])
      have d1 : decide ((s.name.size : Int) ≥ 1) = true := decide_eq_true (by omega)
      have d2 : decide ((s.name.size : Int) ≤ 32) = false := decide_eq_false (by omega)
      generalize s.name = nm at *
      go_enter Tryz.func175, Tryz.ntmps175
      go_wp2
      go_ret
      exact ⟨ret_bool F.out.symm, Below.refl _ _⟩
  · have F := hid (show must1 s = false by unfold must1; rw [decide_eq_false h1]; rfl)
    have d1 : decide ((s.name.size : Int) ≥ 1) = false := decide_eq_false (by omega)
    generalize s.name = nm at *
    go_enter Tryz.func175, Tryz.ntmps175
    go_wp2
    go_ret
    exact ⟨ret_bool F.out.symm, Below.refl _ _⟩

set_option maxHeartbeats 1000000 in
theorem must2_any (s : SaleV) (A : SaleA) (b : Nat) (w : World) (h : BoxS w b s A) (ok : SaleOk s) :
    Calls Tryz.prog 177 #[.pointer (some ⟨b, 0, none⟩)] w fun e w' => e = .returned (.bool (must2 s)) ∧ Below w.heap.size w w' := by
  obtain ⟨-, c1, -, c3, -⟩ := h
  have h5 := ok.nl
  have h6 := ok.nt
  obtain ⟨nl, hnl⟩ : ∃ k, k = s.legs.length := ⟨_, rfl⟩
  obtain ⟨nt, hnt⟩ : ∃ k, k = s.taxes.length := ⟨_, rfl⟩
  have hm : must2 s = (decide (1 ≤ nl) && decide (nl ≤ 4) && decide (nt ≤ 4)) := by unfold must2; rw [← hnl, ← hnt]
  rw [← hnl] at c1 h5
  rw [← hnt] at c3 h6
  clear hnl hnt ok
  by_cases h1 : 1 ≤ nl
  · have d1 : decide ((nl : Int) ≥ 1) = true := decide_eq_true (by omega)
    by_cases h2 : nl ≤ 4
    · have d2 : decide ((nl : Int) ≤ 4) = true := decide_eq_true (by omega)
      by_cases h3 : nt ≤ 4
      · have d3 : decide ((nt : Int) ≤ 4) = true := decide_eq_true (by omega)
        have F := hid (show must2 s = true by rw [hm]; simp [h1, h2, h3])
        clear hm
        go_enter Tryz.func177, Tryz.ntmps177
        go_wp2
        go_ret
        exact ⟨ret_bool F.out.symm, Below.refl _ _⟩
      · have d3 : decide ((nt : Int) ≤ 4) = false := decide_eq_false (by omega)
        have F := hid (show must2 s = false by rw [hm]; simp [h3])
        clear hm
        go_enter Tryz.func177, Tryz.ntmps177
        go_wp2
        go_ret
        exact ⟨ret_bool F.out.symm, Below.refl _ _⟩
    · have d2 : decide ((nl : Int) ≤ 4) = false := decide_eq_false (by omega)
      have F := hid (show must2 s = false by rw [hm]; simp [h2])
      clear hm
      go_enter Tryz.func177, Tryz.ntmps177
      go_wp2
      go_ret
      exact ⟨ret_bool F.out.symm, Below.refl _ _⟩
  · have d1 : decide ((nl : Int) ≥ 1) = false := decide_eq_false (by omega)
    have F := hid (show must2 s = false by rw [hm, decide_eq_false h1]; rfl)
    clear hm
    go_enter Tryz.func177, Tryz.ntmps177
    go_wp2
    go_ret
    exact ⟨ret_bool F.out.symm, Below.refl _ _⟩

set_option maxHeartbeats 1000000 in
theorem must3_any (s : SaleV) (A : SaleA) (b : Nat) (w : World) (h : BoxS w b s A) :
    Calls Tryz.prog 178 #[.pointer (some ⟨b, 0, none⟩)] w fun e w' => e = .returned (.bool (must3 s)) ∧ Below w.heap.size w w' := by
  obtain ⟨-, -, c2, -, c4⟩ := h
  have F := hid (show must3 s = [s.fare, s.pen].all amtB from rfl)
  generalize s.fare = x at *
  generalize s.pen = y at *
  go_enter Tryz.func178, Tryz.ntmps178
  go_wp2_with fail
  refine (amounts_any _ 2 _ [x, y] _ rfl (row_new (vs := [.int .i64 x, .int .i64 y]) (by simp)) (by omega)).mono ?_
  rintro e w2 ⟨rfl, hb⟩
  generalize [x, y].all amtB = q at *
  go_wp2
  go_ret
  exact ⟨ret_bool F.out.symm, ((Below.refl _ _).alloc (Nat.le_refl _) _).trans (hb.mono (by simp))⟩

set_option maxHeartbeats 1000000 in
theorem must4_any (s : SaleV) (A : SaleA) (n : Int) (b nb : Nat) (w : World) (h : BoxS w b s A) (hs : SaleAt w s A) (ok : SaleOk s) (hc : w.cell? ⟨nb, 0, none⟩ = some (.int .i64 n)) :
    Calls Tryz.prog 180 #[.pointer (some ⟨b, 0, none⟩), .pointer (some ⟨nb, 0, none⟩)] w fun e w' => e = .returned (.bool (must4 s n)) ∧ Below w.heap.size w w' := by
  obtain ⟨-, c1, -, -, -⟩ := h
  have hnl := ok.nl
  have KEY := hid (hasLeg_any n nb s.legs A.la _ A.lc w rfl (by omega) hs.legs (fun x hx => (ok.legs x hx).1) hc)
  have F := hid (show must4 s n = !s.legs.any (legBad n) from rfl)
  clear hs ok
  go_enter Tryz.func180, Tryz.ntmps180
  go_wp2_with fail
  refine KEY.out.mono ?_
  rintro e w2 ⟨rfl, hb⟩
  generalize s.legs.any (legBad n) = q at *
  go_wp2
  go_ret
  exact ⟨ret_bool F.out.symm, hb⟩

set_option maxHeartbeats 1000000 in
theorem must5_any (s : SaleV) (A : SaleA) (b : Nat) (w : World) (h : BoxS w b s A) (hs : SaleAt w s A) (ok : SaleOk s) :
    Calls Tryz.prog 183 #[.pointer (some ⟨b, 0, none⟩)] w fun e w' => e = .returned (.bool (must5 s)) ∧ Below w.heap.size w w' := by
  obtain ⟨-, -, -, c3, -⟩ := h
  have hnl := ok.nt
  have KEY := hid (hasTax_any s.taxes A.ta _ A.tc w rfl (by omega) hs.taxes (fun x hx => (ok.taxes x hx).1))
  have F := hid (show must5 s = !s.taxes.any taxBad from rfl)
  clear hs ok
  go_enter Tryz.func183, Tryz.ntmps183
  go_wp2_with fail
  refine KEY.out.mono ?_
  rintro e w2 ⟨rfl, hb⟩
  generalize s.taxes.any taxBad = q at *
  go_wp2
  go_ret
  exact ⟨ret_bool F.out.symm, hb⟩
end Go.Proofs.YtlekbdpdlalhbaaGreat
end
