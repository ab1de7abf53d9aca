/- Rf1, Rf2, Pro3, Pro4. -/
import Derived.Test.YtmhbpifhpolghaaGreatRf0
import Derived.Test.YtmhbpifhpolghaaGreatMf331612
import Derived.BigRegion
import Derived.BigQuiet
import Derived.Deep.QuietTactic
set_option maxRecDepth 100000
set_option linter.unusedVariables false
set_option linter.unusedSimpArgs false
set_option linter.unusedSectionVars false
section
namespace Go.Proofs.YtmhbpifhpolghaaGreat
open Go.RowKit Go.Lib Go.Tk Go.Shelf Go.Vc Go.Sx
def rtax0 : Tax := ⟨⟨#[]⟩, 0⟩
def RMayF : Nat := 139
def RSumF : Nat := 164
def AmountF : Nat := 138
def RPriceF : Nat := 114
theorem rmay_w (x : Int) : CallOK Tryz.prog RMayF [.val (.int .i64 x)] [] [] (.val (.bool (mayI x))) [] := callOK_pure fun ε w => (rmay_any x w).mono fun e w' ⟨h1, h2⟩ => ⟨h1, by subst h2; exact Below.refl _ _⟩
theorem rsum_open (F : CF) {a : Option Addr} {n c : Nat} {xs : List Int} (hR : ∀ b v, Rd (F b v) a (xs.map (.int .i64))) (hn : xs.length = n) (hm : n ≤ 9223372036854775807) : CallOK Tryz.prog RSumF [.val (.slice a n c)] [((0, 0), .fam F)] [] (.tup [.val (.int .i64 (sumFrom 0 xs).1), eN (sumFrom 0 xs).2]) [] := by
  subst hn
  intro ε R w hM
  have hM : Mem (F (ε 0 0).1 (ε 0 0).2 :: R) w := hM
  refine (rsum_any a c xs w ((hR _ _).row hM 0 rfl) hm).mono ?_
  rintro e w' ⟨rfl, hb⟩
  subst hb
  exact ⟨ε 1, rfl, by rw [eset_self]; exact hM⟩
theorem rsum_raw {n : Nat} {xs : List Int} {l : List Value} (hl : l = xs.map (.int .i64)) (hn : xs.length = n) (hm : n ≤ 9223372036854775807) : CallOK Tryz.prog RSumF [.raw 0 0] [((0, 0), i64V n l)] [] (.tup [.val (.int .i64 (sumFrom 0 xs).1), eN (sumFrom 0 xs).2]) [] := by
  subst hl
  exact callOK_row1 rfl rfl fun F a c hR ok => rsum_open F hR hn hm
theorem amount_w (x : Int) : CallOK Tryz.prog AmountF [.val (.int .i64 x)] [] [] (.val (.bool (amtB x))) [] := by
  have c1 := rmay_w x
  rcases amt_cases x with ⟨h1, h2⟩ | ⟨h1, h2, h3⟩ | ⟨h1, h2, h3⟩
  · have g1 : decide (0 ≤ x) = false := decide_eq_false (by omega)
    rw [h2]
    clear h1 h2
    exact callOK_run 400 [hB 1 1 _ _ g1] (by kernel_rfl) (by kernel_rfl)
  · have g1 : decide (0 ≤ x) = true := decide_eq_true h1
    rw [h3]
    rw [h2] at c1
    clear h1 h2 h3
    exact callOK_run 400 [hB 1 1 _ _ g1, hC 1 4 c1] (by kernel_rfl) (by kernel_rfl)
  · have g1 : decide (0 ≤ x) = true := decide_eq_true h1
    rw [h3]
    rw [h2] at c1
    clear h1 h2 h3
    exact callOK_run 400 [hB 1 1 _ _ g1, hC 1 4 c1] (by kernel_rfl) (by kernel_rfl)
def prV (s : SaleV) : Nat → List Value
  | 0 => [.int .i64 s.fare]
  | i + 1 => prV s i ++ [.int .i64 (s.taxes.getD i rtax0).amt]
theorem prV_eq (s : SaleV) : ∀ i ≤ s.taxes.length, prV s i = (s.fare :: (s.taxes.take i).map (·.amt)).map (.int .i64)
  | 0, _ => by simp [prV]
  | i + 1, h => by
    rw [List.take_succ_eq_append_getElem h, List.map_append, ← List.cons_append, List.map_append]
    unfold prV
    rw [prV_eq s i (by omega), List.getD_eq_getElem?_getD, List.getElem?_eq_getElem h]; rfl
theorem rprice_in (F : CF) {eb : Env} {R : List Chunk} {s : SaleV} {A : SaleA} (ht : ∀ b v, Rd (F b v) A.ta (cellsL encTax s.taxes)) (hn : s.taxes.length ≤ 4) :
    Go Tryz.prog RPriceF (.tup [.val (.int .i64 (sumFrom 0 (priceL s)).1), eN (sumFrom 0 (priceL s)).2]) ([((0, 9), .fam F)] ++ []) eb R .nrm (rgK Tryz.prog RPriceF 2 []) [(1, .ptr 1 0 0), (4, .raw 1 1)]
      ([((0, 9), .fam F), ((1, 0), .box none (salS s (.val (.slice A.la s.legs.length A.lc)) (.val (.slice A.ta s.taxes.length A.tc)))), ((1, 1), .row 2 1 1 (.deep [.val (.int .i64 s.fare)]) [])]) := by
  refine go_open (X := Unit) (fun _ => [((0, 9), .fam F), ((1, 0), .box none (salS s (.val (.slice A.la s.legs.length A.lc)) (.val (.slice A.ta s.taxes.length A.tc)))), ((1, 1), i64V 1 (prV s 0))]) (fun ε w hM => ⟨(), hM⟩) (fun _ => by kernel_rfl) ?_
  rintro -
  refine go_loop (X := { i : Nat // i ≤ s.taxes.length }) 0 [] (fun y => ([(1, .ptr 1 0 0), (4, .raw 1 1), (5, .val (.int .i64 (y.1 : Int)))], [((0, 9), .fam F), ((1, 0), .box none (salS s (.val (.slice A.la s.legs.length A.lc)) (.val (.slice A.ta s.taxes.length A.tc)))), ((1, 1), i64V (y.1 + 1) (prV s y.1))])) (fun y => s.taxes.length - y.1) ⟨0, Nat.zero_le _⟩ calNone false 400 [] calNone_ok (by kernel_rfl) ?_
  rintro ⟨i, hi⟩ J hJ
  by_cases h : i < s.taxes.length
  · have z0 : decide ((i : Int) < (s.taxes.length : Int)) = true := decide_eq_true (by omega)
    have q1 := idx_openG (P := Tryz.prog) (t := 34) (e := 172) (size := 2) (j := 9) (k := .i64) (cap := A.tc) (n := s.taxes.length) Tryz.underlying34 (by kernel_rfl) (cellsL_len encTax_len _) ht h
    have q2 := load_openG (P := Tryz.prog) (t := 2) (k := i * 2) (j := 9) (u := .val (.int .i64 (s.taxes.getD i rtax0).amt)) 1 (by kernel_rfl) ht (taxS_nth (getD_some h rtax0)) (by rw [cellsL_len encTax_len]; omega)
    have q3 : i + 1 + 1 ≤ 1073741824 := by omega
    have z9 : IntKind.i64.wrap ((i : Int) + 1) = ((i + 1 : Nat) : Int) := by rw [wr_i64 (by omega)]; omega
    have hJ' := hJ ⟨i + 1, h⟩ (by show _ - (i + 1) < _ - i; omega)
    clear hJ
    exact leaf_round (lpK Tryz.prog RPriceF 0 []) false 400 [hB 3 4 _ _ z0, hG 5 4 q1, hG 5 6 q2, .opt 5 8 (.le _ q3), hI 4 1 IntKind.i64 _ _ z9] hJ' (by kernel_rfl)
  · have z0 : decide ((i : Int) < (s.taxes.length : Int)) = false := decide_eq_false (by omega)
    have he : i = s.taxes.length := by omega
    subst he
    have c1 := rsum_raw (n := s.taxes.length + 1) (xs := priceL s) (l := prV s s.taxes.length) (by rw [prV_eq _ _ (Nat.le_refl _), List.take_length]; rfl) (by simp [priceL]) (by omega)
    clear hJ
    exact leaf_end calNone false 400 [hB 3 4 _ _ z0, hC 6 1 c1] calNone_ok (by kernel_rfl)
theorem rprice_w (F : CF) {s : SaleV} {A : SaleA} (ht : ∀ b v, Rd (F b v) A.ta (cellsL encTax s.taxes)) (hn : s.taxes.length ≤ 4) :
    CallOK Tryz.prog RPriceF [.agg (salS s (.val (.slice A.la s.legs.length A.lc)) (.val (.slice A.ta s.taxes.length A.tc)))] [((0, 9), .fam F)] [] (.tup [.val (.int .i64 (sumFrom 0 (priceL s)).1), eN (sumFrom 0 (priceL s)).2]) [] := by
  refine callOK_intro (by kernel_rfl) fun eb R => ?_
  have fin := rprice_in F (eb := eb) (R := R) ht hn
  exact leaf_cut (rgK Tryz.prog RPriceF 2 []) [(1, .ptr 1 0 0), (4, .raw 1 1)] ([((0, 9), .fam F), ((1, 0), .box none (salS s (.val (.slice A.la s.legs.length A.lc)) (.val (.slice A.ta s.taxes.length A.tc)))), ((1, 1), .row 2 1 1 (.deep [.val (.int .i64 s.fare)]) [])]) calNone false 400 [.stop 2] calNone_ok (by kernel_rfl) fin
def RCheckF : Nat := 82
def gdL (n : Int) (l : Leg) : Bool := decide (l.c < n) && decide (0 < l.x)
def gdT (t : Tax) : Bool := decide ((t.code.size : Int) = 2) && (lettersB [] t.code.data.toList && amtB t.amt)
def gdLs (b : Bool) (n : Int) (l : List Leg) : Nat → Bool
  | 0 => b
  | i + 1 => gdLs b n l i && gdL n (l.getD i leg0)
def gdTs (b : Bool) (l : List Tax) : Nat → Bool
  | 0 => b
  | i + 1 => gdTs b l i && gdT (l.getD i rtax0)
theorem gdLs_all (b : Bool) (n : Int) (l : List Leg) : ∀ {i : Nat}, i ≤ l.length → gdLs b n l i = (b && (l.take i).all (gdL n))
  | 0, _ => by simp [gdLs]
  | i + 1, h => by
    rw [List.take_succ_eq_append_getElem h, List.all_append]
    show (gdLs b n l i && _) = _
    rw [gdLs_all b n l (by omega), List.getD_eq_getElem?_getD, List.getElem?_eq_getElem h]
    simp [Bool.and_assoc]
theorem gdTs_all (b : Bool) (l : List Tax) : ∀ {i : Nat}, i ≤ l.length → gdTs b l i = (b && (l.take i).all gdT)
  | 0, _ => by simp [gdTs]
  | i + 1, h => by
    rw [List.take_succ_eq_append_getElem h, List.all_append]
    show (gdTs b l i && _) = _
    rw [gdTs_all b l (by omega), List.getD_eq_getElem?_getD, List.getElem?_eq_getElem h]
    simp [Bool.and_assoc]
def headB (s : SaleV) : Bool := decide ((1 : Int) ≤ (s.name.size : Int)) && (decide ((s.name.size : Int) ≤ 32) && (lettersB [32, 47] s.name.data.toList && (decide ((1 : Int) ≤ (s.legs.length : Int)) && (decide ((s.legs.length : Int) ≤ 4) && (amtB s.fare && (decide ((s.taxes.length : Int) ≤ 4) && amtB s.pen))))))
def rcE (b : Bool) (s : SaleV) : Int := bif b then (sumFrom 0 (priceL s)).2 else 90
theorem all_any {α : Type} {l : List α} {p q : α → Bool} (h : ∀ x ∈ l, p x = !q x) : l.all p = !l.any q := by
  induction l with
  | nil => rfl
  | cons x l ih =>
    rw [List.all_cons, List.any_cons, ih fun y hy => h y (List.mem_cons_of_mem _ hy), h x List.mem_cons_self]
    cases q x <;> rfl
theorem shape_head {s : SaleV} (ok : SaleOk s) (n : Int) : shapeB s n = gdTs (gdLs (headB s) n s.legs s.legs.length) s.taxes s.taxes.length := by
  rw [gdTs_all _ _ (Nat.le_refl _), gdLs_all _ _ _ (Nat.le_refl _), List.take_length, List.take_length]
  rw [all_any (q := legBad n) (fun l hl => by
    have hx := ok.legs l hl
    have h0 : 0 ≤ l.x := hx.2.2.1
    unfold gdL legBad
    by_cases h1 : l.c < n
    · by_cases h2 : l.x = 0
      · rw [decide_eq_false (p := 0 < l.x) (by omega), h2]; simp
      · rw [decide_eq_true (p := 0 < l.x) (by omega), decide_eq_true h1, decide_eq_false (p := l.c ≥ n) (by omega)]; simp [h2]
    · rw [decide_eq_false h1, decide_eq_true (p := l.c ≥ n) (by omega)]; simp),
    all_any (q := taxBad) (fun t ht => by
    unfold gdT taxBad
    by_cases h1 : t.code.size = 2
    · rw [decide_eq_true (p := (t.code.size : Int) = 2) (by omega), decide_eq_false (p := t.code.size ≠ 2) (by omega)]
      cases lettersB [] t.code.data.toList <;> cases amtB t.amt <;> rfl
    · rw [decide_eq_false (p := (t.code.size : Int) = 2) (by omega), decide_eq_true (p := t.code.size ≠ 2) h1]
      cases lettersB [] t.code.data.toList <;> cases amtB t.amt <;> rfl)]
  unfold shapeB must1 must2 must3 must4 must5 headB
  have e1 : decide ((1 : Int) ≤ (s.name.size : Int)) = decide (1 ≤ s.name.size) := decide_eq_decide.2 (by omega)
  have e2 : decide ((s.name.size : Int) ≤ 32) = decide (s.name.size ≤ 32) := decide_eq_decide.2 (by omega)
  have e3 : decide ((1 : Int) ≤ (s.legs.length : Int)) = decide (1 ≤ s.legs.length) := decide_eq_decide.2 (by omega)
  have e4 : decide ((s.legs.length : Int) ≤ 4) = decide (s.legs.length ≤ 4) := decide_eq_decide.2 (by omega)
  have e5 : decide ((s.taxes.length : Int) ≤ 4) = decide (s.taxes.length ≤ 4) := decide_eq_decide.2 (by omega)
  rw [e1, e2, e3, e4, e5]
  simp only [List.all_cons, List.all_nil, Bool.and_true]
  generalize decide (1 ≤ s.name.size) = a1
  generalize decide (s.name.size ≤ 32) = a2
  generalize decide (1 ≤ s.legs.length) = a3
  generalize decide (s.legs.length ≤ 4) = a4
  generalize decide (s.taxes.length ≤ 4) = a5
  generalize lettersB [32, 47] s.name.data.toList = a6
  generalize amtB s.fare = a7
  generalize amtB s.pen = a8
  generalize s.legs.any (legBad n) = a9
  generalize s.taxes.any taxBad = a10
  revert a1 a2 a3 a4 a5 a6 a7 a8 a9 a10
  decide
def rcH (F : CF) (s : SaleV) (A : SaleA) : Heap := [((0, 9), .fam F), ((1, 0), .box none (salS s (.val (.slice A.la s.legs.length A.lc)) (.val (.slice A.ta s.taxes.length A.tc))))]
theorem rcheck_tax (F : CF) {eb : Env} {R : List Chunk} {s : SaleV} {A : SaleA} {n : Int} (hs : s.taxes.length ≤ 9223372036854775807) (ht : ∀ b v, Rd (F b v) A.ta (cellsL encTax s.taxes)) {b : Bool} (h4 : b = true → s.taxes.length ≤ 4) :
    Go Tryz.prog RCheckF (eN (rcE (gdTs b s.taxes s.taxes.length) s)) ([((0, 9), .fam F)] ++ []) eb R .nrm (rgK Tryz.prog RCheckF 8 []) [(2, .ptr 1 0 0), (5, .val (.bool b))] (rcH F s A) := by
  have h5 : gdTs b s.taxes s.taxes.length = true → s.taxes.length ≤ 4 := fun h => by
    rw [gdTs_all _ _ (Nat.le_refl _)] at h
    simp only [Bool.and_eq_true] at h
    exact h4 h.1
  clear h4
  refine go_loop (X := { i : Nat // i ≤ s.taxes.length }) 1 [] (fun y => ([(2, .ptr 1 0 0), (5, .val (.bool (gdTs b s.taxes y.1))), (7, .val (.int .i64 (y.1 : Int)))], rcH F s A)) (fun y => s.taxes.length - y.1) ⟨0, Nat.zero_le _⟩ calNone false 400 [] calNone_ok (by kernel_rfl) ?_
  rintro ⟨i, hi⟩ J hJ
  by_cases h : i < s.taxes.length
  · have z0 : decide ((i : Int) < (s.taxes.length : Int)) = true := decide_eq_true (by omega)
    have q1 := idx_openG (P := Tryz.prog) (t := 34) (e := 172) (size := 2) (j := 9) (k := .i64) (cap := A.tc) (n := s.taxes.length) Tryz.underlying34 (by kernel_rfl) (cellsL_len encTax_len _) ht h
    have hpos : 0 < (cellsL encTax s.taxes).length := by rw [cellsL_len encTax_len]; omega
    have q2 := load_openG (P := Tryz.prog) (t := 2) (k := i * 2) (j := 9) (u := .val (.int .i64 (s.taxes.getD i rtax0).amt)) 1 (by kernel_rfl) ht (taxS_nth (getD_some h rtax0)) hpos
    have q3 := load_openG (P := Tryz.prog) (t := 9) (k := i * 2) (j := 9) (u := .val (.string (s.taxes.getD i rtax0).code)) 0 (by kernel_rfl) ht (taxS_nth (getD_some h rtax0)) hpos
    have z9 : IntKind.i64.wrap ((i : Int) + 1) = ((i + 1 : Nat) : Int) := by rw [wr_i64 (by omega)]; omega
    have hJ' : ∀ ε a' w, Rel (ntOf Tryz.prog RCheckF) 1 eb R ⟨[(2, .ptr 1 0 0), (5, .val (.bool (gdTs b s.taxes i && gdT (s.taxes.getD i rtax0)))), (7, .val (.int .i64 ((i + 1 : Nat) : Int)))], rcH F s A, 2⟩ ε a' w → J a' w := hJ ⟨i + 1, h⟩ (by show _ - (i + 1) < _ - i; omega)
    clear hJ h5
    show Go Tryz.prog RCheckF _ ([((0, 9), .fam F)] ++ []) eb R .nrm (.code (lpB Tryz.prog RCheckF 1 []) :: .lp J :: lpK Tryz.prog RCheckF 1 []) [(2, .ptr 1 0 0), (5, .val (.bool (gdTs b s.taxes i))), (7, .val (.int .i64 (i : Int)))] (rcH F s A)
    unfold gdT at hJ'
    generalize gdTs b s.taxes i = b1 at *
    generalize s.taxes.getD i rtax0 = t at *
    cases b1
    · exact leaf_round (lpK Tryz.prog RCheckF 1 []) false 400 [hB 9 4 _ _ z0, hI 10 1 IntKind.i64 _ _ z9] hJ' (by kernel_rfl)
    rcases Bool.eq_false_or_eq_true (decide ((t.code.size : Int) = 2)) with g1 | g1
    · have c1 : CallOK Tryz.prog TextF [.val (.string t.code), .val (.string ⟨#[]⟩)] [] [] (.val (.bool (lettersB [] t.code.data.toList))) [] := text_w (by have := of_decide_eq_true g1; omega) (by show (0 : Nat) ≤ _; omega)
      have c2 := amount_w t.amt
      generalize lettersB [] t.code.data.toList = b2 at *
      generalize amtB t.amt = b3 at *
      rw [g1] at hJ'
      cases b2
      · exact leaf_round (lpK Tryz.prog RCheckF 1 []) false 400 [hB 9 4 _ _ z0, hG 11 5 q1, hG 11 7 q3, hB 11 9 _ _ g1, hG 11 15 q1, hG 11 17 q3, hC 11 18 c1, hI 10 1 IntKind.i64 _ _ z9] hJ' (by kernel_rfl)
      · exact leaf_round (lpK Tryz.prog RCheckF 1 []) false 400 [hB 9 4 _ _ z0, hG 11 5 q1, hG 11 7 q3, hB 11 9 _ _ g1, hG 11 15 q1, hG 11 17 q3, hC 11 18 c1, hG 11 24 q1, hG 11 26 q2, hC 11 27 c2, hI 10 1 IntKind.i64 _ _ z9] hJ' (by kernel_rfl)
    · rw [g1] at hJ'
      exact leaf_round (lpK Tryz.prog RCheckF 1 []) false 400 [hB 9 4 _ _ z0, hG 11 5 q1, hG 11 7 q3, hB 11 9 _ _ g1, hI 10 1 IntKind.i64 _ _ z9] hJ' (by kernel_rfl)
  · have z0 : decide ((s.taxes.length : Int) < (s.taxes.length : Int)) = false := decide_eq_false (by omega)
    have he : i = s.taxes.length := by omega
    subst he
    clear hJ
    show Go Tryz.prog RCheckF _ ([((0, 9), .fam F)] ++ []) eb R .nrm (.code (lpB Tryz.prog RCheckF 1 []) :: .lp J :: lpK Tryz.prog RCheckF 1 []) [(2, .ptr 1 0 0), (5, .val (.bool (gdTs b s.taxes s.taxes.length))), (7, .val (.int .i64 (s.taxes.length : Int)))] (rcH F s A)
    unfold rcE
    generalize gdTs b s.taxes s.taxes.length = b1 at *
    cases b1
    · clear h5
      exact leaf_end calNone false 400 [hB 9 4 _ _ z0] calNone_ok (by kernel_rfl)
    · have c1 := rprice_w F (s := s) (A := A) ht (h5 rfl)
      clear h5
      exact leaf_end calNone false 400 [hB 9 4 _ _ z0, hC 14 1 c1] calNone_ok (by kernel_rfl)
theorem rcheck_leg (F : CF) {eb : Env} {R : List Chunk} {s : SaleV} {A : SaleA} {n : Int} (ok : SaleOk s) (hl : ∀ b v, Rd (F b v) A.la (cellsL encLeg s.legs)) (ht : ∀ b v, Rd (F b v) A.ta (cellsL encTax s.taxes)) {b : Bool} (h4 : b = true → s.taxes.length ≤ 4) :
    Go Tryz.prog RCheckF (eN (rcE (gdTs (gdLs b n s.legs s.legs.length) s.taxes s.taxes.length) s)) ([((0, 9), .fam F)] ++ []) eb R .nrm (rgK Tryz.prog RCheckF 4 []) [(1, .val (.int .i64 n)), (2, .ptr 1 0 0), (5, .val (.bool b))] (rcH F s A) := by
  have nl := ok.nl
  have nt := ok.nt
  refine go_loop (X := { i : Nat // i ≤ s.legs.length }) 0 [] (fun y => ([(1, .val (.int .i64 n)), (2, .ptr 1 0 0), (5, .val (.bool (gdLs b n s.legs y.1))), (6, .val (.int .i64 (y.1 : Int)))], rcH F s A)) (fun y => s.legs.length - y.1) ⟨0, Nat.zero_le _⟩ calNone false 400 [] calNone_ok (by kernel_rfl) ?_
  rintro ⟨i, hi⟩ J hJ
  by_cases h : i < s.legs.length
  · have z0 : decide ((i : Int) < (s.legs.length : Int)) = true := decide_eq_true (by omega)
    have q1 := idx_openG (P := Tryz.prog) (t := 33) (e := 48) (size := 3) (j := 9) (k := .i64) (cap := A.lc) (n := s.legs.length) Tryz.underlying33 (by kernel_rfl) (cellsL_len encLeg_len _) hl h
    have hpos : 0 < (cellsL encLeg s.legs).length := by rw [cellsL_len encLeg_len]; omega
    have q2 := load_openG (P := Tryz.prog) (t := 5) (k := i * 3) (j := 9) (u := .val (.int .u8 (s.legs.getD i leg0).c)) 0 (by kernel_rfl) hl (legS_nth (getD_some h leg0)) hpos
    have q3 := load_openG (P := Tryz.prog) (t := 46) (k := i * 3) (j := 9) (u := .val (.int .u32 (s.legs.getD i leg0).x)) 2 (by kernel_rfl) hl (legS_nth (getD_some h leg0)) hpos
    have z9 : IntKind.i64.wrap ((i : Int) + 1) = ((i + 1 : Nat) : Int) := by rw [wr_i64 (by omega)]; omega
    have hk := ok.legs (s.legs.getD i leg0) (List.mem_of_getElem? (getD_some h leg0))
    have z3 : IntKind.i64.wrap (s.legs.getD i leg0).c = (s.legs.getD i leg0).c := wr_i64 (by have := hk.1; omega)
    have hJ' : ∀ ε a' w, Rel (ntOf Tryz.prog RCheckF) 1 eb R ⟨[(1, .val (.int .i64 n)), (2, .ptr 1 0 0), (5, .val (.bool (gdLs b n s.legs i && gdL n (s.legs.getD i leg0)))), (6, .val (.int .i64 ((i + 1 : Nat) : Int)))], rcH F s A, 2⟩ ε a' w → J a' w := hJ ⟨i + 1, h⟩ (by show _ - (i + 1) < _ - i; omega)
    clear hJ h4 hk nl nt
    show Go Tryz.prog RCheckF _ ([((0, 9), .fam F)] ++ []) eb R .nrm (.code (lpB Tryz.prog RCheckF 0 []) :: .lp J :: lpK Tryz.prog RCheckF 0 []) [(1, .val (.int .i64 n)), (2, .ptr 1 0 0), (5, .val (.bool (gdLs b n s.legs i))), (6, .val (.int .i64 (i : Int)))] (rcH F s A)
    unfold gdL at hJ'
    generalize gdLs b n s.legs i = b1 at *
    generalize s.legs.getD i leg0 = l at *
    cases b1
    · exact leaf_round (lpK Tryz.prog RCheckF 0 []) false 400 [hB 5 4 _ _ z0, hI 6 1 IntKind.i64 _ _ z9] hJ' (by kernel_rfl)
    rcases Bool.eq_false_or_eq_true (decide (l.c < n)) with g1 | g1
    · rw [g1] at hJ'
      exact leaf_round (lpK Tryz.prog RCheckF 0 []) false 400 [hB 5 4 _ _ z0, hG 7 5 q1, hG 7 7 q2, hI 7 8 IntKind.i64 _ _ z3, hB 7 10 _ _ g1, hG 7 16 q1, hG 7 18 q3, hI 6 1 IntKind.i64 _ _ z9] hJ' (by kernel_rfl)
    · rw [g1] at hJ'
      exact leaf_round (lpK Tryz.prog RCheckF 0 []) false 400 [hB 5 4 _ _ z0, hG 7 5 q1, hG 7 7 q2, hI 7 8 IntKind.i64 _ _ z3, hB 7 10 _ _ g1, hI 6 1 IntKind.i64 _ _ z9] hJ' (by kernel_rfl)
  · have z0 : decide ((s.legs.length : Int) < (s.legs.length : Int)) = false := decide_eq_false (by omega)
    have he : i = s.legs.length := by omega
    subst he
    have fin := rcheck_tax F (eb := eb) (R := R) (s := s) (A := A) (n := n) (by omega) ht (b := gdLs b n s.legs s.legs.length) (fun hg => by
      rw [gdLs_all _ _ _ (Nat.le_refl _)] at hg
      simp only [Bool.and_eq_true] at hg
      exact h4 hg.1)
    clear hJ h4 nl nt
    exact leaf_cut (rgK Tryz.prog RCheckF 8 []) _ _ calNone false 400 [hB 5 4 _ _ z0, .stop 8] calNone_ok (by kernel_rfl) fin
theorem rcheck_w (F : CF) {s : SaleV} {A : SaleA} (n : Int) (ok : SaleOk s) (hl : ∀ b v, Rd (F b v) A.la (cellsL encLeg s.legs)) (ht : ∀ b v, Rd (F b v) A.ta (cellsL encTax s.taxes)) :
    CallOK Tryz.prog RCheckF [.agg (salS s (.val (.slice A.la s.legs.length A.lc)) (.val (.slice A.ta s.taxes.length A.tc))), .val (.int .i64 n)] [((0, 9), .fam F)] [] (eN (checkE s n)) [] := by
  rcases Bool.eq_false_or_eq_true (decide (n < 2)) with g1 | g1
  · have e : checkE s n = 1 := by unfold checkE; rw [if_pos (.inl (of_decide_eq_true g1))]
    rw [e]
    exact callOK_run 400 [hB 1 1 _ _ g1] (by kernel_rfl) (by kernel_rfl)
  rcases Bool.eq_false_or_eq_true (decide (8 < n)) with g2 | g2
  · have e : checkE s n = 1 := by unfold checkE; rw [if_pos (.inr (of_decide_eq_true g2))]
    rw [e]
    exact callOK_run 400 [hB 1 1 _ _ g1, hB 1 4 _ _ g2] (by kernel_rfl) (by kernel_rfl)
  have e : checkE s n = rcE (gdTs (gdLs (headB s) n s.legs s.legs.length) s.taxes s.taxes.length) s := by
    have a1 := of_decide_eq_false g1
    have a2 := of_decide_eq_false g2
    unfold checkE rcE
    rw [if_neg (by omega), ← shape_head ok]
    cases shapeB s n <;> rfl
  rw [e]
  clear e
  refine callOK_intro (by kernel_rfl) fun eb R => ?_
  have fin := fun b0 (hb : headB s = b0) => rcheck_leg F (eb := eb) (R := R) (n := n) ok hl ht (b := b0) (fun h => by
    rw [h] at hb
    unfold headB at hb
    simp only [Bool.and_eq_true, decide_eq_true_eq] at hb
    have := hb.2.2.2.2.2.2.1
    omega)
  have nm := ok.name
  rcases Bool.eq_false_or_eq_true (decide ((1 : Int) ≤ (s.name.size : Int))) with k1 | k1
  case inr =>
    have hb : headB s = false := by unfold headB; rw [k1]; rfl
    have fin := fin false hb
    rw [hb]
    exact leaf_cut (rgK Tryz.prog RCheckF 4 []) _ _ calNone false 400 [hB 1 1 _ _ g1, hB 1 4 _ _ g2, hB 3 3 _ _ k1, .stop 4] calNone_ok (by kernel_rfl) fin
  rcases Bool.eq_false_or_eq_true (decide ((s.name.size : Int) ≤ 32)) with k2 | k2
  case inr =>
    have hb : headB s = false := by unfold headB; rw [k1, k2]; rfl
    have fin := fin false hb
    rw [hb]
    exact leaf_cut (rgK Tryz.prog RCheckF 4 []) _ _ calNone false 400 [hB 1 1 _ _ g1, hB 1 4 _ _ g2, hB 3 3 _ _ k1, hB 3 8 _ _ k2, .stop 4] calNone_ok (by kernel_rfl) fin
  have c1 : CallOK Tryz.prog TextF [.val (.string s.name), .val (.string ⟨#[32, 47]⟩)] [] [] (.val (.bool (lettersB [32, 47] s.name.data.toList))) [] := text_w (by have := of_decide_eq_true k2; omega) (by show (2 : Nat) ≤ _; omega)
  have c2 := amount_w s.fare
  have c3 := amount_w s.pen
  rcases Bool.eq_false_or_eq_true (lettersB [32, 47] s.name.data.toList) with k3 | k3 <;> rw [k3] at c1
  case inr =>
    have hb : headB s = false := by unfold headB; rw [k1, k2, k3]; rfl
    have fin := fin false hb
    rw [hb]
    exact leaf_cut (rgK Tryz.prog RCheckF 4 []) _ _ calNone false 400 [hB 1 1 _ _ g1, hB 1 4 _ _ g2, hB 3 3 _ _ k1, hB 3 8 _ _ k2, hC 3 13 c1, .stop 4] calNone_ok (by kernel_rfl) fin
  rcases Bool.eq_false_or_eq_true (decide ((1 : Int) ≤ (s.legs.length : Int))) with k4 | k4
  case inr =>
    have hb : headB s = false := by unfold headB; rw [k1, k2, k3, k4]; rfl
    have fin := fin false hb
    rw [hb]
    exact leaf_cut (rgK Tryz.prog RCheckF 4 []) _ _ calNone false 400 [hB 1 1 _ _ g1, hB 1 4 _ _ g2, hB 3 3 _ _ k1, hB 3 8 _ _ k2, hC 3 13 c1, hB 3 19 _ _ k4, .stop 4] calNone_ok (by kernel_rfl) fin
  rcases Bool.eq_false_or_eq_true (decide ((s.legs.length : Int) ≤ 4)) with k5 | k5
  case inr =>
    have hb : headB s = false := by unfold headB; rw [k1, k2, k3, k4, k5]; rfl
    have fin := fin false hb
    rw [hb]
    exact leaf_cut (rgK Tryz.prog RCheckF 4 []) _ _ calNone false 400 [hB 1 1 _ _ g1, hB 1 4 _ _ g2, hB 3 3 _ _ k1, hB 3 8 _ _ k2, hC 3 13 c1, hB 3 19 _ _ k4, hB 3 25 _ _ k5, .stop 4] calNone_ok (by kernel_rfl) fin
  rcases Bool.eq_false_or_eq_true (amtB s.fare) with k6 | k6 <;> rw [k6] at c2
  case inr =>
    have hb : headB s = false := by unfold headB; rw [k1, k2, k3, k4, k5, k6]; rfl
    have fin := fin false hb
    rw [hb]
    exact leaf_cut (rgK Tryz.prog RCheckF 4 []) _ _ calNone false 400 [hB 1 1 _ _ g1, hB 1 4 _ _ g2, hB 3 3 _ _ k1, hB 3 8 _ _ k2, hC 3 13 c1, hB 3 19 _ _ k4, hB 3 25 _ _ k5, hC 3 30 c2, .stop 4] calNone_ok (by kernel_rfl) fin
  rcases Bool.eq_false_or_eq_true (decide ((s.taxes.length : Int) ≤ 4)) with k7 | k7
  case inr =>
    have hb : headB s = false := by unfold headB; rw [k1, k2, k3, k4, k5, k6, k7]; rfl
    have fin := fin false hb
    rw [hb]
    exact leaf_cut (rgK Tryz.prog RCheckF 4 []) _ _ calNone false 400 [hB 1 1 _ _ g1, hB 1 4 _ _ g2, hB 3 3 _ _ k1, hB 3 8 _ _ k2, hC 3 13 c1, hB 3 19 _ _ k4, hB 3 25 _ _ k5, hC 3 30 c2, hB 3 36 _ _ k7, .stop 4] calNone_ok (by kernel_rfl) fin
  have hb : headB s = amtB s.pen := by unfold headB; rw [k1, k2, k3, k4, k5, k6, k7]; rfl
  have fin := fin _ hb
  rw [hb]
  exact leaf_cut (rgK Tryz.prog RCheckF 4 []) _ _ calNone false 400 [hB 1 1 _ _ g1, hB 1 4 _ _ g2, hB 3 3 _ _ k1, hB 3 8 _ _ k2, hC 3 13 c1, hB 3 19 _ _ k4, hB 3 25 _ _ k5, hC 3 30 c2, hB 3 36 _ _ k7, hC 3 41 c3, .stop 4] calNone_ok (by kernel_rfl) fin
end Go.Proofs.YtmhbpifhpolghaaGreat
end
section
namespace Go.Proofs.YtmhbpifhpolghaaGreat
open Go.RowKit Go.Lib Go.Tk Go.Sort Go.Shelf
set_option maxHeartbeats 400000 in
theorem rshare_long (t : Int) (ws : List Int) (a : Option Addr) (cap : Nat) (w : World) (hl : ws.length ≤ 9223372036854775807) (h : 64 < ws.length) :
    Calls Tryz.prog 83 #[.int .i64 t, .slice a ws.length cap] w (ShareOut t ws w) := by
  have F := hid (show shareE t ws = 2 by unfold shareE; rw [if_pos h])
  have h' : (64 : Int) < (ws.length : Int) := by omega
  go_enter Tryz.func83, Tryz.ntmps83
  go_wp2
  go_ret2
  exact share_bad F.out (by decide) (Below.refl _ _)
set_option maxHeartbeats 1000000 in
theorem rshare_none (t : Int) (ws : List Int) (a : Option Addr) (cap : Nat) (w : World) (hr : Row w a (ws.map (.int .u32))) (hp : PosRow ws) (h : ws.length ≤ 64) (hbad : shareE t ws ≠ 0) :
    Calls Tryz.prog 83 #[.int .i64 t, .slice a ws.length cap] w (ShareOut t ws w) := by
  have Hr := hid hr
  have HP : Aside (PosRow ws) := hp
  have HB := hid hbad
  clear hr hp hbad
  have h' : ¬ (64 : Int) < (ws.length : Int) := by omega
  go_enter Tryz.func83, Tryz.ntmps83
  go_wp2
  go_loop [6, 7] (fun s i => ∃ (k : Nat) (x : Int), k ≤ ws.length ∧ i = .int .i64 k ∧ s = .int .i64 x ∧ Hid (x = (ws.take k).sum) ∧ 0 ≤ x ∧ x ≤ k * 4294967295) (fun _ i => ws.length - (intOf i).toNat)
  case atStart => exact ⟨0, 0, Nat.zero_le _, rfl, rfl, hid (by simp), by omega, by omega⟩
  case round =>
    obtain ⟨k, s, hk, rfl, rfl, hs, hs0, hs1⟩ := hrel
    by_cases hlt : k < ws.length
    · obtain ⟨b, off, rfl, hc⟩ := Hr.out.int k hlt
      have hx := posrow_get HP.out hlt
      generalize hxe : ws.getD k 0 = x at *
      have HX := hid hxe
      clear hxe
      go_wp2
      go_round
      case rel => exact ⟨k + 1, s + x, by omega, by go_num, rfl, hid (by rw [sum_take_succ hlt, ← hs.out, HX.out]), by omega, by omega⟩
      case measure => simp [intOf]; omega
    · obtain rfl : k = ws.length := by omega
      have hsum : s = ws.sum := by rw [hs.out, List.take_length]
      have HS := hid hsum
      clear hs hsum hk hlt
      by_cases hz : s = 0
      · subst hz
        have F := hid (show shareE t ws = 60 by unfold shareE; rw [if_neg (by omega), if_pos HS.out.symm])
        go_wp2
        go_ret2
        exact share_bad F.out (by decide) (Below.refl _ _)
      · have hz' : (s == 0) = false := by simpa using hz
        have hne : ws.sum ≠ 0 := by rw [← HS.out]; exact hz
        have F := hid (show shareE t ws = 7 by
          have hb := HB.out
          unfold shareE at hb ⊢
          rw [if_neg (by omega), if_neg hne] at hb ⊢
          split at hb
          · simp at hb
          · rename_i hn; rw [if_neg hn])
        have hm : t < 0 ∨ 0 ≤ t ∧ mayI t = false := by
          rcases Int.lt_or_le t 0 with k | k
          · exact .inl k
          · refine .inr ⟨k, ?_⟩
            cases hm : mayI t with
            | false => rfl
            | true =>
              have hb := HB.out
              unfold shareE at hb
              rw [if_neg (by omega), if_neg hne, if_pos ⟨k, (mayI_of hm).2⟩] at hb
              exact absurd rfl hb
        clear hz hne
        rcases hm with hm | ⟨hm, hm2⟩
        · have hd : decide (t < 0) = true := decide_eq_true hm
          go_wp2
          go_ret2
          exact share_bad F.out (by decide) (Below.refl _ _)
        · have hd : decide (t < 0) = false := decide_eq_false (by omega)
          go_wp2_with fail
          refine (rmay_any _ _).mono ?_
          rintro e w1 ⟨rfl, rfl⟩
          go_wp2
          go_ret2
          exact share_bad F.out (by decide) (Below.refl _ _)
def restK (t : Int) (ws : List Int) (k : Nat) : List Int := ws.zipIdx.map fun x => if chosen (restsL t ws.sum ws) k x.2 then -1 else rs t ws.sum x.1
theorem restK_len (t : Int) (ws : List Int) (k : Nat) : (restK t ws k).length = ws.length := by simp [restK]
theorem restK_get (t : Int) (ws : List Int) (k i : Nat) (h : i < ws.length) : (restK t ws k).getD i 0 = if chosen (restsL t ws.sum ws) k i then -1 else rs t ws.sum (ws.getD i 0) := by
  unfold restK; rw [getD_zipIdx_map _ _ _ _ h]
theorem restK_zero (t : Int) (ws : List Int) : restK t ws 0 = ws.map (rs t ws.sum) := by
  unfold restK
  have : ∀ i, chosen (restsL t ws.sum ws) 0 i = false := fun i => by simp [chosen]
  simp only [this]
  refine List.ext_getElem (by simp) fun i h1 h2 => by simp
def headAt (t : Int) (ws : List Int) (k : Nat) : Nat := ((sortL (restsL t ws.sum ws)).getD k (0, 0)).2
theorem headAt_lt {t : Int} {ws : List Int} {k : Nat} (h : k < ws.length) : headAt t ws k < ws.length := by
  have hk' : k < (sortL (restsL t ws.sum ws)).length := by rw [sort_len]; exact h
  have e : (sortL (restsL t ws.sum ws)).getD k (0, 0) = (sortL (restsL t ws.sum ws))[k] := by simp [List.getD_eq_getElem?_getD, hk']
  unfold headAt
  rw [e]; exact (mem_rests (List.getElem_mem hk')).1
theorem restK_succ {t : Int} {ws : List Int} {k : Nat} (h : k < ws.length) : restK t ws (k + 1) = (restK t ws k).set (headAt t ws k) (-1) := by
  refine List.ext_getElem (by simp [restK]) fun i h1 h2 => ?_
  have hi : i < ws.length := by simpa [restK] using h1
  have hs := chosen_succ (t := t) (all := ws.sum) (i := i) h
  have hq := headAt_lt (t := t) h
  have g1 := restK_get t ws (k + 1) i hi
  have g2 := restK_get t ws k i hi
  have e1 : ∀ (l : List Int) (j : Nat) (hj : j < l.length), l[j] = l.getD j 0 := fun l j hj => by simp [List.getD_eq_getElem?_getD, hj]
  rw [List.getElem_set, e1 _ _ h1, g1, hs]
  unfold headAt
  by_cases hq : ((sortL (restsL t ws.sum ws)).getD k (0, 0)).2 = i
  · rw [if_pos hq, hq]; simp
  · rw [if_neg hq, e1 _ _ (by rw [restK_len]; exact hi), g2]
    have : (((sortL (restsL t ws.sum ws)).getD k (0, 0)).2 == i) = false := by simpa using hq
    rw [this, Bool.or_false]
def Best (t : Int) (ws : List Int) (k i : Nat) (b : Int) : Prop :=
  (b = -1 ∧ ∀ j, j < i → chosen (restsL t ws.sum ws) k j = true) ∨
  ∃ q : Nat, b = q ∧ q < i ∧ chosen (restsL t ws.sum ws) k q = false ∧ ∀ j, j < i → chosen (restsL t ws.sum ws) k j = false → j ≠ q → lt2 (rs t ws.sum (ws.getD q 0), q) (rs t ws.sum (ws.getD j 0), j)
theorem best_skip {t : Int} {ws : List Int} {k i : Nat} {b : Int} (h : Best t ws k i b) (hc : chosen (restsL t ws.sum ws) k i = true) : Best t ws k (i + 1) b := by
  rcases h with ⟨rfl, h⟩ | ⟨q, rfl, hq, hcq, h⟩
  · refine .inl ⟨rfl, fun j hj => ?_⟩
    rcases Nat.lt_or_eq_of_le (Nat.lt_succ_iff.1 hj) with h1 | h1
    · exact h j h1
    · rw [h1]; exact hc
  · refine .inr ⟨q, rfl, by omega, hcq, fun j hj hcj hne => ?_⟩
    rcases Nat.lt_or_eq_of_le (Nat.lt_succ_iff.1 hj) with h1 | h1
    · exact h j h1 hcj hne
    · rw [h1, hc] at hcj; cases hcj
theorem best_first {t : Int} {ws : List Int} {k i : Nat} (h : Best t ws k i (-1)) (hc : chosen (restsL t ws.sum ws) k i = false) : Best t ws k (i + 1) i := by
  rcases h with ⟨_, h⟩ | ⟨q, hq, _⟩
  · refine .inr ⟨i, rfl, by omega, hc, fun j hj hcj hne => ?_⟩
    have := h j (by omega)
    rw [this] at hcj; cases hcj
  · omega
theorem best_more {t : Int} {ws : List Int} {k i q : Nat} (h : Best t ws k i q) (hc : chosen (restsL t ws.sum ws) k i = false) (hgt : rs t ws.sum (ws.getD q 0) < rs t ws.sum (ws.getD i 0)) : Best t ws k (i + 1) i := by
  rcases h with ⟨h, _⟩ | ⟨q', hq, hqi, hcq, h⟩
  · omega
  · have : q' = q := by omega
    subst this
    refine .inr ⟨i, rfl, by omega, hc, fun j hj hcj hne => ?_⟩
    by_cases hjq : j = q'
    · subst hjq; unfold lt2; dsimp only; omega
    · have := h j (by omega) hcj hjq
      unfold lt2 at this ⊢; dsimp only at this ⊢; omega
theorem best_less {t : Int} {ws : List Int} {k i q : Nat} (h : Best t ws k i q) (hle : rs t ws.sum (ws.getD i 0) ≤ rs t ws.sum (ws.getD q 0)) : Best t ws k (i + 1) q := by
  rcases h with ⟨h, _⟩ | ⟨q', hq, hqi, hcq, h⟩
  · omega
  · have : q' = q := by omega
    subst this
    refine .inr ⟨q', rfl, by omega, hcq, fun j hj hcj hne => ?_⟩
    by_cases hji : j = i
    · subst hji; unfold lt2; dsimp only; omega
    · exact h j (by omega) hcj hne
theorem best_head {t : Int} {ws : List Int} {k : Nat} {b : Int} (hk : k < ws.length) (h : Best t ws k ws.length b) : b = headAt t ws k := by
  have hq := headAt_lt (t := t) hk
  have hn := not_chosen_at (t := t) (all := ws.sum) hk
  have hk' : k < (sortL (restsL t ws.sum ws)).length := by rw [sort_len]; exact hk
  have e : (sortL (restsL t ws.sum ws)).getD k (0, 0) = (sortL (restsL t ws.sum ws))[k] := by simp [List.getD_eq_getElem?_getD, hk']
  rcases h with ⟨_, h⟩ | ⟨q, rfl, hqi, hcq, h⟩
  · have := h _ hq
    unfold headAt at this; rw [hn] at this; cases this
  · by_cases hne : headAt t ws k = q
    · rw [hne]
    · exfalso
      have h1 := h _ hq (by unfold headAt; exact hn) hne
      have hm := rests_mem (t := t) (all := ws.sum) hqi
      obtain ⟨m1, m2⟩ := mem_rests (List.getElem_mem hk')
      have hS := rests_sorted t ws.sum ws
      rw [← List.take_append_drop k (sortL (restsL t ws.sum ws))] at hm hS
      rcases List.mem_append.1 hm with hm | hm
      · have := chosen_iff.2 hm
        rw [this] at hcq; cases hcq
      · rw [List.drop_eq_getElem_cons hk'] at hm hS
        have hd := List.pairwise_cons.1 (List.pairwise_append.1 hS).2.1
        have hx : (sortL (restsL t ws.sum ws))[k] = (rs t ws.sum (ws.getD (headAt t ws k) 0), headAt t ws k) := by
          unfold headAt; rw [e]; exact Prod.ext m2 rfl
        rcases List.mem_cons.1 hm with hm | hm
        · rw [hx] at hm
          exact hne (congrArg Prod.snd hm).symm
        · have := hd.1 _ hm
          rw [hx] at this
          exact lt2_asymm h1 this
theorem ownsRow_cell {w : World} {base : Nat} {e : TypeId} {g n cap : Nat} {xs : List Int} (h : w.ownsRow base e 1 (.slice (some ⟨g, 0, none⟩) n cap) n (xs.map (.int .i64))) (hl : xs.length = n) {q : Nat} (hq : q < n) : w.cell? ⟨g, q, none⟩ = some (.int .i64 (xs.getD q 0)) := by
  rw [h.cellAt q (by omega)]
  simp [List.getD_eq_getElem?_getD, hl, hq]
theorem grownBy_setCell (w : World) (b o : Nat) (u : Value) : w.grownBy (w.setCell ⟨b, o, none⟩ u) (some b) :=
  ⟨rfl, rfl, rfl, by simp, fun k _ hne => Below.heap_setCell w _ _ _ (by intro e; exact hne (by rw [e]))⟩
theorem ownsRow_set_other {w : World} {base : Nat} {e : TypeId} {size g n cap b o : Nat} {u : Value} {xs : List Value} (h : w.ownsRow base e size (.slice (some ⟨g, 0, none⟩) n cap) n xs) (hne : b ≠ g) : (w.setCell ⟨b, o, none⟩ u).ownsRow base e size (.slice (some ⟨g, 0, none⟩) n cap) n xs :=
  h.kept (grownBy_setCell w b o u) (.inr (by simpa [Value.ownBlock] using Ne.symm hne))
set_option maxHeartbeats 4000000 in
set_option maxRecDepth 100000 in
theorem rshare_good (t : Int) (ws : List Int) (a : Option Addr) (cap : Nat) (w : World) (hr : Row w a (ws.map (.int .u32))) (hp : PosRow ws) (h : ws.length ≤ 64) (hz : shareE t ws = 0) :
    Calls Tryz.prog 83 #[.int .i64 t, .slice a ws.length cap] w (ShareOut t ws w) := by
  have Hr := hid hr
  have HP : Aside (PosRow ws) := hp
  have HZ := hid hz
  have hsum0 : 0 < ws.sum := by
    have h1 : ws.sum ≠ 0 := fun e => by unfold shareE at hz; rw [if_neg (by omega), if_pos e] at hz; cases hz
    have := (take_sum_bd hp ws.length).1
    rw [List.take_length] at this; omega
  have hsum1 : ws.sum ≤ 274877906880 := by
    have := (take_sum_bd hp ws.length).2
    rw [List.take_length] at this
    have : (ws.length : Int) * 4294967295 ≤ 64 * 4294967295 := Int.mul_le_mul_of_nonneg_right (by omega) (by omega)
    omega
  obtain ⟨ht0, ht1⟩ : 0 ≤ t ∧ t ≤ 1125899906842624 := by
    unfold shareE at hz
    rw [if_neg (by omega), if_neg (by omega)] at hz
    split at hz
    · assumption
    · cases hz
  clear hr hp hz
  have h' : ¬ (64 : Int) < (ws.length : Int) := by omega
  go_enter Tryz.func83, Tryz.ntmps83
  go_wp2
  go_loop [6, 7] (fun s i => ∃ (k : Nat) (x : Int), k ≤ ws.length ∧ i = .int .i64 k ∧ s = .int .i64 x ∧ Hid (x = (ws.take k).sum) ∧ 0 ≤ x ∧ x ≤ k * 4294967295) (fun _ i => ws.length - (intOf i).toNat)
  case atStart => exact ⟨0, 0, Nat.zero_le _, rfl, rfl, hid (by simp), by omega, by omega⟩
  case round =>
    obtain ⟨k, s, hk, rfl, rfl, hs, hs0, hs1⟩ := hrel
    by_cases hlt : k < ws.length
    · obtain ⟨b, off, rfl, hc⟩ := Hr.out.int k hlt
      have hx := posrow_get HP.out hlt
      generalize hxe : ws.getD k 0 = x at *
      have HX := hid hxe
      clear hxe
      go_wp2
      go_round
      case rel => exact ⟨k + 1, s + x, by omega, by go_num, rfl, hid (by rw [sum_take_succ hlt, ← hs.out, HX.out]), by omega, by omega⟩
      case measure => simp [intOf]; omega
    · obtain rfl : k = ws.length := by omega
      have hsum : s = ws.sum := by rw [hs.out, List.take_length]
      have HS := hid hsum
      have hs2 : 0 < s := by omega
      have hs3 : s ≤ 274877906880 := by omega
      clear hs hsum hk hlt hs0 hs1 hsum0 hsum1
      have hz' : (s == 0) = false := by simp; omega
      have hd : decide (t < 0) = false := decide_eq_false (by omega)
      have he : mayI t = true := by simp [mayI, ht1]; omega
      go_wp2_with fail
      refine (rmay_any _ _).mono ?_
      rintro e w1 ⟨rfl, rfl⟩
      go_wp2
      clear hz' hd he
      go_loopw [8, 9, 10, 11] (fun s9 s10 s11 s47 wr => ∃ (k : Nat) (vo vr : Value) (lf : Int), k ≤ ws.length ∧ s47 = .int .i64 k ∧ s9 = vo ∧ s10 = vr ∧ s11 = .int .i64 lf ∧ 0 ≤ lf ∧ lf ≤ t ∧ Hid (lf = t - (whC t s ws k).sum) ∧
          Aside (wr.ownsRow w.heap.size 2 1 vo k ((whC t s ws k).map (.int .i64))) ∧ Aside (wr.ownsRow w.heap.size 2 1 vr k (((ws.take k).map (rs t s)).map (.int .i64))) ∧ Aside (Apart vo vr) ∧ Aside (Below w.heap.size w wr)) (fun _ _ _ i _ => ws.length - (intOf i).toNat)
      case atStart => exact ⟨0, _, _, t, Nat.zero_le _, rfl, rfl, rfl, rfl, ht0, Int.le_refl _, hid (by simp [whC]), World.ownsRow_nil _ _ _ _, World.ownsRow_nil _ _ _ _, Apart.nil _, Below.refl _ _⟩
      case round =>
        obtain ⟨k, vo, vr, lf, hk, rfl, rfl, rfl, rfl, hlf0, hlf1, HL, O1, R1, A1, B1⟩ := hrel
        by_cases hlt : k < ws.length
        · obtain ⟨b, off, rfl, hc⟩ := (Hr.out.kept B1.out).int k hlt
          have hx := posrow_get HP.out hlt
          have hxs : ws.getD k 0 ≤ s := by
            have e : ws.getD k 0 = ws[k] := by simp [List.getD_eq_getElem?_getD, hlt]
            rw [HS.out, e]; exact le_sum ws (fun y hy => (HP.out y hy).1) _ (List.getElem_mem hlt)
          generalize hxe : ws.getD k 0 = x at *
          have HX := hid hxe
          have hw1 := wh_bd ht0 hs2 hx.1 hxs
          have hw2 := rs_bd t s x hs2
          have hp := partOk_of ht0 ht1 hs2 hs3 hx.1 hxs
          have hlb := left_bd HP.out ht0 (by rw [← HS.out]; exact hs2) (k + 1)
          rw [← HS.out, whC_succ hlt, hxe, List.sum_append_int] at hlb
          have hrk : (ws.take (k + 1)).map (rs t s) = (ws.take k).map (rs t s) ++ [rs t s x] := by
            rw [List.take_succ_eq_append_getElem hlt, List.map_append, ← hxe]; simp [List.getD_eq_getElem?_getD, hlt]
          have e1 : partW t x s = wh t s x := by unfold partW; rw [if_pos hp]; rfl
          have e2 : partR t x s = rs t s x := by unfold partR; rw [if_pos hp]; rfl
          have e3 : partE t x s = 0 := by unfold partE; rw [if_pos hp]
          have key := rpart_any t x s wr
          rw [e1, e2, e3] at key
          generalize hwe : wh t s x = a at *
          generalize hre : rs t s x = r at *
          have HW := hid hwe
          have HRK := hid hrk
          have hl2 : 0 ≤ lf - a ∧ lf - a ≤ t := by
            rw [HL.out]; simp at hlb; omega
          have KEY := hid key
          clear hxe e1 e2 e3 key hwe hre hlb hp hrk
          go_wp2_with fail
          refine KEY.out.mono ?_
          rintro e w2 ⟨rfl, rfl⟩
          have hmx : k + 1 ≤ maxLen := by unfold maxLen; omega
          have hm8 : (k + 1) * 8 ≤ 140737488355328 := by omega
          have hbs : w.heap.size ≤ wr.heap.size + 1 := Nat.le_succ_of_le B1.out.size
          have HI := hid i64row2
          clear KEY
          go_wp2_with (first
            | (at_builtin; refine wpList_append_row_at rfl (.tmp 61) (.tmp 63) 40 rfl w.heap.size 2 (.int .i64 0) 1 8 Tryz.underlying40 HI.out rfl (by decide) _ k _ rfl (World.ownsRow.alloc O1.out _) _ 1 1 [.int .i64 a] rfl (by simp) (row_new (by simp)) rfl (by simp [Value.oneCell']) hmx hm8 (by simpa using hbs) ?_; intro v1 w3 ho1 hg1 hat1)
            | (at_builtin; refine wpList_append_row_at rfl (.tmp 65) (.tmp 67) 40 rfl w.heap.size 2 (.int .i64 0) 1 8 Tryz.underlying40 HI.out rfl (by decide) _ k _ rfl (World.ownsRow.alloc (ownsRow_other (World.ownsRow.alloc R1.out _) hg1 A1.out) _) _ 1 1 [.int .i64 r] rfl (by simp) (row_new (by simp)) rfl (by simp [Value.oneCell']) hmx hm8 (by have := hg1.size; simp at this ⊢; omega) ?_; intro v2 w4 ho2 hg2 hat2))
          have hg1' : (wr.alloc (.cells #[.int .i64 a] 2)).grownBy w3 u8.ownBlock := hg1
          have hat1' : v1.ownBlock = u8.ownBlock ∨ v1.ownBlock = some (wr.alloc (.cells #[.int .i64 a] 2)).heap.size := hat1
          have hg2' : (w3.alloc (.cells #[.int .i64 r] 2)).grownBy w4 u9.ownBlock := hg2
          have hat2' : v2.ownBlock = u9.ownBlock ∨ v2.ownBlock = some (w3.alloc (.cells #[.int .i64 r] 2)).heap.size := hat2
          clear hg1 hg2 hat1 hat2
          have r3 := World.ownsRow.alloc R1.out (.cells #[.int .i64 a] 2)
          have ap1 : Apart v1 u9 := apart_grown r3 A1.out hat1'
          have r4 := World.ownsRow.alloc (ownsRow_other r3 hg1' A1.out) (.cells #[.int .i64 r] 2)
          have o4 := World.ownsRow.alloc ho1 (.cells #[.int .i64 r] 2)
          have ap2 : Apart v2 v1 := apart_grown o4 ap1.symm hat2'
          have b3 : Below w.heap.size w w3 := (B1.out.alloc B1.out.size _).grown hg1' (by have := B1.out.size; simp; omega) (fun g e => (World.ownsRow.lt O1.out g e).1)
          have b4 : Below w.heap.size w w4 := (b3.alloc b3.size _).grown hg2' (by have := b3.size; simp; omega) (fun g e => (World.ownsRow.lt R1.out g e).1)
          have AP : Aside (Apart v1 v2) := ap2.symm
          have B4 : Aside (Below w.heap.size w w4) := b4
          have O4 : Aside (w4.ownsRow w.heap.size 2 1 v1 (k + 1) ((whC t s ws (k + 1)).map (.int .i64))) := by
            show World.ownsRow _ _ _ _ _ _ _
            have := ownsRow_other o4 hg2' ap1.symm
            rw [whC_succ hlt, HX.out, HW.out, List.map_append]
            exact this
          have R4 : Aside (w4.ownsRow w.heap.size 2 1 v2 (k + 1) (((ws.take (k + 1)).map (rs t s)).map (.int .i64))) := by
            show World.ownsRow _ _ _ _ _ _ _
            rw [HRK.out, List.map_append]
            exact ho2
          have HL2 : Hid (lf - a = t - (whC t s ws (k + 1)).sum) := by
            show _ = _
            rw [whC_succ hlt, HX.out, HW.out, List.sum_append_int, HL.out]; simp; omega
          clear hg1' hat1' hg2' hat2' ho1 ho2 r3 r4 o4 ap1 ap2 b3 b4 O1 R1 A1 B1
          go_roundw
          case measure => simp [intOf]; omega
          case rel => exact ⟨k + 1, v1, v2, lf - a, by omega, by go_num, rfl, rfl, rfl, hl2.1, hl2.2, HL2, O4, R4, AP, B4⟩
        · obtain rfl : k = ws.length := by omega
          have hn0 : 0 < ws.length := by
            rcases Nat.eq_zero_or_pos ws.length with e | e
            · have : ws = [] := List.length_eq_zero_iff.1 e
              have h1 := HS.out
              rw [this] at h1; simp at h1; omega
            · exact e
          obtain ⟨g2, c2, hv2, hg2b, hg2l⟩ := owns_form (show wr.ownsRow w.heap.size 2 1 u9 ws.length _ from R1.out) hn0
          obtain ⟨g1, c1, hv1, hg1b, hg1l⟩ := owns_form (show wr.ownsRow w.heap.size 2 1 u8 ws.length _ from O1.out) hn0
          subst hv2 hv1
          obtain ⟨L, hL⟩ : ∃ L : Nat, lf = L := ⟨lf.toNat, by omega⟩
          subst hL
          have HLN : Hid (L = leftN t s ws) := by
            have h1 := HL.out
            show _ = _
            unfold leftN
            unfold whC at h1
            rw [List.take_length] at h1; omega
          have hLn : L < ws.length := by
            have := left_lt t ws (by rw [← HS.out]; exact hs2)
            rw [HLN.out, HS.out]; exact this
          have hne : g1 ≠ g2 := by
            rcases A1.out with h | h | h
            · cases h
            · cases h
            · simpa [Value.ownBlock] using h
          have O2 : Aside (wr.ownsRow w.heap.size 2 1 (.slice (some ⟨g1, 0, none⟩) ws.length c1) ws.length ((outC t ws 0).map (.int .i64))) := by
            rw [outC_zero, ← HS.out]
            exact O1.out
          have R2 : Aside (wr.ownsRow w.heap.size 2 1 (.slice (some ⟨g2, 0, none⟩) ws.length c2) ws.length ((restK t ws 0).map (.int .i64))) := by
            rw [restK_zero, ← HS.out]
            have := R1.out
            rw [List.take_length] at this
            exact this
          have B2 := B1
          clear O1 R1 A1 B1 hk hlt HL
          go_wp2
          go_loopw [10] (fun s10 wr => ∃ k : Nat, k ≤ L ∧ s10 = .int .i64 (L - k : Int) ∧ Aside (wr.ownsRow w.heap.size 2 1 (.slice (some ⟨g1, 0, none⟩) ws.length c1) ws.length ((outC t ws k).map (.int .i64))) ∧
            Aside (wr.ownsRow w.heap.size 2 1 (.slice (some ⟨g2, 0, none⟩) ws.length c2) ws.length ((restK t ws k).map (.int .i64))) ∧ Aside (Below w.heap.size w wr)) (fun i _ => (intOf i).toNat)
          case atStart => exact ⟨0, Nat.zero_le _, by simp, O2, R2, B2⟩
          case round =>
            clear O2 R2 B2
            obtain ⟨k, hk, rfl, O3, R3, B3⟩ := hrel
            by_cases hlt : k < L
            · have hkn : k < ws.length := by omega
              go_wp2
              go_loopw [15, 16] (fun s15 s16 wr => ∃ (i : Nat) (b : Int), i ≤ ws.length ∧ s16 = .int .i64 i ∧ s15 = .int .i64 b ∧ -1 ≤ b ∧ b < i ∧ Aside (Best t ws k i b) ∧ Aside (wr.ownsRow w.heap.size 2 1 (.slice (some ⟨g1, 0, none⟩) ws.length c1) ws.length ((outC t ws k).map (.int .i64))) ∧
                Aside (wr.ownsRow w.heap.size 2 1 (.slice (some ⟨g2, 0, none⟩) ws.length c2) ws.length ((restK t ws k).map (.int .i64))) ∧ Aside (Below w.heap.size w wr)) (fun _ i _ => ws.length - (intOf i).toNat)
              case atStart => exact ⟨0, -1, Nat.zero_le _, rfl, rfl, by omega, by omega, .inl ⟨rfl, fun j hj => absurd hj (Nat.not_lt_zero _)⟩, O3, R3, B3⟩
              case round =>
                clear O3 R3 B3
                obtain ⟨i, b, hi, rfl, rfl, hb0, hb1, HB, O4, R4, B4⟩ := hrel
                by_cases hlt2 : i < ws.length
                · have f1 := ownsRow_cell R4.out (restK_len _ _ _) hlt2
                  have rg1 := restK_get t ws k i hlt2
                  have hrb := rs_bd t ws.sum (ws.getD i 0) (by rw [← HS.out]; exact hs2)
                  have q0 : (0 : Int) ≤ (i : Int) := by omega
                  have q1 : (i : Int) < (ws.length : Int) := by omega
                  cases hc : chosen (restsL t ws.sum ws) k i with
                  | true =>
                    rw [hc, if_pos rfl] at rg1
                    rw [rg1] at f1
                    have HB2 : Aside (Best t ws k (i + 1) b) := best_skip HB.out hc
                    clear rg1 hc hrb HB
                    go_wp2_with fail
                    go_quiet (fail)
                    go_wp2
                    go_roundw
                    case measure => simp [intOf]; omega
                    case rel => exact ⟨i + 1, b, by omega, by go_num, rfl, hb0, by omega, HB2, ownsRow_below O4.out (drewN_below _ _), ownsRow_below R4.out (drewN_below _ _), bt B4.out (drewN_below _ _)⟩
                  | false =>
                    rw [hc, if_neg (by decide)] at rg1
                    rw [rg1] at f1
                    obtain ⟨x, hx⟩ : ∃ x, x = rs t ws.sum (ws.getD i 0) := ⟨_, rfl⟩
                    rw [← hx] at f1 hrb
                    have HX := hid hx
                    have HC := hid hc
                    obtain ⟨hrb0, hrb1⟩ := hrb
                    have d1 : decide (x ≥ 0) = true := decide_eq_true hrb0
                    clear rg1 hc hx hrb1
                    by_cases hbn : b = -1
                    · subst hbn
                      have HB2 : Aside (Best t ws k (i + 1) i) := best_first HB.out HC.out
                      clear HB
                      go_wp2_with fail
                      go_quiet (fail)
                      go_wp2
                      go_roundw
                      case measure => simp [intOf]; omega
                      case rel => exact ⟨i + 1, i, by omega, by go_num, rfl, by omega, by omega, HB2, ownsRow_below O4.out (drewN_below _ _), ownsRow_below R4.out (drewN_below _ _), bt B4.out (drewN_below _ _)⟩
                    · obtain ⟨q, hq⟩ : ∃ q : Nat, b = q := ⟨b.toNat, by omega⟩
                      subst hq
                      have hqc : chosen (restsL t ws.sum ws) k q = false := by
                        rcases HB.out with ⟨h, _⟩ | ⟨q', h, _, hc, _⟩
                        · omega
                        · have : q' = q := by omega
                          subst this; exact hc
                      have f2 := ownsRow_cell R4.out (restK_len _ _ _) (show q < ws.length by omega)
                      have rg2 := restK_get t ws k q (by omega)
                      rw [hqc, if_neg (by decide)] at rg2
                      rw [rg2] at f2
                      obtain ⟨y, hy⟩ : ∃ y, y = rs t ws.sum (ws.getD q 0) := ⟨_, rfl⟩
                      rw [← hy] at f2
                      have HY := hid hy
                      have d2 : decide ((q : Int) < 0) = false := decide_eq_false (by omega)
                      have q2 : (0 : Int) ≤ (q : Int) := by omega
                      have q3 : (q : Int) < (ws.length : Int) := by omega
                      clear rg2 hqc hy hbn
                      by_cases hxy : x > y
                      · have HB2 : Aside (Best t ws k (i + 1) i) := best_more HB.out HC.out (by rw [← HX.out, ← HY.out]; exact hxy)
                        have d3 : decide (x > y) = true := decide_eq_true hxy
                        clear HB hxy
                        go_wp2_with fail
                        go_quiet (fail)
                        go_wp2
                        go_roundw
                        case measure => simp [intOf]; omega
                        case rel => exact ⟨i + 1, i, by omega, by go_num, rfl, by omega, by omega, HB2, ownsRow_below O4.out (drewN_below _ _), ownsRow_below R4.out (drewN_below _ _), bt B4.out (drewN_below _ _)⟩
                      · have HB2 : Aside (Best t ws k (i + 1) q) := best_less HB.out (by rw [← HX.out, ← HY.out]; omega)
                        have d3 : decide (x > y) = false := decide_eq_false hxy
                        clear HB hxy
                        go_wp2_with fail
                        go_quiet (fail)
                        go_wp2
                        go_roundw
                        case measure => simp [intOf]; omega
                        case rel => exact ⟨i + 1, q, by omega, by go_num, rfl, by omega, by omega, HB2, ownsRow_below O4.out (drewN_below _ _), ownsRow_below R4.out (drewN_below _ _), bt B4.out (drewN_below _ _)⟩
                · obtain rfl : i = ws.length := by omega
                  have hbh := best_head hkn HB.out
                  have hqn := headAt_lt (t := t) hkn
                  have hoc := outC_succ (t := t) (ws := ws) (k := k) hkn
                  have hrc := restK_succ (t := t) (ws := ws) (k := k) hkn
                  have f3 := ownsRow_cell O4.out (outC_len _ _ _) hqn
                  have f4 := World.ownsRow.frozenAt O4.out (headAt t ws k)
                  have f5 := World.ownsRow.frozenAt R4.out (headAt t ws k)
                  have f6 := ownsRow_cell R4.out (restK_len _ _ _) hqn
                  have hyb : 0 ≤ (outC t ws k).getD (headAt t ws k) 0 ∧ (outC t ws k).getD (headAt t ws k) 0 ≤ t + 1 := by
                    rw [outC_get _ _ _ _ hqn]
                    have hx := posrow_get HP.out hqn
                    have e : ws.getD (headAt t ws k) 0 = ws[headAt t ws k] := by simp [List.getD_eq_getElem?_getD, hqn]
                    have := wh_bd (t := t) (S := ws.sum) ht0 (by rw [← HS.out]; exact hs2) hx.1 (by rw [e]; exact le_sum ws (fun y hy => (HP.out y hy).1) _ (List.getElem_mem hqn))
                    split <;> omega
                  have hoc' : outC t ws (k + 1) = (outC t ws k).set (headAt t ws k) ((outC t ws k).getD (headAt t ws k) 0 + 1) := hoc
                  clear hoc
                  generalize (restK t ws k).getD (headAt t ws k) 0 = z at f6
                  generalize (outC t ws k).getD (headAt t ws k) 0 = y at *
                  generalize headAt t ws k = q at *
                  subst hbh
                  have HOC := hid hoc'
                  have HRC := hid hrc
                  have hg1r : g1 < wr.heap.size := (World.ownsRow.lt O4.out g1 rfl).2
                  have hg2r : g2 < wr.heap.size := (World.ownsRow.lt R4.out g2 rfl).2
                  have hne' : g2 ≠ g1 := Ne.symm hne
                  clear HB hoc' hrc hi hlt2 hb0 hb1
                  go_wp2
                  go_roundw
                  case measure => simp [intOf]; omega
                  case rel =>
                    refine ⟨k + 1, by omega, by first | go_num | (congr 1; omega), ?_, ?_, (B4.out.setCell hg1b _).setCell hg2b _⟩
                    · refine ownsRow_set_other ?_ hne'
                      rw [HOC.out, List.map_set]
                      exact ownsRow_set O4.out q _
                    · rw [HRC.out, List.map_set]
                      exact ownsRow_set (ownsRow_set_other R4.out hne) q _
            · obtain rfl : k = L := by omega
              have e : shareV t ws = outC t ws k := by
                unfold shareV
                rw [if_pos HZ.out, HLN.out, HS.out]; rfl
              have E := hid e
              clear e
              go_wp2
              go_ret2
              refine ⟨.slice (some ⟨g1, 0, none⟩) ws.length c1, by rw [HZ.out]; rfl, ?_, B3.out, fun h => absurd HZ.out h⟩
              rw [E.out, outC_len]; exact O3.out
theorem rshare_any (t : Int) (ws : List Int) (a : Option Addr) (cap : Nat) (w : World) (hr : Row w a (ws.map (.int .u32))) (hp : PosRow ws) (hl : ws.length ≤ 9223372036854775807) :
    Calls Tryz.prog 83 #[.int .i64 t, .slice a ws.length cap] w (ShareOut t ws w) := by
  rcases Nat.lt_or_ge 64 ws.length with h | h
  · exact rshare_long t ws a cap w hl h
  · by_cases hz : shareE t ws = 0
    · exact rshare_good t ws a cap w hr hp h hz
    · exact rshare_none t ws a cap w hr hp h hz
end Go.Proofs.YtmhbpifhpolghaaGreat
end
