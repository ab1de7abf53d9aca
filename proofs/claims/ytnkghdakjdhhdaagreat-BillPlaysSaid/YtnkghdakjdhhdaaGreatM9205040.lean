/- Rf2, Pro3. -/
import Derived.Test.YtnkghdakjdhhdaaGreatM242dd63
import Derived.Test.YtnkghdakjdhhdaaGreatM3fa2fb6
import Derived.BigRegion
import Derived.BigQuiet
import Derived.Deep.QuietTactic
set_option maxRecDepth 100000
set_option linter.unusedVariables false
set_option linter.unusedSimpArgs false
set_option linter.unusedSectionVars false
section
namespace Go.Proofs.YtnkghdakjdhhdaaGreat
open Go.RowKit Go.Lib Go.Tk Go.Shelf Go.Vc Go.Sx
def RCheckF : Nat := 125
def gdL (n : Int) (l : Leg) : Bool := decide (l.c < n) && decide (0 < l.x)
def gdT (t : Tax) : Bool := decide ((t.code.size : Int) = 2) && (lettersB [] t.code.data.toList && amtB t.amt)
def gdLs (b : Bool) (n : Int) (l : List Leg) : Nat → Bool
  | 0 => b
  | i + 1 => gdLs b n l i && gdL n (l.getD i leg0)
def gdTs (b : Bool) (l : List Tax) : Nat → Bool
  | 0 => b
  | i + 1 => gdTs b l i && gdT (l.getD i rtax0)
theorem gdLs_all (b : Bool) (n : Int) (l : List Leg) : ∀ {i : Nat}, i ≤ l.length → gdLs b n l i = (b && (l.take i).all (gdL n))
  | 0, _ => by simp [gdLs]
  | i + 1, h => by
    rw [List.take_succ_eq_append_getElem h, List.all_append]
    show (gdLs b n l i && _) = _
    rw [gdLs_all b n l (by omega), List.getD_eq_getElem?_getD, List.getElem?_eq_getElem h]
    simp [Bool.and_assoc]
theorem gdTs_all (b : Bool) (l : List Tax) : ∀ {i : Nat}, i ≤ l.length → gdTs b l i = (b && (l.take i).all gdT)
  | 0, _ => by simp [gdTs]
  | i + 1, h => by
    rw [List.take_succ_eq_append_getElem h, List.all_append]
    show (gdTs b l i && _) = _
    rw [gdTs_all b l (by omega), List.getD_eq_getElem?_getD, List.getElem?_eq_getElem h]
    simp [Bool.and_assoc]
def headB (s : SaleV) : Bool := decide ((1 : Int) ≤ (s.name.size : Int)) && (decide ((s.name.size : Int) ≤ 32) && (lettersB [32, 47] s.name.data.toList && (decide ((1 : Int) ≤ (s.legs.length : Int)) && (decide ((s.legs.length : Int) ≤ 4) && (amtB s.fare && (decide ((s.taxes.length : Int) ≤ 4) && amtB s.pen))))))
def rcE (b : Bool) (s : SaleV) : Int := bif b then (sumFrom 0 (priceL s)).2 else 90
theorem all_any {α : Type} {l : List α} {p q : α → Bool} (h : ∀ x ∈ l, p x = !q x) : l.all p = !l.any q := by
  induction l with
  | nil => rfl
  | cons x l ih =>
    rw [List.all_cons, List.any_cons, ih fun y hy => h y (List.mem_cons_of_mem _ hy), h x List.mem_cons_self]
    cases q x <;> rfl
theorem shape_head {s : SaleV} (ok : SaleOk s) (n : Int) : shapeB s n = gdTs (gdLs (headB s) n s.legs s.legs.length) s.taxes s.taxes.length := by
  rw [gdTs_all _ _ (Nat.le_refl _), gdLs_all _ _ _ (Nat.le_refl _), List.take_length, List.take_length]
  rw [all_any (q := legBad n) (fun l hl => by
    have hx := ok.legs l hl
    have h0 : 0 ≤ l.x := hx.2.2.1
    unfold gdL legBad
    by_cases h1 : l.c < n
    · by_cases h2 : l.x = 0
      · rw [decide_eq_false (p := 0 < l.x) (by omega), h2]; simp
      · rw [decide_eq_true (p := 0 < l.x) (by omega), decide_eq_true h1, decide_eq_false (p := l.c ≥ n) (by omega)]; simp [h2]
    · rw [decide_eq_false h1, decide_eq_true (p := l.c ≥ n) (by omega)]; simp),
    all_any (q := taxBad) (fun t ht => by
    unfold gdT taxBad
    by_cases h1 : t.code.size = 2
    · rw [decide_eq_true (p := (t.code.size : Int) = 2) (by omega), decide_eq_false (p := t.code.size ≠ 2) (by omega)]
      cases lettersB [] t.code.data.toList <;> cases amtB t.amt <;> rfl
    · rw [decide_eq_false (p := (t.code.size : Int) = 2) (by omega), decide_eq_true (p := t.code.size ≠ 2) h1]
      cases lettersB [] t.code.data.toList <;> cases amtB t.amt <;> rfl)]
  unfold shapeB must1 must2 must3 must4 must5 headB
  have e1 : decide ((1 : Int) ≤ (s.name.size : Int)) = decide (1 ≤ s.name.size) := decide_eq_decide.2 (by omega)
  have e2 : decide ((s.name.size : Int) ≤ 32) = decide (s.name.size ≤ 32) := decide_eq_decide.2 (by omega)
  have e3 : decide ((1 : Int) ≤ (s.legs.length : Int)) = decide (1 ≤ s.legs.length) := decide_eq_decide.2 (by omega)
  have e4 : decide ((s.legs.length : Int) ≤ 4) = decide (s.legs.length ≤ 4) := decide_eq_decide.2 (by omega)
  have e5 : decide ((s.taxes.length : Int) ≤ 4) = decide (s.taxes.length ≤ 4) := decide_eq_decide.2 (by omega)
  rw [e1, e2, e3, e4, e5]
  simp only [List.all_cons, List.all_nil, Bool.and_true]
  generalize decide (1 ≤ s.name.size) = a1
  generalize decide (s.name.size ≤ 32) = a2
  generalize decide (1 ≤ s.legs.length) = a3
  generalize decide (s.legs.length ≤ 4) = a4
  generalize decide (s.taxes.length ≤ 4) = a5
  generalize lettersB [32, 47] s.name.data.toList = a6
  generalize amtB s.fare = a7
  generalize amtB s.pen = a8
  generalize s.legs.any (legBad n) = a9
  generalize s.taxes.any taxBad = a10
  revert a1 a2 a3 a4 a5 a6 a7 a8 a9 a10
  decide
def rcH (F : CF) (s : SaleV) (A : SaleA) : Heap := [((0, 9), .fam F), ((1, 0), .box none (salS s (.val (.slice A.la s.legs.length A.lc)) (.val (.slice A.ta s.taxes.length A.tc))))]
theorem rcheck_tax (F : CF) {eb : Env} {R : List Chunk} {s : SaleV} {A : SaleA} {n : Int} (hs : s.taxes.length ≤ 9223372036854775807) (ht : ∀ b v, Rd (F b v) A.ta (cellsL encTax s.taxes)) {b : Bool} (h4 : b = true → s.taxes.length ≤ 4) :
    Go Tryz.prog RCheckF (eN (rcE (gdTs b s.taxes s.taxes.length) s)) ([((0, 9), .fam F)] ++ []) eb R .nrm (rgK Tryz.prog RCheckF 8 []) [(2, .ptr 1 0 0), (5, .val (.bool b))] (rcH F s A) := by
  have h5 : gdTs b s.taxes s.taxes.length = true → s.taxes.length ≤ 4 := fun h => by
    rw [gdTs_all _ _ (Nat.le_refl _)] at h
    simp only [Bool.and_eq_true] at h
    exact h4 h.1
  clear h4
  refine go_loop (X := { i : Nat // i ≤ s.taxes.length }) 1 [] (fun y => ([(2, .ptr 1 0 0), (5, .val (.bool (gdTs b s.taxes y.1))), (7, .val (.int .i64 (y.1 : Int)))], rcH F s A)) (fun y => s.taxes.length - y.1) ⟨0, Nat.zero_le _⟩ calNone false 400 [] calNone_ok (by kernel_rfl) ?_
  rintro ⟨i, hi⟩ J hJ
  by_cases h : i < s.taxes.length
  · have z0 : decide ((i : Int) < (s.taxes.length : Int)) = true := decide_eq_true (by omega)
    have q1 := idx_openG (P := Tryz.prog) (t := 62) (e := 189) (size := 2) (j := 9) (k := .i64) (cap := A.tc) (n := s.taxes.length) Tryz.underlying62 (by kernel_rfl) (cellsL_len encTax_len _) ht h
    have hpos : 0 < (cellsL encTax s.taxes).length := by rw [cellsL_len encTax_len]; omega
    have q2 := load_openG (P := Tryz.prog) (t := 2) (k := i * 2) (j := 9) (u := .val (.int .i64 (s.taxes.getD i rtax0).amt)) 1 (by kernel_rfl) ht (taxS_nth (getD_some h rtax0)) hpos
    have q3 := load_openG (P := Tryz.prog) (t := 9) (k := i * 2) (j := 9) (u := .val (.string (s.taxes.getD i rtax0).code)) 0 (by kernel_rfl) ht (taxS_nth (getD_some h rtax0)) hpos
    have z9 : IntKind.i64.wrap ((i : Int) + 1) = ((i + 1 : Nat) : Int) := by rw [wr_i64 (by omega)]; omega
    have hJ' : ∀ ε a' w, Rel (ntOf Tryz.prog RCheckF) 1 eb R ⟨[(2, .ptr 1 0 0), (5, .val (.bool (gdTs b s.taxes i && gdT (s.taxes.getD i rtax0)))), (7, .val (.int .i64 ((i + 1 : Nat) : Int)))], rcH F s A, 2⟩ ε a' w → J a' w := hJ ⟨i + 1, h⟩ (by show _ - (i + 1) < _ - i; omega)
    clear hJ h5
    show Go Tryz.prog RCheckF _ ([((0, 9), .fam F)] ++ []) eb R .nrm (.code (lpB Tryz.prog RCheckF 1 []) :: .lp J :: lpK Tryz.prog RCheckF 1 []) [(2, .ptr 1 0 0), (5, .val (.bool (gdTs b s.taxes i))), (7, .val (.int .i64 (i : Int)))] (rcH F s A)
    unfold gdT at hJ'
    generalize gdTs b s.taxes i = b1 at *
    generalize s.taxes.getD i rtax0 = t at *
    cases b1
    · exact leaf_round (lpK Tryz.prog RCheckF 1 []) false 400 [hB 9 4 _ _ z0, hI 10 1 IntKind.i64 _ _ z9] hJ' (by kernel_rfl)
    rcases Bool.eq_false_or_eq_true (decide ((t.code.size : Int) = 2)) with g1 | g1
    · have c1 : CallOK Tryz.prog TextF [.val (.string t.code), .val (.string ⟨#[]⟩)] [] [] (.val (.bool (lettersB [] t.code.data.toList))) [] := text_w (by have := of_decide_eq_true g1; omega) (by show (0 : Nat) ≤ _; omega)
      have c2 := amount_w t.amt
      generalize lettersB [] t.code.data.toList = b2 at *
      generalize amtB t.amt = b3 at *
      rw [g1] at hJ'
      cases b2
      · exact leaf_round (lpK Tryz.prog RCheckF 1 []) false 400 [hB 9 4 _ _ z0, hG 11 5 q1, hG 11 7 q3, hB 11 9 _ _ g1, hG 11 15 q1, hG 11 17 q3, hC 11 18 c1, hI 10 1 IntKind.i64 _ _ z9] hJ' (by kernel_rfl)
      · exact leaf_round (lpK Tryz.prog RCheckF 1 []) false 400 [hB 9 4 _ _ z0, hG 11 5 q1, hG 11 7 q3, hB 11 9 _ _ g1, hG 11 15 q1, hG 11 17 q3, hC 11 18 c1, hG 11 24 q1, hG 11 26 q2, hC 11 27 c2, hI 10 1 IntKind.i64 _ _ z9] hJ' (by kernel_rfl)
    · rw [g1] at hJ'
      exact leaf_round (lpK Tryz.prog RCheckF 1 []) false 400 [hB 9 4 _ _ z0, hG 11 5 q1, hG 11 7 q3, hB 11 9 _ _ g1, hI 10 1 IntKind.i64 _ _ z9] hJ' (by kernel_rfl)
  · have z0 : decide ((s.taxes.length : Int) < (s.taxes.length : Int)) = false := decide_eq_false (by omega)
    have he : i = s.taxes.length := by omega
    subst he
    clear hJ
    show Go Tryz.prog RCheckF _ ([((0, 9), .fam F)] ++ []) eb R .nrm (.code (lpB Tryz.prog RCheckF 1 []) :: .lp J :: lpK Tryz.prog RCheckF 1 []) [(2, .ptr 1 0 0), (5, .val (.bool (gdTs b s.taxes s.taxes.length))), (7, .val (.int .i64 (s.taxes.length : Int)))] (rcH F s A)
    unfold rcE
    generalize gdTs b s.taxes s.taxes.length = b1 at *
    cases b1
    · clear h5
      exact leaf_end calNone false 400 [hB 9 4 _ _ z0] calNone_ok (by kernel_rfl)
    · have c1 := rprice_w F (s := s) (A := A) ht (h5 rfl)
      clear h5
      exact leaf_end calNone false 400 [hB 9 4 _ _ z0, hC 14 1 c1] calNone_ok (by kernel_rfl)
theorem rcheck_leg (F : CF) {eb : Env} {R : List Chunk} {s : SaleV} {A : SaleA} {n : Int} (ok : SaleOk s) (hl : ∀ b v, Rd (F b v) A.la (cellsL encLeg s.legs)) (ht : ∀ b v, Rd (F b v) A.ta (cellsL encTax s.taxes)) {b : Bool} (h4 : b = true → s.taxes.length ≤ 4) :
    Go Tryz.prog RCheckF (eN (rcE (gdTs (gdLs b n s.legs s.legs.length) s.taxes s.taxes.length) s)) ([((0, 9), .fam F)] ++ []) eb R .nrm (rgK Tryz.prog RCheckF 4 []) [(1, .val (.int .i64 n)), (2, .ptr 1 0 0), (5, .val (.bool b))] (rcH F s A) := by
  have nl := ok.nl
  have nt := ok.nt
  refine go_loop (X := { i : Nat // i ≤ s.legs.length }) 0 [] (fun y => ([(1, .val (.int .i64 n)), (2, .ptr 1 0 0), (5, .val (.bool (gdLs b n s.legs y.1))), (6, .val (.int .i64 (y.1 : Int)))], rcH F s A)) (fun y => s.legs.length - y.1) ⟨0, Nat.zero_le _⟩ calNone false 400 [] calNone_ok (by kernel_rfl) ?_
  rintro ⟨i, hi⟩ J hJ
  by_cases h : i < s.legs.length
  · have z0 : decide ((i : Int) < (s.legs.length : Int)) = true := decide_eq_true (by omega)
    have q1 := idx_openG (P := Tryz.prog) (t := 61) (e := 31) (size := 3) (j := 9) (k := .i64) (cap := A.lc) (n := s.legs.length) Tryz.underlying61 (by kernel_rfl) (cellsL_len encLeg_len _) hl h
    have hpos : 0 < (cellsL encLeg s.legs).length := by rw [cellsL_len encLeg_len]; omega
    have q2 := load_openG (P := Tryz.prog) (t := 5) (k := i * 3) (j := 9) (u := .val (.int .u8 (s.legs.getD i leg0).c)) 0 (by kernel_rfl) hl (legS_nth (getD_some h leg0)) hpos
    have q3 := load_openG (P := Tryz.prog) (t := 29) (k := i * 3) (j := 9) (u := .val (.int .u32 (s.legs.getD i leg0).x)) 2 (by kernel_rfl) hl (legS_nth (getD_some h leg0)) hpos
    have z9 : IntKind.i64.wrap ((i : Int) + 1) = ((i + 1 : Nat) : Int) := by rw [wr_i64 (by omega)]; omega
    have hk := ok.legs (s.legs.getD i leg0) (List.mem_of_getElem? (getD_some h leg0))
    have z3 : IntKind.i64.wrap (s.legs.getD i leg0).c = (s.legs.getD i leg0).c := wr_i64 (by have := hk.1; omega)
    have hJ' : ∀ ε a' w, Rel (ntOf Tryz.prog RCheckF) 1 eb R ⟨[(1, .val (.int .i64 n)), (2, .ptr 1 0 0), (5, .val (.bool (gdLs b n s.legs i && gdL n (s.legs.getD i leg0)))), (6, .val (.int .i64 ((i + 1 : Nat) : Int)))], rcH F s A, 2⟩ ε a' w → J a' w := hJ ⟨i + 1, h⟩ (by show _ - (i + 1) < _ - i; omega)
    clear hJ h4 hk nl nt
    show Go Tryz.prog RCheckF _ ([((0, 9), .fam F)] ++ []) eb R .nrm (.code (lpB Tryz.prog RCheckF 0 []) :: .lp J :: lpK Tryz.prog RCheckF 0 []) [(1, .val (.int .i64 n)), (2, .ptr 1 0 0), (5, .val (.bool (gdLs b n s.legs i))), (6, .val (.int .i64 (i : Int)))] (rcH F s A)
    unfold gdL at hJ'
    generalize gdLs b n s.legs i = b1 at *
    generalize s.legs.getD i leg0 = l at *
    cases b1
    · exact leaf_round (lpK Tryz.prog RCheckF 0 []) false 400 [hB 5 4 _ _ z0, hI 6 1 IntKind.i64 _ _ z9] hJ' (by kernel_rfl)
    rcases Bool.eq_false_or_eq_true (decide (l.c < n)) with g1 | g1
    · rw [g1] at hJ'
      exact leaf_round (lpK Tryz.prog RCheckF 0 []) false 400 [hB 5 4 _ _ z0, hG 7 5 q1, hG 7 7 q2, hI 7 8 IntKind.i64 _ _ z3, hB 7 10 _ _ g1, hG 7 16 q1, hG 7 18 q3, hI 6 1 IntKind.i64 _ _ z9] hJ' (by kernel_rfl)
    · rw [g1] at hJ'
      exact leaf_round (lpK Tryz.prog RCheckF 0 []) false 400 [hB 5 4 _ _ z0, hG 7 5 q1, hG 7 7 q2, hI 7 8 IntKind.i64 _ _ z3, hB 7 10 _ _ g1, hI 6 1 IntKind.i64 _ _ z9] hJ' (by kernel_rfl)
  · have z0 : decide ((s.legs.length : Int) < (s.legs.length : Int)) = false := decide_eq_false (by omega)
    have he : i = s.legs.length := by omega
    subst he
    have fin := rcheck_tax F (eb := eb) (R := R) (s := s) (A := A) (n := n) (by omega) ht (b := gdLs b n s.legs s.legs.length) (fun hg => by
      rw [gdLs_all _ _ _ (Nat.le_refl _)] at hg
      simp only [Bool.and_eq_true] at hg
      exact h4 hg.1)
    clear hJ h4 nl nt
    exact leaf_cut (rgK Tryz.prog RCheckF 8 []) _ _ calNone false 400 [hB 5 4 _ _ z0, .stop 8] calNone_ok (by kernel_rfl) fin
theorem rcheck_w (F : CF) {s : SaleV} {A : SaleA} (n : Int) (ok : SaleOk s) (hl : ∀ b v, Rd (F b v) A.la (cellsL encLeg s.legs)) (ht : ∀ b v, Rd (F b v) A.ta (cellsL encTax s.taxes)) :
    CallOK Tryz.prog RCheckF [.agg (salS s (.val (.slice A.la s.legs.length A.lc)) (.val (.slice A.ta s.taxes.length A.tc))), .val (.int .i64 n)] [((0, 9), .fam F)] [] (eN (checkE s n)) [] := by
  rcases Bool.eq_false_or_eq_true (decide (n < 2)) with g1 | g1
  · have e : checkE s n = 1 := by unfold checkE; rw [if_pos (.inl (of_decide_eq_true g1))]
    rw [e]
    exact callOK_run 400 [hB 1 1 _ _ g1] (by kernel_rfl) (by kernel_rfl)
  rcases Bool.eq_false_or_eq_true (decide (8 < n)) with g2 | g2
  · have e : checkE s n = 1 := by unfold checkE; rw [if_pos (.inr (of_decide_eq_true g2))]
    rw [e]
    exact callOK_run 400 [hB 1 1 _ _ g1, hB 1 4 _ _ g2] (by kernel_rfl) (by kernel_rfl)
  have e : checkE s n = rcE (gdTs (gdLs (headB s) n s.legs s.legs.length) s.taxes s.taxes.length) s := by
    have a1 := of_decide_eq_false g1
    have a2 := of_decide_eq_false g2
    unfold checkE rcE
    rw [if_neg (by omega), ← shape_head ok]
    cases shapeB s n <;> rfl
  rw [e]
  clear e
  refine callOK_intro (by kernel_rfl) fun eb R => ?_
  have fin := fun b0 (hb : headB s = b0) => rcheck_leg F (eb := eb) (R := R) (n := n) ok hl ht (b := b0) (fun h => by
    rw [h] at hb
    unfold headB at hb
    simp only [Bool.and_eq_true, decide_eq_true_eq] at hb
    have := hb.2.2.2.2.2.2.1
    omega)
  have nm := ok.name
  rcases Bool.eq_false_or_eq_true (decide ((1 : Int) ≤ (s.name.size : Int))) with k1 | k1
  case inr =>
    have hb : headB s = false := by unfold headB; rw [k1]; rfl
    have fin := fin false hb
    rw [hb]
    exact leaf_cut (rgK Tryz.prog RCheckF 4 []) _ _ calNone false 400 [hB 1 1 _ _ g1, hB 1 4 _ _ g2, hB 3 3 _ _ k1, .stop 4] calNone_ok (by kernel_rfl) fin
  rcases Bool.eq_false_or_eq_true (decide ((s.name.size : Int) ≤ 32)) with k2 | k2
  case inr =>
    have hb : headB s = false := by unfold headB; rw [k1, k2]; rfl
    have fin := fin false hb
    rw [hb]
    exact leaf_cut (rgK Tryz.prog RCheckF 4 []) _ _ calNone false 400 [hB 1 1 _ _ g1, hB 1 4 _ _ g2, hB 3 3 _ _ k1, hB 3 8 _ _ k2, .stop 4] calNone_ok (by kernel_rfl) fin
  have c1 : CallOK Tryz.prog TextF [.val (.string s.name), .val (.string ⟨#[32, 47]⟩)] [] [] (.val (.bool (lettersB [32, 47] s.name.data.toList))) [] := text_w (by have := of_decide_eq_true k2; omega) (by show (2 : Nat) ≤ _; omega)
  have c2 := amount_w s.fare
  have c3 := amount_w s.pen
  rcases Bool.eq_false_or_eq_true (lettersB [32, 47] s.name.data.toList) with k3 | k3 <;> rw [k3] at c1
  case inr =>
    have hb : headB s = false := by unfold headB; rw [k1, k2, k3]; rfl
    have fin := fin false hb
    rw [hb]
    exact leaf_cut (rgK Tryz.prog RCheckF 4 []) _ _ calNone false 400 [hB 1 1 _ _ g1, hB 1 4 _ _ g2, hB 3 3 _ _ k1, hB 3 8 _ _ k2, hC 3 13 c1, .stop 4] calNone_ok (by kernel_rfl) fin
  rcases Bool.eq_false_or_eq_true (decide ((1 : Int) ≤ (s.legs.length : Int))) with k4 | k4
  case inr =>
    have hb : headB s = false := by unfold headB; rw [k1, k2, k3, k4]; rfl
    have fin := fin false hb
    rw [hb]
    exact leaf_cut (rgK Tryz.prog RCheckF 4 []) _ _ calNone false 400 [hB 1 1 _ _ g1, hB 1 4 _ _ g2, hB 3 3 _ _ k1, hB 3 8 _ _ k2, hC 3 13 c1, hB 3 19 _ _ k4, .stop 4] calNone_ok (by kernel_rfl) fin
  rcases Bool.eq_false_or_eq_true (decide ((s.legs.length : Int) ≤ 4)) with k5 | k5
  case inr =>
    have hb : headB s = false := by unfold headB; rw [k1, k2, k3, k4, k5]; rfl
    have fin := fin false hb
    rw [hb]
    exact leaf_cut (rgK Tryz.prog RCheckF 4 []) _ _ calNone false 400 [hB 1 1 _ _ g1, hB 1 4 _ _ g2, hB 3 3 _ _ k1, hB 3 8 _ _ k2, hC 3 13 c1, hB 3 19 _ _ k4, hB 3 25 _ _ k5, .stop 4] calNone_ok (by kernel_rfl) fin
  rcases Bool.eq_false_or_eq_true (amtB s.fare) with k6 | k6 <;> rw [k6] at c2
  case inr =>
    have hb : headB s = false := by unfold headB; rw [k1, k2, k3, k4, k5, k6]; rfl
    have fin := fin false hb
    rw [hb]
    exact leaf_cut (rgK Tryz.prog RCheckF 4 []) _ _ calNone false 400 [hB 1 1 _ _ g1, hB 1 4 _ _ g2, hB 3 3 _ _ k1, hB 3 8 _ _ k2, hC 3 13 c1, hB 3 19 _ _ k4, hB 3 25 _ _ k5, hC 3 30 c2, .stop 4] calNone_ok (by kernel_rfl) fin
  rcases Bool.eq_false_or_eq_true (decide ((s.taxes.length : Int) ≤ 4)) with k7 | k7
  case inr =>
    have hb : headB s = false := by unfold headB; rw [k1, k2, k3, k4, k5, k6, k7]; rfl
    have fin := fin false hb
    rw [hb]
    exact leaf_cut (rgK Tryz.prog RCheckF 4 []) _ _ calNone false 400 [hB 1 1 _ _ g1, hB 1 4 _ _ g2, hB 3 3 _ _ k1, hB 3 8 _ _ k2, hC 3 13 c1, hB 3 19 _ _ k4, hB 3 25 _ _ k5, hC 3 30 c2, hB 3 36 _ _ k7, .stop 4] calNone_ok (by kernel_rfl) fin
  have hb : headB s = amtB s.pen := by unfold headB; rw [k1, k2, k3, k4, k5, k6, k7]; rfl
  have fin := fin _ hb
  rw [hb]
  exact leaf_cut (rgK Tryz.prog RCheckF 4 []) _ _ calNone false 400 [hB 1 1 _ _ g1, hB 1 4 _ _ g2, hB 3 3 _ _ k1, hB 3 8 _ _ k2, hC 3 13 c1, hB 3 19 _ _ k4, hB 3 25 _ _ k5, hC 3 30 c2, hB 3 36 _ _ k7, hC 3 41 c3, .stop 4] calNone_ok (by kernel_rfl) fin
end Go.Proofs.YtnkghdakjdhhdaaGreat
end
section
namespace Go.Proofs.YtnkghdakjdhhdaaGreat
open Go.RowKit Go.Lib Go.Tk Go.Sort Go.Shelf
set_option maxHeartbeats 400000 in
theorem rshare_long (t : Int) (ws : List Int) (a : Option Addr) (cap : Nat) (w : World) (hl : ws.length ≤ 9223372036854775807) (h : 64 < ws.length) :
    Calls Tryz.prog 126 #[.int .i64 t, .slice a ws.length cap] w (ShareOut t ws w) := by
  have F := hid (show shareE t ws = 2 by unfold shareE; rw [if_pos h])
  have h' : (64 : Int) < (ws.length : Int) := by omega
  go_enter Tryz.func126, Tryz.ntmps126
  go_wp2
  go_ret2
  exact share_bad F.out (by decide) (Below.refl _ _)
set_option maxHeartbeats 1000000 in
theorem rshare_none (t : Int) (ws : List Int) (a : Option Addr) (cap : Nat) (w : World) (hr : Row w a (ws.map (.int .u32))) (hp : PosRow ws) (h : ws.length ≤ 64) (hbad : shareE t ws ≠ 0) :
    Calls Tryz.prog 126 #[.int .i64 t, .slice a ws.length cap] w (ShareOut t ws w) := by
  have Hr := hid hr
  have HP : Aside (PosRow ws) := hp
  have HB := hid hbad
  clear hr hp hbad
  have h' : ¬ (64 : Int) < (ws.length : Int) := by omega
  go_enter Tryz.func126, Tryz.ntmps126
  go_wp2
  go_loop [6, 7] (fun s i => ∃ (k : Nat) (x : Int), k ≤ ws.length ∧ i = .int .i64 k ∧ s = .int .i64 x ∧ Hid (x = (ws.take k).sum) ∧ 0 ≤ x ∧ x ≤ k * 4294967295) (fun _ i => ws.length - (intOf i).toNat)
  case atStart => exact ⟨0, 0, Nat.zero_le _, rfl, rfl, hid (by simp), by omega, by omega⟩
  case round =>
    obtain ⟨k, s, hk, rfl, rfl, hs, hs0, hs1⟩ := hrel
    by_cases hlt : k < ws.length
    · obtain ⟨b, off, rfl, hc⟩ := Hr.out.int k hlt
      have hx := posrow_get HP.out hlt
      generalize hxe : ws.getD k 0 = x at *
      have HX := hid hxe
      clear hxe
      go_wp2
      go_round
      case rel => exact ⟨k + 1, s + x, by omega, by go_num, rfl, hid (by rw [sum_take_succ hlt, ← hs.out, HX.out]), by omega, by omega⟩
      case measure => simp [intOf]; omega
    · obtain rfl : k = ws.length := by omega
      have hsum : s = ws.sum := by rw [hs.out, List.take_length]
      have HS := hid hsum
      clear hs hsum hk hlt
      by_cases hz : s = 0
      · subst hz
        have F := hid (show shareE t ws = 60 by unfold shareE; rw [if_neg (by omega), if_pos HS.out.symm])
        go_wp2
        go_ret2
        exact share_bad F.out (by decide) (Below.refl _ _)
      · have hz' : (s == 0) = false := by simpa using hz
        have hne : ws.sum ≠ 0 := by rw [← HS.out]; exact hz
        have F := hid (show shareE t ws = 7 by
          have hb := HB.out
          unfold shareE at hb ⊢
          rw [if_neg (by omega), if_neg hne] at hb ⊢
          split at hb
          · simp at hb
          · rename_i hn; rw [if_neg hn])
        have hm : t < 0 ∨ 0 ≤ t ∧ mayI t = false := by
          rcases Int.lt_or_le t 0 with k | k
          · exact .inl k
          · refine .inr ⟨k, ?_⟩
            cases hm : mayI t with
            | false => rfl
            | true =>
              have hb := HB.out
              unfold shareE at hb
              rw [if_neg (by omega), if_neg hne, if_pos ⟨k, (mayI_of hm).2⟩] at hb
              exact absurd rfl hb
        clear hz hne
        rcases hm with hm | ⟨hm, hm2⟩
        · have hd : decide (t < 0) = true := decide_eq_true hm
          go_wp2
          go_ret2
          exact share_bad F.out (by decide) (Below.refl _ _)
        · have hd : decide (t < 0) = false := decide_eq_false (by omega)
          go_wp2_with fail
          refine (rmay_any _ _).mono ?_
          rintro e w1 ⟨rfl, rfl⟩
          go_wp2
          go_ret2
          exact share_bad F.out (by decide) (Below.refl _ _)
def restK (t : Int) (ws : List Int) (k : Nat) : List Int := ws.zipIdx.map fun x => if chosen (restsL t ws.sum ws) k x.2 then -1 else rs t ws.sum x.1
theorem restK_len (t : Int) (ws : List Int) (k : Nat) : (restK t ws k).length = ws.length := by simp [restK]
theorem restK_get (t : Int) (ws : List Int) (k i : Nat) (h : i < ws.length) : (restK t ws k).getD i 0 = if chosen (restsL t ws.sum ws) k i then -1 else rs t ws.sum (ws.getD i 0) := by
  unfold restK; rw [getD_zipIdx_map _ _ _ _ h]
theorem restK_zero (t : Int) (ws : List Int) : restK t ws 0 = ws.map (rs t ws.sum) := by
  unfold restK
  have : ∀ i, chosen (restsL t ws.sum ws) 0 i = false := fun i => by simp [chosen]
  simp only [this]
  refine List.ext_getElem (by simp) fun i h1 h2 => by simp
def headAt (t : Int) (ws : List Int) (k : Nat) : Nat := ((sortL (restsL t ws.sum ws)).getD k (0, 0)).2
theorem headAt_lt {t : Int} {ws : List Int} {k : Nat} (h : k < ws.length) : headAt t ws k < ws.length := by
  have hk' : k < (sortL (restsL t ws.sum ws)).length := by rw [sort_len]; exact h
  have e : (sortL (restsL t ws.sum ws)).getD k (0, 0) = (sortL (restsL t ws.sum ws))[k] := by simp [List.getD_eq_getElem?_getD, hk']
  unfold headAt
  rw [e]; exact (mem_rests (List.getElem_mem hk')).1
theorem restK_succ {t : Int} {ws : List Int} {k : Nat} (h : k < ws.length) : restK t ws (k + 1) = (restK t ws k).set (headAt t ws k) (-1) := by
  refine List.ext_getElem (by simp [restK]) fun i h1 h2 => ?_
  have hi : i < ws.length := by simpa [restK] using h1
  have hs := chosen_succ (t := t) (all := ws.sum) (i := i) h
  have hq := headAt_lt (t := t) h
  have g1 := restK_get t ws (k + 1) i hi
  have g2 := restK_get t ws k i hi
  have e1 : ∀ (l : List Int) (j : Nat) (hj : j < l.length), l[j] = l.getD j 0 := fun l j hj => by simp [List.getD_eq_getElem?_getD, hj]
  rw [List.getElem_set, e1 _ _ h1, g1, hs]
  unfold headAt
  by_cases hq : ((sortL (restsL t ws.sum ws)).getD k (0, 0)).2 = i
  · rw [if_pos hq, hq]; simp
  · rw [if_neg hq, e1 _ _ (by rw [restK_len]; exact hi), g2]
    have : (((sortL (restsL t ws.sum ws)).getD k (0, 0)).2 == i) = false := by simpa using hq
    rw [this, Bool.or_false]
def Best (t : Int) (ws : List Int) (k i : Nat) (b : Int) : Prop :=
  (b = -1 ∧ ∀ j, j < i → chosen (restsL t ws.sum ws) k j = true) ∨
  ∃ q : Nat, b = q ∧ q < i ∧ chosen (restsL t ws.sum ws) k q = false ∧ ∀ j, j < i → chosen (restsL t ws.sum ws) k j = false → j ≠ q → lt2 (rs t ws.sum (ws.getD q 0), q) (rs t ws.sum (ws.getD j 0), j)
theorem best_skip {t : Int} {ws : List Int} {k i : Nat} {b : Int} (h : Best t ws k i b) (hc : chosen (restsL t ws.sum ws) k i = true) : Best t ws k (i + 1) b := by
  rcases h with ⟨rfl, h⟩ | ⟨q, rfl, hq, hcq, h⟩
  · refine .inl ⟨rfl, fun j hj => ?_⟩
    rcases Nat.lt_or_eq_of_le (Nat.lt_succ_iff.1 hj) with h1 | h1
    · exact h j h1
    · rw [h1]; exact hc
  · refine .inr ⟨q, rfl, by omega, hcq, fun j hj hcj hne => ?_⟩
    rcases Nat.lt_or_eq_of_le (Nat.lt_succ_iff.1 hj) with h1 | h1
    · exact h j h1 hcj hne
    · rw [h1, hc] at hcj; cases hcj
theorem best_first {t : Int} {ws : List Int} {k i : Nat} (h : Best t ws k i (-1)) (hc : chosen (restsL t ws.sum ws) k i = false) : Best t ws k (i + 1) i := by
  rcases h with ⟨_, h⟩ | ⟨q, hq, _⟩
  · refine .inr ⟨i, rfl, by omega, hc, fun j hj hcj hne => ?_⟩
    have := h j (by omega)
    rw [this] at hcj; cases hcj
  · omega
theorem best_more {t : Int} {ws : List Int} {k i q : Nat} (h : Best t ws k i q) (hc : chosen (restsL t ws.sum ws) k i = false) (hgt : rs t ws.sum (ws.getD q 0) < rs t ws.sum (ws.getD i 0)) : Best t ws k (i + 1) i := by
  rcases h with ⟨h, _⟩ | ⟨q', hq, hqi, hcq, h⟩
  · omega
  · have : q' = q := by omega
    subst this
    refine .inr ⟨i, rfl, by omega, hc, fun j hj hcj hne => ?_⟩
    by_cases hjq : j = q'
    · subst hjq; unfold lt2; dsimp only; omega
    · have := h j (by omega) hcj hjq
      unfold lt2 at this ⊢; dsimp only at this ⊢; omega
theorem best_less {t : Int} {ws : List Int} {k i q : Nat} (h : Best t ws k i q) (hle : rs t ws.sum (ws.getD i 0) ≤ rs t ws.sum (ws.getD q 0)) : Best t ws k (i + 1) q := by
  rcases h with ⟨h, _⟩ | ⟨q', hq, hqi, hcq, h⟩
  · omega
  · have : q' = q := by omega
    subst this
    refine .inr ⟨q', rfl, by omega, hcq, fun j hj hcj hne => ?_⟩
    by_cases hji : j = i
    · subst hji; unfold lt2; dsimp only; omega
    · exact h j (by omega) hcj hne
theorem best_head {t : Int} {ws : List Int} {k : Nat} {b : Int} (hk : k < ws.length) (h : Best t ws k ws.length b) : b = headAt t ws k := by
  have hq := headAt_lt (t := t) hk
  have hn := not_chosen_at (t := t) (all := ws.sum) hk
  have hk' : k < (sortL (restsL t ws.sum ws)).length := by rw [sort_len]; exact hk
  have e : (sortL (restsL t ws.sum ws)).getD k (0, 0) = (sortL (restsL t ws.sum ws))[k] := by simp [List.getD_eq_getElem?_getD, hk']
  rcases h with ⟨_, h⟩ | ⟨q, rfl, hqi, hcq, h⟩
  · have := h _ hq
    unfold headAt at this; rw [hn] at this; cases this
  · by_cases hne : headAt t ws k = q
    · rw [hne]
    · exfalso
      have h1 := h _ hq (by unfold headAt; exact hn) hne
      have hm := rests_mem (t := t) (all := ws.sum) hqi
      obtain ⟨m1, m2⟩ := mem_rests (List.getElem_mem hk')
      have hS := rests_sorted t ws.sum ws
      rw [← List.take_append_drop k (sortL (restsL t ws.sum ws))] at hm hS
      rcases List.mem_append.1 hm with hm | hm
      · have := chosen_iff.2 hm
        rw [this] at hcq; cases hcq
      · rw [List.drop_eq_getElem_cons hk'] at hm hS
        have hd := List.pairwise_cons.1 (List.pairwise_append.1 hS).2.1
        have hx : (sortL (restsL t ws.sum ws))[k] = (rs t ws.sum (ws.getD (headAt t ws k) 0), headAt t ws k) := by
          unfold headAt; rw [e]; exact Prod.ext m2 rfl
        rcases List.mem_cons.1 hm with hm | hm
        · rw [hx] at hm
          exact hne (congrArg Prod.snd hm).symm
        · have := hd.1 _ hm
          rw [hx] at this
          exact lt2_asymm h1 this
end Go.Proofs.YtnkghdakjdhhdaaGreat
end
