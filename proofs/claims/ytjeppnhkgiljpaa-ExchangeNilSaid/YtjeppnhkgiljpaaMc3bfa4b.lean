/- Lw16, Lw16b. -/
import Derived.Test.YtjeppnhkgiljpaaHo4
import Derived.Test.YtjeppnhkgiljpaaSxQ
section
namespace Go.Proofs.Ytjeppnhkgiljpaa
set_option maxRecDepth 100000
open Go.RowKit Go.Lib Go.Tk Go.Shelf Go.Vc Go.Sx
set_option linter.unusedVariables false
set_option linter.unusedSimpArgs false

def legsS : List Leg → List SV
  | [] => []
  | x :: l => legS' x ++ legsS l
def taxesS : List Tax → List SV
  | [] => []
  | x :: l => taxS' x ++ taxesS l
theorem legs_dens (ε : Env) : ∀ l : List Leg, SV.dens ε (legsS l) = cellsL encLeg l
  | [] => rfl
  | x :: l => by
    unfold legsS
    rw [dens_append, legs_dens ε l]; rfl
theorem taxes_dens (ε : Env) : ∀ l : List Tax, SV.dens ε (taxesS l) = cellsL encTax l
  | [] => rfl
  | x :: l => by
    unfold taxesS
    rw [dens_append, taxes_dens ε l]; rfl
def legD (n : Nat) (l : List Leg) : SC := .row 47 3 n (.deep (legsS l)) []
def taxD (n : Nat) (l : List Tax) : SC := .row 126 2 n (.deep (taxesS l)) []
def noTen : Nat → Nat → Bool := fun s k => !(Nat.beq s 0 && (Nat.beq k 9))
theorem row_sl {E size : Nat} {w : World} {v : Value} {n : Nat} {xs : List Value} (h : RowF E size w v n xs) : ∃ a c, v = .slice a n c ∧ SlOk a n c := by
  obtain ⟨-, ⟨h1, h2⟩ | ⟨g, cap, cur, h1, -⟩⟩ := h
  · exact ⟨none, 0, by rw [h1, h2], ⟨fun _ => ⟨h2, rfl⟩⟩⟩
  · exact ⟨_, cap, h1, ⟨fun e => by cases e⟩⟩
/-- two lists that lie in rows of one's own, where a contract asks for slices of something that is only read -/
theorem raw2 {f : Nat} {args : SV → SV → List SV} {pre post : Heap} {ret : SV} {s : SaleV} (hargs : ∀ ε ε' x y x' y', SV.den ε x = SV.den ε' x' → SV.den ε y = SV.den ε' y' → (∀ s k, noTen s k = true → ε s k = ε' s k) → SV.dens ε (args x y) = SV.dens ε' (args x' y'))
    (h : ∀ (F : CF) (A : SaleA), (∀ b v, Rd (F b v) A.la (cellsL encLeg s.legs)) → (∀ b v, Rd (F b v) A.ta (cellsL encTax s.taxes)) → SlOk A.la s.legs.length A.lc → SlOk A.ta s.taxes.length A.tc →
      CallOK Try.prog f (args (.val (.slice A.la s.legs.length A.lc)) (.val (.slice A.ta s.taxes.length A.tc))) [((0, 9), .fam F)] pre ret post)
    (h1 : hok noTen pre = true) (h2 : ret.ok noTen = true) (h3 : hok noTen post = true) :
    CallOK Try.prog f (args (.raw 0 10) (.raw 0 11)) [((0, 10), legD s.legs.length s.legs), ((0, 11), taxD s.taxes.length s.taxes)] pre ret post := by
  intro ε R w hM
  have hM : Mem (rowC 47 3 (asSl (ε 0 10).2) s.legs.length (SV.dens ε (legsS s.legs)) :: rowC 126 2 (asSl (ε 0 11).2) s.taxes.length (SV.dens ε (taxesS s.taxes)) :: (hden ε pre ++ R)) w := hM
  rw [legs_dens, taxes_dens] at hM
  obtain ⟨la, lc, hvl, okl⟩ := row_sl (hM.owns 0 rfl)
  obtain ⟨ta, tc, hvt, okt⟩ := row_sl (hM.owns 1 rfl)
  rw [hvl, hvt] at hM
  have hc := h (fun _ _ => allC [rowC 47 3 (.slice la s.legs.length lc) s.legs.length (cellsL encLeg s.legs), rowC 126 2 (.slice ta s.taxes.length tc) s.taxes.length (cellsL encTax s.taxes)]) ⟨la, lc, ta, tc⟩
    (fun b v S w hS => by obtain ⟨F, f1, f2, f3⟩ := hS; exact rd_row _ _ (f2 0 _ rfl)) (fun b v S w hS => by obtain ⟨F, f1, f2, f3⟩ := hS; exact rd_row _ _ (f2 1 _ rfl)) okl okt
  have key : ∀ s k, noTen s k = true → ε s k = eset ε 0 (fun k => bif Nat.beq k 9 then (0, undef) else ε 0 k) s k := fun s k hs => by
    by_cases h0 : s = 0
    · subst h0
      rw [eset_at]
      cases hb : Nat.beq k 9 with
      | false => rfl
      | true => unfold noTen at hs; rw [hb] at hs; cases hs
    · rw [eset_ne h0]
  have hA : SV.dens ε (args (.raw 0 10) (.raw 0 11)) = SV.dens (eset ε 0 fun k => bif Nat.beq k 9 then (0, undef) else ε 0 k) (args (.val (.slice la s.legs.length lc)) (.val (.slice ta s.taxes.length tc))) :=
    hargs _ _ _ _ _ _ (by simp only [SV.den]; exact hvl) (by simp only [SV.den]; exact hvt) key
  rw [hA]
  have hM2 := Mem.in_all (l := [rowC 47 3 (.slice la s.legs.length lc) s.legs.length (cellsL encLeg s.legs), rowC 126 2 (.slice ta s.taxes.length tc) s.taxes.length (cellsL encTax s.taxes)]) hM
  rw [hden_congr key h1] at hM2
  refine (hc _ R w hM2).mono ?_
  rintro e w' ⟨x, rfl, hm⟩
  have key' : ∀ s k, noTen s k = true → eset ε 1 x s k = eset (eset ε 0 fun k => bif Nat.beq k 9 then (0, undef) else ε 0 k) 1 x s k := fun s k hs => by
    by_cases h0 : s = 1
    · subst h0; rw [eset_at, eset_at]
    · rw [eset_ne h0, eset_ne h0]; exact key s k hs
  refine ⟨x, by rw [SV.den_congr key' ret h2], ?_⟩
  have hm : Mem (allC [rowC 47 3 (.slice la s.legs.length lc) s.legs.length (cellsL encLeg s.legs), rowC 126 2 (.slice ta s.taxes.length tc) s.taxes.length (cellsL encTax s.taxes)] :: (hden (eset (eset ε 0 fun k => bif Nat.beq k 9 then (0, undef) else ε 0 k) 1 x) post ++ R)) w' := hm
  rw [← hden_congr key' h3] at hm
  have hm := hm.all
  show Mem ((legD s.legs.length s.legs).den (eset ε 1 x) 0 10 :: (taxD s.taxes.length s.taxes).den (eset ε 1 x) 0 11 :: (hden (eset ε 1 x) post ++ R)) w'
  simp only [legD, taxD, SC.den, SL.den, legs_dens, taxes_dens]
  rw [eset_ne (show (0 : Nat) ≠ 1 by decide), hvl, hvt]
  exact hm
theorem issue_args (s : SaleV) : ∀ ε ε' x y x' y', SV.den ε x = SV.den ε' x' → SV.den ε y = SV.den ε' y' → (∀ s k, noTen s k = true → ε s k = ε' s k) → SV.dens ε [.ptr 0 0 0, .agg (salS s x y)] = SV.dens ε' [.ptr 0 0 0, .agg (salS s x' y')] := fun ε ε' x y x' y' h1 h2 h3 => by
  simp only [SV.dens, SV.den, salS, h1, h2, h3 0 0 rfl]
theorem issue_okR {B : BookV} (hb : BookOk B) {s : SaleV} (ok : SaleOk s) (hm : B.issE s = 0) :
    CallOK Try.prog IssueF [.ptr 0 0 0, .agg (salS s (.raw 0 10) (.raw 0 11))] [((0, 10), legD s.legs.length s.legs), ((0, 11), taxD s.taxes.length s.taxes)] (bkC B) (.tup [.agg (docS (docMade B.nextT s) (.raw 1 0) (.raw 1 1) (.raw 1 2)), eN 0]) (bkC (B.issued s) ++ docR (docMade B.nextT s)) :=
  raw2 (args := fun x y => [.ptr 0 0 0, .agg (salS s x y)]) (issue_args s) (fun F A hl ht h1 h2 => issue_okC F hb ok hl ht h1 h2 hm) rfl rfl rfl
/-! ### what is known -/
def sale16 : SaleV := ⟨⟨#[68, 79, 69, 47, 74]⟩, [⟨0, 0, 1⟩, ⟨1, 0, 1⟩], 101, [], 20⟩
def sale16b : SaleV := ⟨⟨#[68, 79, 69, 47, 74]⟩, [⟨0, 0, 1⟩, ⟨1, 0, 1⟩, ⟨1, 0, 2⟩, ⟨0, 0, 3⟩], 101, [], 20⟩
theorem sale16_ok : SaleOk sale16 where
  name := by unfold maxLen; decide
  legs := by intro l hl; simp [sale16] at hl; rcases hl with rfl | rfl <;> (unfold LegOk; decide)
  taxes := by intro t ht; cases ht
  fare := by decide
  pen := by decide
  nl := by decide
  nt := by decide
theorem sale16b_ok : SaleOk sale16b where
  name := by unfold maxLen; decide
  legs := by intro l hl; simp [sale16b] at hl; rcases hl with rfl | rfl | rfl | rfl <;> (unfold LegOk; decide)
  taxes := by intro t ht; cases ht
  fare := by decide
  pen := by decide
  nl := by decide
  nt := by decide
def KnownF : Nat := 20
theorem known16_w : CallOK Try.prog KnownF [] [] [] (.agg (salS sale16 (.raw 1 0) nilS)) [((1, 0), legD 2 sale16.legs)] := callOK_run 400 [] (by kernel_rfl) (by kernel_rfl)
theorem book_new_ok (self n : Int) (h : 0 ≤ self ∧ self < n ∧ 2 ≤ n ∧ n ≤ 8) : BookOk (bookNew self n) := ⟨⟨h.1, h.2.1⟩, ⟨h.2.2.1, h.2.2.2⟩, fun i d hd => by simp [bookNew] at hd, by simp [bookNew]⟩
theorem iss16 : (bookNew 0 3).issE sale16 = 0 := by kernel_rfl
theorem iss16b : (bookNew 0 2).issE sale16b = 0 := by kernel_rfl
end Go.Proofs.Ytjeppnhkgiljpaa
end
section
namespace Go.Proofs.Ytjeppnhkgiljpaa
set_option maxRecDepth 100000
open Go.RowKit Go.Lib Go.Tk Go.Shelf Go.Vc Go.Sx
set_option linter.unusedVariables false
set_option linter.unusedSimpArgs false

def ControlsF : Nat := 22
def kidE (x k : Kid) : Bool := (decide (x.t.c = k.t.c) && (decide (x.t.r = k.t.r) && true)) && (decide (x.i = k.i) && true)
theorem kidE_iff (x k : Kid) : kidE x k = decide (x = k) := by
  obtain ⟨⟨a, b⟩, c⟩ := x
  obtain ⟨⟨d, e⟩, f⟩ := k
  unfold kidE
  simp only [Bool.and_true]
  rw [Bool.eq_iff_iff]
  simp [and_assoc]
def okM (kind : Int) (k : Kid) (n : Int) (m : MsV) : Bool := decide (m.kind = kind) && (kidE m.key k && decide (m.k.n = n))
def cntM (kind : Int) (k : Kid) (n : Int) (l : List MsV) : Nat → Nat
  | 0 => 0
  | i + 1 => cntM kind k n l i + bif okM kind k n (l.getD i ⟨0, kid0, cpn0, 0, 0⟩) then 1 else 0
theorem cntM_le (kind : Int) (k : Kid) (n : Int) (l : List MsV) : ∀ i, cntM kind k n l i ≤ i
  | 0 => Nat.le_refl _
  | i + 1 => by
    have := cntM_le kind k n l i
    unfold cntM
    cases okM kind k n (l.getD i ⟨0, kid0, cpn0, 0, 0⟩) <;> simp <;> omega
def ctl0 (a : BookV) (k : Kid) : Nat := bif (lkt a.owns k).isSome && !((lkt a.owns k).getD own0).away then 1 else 0
def ctl1 (b : BookV) (k : Kid) : Nat := bif (lkt b.helds k).isSome && ((lkt b.helds k).getD held0).here then 1 else 0
def controlsN (a b : BookV) (k : Kid) (down up : List MsV) : Nat :=
  ctl0 a k + ctl1 b k + cntM 2 k ((lkt a.owns k).getD own0).k.n down down.length + cntM 5 k ((lkt a.owns k).getD own0).k.n up up.length
def MT : TypeId := 52
def msQ (l : List MsV) : CF := qF MT 12 msL l
theorem msL_len (m : MsV) : (msL m).length = 12 := rfl
theorem ms_nth {l : List MsV} {i : Nat} (h : i < l.length) (d : MsV) : ∀ (ε : Env) (q : Nat) (v : SV), (msS (l.getD i d))[q]? = some v → (cellsL msL l)[i * 12 + q]? = some (v.den ε) := cells_nth (fun _ _ => rfl) msL_len (getD_some h d)
theorem controls_w (a b : BookV) {k : Kid} (hk : KidOk k) (down up : List MsV) (hd : down.length ≤ 1000000) (hu : up.length ≤ 1000000) :
    CallOK Try.prog ControlsF [.ptr 0 0 0, .ptr 0 1 0, .agg (kidS k), .any 0 2, .any 0 3] [((0, 0), .fam (bookF a)), ((0, 1), .fam (bookF b)), ((0, 2), .fam (msQ down)), ((0, 3), .fam (msQ up))] [] (.val (.int .i64 (controlsN a b k down up : Int))) [] := by
  have c1 := own_c a hk
  have c2 := held_c b hk
  have ql1 := q_len (P := Try.prog) (E := MT) (size := 12) (enc := msL) down
  have ql2 := q_len (P := Try.prog) (E := MT) (size := 12) (enc := msL) up
  refine callOK_intro (by kernel_rfl) fun eb R => ?_
  have fin : Go Try.prog ControlsF (.val (.int .i64 (controlsN a b k down up : Int))) ([((0, 0), .fam (bookF a)), ((0, 1), .fam (bookF b)), ((0, 2), .fam (msQ down)), ((0, 3), .fam (msQ up))] ++ []) eb R .nrm (rgK Try.prog ControlsF 8 []) [(3, .any 0 2), (4, .any 0 3), (7, .ptr 1 0 0), (11, .val (.int .i64 ((ctl0 a k + ctl1 b k : Nat) : Int))), (12, .ptr 1 1 0)]
      [((0, 0), .fam (bookF a)), ((0, 1), .fam (bookF b)), ((0, 2), .fam (msQ down)), ((0, 3), .fam (msQ up)), ((1, 0), .box none (kidS k)), ((1, 1), .box none (ownS ((lkt a.owns k).getD own0)))] := by
    have hb0 : ctl0 a k + ctl1 b k ≤ 2 := by unfold ctl0 ctl1; cases ((lkt a.owns k).isSome && !((lkt a.owns k).getD own0).away) <;> cases ((lkt b.helds k).isSome && ((lkt b.helds k).getD held0).here) <;> decide
    generalize hn : ((lkt a.owns k).getD own0) = o
    have hcN : controlsN a b k down up = ctl0 a k + ctl1 b k + cntM 2 k o.k.n down down.length + cntM 5 k o.k.n up up.length := by unfold controlsN; rw [hn]
    rw [hcN]
    refine go_loop (X := { i : Nat // i ≤ down.length }) 0 [] (fun x => ([(3, .any 0 2), (4, .any 0 3), (7, .ptr 1 0 0), (11, .val (.int .i64 ((ctl0 a k + ctl1 b k + cntM 2 k o.k.n down x.1 : Nat) : Int))), (12, .ptr 1 1 0), (16, .val (.int .i64 (x.1 : Int)))],
      [((0, 0), .fam (bookF a)), ((0, 1), .fam (bookF b)), ((0, 2), .fam (msQ down)), ((0, 3), .fam (msQ up)), ((1, 0), .box none (kidS k)), ((1, 1), .box none (ownS o))]))
      (fun x => down.length - x.1) ⟨0, Nat.zero_le _⟩ calNone false 400 [] calNone_ok (by kernel_rfl) ?_
    rintro ⟨i, hi⟩ J hJ
    by_cases h : i < down.length
    · have q1 : decide ((i : Int) < (down.length : Int)) = true := decide_eq_true (by omega)
      have q2 := q_idx (P := Try.prog) (t := 70) (i := i) (k := .i64) (E := MT) (size := 12) (enc := msL) down msL_len (by decide) (by kernel_rfl) h
      have f1 := q_load (P := Try.prog) (t := 5) (b := i * 12) (j := 0) (cs := msS (down.getD i ⟨0, kid0, cpn0, 0, 0⟩)) (u := .val (.int .u8 (down.getD i ⟨0, kid0, cpn0, 0, 0⟩).kind)) (E := MT) (size := 12) (enc := msL) down (by kernel_rfl) (ms_nth h _)
      have f2 := q_load (P := Try.prog) (t := 43) (b := i * 12) (j := 1) (cs := msS (down.getD i ⟨0, kid0, cpn0, 0, 0⟩)) (u := .agg (kidS (down.getD i ⟨0, kid0, cpn0, 0, 0⟩).key)) (E := MT) (size := 12) (enc := msL) down (by kernel_rfl) (ms_nth h _)
      have f3 := q_load (P := Try.prog) (t := 45) (b := i * 12) (j := 9) (cs := msS (down.getD i ⟨0, kid0, cpn0, 0, 0⟩)) (u := .val (.int .u32 (down.getD i ⟨0, kid0, cpn0, 0, 0⟩).k.n)) (E := MT) (size := 12) (enc := msL) down (by kernel_rfl) (ms_nth h _)
      have hle := cntM_le 2 k o.k.n down i
      have q4 : IntKind.i64.wrap ((i : Int) + 1) = ((i + 1 : Nat) : Int) := by rw [wr_i64 (by omega)]; omega
      have q5 : IntKind.i64.wrap (((ctl0 a k + ctl1 b k + cntM 2 k o.k.n down i : Nat) : Int) + 1) = ((ctl0 a k + ctl1 b k + (cntM 2 k o.k.n down i + 1) : Nat) : Int) := by rw [wr_i64 (by omega)]; omega
      have hJ' := hJ ⟨i + 1, h⟩ (by show _ - (i + 1) < _ - i; omega)
      generalize hm : down.getD i ⟨0, kid0, cpn0, 0, 0⟩ = m at f1 f2 f3
      have hc : cntM 2 k o.k.n down (i + 1) = cntM 2 k o.k.n down i + bif okM 2 k o.k.n m then 1 else 0 := by
        show cntM 2 k o.k.n down i + (bif okM 2 k o.k.n (down.getD i ⟨0, kid0, cpn0, 0, 0⟩) then 1 else 0) = _
        rw [hm]
      simp only [hc] at hJ'
      unfold okM at hJ'
      rcases Bool.eq_false_or_eq_true (decide (m.kind = 2)) with e1 | e1 <;> rcases Bool.eq_false_or_eq_true (kidE m.key k) with e2 | e2 <;> rcases Bool.eq_false_or_eq_true (decide (m.k.n = o.k.n)) with e3 | e3 <;> rw [e1, e2, e3] at hJ' <;> exact leaf_round (lpK Try.prog ControlsF 0 []) false 400 [hG 9 2 ql1, hB 9 3 _ _ q1, hG 11 2 q2, hG 11 4 f1, hB 11 5 _ _ e1, hG 11 9 q2, hG 11 11 f2, hB 11 13 _ _ e2, hG 11 18 q2, hG 11 21 f3, hB 11 25 _ _ e3, hI 12 1 IntKind.i64 _ _ q5, hI 10 1 IntKind.i64 _ _ q4] hJ' (by kernel_rfl)
    have he : i = down.length := by omega
    subst he
    have q1 : decide ((down.length : Int) < (down.length : Int)) = false := decide_eq_false (by omega)
    have hdl := cntM_le 2 k o.k.n down down.length
    refine go_loop (X := { i : Nat // i ≤ up.length }) 1 [] (fun x => ([(4, .any 0 3), (7, .ptr 1 0 0), (11, .val (.int .i64 ((ctl0 a k + ctl1 b k + cntM 2 k o.k.n down down.length + cntM 5 k o.k.n up x.1 : Nat) : Int))), (12, .ptr 1 1 0), (17, .val (.int .i64 (x.1 : Int)))],
      [((0, 0), .fam (bookF a)), ((0, 1), .fam (bookF b)), ((0, 2), .fam (msQ down)), ((0, 3), .fam (msQ up)), ((1, 0), .box none (kidS k)), ((1, 1), .box none (ownS o))]))
      (fun x => up.length - x.1) ⟨0, Nat.zero_le _⟩ calNone false 400 [hG 9 2 ql1, hB 9 3 _ _ q1] calNone_ok (by kernel_rfl) ?_
    rintro ⟨i, hi⟩ J hJ
    by_cases h : i < up.length
    · have q1 : decide ((i : Int) < (up.length : Int)) = true := decide_eq_true (by omega)
      have q2 := q_idx (P := Try.prog) (t := 70) (i := i) (k := .i64) (E := MT) (size := 12) (enc := msL) up msL_len (by decide) (by kernel_rfl) h
      have f1 := q_load (P := Try.prog) (t := 5) (b := i * 12) (j := 0) (cs := msS (up.getD i ⟨0, kid0, cpn0, 0, 0⟩)) (u := .val (.int .u8 (up.getD i ⟨0, kid0, cpn0, 0, 0⟩).kind)) (E := MT) (size := 12) (enc := msL) up (by kernel_rfl) (ms_nth h _)
      have f2 := q_load (P := Try.prog) (t := 43) (b := i * 12) (j := 1) (cs := msS (up.getD i ⟨0, kid0, cpn0, 0, 0⟩)) (u := .agg (kidS (up.getD i ⟨0, kid0, cpn0, 0, 0⟩).key)) (E := MT) (size := 12) (enc := msL) up (by kernel_rfl) (ms_nth h _)
      have f3 := q_load (P := Try.prog) (t := 45) (b := i * 12) (j := 9) (cs := msS (up.getD i ⟨0, kid0, cpn0, 0, 0⟩)) (u := .val (.int .u32 (up.getD i ⟨0, kid0, cpn0, 0, 0⟩).k.n)) (E := MT) (size := 12) (enc := msL) up (by kernel_rfl) (ms_nth h _)
      have hle := cntM_le 5 k o.k.n up i
      have q4 : IntKind.i64.wrap ((i : Int) + 1) = ((i + 1 : Nat) : Int) := by rw [wr_i64 (by omega)]; omega
      have q5 : IntKind.i64.wrap (((ctl0 a k + ctl1 b k + cntM 2 k o.k.n down down.length + cntM 5 k o.k.n up i : Nat) : Int) + 1) = ((ctl0 a k + ctl1 b k + cntM 2 k o.k.n down down.length + (cntM 5 k o.k.n up i + 1) : Nat) : Int) := by rw [wr_i64 (by omega)]; omega
      have hJ' := hJ ⟨i + 1, h⟩ (by show _ - (i + 1) < _ - i; omega)
      generalize hm : up.getD i ⟨0, kid0, cpn0, 0, 0⟩ = m at f1 f2 f3
      have hc : cntM 5 k o.k.n up (i + 1) = cntM 5 k o.k.n up i + bif okM 5 k o.k.n m then 1 else 0 := by
        show cntM 5 k o.k.n up i + (bif okM 5 k o.k.n (up.getD i ⟨0, kid0, cpn0, 0, 0⟩) then 1 else 0) = _
        rw [hm]
      simp only [hc] at hJ'
      unfold okM at hJ'
      rcases Bool.eq_false_or_eq_true (decide (m.kind = 5)) with e1 | e1 <;> rcases Bool.eq_false_or_eq_true (kidE m.key k) with e2 | e2 <;> rcases Bool.eq_false_or_eq_true (decide (m.k.n = o.k.n)) with e3 | e3 <;> rw [e1, e2, e3] at hJ' <;> exact leaf_round (lpK Try.prog ControlsF 1 []) false 400 [hG 14 2 ql2, hB 14 3 _ _ q1, hG 16 2 q2, hG 16 4 f1, hB 16 5 _ _ e1, hG 16 9 q2, hG 16 11 f2, hB 16 13 _ _ e2, hG 16 18 q2, hG 16 21 f3, hB 16 25 _ _ e3, hI 17 1 IntKind.i64 _ _ q5, hI 15 1 IntKind.i64 _ _ q4] hJ' (by kernel_rfl)
    have he : i = up.length := by omega
    subst he
    have q1 : decide ((up.length : Int) < (up.length : Int)) = false := decide_eq_false (by omega)
    exact leaf_end calNone false 400 [hG 14 2 ql2, hB 14 3 _ _ q1] calNone_ok (by kernel_rfl)
  unfold ctl0 ctl1 at fin
  cases ha : lkt a.owns k with
  | none =>
    rw [ha] at c1 fin
    cases hb : lkt b.helds k with
    | none => rw [hb] at c2 fin; exact leaf_cut (rgK Try.prog ControlsF 8 []) _ _ calNone false 400 [hC 2 2 c1, hC 5 2 c2, .stop 8] calNone_ok (by kernel_rfl) fin
    | some y => rw [hb] at c2 fin; rcases Bool.eq_false_or_eq_true y.here with e2 | e2 <;> simp only [Option.getD_some, e2] at fin <;> exact leaf_cut (rgK Try.prog ControlsF 8 []) _ _ calNone false 400 [hC 2 2 c1, hC 5 2 c2, hB 6 4 _ _ e2, .stop 8] calNone_ok (by kernel_rfl) fin
  | some x =>
    rw [ha] at c1 fin
    cases hb : lkt b.helds k with
    | none => rw [hb] at c2 fin; rcases Bool.eq_false_or_eq_true x.away with e1 | e1 <;> simp only [Option.getD_some, e1] at fin <;> exact leaf_cut (rgK Try.prog ControlsF 8 []) _ _ calNone false 400 [hC 2 2 c1, hB 3 4 _ _ e1, hC 5 2 c2, .stop 8] calNone_ok (by kernel_rfl) fin
    | some y => rw [hb] at c2 fin; rcases Bool.eq_false_or_eq_true x.away with e1 | e1 <;> rcases Bool.eq_false_or_eq_true y.here with e2 | e2 <;> simp only [Option.getD_some, e1, e2] at fin <;> exact leaf_cut (rgK Try.prog ControlsF 8 []) _ _ calNone false 400 [hC 2 2 c1, hB 3 4 _ _ e1, hC 5 2 c2, hB 6 4 _ _ e2, .stop 8] calNone_ok (by kernel_rfl) fin
end Go.Proofs.Ytjeppnhkgiljpaa
end
