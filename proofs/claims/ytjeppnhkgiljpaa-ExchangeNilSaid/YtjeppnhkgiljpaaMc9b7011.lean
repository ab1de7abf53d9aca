/- Ex8, Vals, Ex9, Open, Open17. -/
import Derived.Test.YtjeppnhkgiljpaaM394e650
import Derived.Test.YtjeppnhkgiljpaaM8f8f08d
import Derived.Test.YtjeppnhkgiljpaaMc3bfa4b
import Derived.Test.YtjeppnhkgiljpaaMf8d58ad
import Derived.WideShapes
import Derived.Lib.SmallJoins
import Derived.SizedLaws
section
namespace Go.Proofs.Ytjeppnhkgiljpaa
set_option maxRecDepth 100000
open Go.RowKit Go.Lib Go.Tk Go.Shelf Go.Vc Go.Sx
set_option linter.unusedVariables false
set_option linter.unusedSimpArgs false

/-! ### no book -/
theorem foundD_nil (t : Tid) : CallOK Try.prog FoundD [nilP, .fn (.func BdocsF) [] [], .agg (tidS t)] [] [] (.tup [.agg (docS doc0 nilS nilS nilS), eN 8]) [] := callOK_run 400 [] (by kernel_rfl) (by kernel_rfl)
theorem doc_nil (t : Tid) : CallOK Try.prog DocF [nilP, .agg (tidS t)] [] [] (.tup [.agg (docS doc0 nilS nilS nilS), eN 8]) [] := by
  have c1 := foundD_nil t
  have c2 := copied_nil
  exact callOK_run 400 [hC 1 2 c1, hC 2 1 c2] (by kernel_rfl) (by kernel_rfl)
theorem issue_nil (x y : SV) (s : SaleV) (F : CF) (A : SaleA) : CallOK Try.prog IssueF [nilP, .agg (salS s (.val (.slice A.la s.legs.length A.lc)) (.val (.slice A.ta s.taxes.length A.tc)))] [] [] (.tup [.agg (docS doc0 nilS nilS nilS), eN 8]) [] := callOK_run 400 [] (by kernel_rfl) (by kernel_rfl)
def failS : SV := .tup [.agg (repS 8 tid0 0 nilS), eN 8]
theorem display_nil (t : Tid) : CallOK Try.prog DisplayF [nilP, .agg (tidS t)] [] [] failS [] := by
  have c1 := doc_nil t
  have c2 := failed_w 8
  exact callOK_run 400 [hC 1 2 c1, hC 3 1 c2] (by kernel_rfl) (by kernel_rfl)
theorem void_nil (t : Tid) : CallOK Try.prog VoidF [nilP, .agg (tidS t)] [] [] failS [] := by
  have c1 := doc_nil t
  have c2 := failed_w 8
  exact callOK_run 400 [hC 1 2 c1, hC 3 1 c2] (by kernel_rfl) (by kernel_rfl)
theorem refund_nil (t : Tid) : CallOK Try.prog RefundF [nilP, .agg (tidS t)] [] [] failS [] := by
  have c1 := doc_nil t
  have c2 := failed_w 8
  exact callOK_run 400 [hC 1 2 c1, hC 3 1 c2] (by kernel_rfl) (by kernel_rfl)
theorem exchange_nil (t : Tid) (s : SaleV) (A : SaleA) : CallOK Try.prog ExchangeF [nilP, .agg (tidS t), .agg (salS s (.val (.slice A.la s.legs.length A.lc)) (.val (.slice A.ta s.taxes.length A.tc)))] [] [] failS [] := by
  have c1 := doc_nil t
  have c2 := failed_w 8
  exact callOK_run 400 [hC 1 2 c1, hC 3 1 c2] (by kernel_rfl) (by kernel_rfl)
theorem price_N (F : CF) {s : SaleV} {A : SaleA} (hnt : s.taxes.length ≤ 17592186044410) (hl : ∀ b v, Rd (F b v) A.la (cellsL encLeg s.legs)) (ht : ∀ b v, Rd (F b v) A.ta (cellsL encTax s.taxes)) (h1 : A.la = none → A.lc = 0) (h2 : A.ta = none → A.tc = 0) :
    CallOK Try.prog PriceF [.agg (salS s (.val (.slice A.la s.legs.length A.lc)) (.val (.slice A.ta s.taxes.length A.tc)))] [((0, 9), .fam F)] [] (.tup [.val (.int .i64 (sumFrom 0 (priceL s)).1), eN (sumFrom 0 (priceL s)).2]) [] := by
  intro ε R w hM
  have hM : Mem (F (ε 0 9).1 (ε 0 9).2 :: R) w := hM
  have hs : SaleAt w s A := ⟨(hl _ _).row hM 0 rfl, (ht _ _).row hM 0 rfl, h1, h2⟩
  refine (price_anyN s A w hs hnt).mono ?_
  rintro e w' ⟨rfl, hb⟩
  exact ⟨ε 1, rfl, by rw [eset_self]; exact hM.kept hb⟩
theorem exIssue_nil (F : CF) {s : SaleV} {A : SaleA} (hnt : s.taxes.length ≤ 17592186044410) (hl : ∀ b v, Rd (F b v) A.la (cellsL encLeg s.legs)) (ht : ∀ b v, Rd (F b v) A.ta (cellsL encTax s.taxes)) (h1 : A.la = none → A.lc = 0) (h2 : A.ta = none → A.tc = 0) :
    CallOK Try.prog ExIssueF [nilP, .agg (salS s (.val (.slice A.la s.legs.length A.lc)) (.val (.slice A.ta s.taxes.length A.tc)))] [((0, 9), .fam F)] [] failS [] := by
  have c0 := issue_nil nilS nilS s F A
  have c1 := price_N F hnt hl ht h1 h2
  have c2 := first2_w 8 (sumFrom 0 (priceL s)).2
  rw [show first2 8 (sumFrom 0 (priceL s)).2 = 8 from rfl] at c2
  have c3 := failed_w 8
  exact callOK_run 400 [hC 1 2 c0, hC 2 1 c1, hC 3 3 c2, hC 5 1 c3] (by kernel_rfl) (by kernel_rfl)
def Same17F : Nat := 12
def StatusesF : Nat := 36
theorem statuses_nil : CallOK Try.prog StatusesF [nilS, nilS] [] [] (.val (.bool true)) [] := callOK_runU 400 [] (by kernel_rfl) (by kernel_rfl)
theorem same17_nil : CallOK Try.prog Same17F [.agg (repS 8 tid0 0 nilS), .agg (repS 8 tid0 0 nilS)] [] [] (.val (.bool true)) [] := by
  have c1 := statuses_nil
  exact callOK_run 400 [hC 1 24 c1] (by kernel_rfl) (by kernel_rfl)
/-! ### tickets that are known -/
def sale17 (fare : Int) : SaleV := ⟨⟨#[68, 79, 69, 47, 74]⟩, [⟨1, 0, 1⟩, ⟨0, 0, 1⟩], fare, [], 20⟩
theorem sale17_ok {fare : Int} (h : 0 ≤ fare ∧ fare ≤ 1000) : SaleOk (sale17 fare) where
  name := by unfold maxLen; show (5 : Nat) ≤ _; decide
  legs := by intro l hl; simp [sale17] at hl; rcases hl with rfl | rfl <;> (unfold LegOk; decide)
  taxes := by intro t ht; cases ht
  fare := ⟨by show _ ≤ fare; omega, by show fare ≤ _; omega⟩
  pen := by show _ ≤ (20 : Int) ∧ (20 : Int) ≤ _; decide
  nl := by show (2 : Nat) ≤ _; decide
  nt := by show (0 : Nat) ≤ _; decide
def Known17F : Nat := 37
theorem known17_w (fare : Int) : CallOK Try.prog Known17F [.val (.int .i64 fare)] [] [] (.agg (salS (sale17 fare) (.raw 1 0) nilS)) [((1, 0), legD 2 (sale17 fare).legs)] := callOK_run 400 [] (by kernel_rfl) (by kernel_rfl)
theorem exIssue_D {B : BookV} (hb : BookOk B) {s : SaleV} (ok : SaleOk s) : CallOK Try.prog ExIssueF [.ptr 0 0 0, .agg (salS s (.raw 0 10) (.raw 0 11))] [((0, 10), legD s.legs.length s.legs), ((0, 11), taxD s.taxes.length s.taxes)] (bkC B) (xrV (exIssue B s)) (xrP (exIssue B s)) :=
  raw2 (args := fun x y => [.ptr 0 0 0, .agg (salS s x y)]) (issue_args s) (fun F A hl ht h1 h2 => exIssue_F F hb ok hl ht h1 h2) rfl rfl rfl
theorem exchange_D {B : BookV} (h : ExOk B) {t : Tid} (ht : TidOk t) {s : SaleV} (ok : SaleOk s) : CallOK Try.prog ExchangeF [.ptr 0 0 0, .agg (tidS t), .agg (salS s (.raw 0 10) (.raw 0 11))] [((0, 10), legD s.legs.length s.legs), ((0, 11), taxD s.taxes.length s.taxes)] (bkC B) (xrV (exExchange B t s)) (xrP (exExchange B t s)) :=
  raw2 (args := fun x y => [.ptr 0 0 0, .agg (tidS t), .agg (salS s x y)]) (fun ε ε' x y x' y' h1 h2 h3 => by simp only [SV.dens, SV.den, salS, tidS, h1, h2, h3 0 0 rfl]) (fun F A hl hta h1 h2 => exchange_F F h ht ok hl hta h1 h2) rfl rfl rfl
end Go.Proofs.Ytjeppnhkgiljpaa
end
section
namespace Go.Proofs.Ytjeppnhkgiljpaa
set_option maxRecDepth 100000
open Go.RowKit Go.Lib Go.Tk Go.Sort Go.Shelf

theorem sort_a : sortL (restsL 101 2 [1, 1]) = [(1, 0), (1, 1)] := by
  refine (sortL_unique ?_ ?_).symm
  · decide
  · decide
theorem share_a : shareV 101 [1, 1] = [51, 50] := by
  have e : shareE 101 [1, 1] = 0 := by decide
  unfold shareV
  rw [if_pos e]
  unfold shareL chosen
  have hs : ([1, 1] : List Int).sum = 2 := by decide
  rw [hs, sort_a]
  decide
theorem sort_b : sortL (restsL 50 2 [1, 1]) = [(0, 0), (0, 1)] := by
  refine (sortL_unique ?_ ?_).symm
  · decide
  · decide
theorem share_b : shareV 50 [1, 1] = [25, 25] := by
  have e : shareE 50 [1, 1] = 0 := by decide
  unfold shareV
  rw [if_pos e]
  unfold shareL chosen
  have hs : ([1, 1] : List Int).sum = 2 := by decide
  rw [hs, sort_b]
  decide
theorem share16 : shareV sale16.fare (wsOf sale16) = [51, 50] := share_a
end Go.Proofs.Ytjeppnhkgiljpaa
end
section
namespace Go.Proofs.Ytjeppnhkgiljpaa
set_option maxRecDepth 100000
open Go.RowKit Go.Lib Go.Tk Go.Shelf Go.Vc Go.Sx
set_option linter.unusedVariables false
set_option linter.unusedSimpArgs false

def t11 : Tid := ⟨1, 1⟩
def t12 : Tid := ⟨1, 2⟩
def d17 : DocV := ⟨t11, sale17 101, [51, 50], ⟨0, 0⟩, ⟨0, 0⟩, 0, 101, 0, 0, 0⟩
def C17a : BookV := ⟨1, 3, [d17], [(⟨t11, 0⟩, ownNew ⟨1, 0, 1⟩ 51), (⟨t11, 1⟩, ownNew ⟨0, 0, 1⟩ 50)], []⟩
def C17b : BookV := ⟨1, 3, [d17, ⟨t12, sale17 50, [25, 25], ⟨0, 0⟩, ⟨0, 0⟩, 0, 50, 0, 0, 0⟩], [(⟨t11, 0⟩, ownNew ⟨1, 0, 1⟩ 51), (⟨t11, 1⟩, ownNew ⟨0, 0, 1⟩ 50), (⟨t12, 0⟩, ownNew ⟨1, 0, 1⟩ 25), (⟨t12, 1⟩, ownNew ⟨0, 0, 1⟩ 25)], []⟩
theorem share17a : shareV (sale17 101).fare (wsOf (sale17 101)) = [51, 50] := share_a
theorem share17b : shareV (sale17 50).fare (wsOf (sale17 50)) = [25, 25] := share_b
theorem iss17a : (bookNew 1 3).issued (sale17 101) = C17a := by unfold BookV.issued docMade; rw [share17a]; rfl
theorem iss17b : C17a.issued (sale17 50) = C17b := by unfold BookV.issued docMade; rw [share17b]; rfl
def C17c : BookV := (turnB (C17b.setD (exD1 C17a d17 (sale17 50))) t11 7).setD (exD2 C17a d17 (sale17 50))
theorem ex17a : exIssue (bookNew 1 3) (sale17 101) = ⟨0, t11, 101, [1, 1], C17a⟩ := by
  unfold exIssue
  rw [show decide ((bookNew 1 3).issE (sale17 101) = 0) = true by kernel_rfl]
  show toldX ((bookNew 1 3).issued (sale17 101)) (bookNew 1 3).nextT (priceI (sale17 101)) = _
  rw [iss17a]; kernel_rfl
theorem ex17b : exExchange C17a t11 (sale17 50) = ⟨0, t12, 0, [1, 1], C17c⟩ := by
  show exExchangeD C17a d17 (sale17 50) = _
  unfold exExchangeD exB2
  rw [iss17b]; kernel_rfl
theorem ex17c : exDisplay C17c t12 = ⟨0, t12, 11, [1, 1], C17c⟩ := by kernel_rfl
theorem ex17d : exRefund C17c t11 = ⟨6, tid0, 0, [], C17c⟩ := by kernel_rfl
def WakesF17 : Nat := 13
theorem wakes17_w : CallOK Try.prog WakesF17 [] [] [] (.val (.bool true)) [] := by
  have n1 := new_okC (self := 1) (n := 3) (by decide) (by decide)
  have k1 := known17_w 101
  have k2 := known17_w 50
  have i1 := exIssue_D (book_new_ok 1 3 (by decide)) (sale17_ok (fare := 101) (by decide))
  have h1 := exIssue_ok (new_ex 1 3 (by decide)) (sale17_ok (fare := 101) (by decide))
  rw [ex17a] at i1 h1
  have x2 := exchange_D (B := C17a) h1 (t := t11) ⟨by decide, by decide⟩ (sale17_ok (fare := 50) (by decide))
  have h2 := exExchange_ok (B := C17a) h1 t11 (sale17_ok (fare := 50) (by decide))
  rw [ex17b] at x2 h2
  have d3 := display_w (B := C17c) h2 (t := t12) ⟨by decide, by decide⟩
  rw [ex17c] at d3
  have r4 := refund_w (B := C17c) h2 (t := t11) ⟨by decide, by decide⟩
  rw [ex17d] at r4
  exact callOK_run 900 [hC 1 0 n1, hC 4 1 k1, hC 4 2 i1, hC 5 3 k2, hC 5 4 x2, hC 6 3 d3, hC 7 3 r4] (by kernel_rfl) (by kernel_rfl)
def Nil17F : Nat := 3
def act17S (d : Int) (t : Tid) (s : SaleV) (vl vt : SV) : List SV := .val (.int .i64 d) :: .val (.int .u8 t.c) :: .val (.int .u64 t.r) :: salS s vl vt
theorem nil17_w (F : CF) (d : Int) (t : Tid) {s : SaleV} {A : SaleA} (hnt : s.taxes.length ≤ 17592186044410) (hl : ∀ b v, Rd (F b v) A.la (cellsL encLeg s.legs)) (ht : ∀ b v, Rd (F b v) A.ta (cellsL encTax s.taxes)) (h1 : A.la = none → A.lc = 0) (h2 : A.ta = none → A.tc = 0) :
    CallOK Try.prog Nil17F [.agg (act17S d t s (.val (.slice A.la s.legs.length A.lc)) (.val (.slice A.ta s.taxes.length A.tc)))] [((0, 9), .fam F)] [] (.val (.bool true)) [] := by
  have c1 := exIssue_nil F hnt hl ht h1 h2
  have c2 := display_nil t
  have c3 := void_nil t
  have c4 := refund_nil t
  have c5 := exchange_nil t s A
  have c6 := same17_nil
  have c7 := wakes17_w
  exact callOK_run 900 [hC 1 2 c1, hC 2 2 c2, hC 3 2 c3, hC 4 2 c4, hC 5 4 c5, hC 7 2 c6, hC 7 6 c6, hC 7 11 c6, hC 7 16 c6, hC 7 21 c6, hC 7 44 c7] (by kernel_rfl) (by kernel_rfl)
end Go.Proofs.Ytjeppnhkgiljpaa
end
section
namespace Go.Proofs.Ytjeppnhkgiljpaa
open Go.RowKit Go.Lib Go.Tk Go.WideShapes Go.Joins Go.ChangeShapes

structure SaleW (s : SaleV) : Prop where
  name : s.name.size ≤ maxLen
  legs : ∀ l ∈ s.legs, LegOk l
  taxes : ∀ t ∈ s.taxes, TaxOk t
  fare : -9223372036854775808 ≤ s.fare ∧ s.fare ≤ 9223372036854775807
  pen : -9223372036854775808 ≤ s.pen ∧ s.pen ≤ 9223372036854775807
  nl : s.legs.length ≤ maxLen
  nt : s.taxes.length ≤ maxLen
theorem SaleW.small {s : SaleV} (h : SaleW s) (h1 : s.legs.length ≤ 1000) (h2 : s.taxes.length ≤ 1000) : SaleOk s := ⟨h.name, h.legs, h.taxes, h.fare, h.pen, h1, h2⟩

theorem wfi64 {a : Int} (h : (Lit.int .i64 a).wf = true) : -9223372036854775808 ≤ a ∧ a ≤ 9223372036854775807 := by
  simpa [Lit.wf, IntKind.min, IntKind.max, IntKind.signed, IntKind.bits] using h
theorem wfu8 {a : Int} (h : (Lit.int .u8 a).wf = true) : 0 ≤ a ∧ a ≤ 255 := by
  simpa [Lit.wf, IntKind.min, IntKind.max, IntKind.signed, IntKind.bits] using h
theorem wfu16 {a : Int} (h : (Lit.int .u16 a).wf = true) : 0 ≤ a ∧ a ≤ 65535 := by
  simpa [Lit.wf, IntKind.min, IntKind.max, IntKind.signed, IntKind.bits] using h
theorem wfu32 {a : Int} (h : (Lit.int .u32 a).wf = true) : 0 ≤ a ∧ a ≤ 4294967295 := by
  simpa [Lit.wf, IntKind.min, IntKind.max, IntKind.signed, IntKind.bits] using h
theorem wfu64 {a : Int} (h : (Lit.int .u64 a).wf = true) : 0 ≤ a ∧ a ≤ 18446744073709551615 := by
  simpa [Lit.wf, IntKind.min, IntKind.max, IntKind.signed, IntKind.bits] using h

theorem len2 {cs : List Value} (h : cs.length = 2) : ∃ a b, cs = [a, b] := by
  match cs, h with
  | [a, b], _ => exact ⟨a, b, rfl⟩
theorem len3 {cs : List Value} (h : cs.length = 3) : ∃ a b c, cs = [a, b, c] := by
  match cs, h with
  | [a, b, c], _ => exact ⟨a, b, c, rfl⟩
theorem len5 {cs : List Value} (h : cs.length = 5) : ∃ a b c d e, cs = [a, b, c, d, e] := by
  match cs, h with
  | [a, b, c, d, e], _ => exact ⟨a, b, c, d, e, rfl⟩

variable {H : Type} {enc : TypeId × Value → H} {w : World} {base : Nat} {spare : Nat → Bool} {held : Bool}

set_option maxRecDepth 100000 in
theorem agg_cells {t : TypeId} {fs : Array Field} {r : Reach} {b0 : Nat} {v : Value} {d : DataW H} {p : List MemPlace} (hs : Try.prog.underlying t = some (.struct fs)) (hv : Value.okWide Try.prog w r b0 t v) (h : DataW.Trod enc Try.prog w base spare held t v d p) :
    ∃ cs : List Value, v = .agg cs.toArray ∧ cs.length = Try.prog.cellsOf t ∧ ∃ n, ∀ f ∈ fs.toList, ∃ y, DataW.trod enc Try.prog w base spare held n f.type ((cs.drop f.offset).take (Try.prog.cellsOf f.type)) = some y := by
  obtain ⟨cs, rfl, hsz⟩ := okWide_struct hs hv
  obtain ⟨fuel, hf⟩ := h
  obtain ⟨h1, n, h2⟩ := struct_fields hs hf
  exact ⟨cs.toList, by simp, h1, n, h2⟩

set_option maxRecDepth 100000 in
theorem leg_cells {n : Nat} {cs : List Value} {y : DataW H × List MemPlace} (hl : cs.length = 3) (h : DataW.trod enc Try.prog w base spare held n 47 cs = some y) : ∃ l : Leg, encLeg l = cs ∧ LegOk l := by
  obtain ⟨_, m, hf⟩ := struct_fields Try.underlying47 h
  obtain ⟨c0, c1, c2, rfl⟩ := len3 hl
  simp only [List.forall_mem_cons] at hf
  obtain ⟨⟨y0, h0⟩, ⟨y1, h1⟩, ⟨y2, h2⟩, -⟩ := hf
  obtain ⟨a0, e0, w0⟩ := int_cell Try.underlying5 h0
  obtain ⟨a1, e1, w1⟩ := int_cell Try.underlying44 h1
  obtain ⟨a2, e2, w2⟩ := int_cell Try.underlying45 h2
  have f0 : c0 = .int .u8 a0 := by simpa [show Try.prog.cellsOf 5 = 1 by kernel_rfl] using e0
  have f1 : c1 = .int .u16 a1 := by simpa [show Try.prog.cellsOf 44 = 1 by kernel_rfl] using e1
  have f2 : c2 = .int .u32 a2 := by simpa [show Try.prog.cellsOf 45 = 1 by kernel_rfl] using e2
  exact ⟨⟨a0, a1, a2⟩, by rw [f0, f1, f2]; rfl, wfu8 w0, wfu16 w1, wfu32 w2⟩
set_option maxRecDepth 100000 in
theorem tax_cells {n : Nat} {cs : List Value} {y : DataW H × List MemPlace} (hl : cs.length = 2) (h : DataW.trod enc Try.prog w base spare held n 126 cs = some y) : ∃ l : Tax, encTax l = cs ∧ TaxOk l := by
  obtain ⟨_, m, hf⟩ := struct_fields Try.underlying126 h
  obtain ⟨c0, c1, rfl⟩ := len2 hl
  simp only [List.forall_mem_cons] at hf
  obtain ⟨⟨y0, h0⟩, ⟨y1, h1⟩, -⟩ := hf
  obtain ⟨a0, e0, w0⟩ := string_cell Try.underlying9 h0
  obtain ⟨a1, e1, w1⟩ := int_cell Try.underlying2 h1
  have f0 : c0 = .string a0 := by simpa [show Try.prog.cellsOf 9 = 1 by kernel_rfl] using e0
  have f1 : c1 = .int .i64 a1 := by simpa [show Try.prog.cellsOf 2 = 1 by kernel_rfl] using e1
  exact ⟨⟨a0, a1⟩, by rw [f0, f1]; rfl, w0, wfi64 w1⟩

theorem legs_cell {n : Nat} {v : Value} {y : DataW H × List MemPlace} (h : DataW.trod enc Try.prog w base spare held n 25 [v] = some y) :
    ∃ (a : Option Addr) (l : List Leg) (c : Nat), v = .slice a l.length c ∧ Row w a (cellsL encLeg l) ∧ (a = none → c = 0) ∧ l.length ≤ maxLen ∧ ∀ x ∈ l, LegOk x := by
  obtain ⟨a, len, cap, rows, rfl, hlen, hrows, hr, hn, hm, _⟩ := slice_rows (fun cs => ∃ l : Leg, encLeg l = cs ∧ LegOk l) Try.underlying25 (show Try.prog.cellsOf 47 = 3 by kernel_rfl) (by decide) (fun n cs y hl h => leg_cells hl h) h
  obtain ⟨l, hl⟩ := listOf (enc := fun x : { x : Leg // LegOk x } => encLeg x.1) (Q := fun cs => ∃ l : Leg, encLeg l = cs ∧ LegOk l) (fun r ⟨x, hx, hk⟩ => ⟨⟨x, hk⟩, hx⟩) rows (fun r hr => (hrows r hr).2)
  have hl2 : (l.map (·.1)).map encLeg = rows := by rw [List.map_map]; exact hl
  have hl3 : (l.map (·.1)).length = len := by rw [← hlen, ← hl2]; simp
  refine ⟨a, l.map (·.1), cap, by rw [hl3], ?_, hn, by rw [hl3]; exact hm, fun x hx => ?_⟩
  · unfold cellsL; rw [hl2]; exact hr
  · obtain ⟨z, _, rfl⟩ := List.mem_map.1 hx; exact z.2
theorem taxes_cell {n : Nat} {v : Value} {y : DataW H × List MemPlace} (h : DataW.trod enc Try.prog w base spare held n 26 [v] = some y) :
    ∃ (a : Option Addr) (l : List Tax) (c : Nat), v = .slice a l.length c ∧ Row w a (cellsL encTax l) ∧ (a = none → c = 0) ∧ l.length ≤ maxLen ∧ ∀ x ∈ l, TaxOk x := by
  obtain ⟨a, len, cap, rows, rfl, hlen, hrows, hr, hn, hm, _⟩ := slice_rows (fun cs => ∃ l : Tax, encTax l = cs ∧ TaxOk l) Try.underlying26 (show Try.prog.cellsOf 126 = 2 by kernel_rfl) (by decide) (fun n cs y hl h => tax_cells hl h) h
  obtain ⟨l, hl⟩ := listOf (enc := fun x : { x : Tax // TaxOk x } => encTax x.1) (Q := fun cs => ∃ l : Tax, encTax l = cs ∧ TaxOk l) (fun r ⟨x, hx, hk⟩ => ⟨⟨x, hk⟩, hx⟩) rows (fun r hr => (hrows r hr).2)
  have hl2 : (l.map (·.1)).map encTax = rows := by rw [List.map_map]; exact hl
  have hl3 : (l.map (·.1)).length = len := by rw [← hlen, ← hl2]; simp
  refine ⟨a, l.map (·.1), cap, by rw [hl3], ?_, hn, by rw [hl3]; exact hm, fun x hx => ?_⟩
  · unfold cellsL; rw [hl2]; exact hr
  · obtain ⟨z, _, rfl⟩ := List.mem_map.1 hx; exact z.2

set_option maxRecDepth 100000 in
theorem open_sale {r : Reach} {b0 : Nat} {v : Value} {d : DataW H} {p : List MemPlace} (hv : Value.okWide Try.prog w r b0 28 v) (h : DataW.Trod enc Try.prog w base spare held 28 v d p) :
    ∃ s A, v = saleAgg s A ∧ SaleAt w s A ∧ SaleW s := by
  obtain ⟨cs, rfl, hl, m, hf⟩ := agg_cells Try.underlying28 hv h
  rw [show Try.prog.cellsOf 28 = 5 by kernel_rfl] at hl
  obtain ⟨c0, c1, c2, c3, c4, rfl⟩ := len5 hl
  simp only [List.forall_mem_cons] at hf
  obtain ⟨⟨y0, h0⟩, ⟨y1, h1⟩, ⟨y2, h2⟩, ⟨y3, h3⟩, ⟨y4, h4⟩, -⟩ := hf
  obtain ⟨a0, e0, w0⟩ := string_cell Try.underlying9 h0
  have h1' : DataW.trod enc Try.prog w base spare held m 25 [c1] = some y1 := by simpa [show Try.prog.cellsOf 25 = 1 by kernel_rfl] using h1
  obtain ⟨a1, l1, k1, e1, r1, n1, m1, o1⟩ := legs_cell h1'
  obtain ⟨a2, e2, w2⟩ := int_cell Try.underlying2 h2
  have h3' : DataW.trod enc Try.prog w base spare held m 26 [c3] = some y3 := by simpa [show Try.prog.cellsOf 26 = 1 by kernel_rfl] using h3
  obtain ⟨a3, l3, k3, e3, r3, n3, m3, o3⟩ := taxes_cell h3'
  obtain ⟨a4, e4, w4⟩ := int_cell Try.underlying2 h4
  have f0 : c0 = .string a0 := by simpa [show Try.prog.cellsOf 9 = 1 by kernel_rfl] using e0
  have f2 : c2 = .int .i64 a2 := by simpa [show Try.prog.cellsOf 2 = 1 by kernel_rfl] using e2
  have f4 : c4 = .int .i64 a4 := by simpa [show Try.prog.cellsOf 2 = 1 by kernel_rfl] using e4
  exact ⟨⟨a0, l1, a2, l3, a4⟩, ⟨a1, k1, a3, k3⟩, by rw [f0, e1, f2, e3, f4]; rfl, ⟨r1, r3, n1, n3⟩, ⟨w0, o1, o3, wfi64 w2, wfi64 w4, m1, m3⟩⟩

set_option maxRecDepth 100000 in
theorem open_ticket {r : Reach} {b0 : Nat} {v : Value} {d : DataW H} {p : List MemPlace} (hv : Value.okWide Try.prog w r b0 24 v) (h : DataW.Trod enc Try.prog w base spare held 24 v d p) :
    ∃ c n, v = .agg #[.int .u8 c, .int .u64 n] ∧ (0 ≤ c ∧ c ≤ 255) ∧ (0 ≤ n ∧ n ≤ 18446744073709551615) := by
  obtain ⟨cs, rfl, hl, m, hf⟩ := agg_cells Try.underlying24 hv h
  rw [show Try.prog.cellsOf 24 = 2 by kernel_rfl] at hl
  obtain ⟨c0, c1, rfl⟩ := len2 hl
  simp only [List.forall_mem_cons] at hf
  obtain ⟨⟨y0, h0⟩, ⟨y1, h1⟩, -⟩ := hf
  obtain ⟨a0, e0, w0⟩ := int_cell Try.underlying5 h0
  obtain ⟨a1, e1, w1⟩ := int_cell Try.underlying22 h1
  have f0 : c0 = .int .u8 a0 := by simpa [show Try.prog.cellsOf 5 = 1 by kernel_rfl] using e0
  have f1 : c1 = .int .u64 a1 := by simpa [show Try.prog.cellsOf 22 = 1 by kernel_rfl] using e1
  exact ⟨a0, a1, by rw [f0, f1], wfu8 w0, wfu64 w1⟩
set_option maxRecDepth 100000 in
theorem open_tax {r : Reach} {b0 : Nat} {v : Value} {d : DataW H} {p : List MemPlace} (hv : Value.okWide Try.prog w r b0 126 v) (h : DataW.Trod enc Try.prog w base spare held 126 v d p) :
    ∃ t : Tax, v = .agg #[.string t.code, .int .i64 t.amt] ∧ TaxOk t := by
  obtain ⟨cs, rfl, hl, m, hf⟩ := agg_cells Try.underlying126 hv h
  rw [show Try.prog.cellsOf 126 = 2 by kernel_rfl] at hl
  obtain ⟨c0, c1, rfl⟩ := len2 hl
  simp only [List.forall_mem_cons] at hf
  obtain ⟨⟨y0, h0⟩, ⟨y1, h1⟩, -⟩ := hf
  obtain ⟨a0, e0, w0⟩ := string_cell Try.underlying9 h0
  obtain ⟨a1, e1, w1⟩ := int_cell Try.underlying2 h1
  have f0 : c0 = .string a0 := by simpa [show Try.prog.cellsOf 9 = 1 by kernel_rfl] using e0
  have f1 : c1 = .int .i64 a1 := by simpa [show Try.prog.cellsOf 2 = 1 by kernel_rfl] using e1
  exact ⟨⟨a0, a1⟩, by rw [f0, f1], w0, wfi64 w1⟩
end Go.Proofs.Ytjeppnhkgiljpaa
end
section
namespace Go.Proofs.Ytjeppnhkgiljpaa
set_option maxRecDepth 100000
open Go.RowKit Go.Lib Go.Tk Go.Shelf Go.Vc Go.Sx Go.WideShapes
open Go.Deep
set_option linter.unusedVariables false
set_option linter.unusedSimpArgs false

section
variable {H : Type} {enc : TypeId × Value → H} {w : World} {base : Nat} {spare : Nat → Bool} {held : Bool} {P : Program}
theorem each_sub {x : Nat} : ∀ (ts : List TypeId) (ds : List (DataW H)) (i : Nat) (t : TypeId) (d : DataW H), ts[i]? = some t → ds[i]? = some d → x ∈ d.weights P t → x ∈ DataW.weightsEach P ts ds
  | [], _, i, t, d, h, _, _ => by simp at h
  | _ :: _, [], i, t, d, _, h, _ => by simp at h
  | t' :: ts, d' :: ds, 0, t, d, h1, h2, h => by
    simp only [List.getElem?_cons_zero, Option.some.injEq] at h1 h2
    subst h1; subst h2
    unfold DataW.weightsEach
    exact List.mem_append_left _ h
  | t' :: ts, d' :: ds, i + 1, t, d, h1, h2, h => by
    unfold DataW.weightsEach
    exact List.mem_append_right _ (each_sub ts ds i t d (by simpa using h1) (by simpa using h2) h)
/-- nothing of it is too great -/
def SmallD (P : Program) (t : TypeId) (d : DataW H) : Prop := ∀ x ∈ d.weights P t, x ≤ reachBytes
theorem struct_fieldsW {t : TypeId} {fs : Array Field} {fuel : Nat} {cs : List Value} {x : DataW H × List MemPlace} (ht : P.underlying t = some (.struct fs)) (h : DataW.trod enc P w base spare held fuel t cs = some x) (hw : SmallD P t x.1) :
    cs.length = P.cellsOf t ∧ ∃ n, ∀ f ∈ fs.toList, ∃ y, DataW.trod enc P w base spare held n f.type ((cs.drop f.offset).take (P.cellsOf f.type)) = some y ∧ SmallD P f.type y.1 := by
  cases fuel with
  | zero => simp [DataW.trod] at h
  | succ n =>
    have h' := h
    unfold DataW.trod at h'
    rw [ht] at h'
    have key : (if cs.length = P.cellsOf t then (fs.toList.mapM fun f => DataW.trod enc P w base spare held n f.type ((cs.drop f.offset).take (P.cellsOf f.type))).map fun xs => (DataW.agg (xs.map (·.1)), xs.flatMap (·.2)) else none) = some x := by
      rcases cs with _ | ⟨c, _ | ⟨c2, r⟩⟩ <;> simpa using h'
    by_cases hl : cs.length = P.cellsOf t
    · rw [if_pos hl] at key
      obtain ⟨xs, hxs, hx⟩ := Option.map_eq_some_iff.1 key
      refine ⟨hl, n, fun f hf => ?_⟩
      obtain ⟨i, hi, hfi⟩ := List.getElem_of_mem hf
      have hg := mapM_some_get hxs i f (by rw [List.getElem?_eq_getElem hi, hfi])
      have hlx := mapM_some_length hxs
      have hi2 : i < xs.length := by omega
      refine ⟨xs[i], by rw [hg, List.getElem?_eq_getElem hi2], fun z hz => hw z ?_⟩
      rw [← hx]
      show z ∈ DataW.weights P t (DataW.agg (xs.map (·.1)))
      unfold DataW.weights
      rw [ht]
      exact each_sub _ _ i f.type xs[i].1 (by rw [List.getElem?_map, List.getElem?_eq_getElem hi, hfi]; rfl) (by rw [List.getElem?_map, List.getElem?_eq_getElem hi2]; rfl) hz
    · rw [if_neg hl] at key; cases key
theorem slice_lenW {t e : TypeId} {fuel : Nat} {a : Option Addr} {len cap : Nat} {x : DataW H × List MemPlace} (ht : P.underlying t = some (.slice e)) (h : DataW.trod enc P w base spare held fuel t [.slice a len cap] = some x) (hw : SmallD P t x.1) : len * P.bytesOf e ≤ reachBytes := by
  rcases open_slice ht h with ⟨hcs, _⟩ | ⟨a', len', cap', m, n, D, Pl, hcs, hb, hl, hm, hmm, hx, _⟩
  · simp only [List.cons.injEq, Value.slice.injEq, and_true] at hcs
    rw [hcs.2.1, Nat.zero_mul]; exact Nat.zero_le _
  · simp only [List.cons.injEq, Value.slice.injEq, and_true] at hcs
    have := hw ((((List.range len').map D).length + ((List.range (m - len')).map fun j => D (len' + j)).length) * P.bytesOf e) (by
      rw [hx]
      show _ ∈ DataW.weights P t (.slice _ _)
      unfold DataW.weights
      rw [ht]
      exact List.mem_cons_self)
    rw [List.length_map, List.length_range] at this
    rw [hcs.2.1]
    exact Nat.le_trans (Nat.mul_le_mul_right _ (Nat.le_add_right _ _)) this
def act17L (d : Int) (t : Tid) (s : SaleV) (A : SaleA) : List Value := [.int .i64 d, .int .u8 t.c, .int .u64 t.r, .string s.name, .slice A.la s.legs.length A.lc, .int .i64 s.fare, .slice A.ta s.taxes.length A.tc, .int .i64 s.pen]
theorem len8 {cs : List Value} (h : cs.length = 8) : ∃ c0 c1 c2 c3 c4 c5 c6 c7, cs = [c0, c1, c2, c3, c4, c5, c6, c7] := by
  match cs, h with
  | [c0, c1, c2, c3, c4, c5, c6, c7], _ => exact ⟨_, _, _, _, _, _, _, _, rfl⟩
theorem bytesTax : Try.prog.bytesOf 126 = 24 := by kernel_rfl
theorem open_act17 {r : Reach} {b0 : Nat} {v : Value} {d : DataW H} {p : List MemPlace} (hv : Value.okWide Try.prog w r b0 30 v) (h : DataW.Trod enc Try.prog w base spare held 30 v d p) (hw : SmallD Try.prog 30 d) :
    ∃ x t s A, v = .agg (act17L x t s A).toArray ∧ SaleAt w s A ∧ s.taxes.length ≤ 17592186044410 := by
  obtain ⟨cs, rfl, hsz⟩ := okWide_struct Try.underlying30 hv
  obtain ⟨fuel, hf⟩ := h
  have hf : DataW.trod enc Try.prog w base spare held fuel 30 cs.toList = some (d, p) := hf
  obtain ⟨hl, n, h2⟩ := struct_fieldsW Try.underlying30 hf hw
  rw [show Try.prog.cellsOf 30 = 8 by kernel_rfl] at hl
  obtain ⟨c0, c1, c2, c3, c4, c5, c6, c7, hcs⟩ := len8 hl
  rw [hcs] at h2
  simp only [List.forall_mem_cons] at h2
  obtain ⟨⟨y0, h0, w0⟩, ⟨y1, h1, w1⟩, ⟨y2, h3, w2⟩, -⟩ := h2
  obtain ⟨a0, e0, -⟩ := int_cell Try.underlying3 h0
  have f0 : c0 = .int .i64 a0 := by simpa [show Try.prog.cellsOf 3 = 1 by kernel_rfl] using e0
  have h1' : DataW.trod enc Try.prog w base spare held n 24 [c1, c2] = some y1 := by simpa [show Try.prog.cellsOf 24 = 2 by kernel_rfl] using h1
  obtain ⟨-, n1, g1⟩ := struct_fieldsW Try.underlying24 h1' w1
  simp only [List.forall_mem_cons] at g1
  obtain ⟨⟨z0, t0, -⟩, ⟨z1, t1, -⟩, -⟩ := g1
  obtain ⟨a1, e1, -⟩ := int_cell Try.underlying5 t0
  obtain ⟨a2, e2, -⟩ := int_cell Try.underlying22 t1
  have f1 : c1 = .int .u8 a1 := by simpa [show Try.prog.cellsOf 5 = 1 by kernel_rfl] using e1
  have f2 : c2 = .int .u64 a2 := by simpa [show Try.prog.cellsOf 22 = 1 by kernel_rfl] using e2
  have h3' : DataW.trod enc Try.prog w base spare held n 28 [c3, c4, c5, c6, c7] = some y2 := by simpa [show Try.prog.cellsOf 28 = 5 by kernel_rfl] using h3
  obtain ⟨-, n2, g2⟩ := struct_fieldsW Try.underlying28 h3' w2
  simp only [List.forall_mem_cons] at g2
  obtain ⟨⟨u0, s0, -⟩, ⟨u1, s1, -⟩, ⟨u2, s2, -⟩, ⟨u3, s3, ws3⟩, ⟨u4, s4, -⟩, -⟩ := g2
  obtain ⟨b0, q0, -⟩ := string_cell Try.underlying9 s0
  have s1' : DataW.trod enc Try.prog w base spare held n2 25 [c4] = some u1 := by simpa [show Try.prog.cellsOf 25 = 1 by kernel_rfl] using s1
  obtain ⟨b1, l1, k1, q1, r1, n1', m1, o1⟩ := legs_cell s1'
  obtain ⟨b2, q2, -⟩ := int_cell Try.underlying2 s2
  have s3' : DataW.trod enc Try.prog w base spare held n2 26 [c6] = some u3 := by simpa [show Try.prog.cellsOf 26 = 1 by kernel_rfl] using s3
  obtain ⟨b3, l3, k3, q3, r3, n3, m3, o3⟩ := taxes_cell s3'
  rw [q3] at s3'
  have hb := slice_lenW Try.underlying26 s3' ws3
  rw [bytesTax] at hb
  obtain ⟨b4, q4, -⟩ := int_cell Try.underlying2 s4
  have f3 : c3 = .string b0 := by simpa [show Try.prog.cellsOf 9 = 1 by kernel_rfl] using q0
  have f5 : c5 = .int .i64 b2 := by simpa [show Try.prog.cellsOf 2 = 1 by kernel_rfl] using q2
  have f7 : c7 = .int .i64 b4 := by simpa [show Try.prog.cellsOf 2 = 1 by kernel_rfl] using q4
  refine ⟨a0, ⟨a1, a2⟩, ⟨b0, l1, b2, l3, b4⟩, ⟨b1, k1, b3, k3⟩, ?_, ⟨r1, r3, n1', n3⟩, ?_⟩
  · have : cs = cs.toList.toArray := by simp
    rw [this, hcs, f0, f1, f2, f3, q1, f5, q3, f7]; rfl
  · show l3.length ≤ _
    unfold reachBytes at hb
    omega
end
theorem nil17_any (x : Int) (t : Tid) (s : SaleV) (A : SaleA) (w : World) (hs : SaleAt w s A) (hnt : s.taxes.length ≤ 17592186044410) :
    Calls Try.prog Nil17F #[.agg (act17L x t s A).toArray] w fun e w' => e = .returned (.bool true) ∧ Below w.heap.size w w' :=
  (nil17_w (fun _ _ => oldC w) x t hnt (fun _ _ => rd_old hs.legs) (fun _ _ => rd_old hs.taxes) hs.lnil hs.tnil (fun _ _ => (0, undef)) [] w (Mem.old w)).mono fun e w' ⟨x, h, hm⟩ => ⟨h, (show Mem (oldC w :: []) w' from hm).below 0 rfl⟩
end Go.Proofs.Ytjeppnhkgiljpaa
end
