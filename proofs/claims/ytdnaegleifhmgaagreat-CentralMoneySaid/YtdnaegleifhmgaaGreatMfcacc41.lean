/- Ce22, Ce24, Ce27, Ce28. -/
import Derived.Test.YtdnaegleifhmgaaGreatM4f95039
import Derived.Test.YtdnaegleifhmgaaGreatM7ce3b18
set_option maxRecDepth 100000
set_option linter.unusedVariables false
set_option linter.unusedSimpArgs false
set_option linter.unusedSectionVars false
section
namespace Go.Proofs.YtdnaegleifhmgaaGreat
open Go.RowKit Go.Lib Go.Tk Go.Shelf Go.Vc Go.Sx
def stepR (q : CR) : CR := bif decide (q.e = 0) then ⟨0, q.t, q.amt, q.st, q.b⟩ else ⟨q.e, tid0, 0, [], q.b⟩
def stV' (q : CR) : SV := .tup [.agg (repS q.e q.t q.amt (.raw 1 0)), eN q.e]
abbrev StepK (F : CF) (B : LedV) (c : CmtV) (A : SaleA) (q : CR) : Prop := CallOK Tryz.prog StepLF [.ptr 0 0 0, .agg (cmtS c A)] [((0, 9), .fam F)] (ledH (docsX B.docs) B) (stV' q) (crP q)
abbrev CmdK (f : Nat) (rd : Heap) (B : LedV) (who : Int) (c : CmdV) (A : SaleA) (q : CR) : Prop := CallOK Tryz.prog f [.ptr 0 0 0, .val (.int .u8 who), .agg (cmdS c A)] rd (ledH (docsX B.docs) B) (crV q) (crP q)
theorem stepk_1 (F : CF) {B : LedV} {car src num : Int} {m : MsV} {t : Tid} {i amt : Int} {s : SaleV} {A : SaleA} (hc : 0 ≤ car ∧ car ≤ 255) (hn : decide (B.n ≤ car) = false) {q : CR} (cq : CmdK SellF [((0, 9), .fam F)] B car ⟨1, t, i, s, amt⟩ A q) : StepK F B ⟨car, 1, ⟨1, t, i, s, amt⟩, src, num, m⟩ A (stepR q) := by
  have cd := doings_w
  have w1 : IntKind.i64.wrap car = car := wr_i64 (by omega)
  unfold CmdK at cq
  obtain ⟨e, t', amt', st, b⟩ := q
  unfold stepR
  rcases Bool.eq_false_or_eq_true (decide (e = 0)) with g | g
  · have g2 : (!decide (e = 0)) = false := by rw [g]; rfl
    simp only [g]
    exact callOK_run 600 [hI 5 2 IntKind.i64 _ _ w1, hB 5 7 _ _ hn, hC 12 0 cd, hC 15 6 cq, hB 16 1 _ _ g2] (by kernel_rfl) (by kernel_rfl)
  · have g2 : (!decide (e = 0)) = true := by rw [g]; rfl
    have cf := cfailed_w e
    simp only [g]
    exact callOK_run 600 [hI 5 2 IntKind.i64 _ _ w1, hB 5 7 _ _ hn, hC 12 0 cd, hC 15 6 cq, hB 16 1 _ _ g2, hC 17 2 cf] (by kernel_rfl) (by kernel_rfl)
theorem stepk_2 (F : CF) {B : LedV} {car src num : Int} {m : MsV} {t : Tid} {i amt : Int} {s : SaleV} (A : SaleA) (hc : 0 ≤ car ∧ car ≤ 255) (hn : decide (B.n ≤ car) = false) : StepK F B ⟨car, 1, ⟨2, t, i, s, amt⟩, src, num, m⟩ A ⟨0, tid0, 0, [], B⟩ := by
  have cq := celook_w ⟨2, t, i, s, amt⟩ A car
  have cd := doings_w
  have w1 : IntKind.i64.wrap car = car := wr_i64 (by omega)
  exact callOK_run 600 [hI 5 2 IntKind.i64 _ _ w1, hB 5 7 _ _ hn, hC 12 0 cd, hC 15 6 cq] (by kernel_rfl) (by kernel_rfl)
theorem stepk_3 (F : CF) {B : LedV} {car src num : Int} {m : MsV} {t : Tid} {i amt : Int} {s : SaleV} {A : SaleA} (hc : 0 ≤ car ∧ car ≤ 255) (hn : decide (B.n ≤ car) = false) {q : CR} (cq : CmdK CevoidF [] B car ⟨3, t, i, s, amt⟩ A q) : StepK F B ⟨car, 1, ⟨3, t, i, s, amt⟩, src, num, m⟩ A (stepR q) := by
  have cd := doings_w
  have w1 : IntKind.i64.wrap car = car := wr_i64 (by omega)
  unfold CmdK at cq
  obtain ⟨e, t', amt', st, b⟩ := q
  unfold stepR
  rcases Bool.eq_false_or_eq_true (decide (e = 0)) with g | g
  · have g2 : (!decide (e = 0)) = false := by rw [g]; rfl
    simp only [g]
    exact callOK_run 600 [hI 5 2 IntKind.i64 _ _ w1, hB 5 7 _ _ hn, hC 12 0 cd, hC 15 6 cq, hB 16 1 _ _ g2] (by kernel_rfl) (by kernel_rfl)
  · have g2 : (!decide (e = 0)) = true := by rw [g]; rfl
    have cf := cfailed_w e
    simp only [g]
    exact callOK_run 600 [hI 5 2 IntKind.i64 _ _ w1, hB 5 7 _ _ hn, hC 12 0 cd, hC 15 6 cq, hB 16 1 _ _ g2, hC 17 2 cf] (by kernel_rfl) (by kernel_rfl)
theorem stepk_4 (F : CF) {B : LedV} {car src num : Int} {m : MsV} {t : Tid} {i amt : Int} {s : SaleV} {A : SaleA} (hc : 0 ≤ car ∧ car ≤ 255) (hn : decide (B.n ≤ car) = false) {q : CR} (cq : CmdK CerefundF [] B car ⟨4, t, i, s, amt⟩ A q) : StepK F B ⟨car, 1, ⟨4, t, i, s, amt⟩, src, num, m⟩ A (stepR q) := by
  have cd := doings_w
  have w1 : IntKind.i64.wrap car = car := wr_i64 (by omega)
  unfold CmdK at cq
  obtain ⟨e, t', amt', st, b⟩ := q
  unfold stepR
  rcases Bool.eq_false_or_eq_true (decide (e = 0)) with g | g
  · have g2 : (!decide (e = 0)) = false := by rw [g]; rfl
    simp only [g]
    exact callOK_run 600 [hI 5 2 IntKind.i64 _ _ w1, hB 5 7 _ _ hn, hC 12 0 cd, hC 15 6 cq, hB 16 1 _ _ g2] (by kernel_rfl) (by kernel_rfl)
  · have g2 : (!decide (e = 0)) = true := by rw [g]; rfl
    have cf := cfailed_w e
    simp only [g]
    exact callOK_run 600 [hI 5 2 IntKind.i64 _ _ w1, hB 5 7 _ _ hn, hC 12 0 cd, hC 15 6 cq, hB 16 1 _ _ g2, hC 17 2 cf] (by kernel_rfl) (by kernel_rfl)
theorem stepk_5 (F : CF) {B : LedV} {car src num : Int} {m : MsV} {t : Tid} {i amt : Int} {s : SaleV} {A : SaleA} (hc : 0 ≤ car ∧ car ≤ 255) (hn : decide (B.n ≤ car) = false) {q : CR} (cq : CmdK CexchF [((0, 9), .fam F)] B car ⟨5, t, i, s, amt⟩ A q) : StepK F B ⟨car, 1, ⟨5, t, i, s, amt⟩, src, num, m⟩ A (stepR q) := by
  have cd := doings_w
  have w1 : IntKind.i64.wrap car = car := wr_i64 (by omega)
  unfold CmdK at cq
  obtain ⟨e, t', amt', st, b⟩ := q
  unfold stepR
  rcases Bool.eq_false_or_eq_true (decide (e = 0)) with g | g
  · have g2 : (!decide (e = 0)) = false := by rw [g]; rfl
    simp only [g]
    exact callOK_run 600 [hI 5 2 IntKind.i64 _ _ w1, hB 5 7 _ _ hn, hC 12 0 cd, hC 15 6 cq, hB 16 1 _ _ g2] (by kernel_rfl) (by kernel_rfl)
  · have g2 : (!decide (e = 0)) = true := by rw [g]; rfl
    have cf := cfailed_w e
    simp only [g]
    exact callOK_run 600 [hI 5 2 IntKind.i64 _ _ w1, hB 5 7 _ _ hn, hC 12 0 cd, hC 15 6 cq, hB 16 1 _ _ g2, hC 17 2 cf] (by kernel_rfl) (by kernel_rfl)
theorem stepk_6 (F : CF) {B : LedV} {car src num : Int} {m : MsV} {t : Tid} {i amt : Int} {s : SaleV} (A : SaleA) (hc : 0 ≤ car ∧ car ≤ 255) (hn : decide (B.n ≤ car) = false) : StepK F B ⟨car, 1, ⟨6, t, i, s, amt⟩, src, num, m⟩ A ⟨0, t, 0, [], B⟩ := by
  have cq := cesay_w ⟨6, t, i, s, amt⟩ A car
  have cd := doings_w
  have w1 : IntKind.i64.wrap car = car := wr_i64 (by omega)
  exact callOK_run 600 [hI 5 2 IntKind.i64 _ _ w1, hB 5 7 _ _ hn, hC 12 0 cd, hC 15 6 cq] (by kernel_rfl) (by kernel_rfl)
theorem stepk_7 (F : CF) {B : LedV} {car src num : Int} {m : MsV} {t : Tid} {i amt : Int} {s : SaleV} {A : SaleA} (hc : 0 ≤ car ∧ car ≤ 255) (hn : decide (B.n ≤ car) = false) {q : CR} (cq : CmdK CegiveF [] B car ⟨7, t, i, s, amt⟩ A q) : StepK F B ⟨car, 1, ⟨7, t, i, s, amt⟩, src, num, m⟩ A (stepR q) := by
  have cd := doings_w
  have w1 : IntKind.i64.wrap car = car := wr_i64 (by omega)
  unfold CmdK at cq
  obtain ⟨e, t', amt', st, b⟩ := q
  unfold stepR
  rcases Bool.eq_false_or_eq_true (decide (e = 0)) with g | g
  · have g2 : (!decide (e = 0)) = false := by rw [g]; rfl
    simp only [g]
    exact callOK_run 600 [hI 5 2 IntKind.i64 _ _ w1, hB 5 7 _ _ hn, hC 12 0 cd, hC 15 6 cq, hB 16 1 _ _ g2] (by kernel_rfl) (by kernel_rfl)
  · have g2 : (!decide (e = 0)) = true := by rw [g]; rfl
    have cf := cfailed_w e
    simp only [g]
    exact callOK_run 600 [hI 5 2 IntKind.i64 _ _ w1, hB 5 7 _ _ hn, hC 12 0 cd, hC 15 6 cq, hB 16 1 _ _ g2, hC 17 2 cf] (by kernel_rfl) (by kernel_rfl)
theorem stepk_8 (F : CF) {B : LedV} {car src num : Int} {m : MsV} {t : Tid} {i amt : Int} {s : SaleV} (A : SaleA) (hc : 0 ≤ car ∧ car ≤ 255) (hn : decide (B.n ≤ car) = false) : StepK F B ⟨car, 1, ⟨8, t, i, s, amt⟩, src, num, m⟩ A ⟨0, t, 0, [], B⟩ := by
  have cq := cesay_w ⟨8, t, i, s, amt⟩ A car
  have cd := doings_w
  have w1 : IntKind.i64.wrap car = car := wr_i64 (by omega)
  exact callOK_run 600 [hI 5 2 IntKind.i64 _ _ w1, hB 5 7 _ _ hn, hC 12 0 cd, hC 15 6 cq] (by kernel_rfl) (by kernel_rfl)
theorem stepk_9 (F : CF) {B : LedV} {car src num : Int} {m : MsV} {t : Tid} {i amt : Int} {s : SaleV} {A : SaleA} (hc : 0 ≤ car ∧ car ≤ 255) (hn : decide (B.n ≤ car) = false) {q : CR} (cq : CmdK CeuseF [] B car ⟨9, t, i, s, amt⟩ A q) : StepK F B ⟨car, 1, ⟨9, t, i, s, amt⟩, src, num, m⟩ A (stepR q) := by
  have cd := doings_w
  have w1 : IntKind.i64.wrap car = car := wr_i64 (by omega)
  unfold CmdK at cq
  obtain ⟨e, t', amt', st, b⟩ := q
  unfold stepR
  rcases Bool.eq_false_or_eq_true (decide (e = 0)) with g | g
  · have g2 : (!decide (e = 0)) = false := by rw [g]; rfl
    simp only [g]
    exact callOK_run 600 [hI 5 2 IntKind.i64 _ _ w1, hB 5 7 _ _ hn, hC 12 0 cd, hC 15 6 cq, hB 16 1 _ _ g2] (by kernel_rfl) (by kernel_rfl)
  · have g2 : (!decide (e = 0)) = true := by rw [g]; rfl
    have cf := cfailed_w e
    simp only [g]
    exact callOK_run 600 [hI 5 2 IntKind.i64 _ _ w1, hB 5 7 _ _ hn, hC 12 0 cd, hC 15 6 cq, hB 16 1 _ _ g2, hC 17 2 cf] (by kernel_rfl) (by kernel_rfl)
theorem stepk_10 (F : CF) {B : LedV} {car src num : Int} {m : MsV} {t : Tid} {i amt : Int} {s : SaleV} {A : SaleA} (hc : 0 ≤ car ∧ car ≤ 255) (hn : decide (B.n ≤ car) = false) {q : CR} (cq : CmdK CeuseF [] B car ⟨10, t, i, s, amt⟩ A q) : StepK F B ⟨car, 1, ⟨10, t, i, s, amt⟩, src, num, m⟩ A (stepR q) := by
  have cd := doings_w
  have w1 : IntKind.i64.wrap car = car := wr_i64 (by omega)
  unfold CmdK at cq
  obtain ⟨e, t', amt', st, b⟩ := q
  unfold stepR
  rcases Bool.eq_false_or_eq_true (decide (e = 0)) with g | g
  · have g2 : (!decide (e = 0)) = false := by rw [g]; rfl
    simp only [g]
    exact callOK_run 600 [hI 5 2 IntKind.i64 _ _ w1, hB 5 7 _ _ hn, hC 12 0 cd, hC 15 6 cq, hB 16 1 _ _ g2] (by kernel_rfl) (by kernel_rfl)
  · have g2 : (!decide (e = 0)) = true := by rw [g]; rfl
    have cf := cfailed_w e
    simp only [g]
    exact callOK_run 600 [hI 5 2 IntKind.i64 _ _ w1, hB 5 7 _ _ hn, hC 12 0 cd, hC 15 6 cq, hB 16 1 _ _ g2, hC 17 2 cf] (by kernel_rfl) (by kernel_rfl)
theorem stepk_11 (F : CF) {B : LedV} {car src num : Int} {m : MsV} {t : Tid} {i amt : Int} {s : SaleV} {A : SaleA} (hc : 0 ≤ car ∧ car ≤ 255) (hn : decide (B.n ≤ car) = false) {q : CR} (cq : CmdK CeuseF [] B car ⟨11, t, i, s, amt⟩ A q) : StepK F B ⟨car, 1, ⟨11, t, i, s, amt⟩, src, num, m⟩ A (stepR q) := by
  have cd := doings_w
  have w1 : IntKind.i64.wrap car = car := wr_i64 (by omega)
  unfold CmdK at cq
  obtain ⟨e, t', amt', st, b⟩ := q
  unfold stepR
  rcases Bool.eq_false_or_eq_true (decide (e = 0)) with g | g
  · have g2 : (!decide (e = 0)) = false := by rw [g]; rfl
    simp only [g]
    exact callOK_run 600 [hI 5 2 IntKind.i64 _ _ w1, hB 5 7 _ _ hn, hC 12 0 cd, hC 15 6 cq, hB 16 1 _ _ g2] (by kernel_rfl) (by kernel_rfl)
  · have g2 : (!decide (e = 0)) = true := by rw [g]; rfl
    have cf := cfailed_w e
    simp only [g]
    exact callOK_run 600 [hI 5 2 IntKind.i64 _ _ w1, hB 5 7 _ _ hn, hC 12 0 cd, hC 15 6 cq, hB 16 1 _ _ g2, hC 17 2 cf] (by kernel_rfl) (by kernel_rfl)
theorem stepk_12 (F : CF) {B : LedV} {car src num : Int} {m : MsV} {t : Tid} {i amt : Int} {s : SaleV} {A : SaleA} (hc : 0 ≤ car ∧ car ≤ 255) (hn : decide (B.n ≤ car) = false) {q : CR} (cq : CmdK CeuseF [] B car ⟨12, t, i, s, amt⟩ A q) : StepK F B ⟨car, 1, ⟨12, t, i, s, amt⟩, src, num, m⟩ A (stepR q) := by
  have cd := doings_w
  have w1 : IntKind.i64.wrap car = car := wr_i64 (by omega)
  unfold CmdK at cq
  obtain ⟨e, t', amt', st, b⟩ := q
  unfold stepR
  rcases Bool.eq_false_or_eq_true (decide (e = 0)) with g | g
  · have g2 : (!decide (e = 0)) = false := by rw [g]; rfl
    simp only [g]
    exact callOK_run 600 [hI 5 2 IntKind.i64 _ _ w1, hB 5 7 _ _ hn, hC 12 0 cd, hC 15 6 cq, hB 16 1 _ _ g2] (by kernel_rfl) (by kernel_rfl)
  · have g2 : (!decide (e = 0)) = true := by rw [g]; rfl
    have cf := cfailed_w e
    simp only [g]
    exact callOK_run 600 [hI 5 2 IntKind.i64 _ _ w1, hB 5 7 _ _ hn, hC 12 0 cd, hC 15 6 cq, hB 16 1 _ _ g2, hC 17 2 cf] (by kernel_rfl) (by kernel_rfl)
theorem stepk_13 (F : CF) {B : LedV} {car src num : Int} {m : MsV} {t : Tid} {i amt : Int} {s : SaleV} (A : SaleA) (hc : 0 ≤ car ∧ car ≤ 255) (hn : decide (B.n ≤ car) = false) : StepK F B ⟨car, 1, ⟨13, t, i, s, amt⟩, src, num, m⟩ A ⟨0, t, 0, [], B⟩ := by
  have cq := cesay_w ⟨13, t, i, s, amt⟩ A car
  have cd := doings_w
  have w1 : IntKind.i64.wrap car = car := wr_i64 (by omega)
  exact callOK_run 600 [hI 5 2 IntKind.i64 _ _ w1, hB 5 7 _ _ hn, hC 12 0 cd, hC 15 6 cq] (by kernel_rfl) (by kernel_rfl)
end Go.Proofs.YtdnaegleifhmgaaGreat
end
section
namespace Go.Proofs.YtdnaegleifhmgaaGreat
open Go.RowKit Go.Lib Go.Tk Go.Shelf Go.Vc Go.Sx
theorem cexch_L (F : CF) {L : List (DocV × DocA)} {B : LedV} (hb : LedG B) (hL : L.map (·.1) = B.docs) {who : Int} (hc : 0 ≤ who ∧ who ≤ 255) {c : CmdV} {A : SaleA} (htk : TidOk c.t) (ok : SaleOk c.s) (hl : ∀ b v, Rd (F b v) A.la (cellsL encLeg c.s.legs)) (hta : ∀ b v, Rd (F b v) A.ta (cellsL encTax c.s.taxes)) (h1 : SlOk A.la c.s.legs.length A.lc) (h2 : SlOk A.ta c.s.taxes.length A.tc) :
    CallOK Tryz.prog CexchF [.ptr 0 0 0, .val (.int .u8 who), .agg (cmdS c A)] [((0, 9), .fam F)] (ledH (docsF L) B) (crV (ceExchange B (cntC B.docs who) who c.t c.s)) (crP (ceExchange B (cntC B.docs who) who c.t c.s)) := by
  have lk := lkD_kv' hL c.t
  unfold ceExchange
  cases e : lkt (docKV L) c.t with
  | none =>
    rw [e] at lk
    rw [← lk]
    have c1 := ownL_w L B htk who
    rw [ownLE_none who e, dAt_none e] at c1
    have key : CallOK Tryz.prog CexchF [.ptr 0 0 0, .val (.int .u8 who), .agg (cmdS c A)] [((0, 9), .fam F)] (ledH (docsF L) B) (crV (failC 4 B)) (ledH (docsF L) B ++ [((1, 0), stVL [])]) := callOK_run 400 [hC 1 4 c1] (by kernel_rfl) (by kernel_rfl)
    exact led_known (B' := (failC 4 B).b) key hL
  | some p =>
    rw [e] at lk
    rw [← lk]
    obtain ⟨hat, hpt⟩ := at_of hL e
    have c1 := ownL_w L B htk who
    rw [dAt_some e] at c1
    show CallOK _ _ _ _ _ (crV (bif c.t.c != who then failC 4 B else ceExchangeD B (cntC B.docs who) who c.s p.1 (cgiftV B.slips p.1 p.1.vals.length))) (crP (bif c.t.c != who then failC 4 B else ceExchangeD B (cntC B.docs who) who c.s p.1 (cgiftV B.slips p.1 p.1.vals.length)))
    rcases Bool.eq_false_or_eq_true (c.t.c != who) with g1 | g1
    · rw [ownLE_not g1] at c1
      simp only [g1]
      have key : CallOK Tryz.prog CexchF [.ptr 0 0 0, .val (.int .u8 who), .agg (cmdS c A)] [((0, 9), .fam F)] (ledH (docsF L) B) (crV (failC 4 B)) (ledH (docsF L) B ++ [((1, 0), stVL [])]) := callOK_run 400 [hC 1 4 c1] (by kernel_rfl) (by kernel_rfl)
      exact led_known (B' := (failC 4 B).b) key hL
    rw [ownLE_ok e g1] at c1
    simp only [g1]
    show CallOK _ _ _ _ _ (crV (ceExchangeD B (cntC B.docs who) who c.s p.1 (cgiftV B.slips p.1 p.1.vals.length))) (crP (ceExchangeD B (cntC B.docs who) who c.s p.1 (cgiftV B.slips p.1 p.1.vals.length)))
    have hvn : vN L c.t = p.1.vals.length := by unfold vN; rw [dAt_some e]
    have h4 := hb.ok.vals p.1 hat.d
    have c2 := cgifts_w L B hb.ok.v (d := p.1) p.2 (by rw [hpt]; exact htk) (hb.ok.sal _ hat.d).pen.2 (by rw [hpt]; omega)
    rw [hpt, hvn] at c2
    have okk := fun (x : CGift) (hx : x = cgiftV B.slips p.1 p.1.vals.length) => cexch_ok (c := c) (A := A) F hb hL hc htk ok hl hta h1 h2 e g1 hx
    obtain ⟨x, hx⟩ : ∃ x, x = cgiftV B.slips p.1 p.1.vals.length := ⟨_, rfl⟩
    have okx := okk x hx
    rw [← hx] at c2 ⊢
    clear okk hx
    have hk := hb.serials hL who
    unfold ceExchangeD
    have c4 := madd_w p.1.kept x.k
    have c5 : CallOK Tryz.prog CorF [.raw 0 0] [((0, 0), cerrR [eN x.e, eN (addI p.1.kept x.k).2] 2)] [] (eN (cexE x p.1)) [] := cor2_w x.e (addI p.1.kept x.k).2
    have big : (decide (x.many = 0) = false ∨ decide (x.many = 0) = true ∧ decide (p.1.left = 0) = false) → (!tid0B' p.1.dst) = false →
        CallOK Tryz.prog CexchF [.ptr 0 0 0, .val (.int .u8 who), .agg (cmdS c A)] [((0, 9), .fam F)] (ledH (docsF L) B)
        (crV (bif !decide (cexE x p.1 = 0) then failC (cexE x p.1) B else bif !decide (issLE (cntC B.docs who) B.n who c.s = 0) then failC (issLE (cntC B.docs who) B.n who c.s) B else toldC (cexB B p.1 x ⟨who, (cntC B.docs who : Int) + 1⟩ c.s) ⟨who, (cntC B.docs who : Int) + 1⟩ (cpriceI c.s - usedC c.s x) (shareV c.s.fare (wsOf c.s)).length))
        (crP (bif !decide (cexE x p.1 = 0) then failC (cexE x p.1) B else bif !decide (issLE (cntC B.docs who) B.n who c.s = 0) then failC (issLE (cntC B.docs who) B.n who c.s) B else toldC (cexB B p.1 x ⟨who, (cntC B.docs who : Int) + 1⟩ c.s) ⟨who, (cntC B.docs who : Int) + 1⟩ (cpriceI c.s - usedC c.s x) (shareV c.s.fare (wsOf c.s)).length)) := fun hm2 hz => by
      rcases Bool.eq_false_or_eq_true (decide (cexE x p.1 = 0)) with e2 | e2
      · have hE := of_decide_eq_true e2
        rcases Bool.eq_false_or_eq_true (decide (issLE (cntC B.docs who) B.n who c.s = 0)) with e5 | e5
        · simp only [e2, e5]
          exact okx (of_decide_eq_true e5) hE hz hm2
        · have g2 : (!decide (cexE x p.1 = 0)) = false := by rw [e2]; rfl
          have g5 : (!decide (issLE (cntC B.docs who) B.n who c.s = 0)) = true := by rw [e5]; rfl
          have c6 := ceissue_no F (B := B) hc hk ok hl hta h1 h2 (of_decide_eq_false e5)
          simp only [e2, e5]
          clear okx
          rw [hE] at c5
          have key : CallOK Tryz.prog CexchF [.ptr 0 0 0, .val (.int .u8 who), .agg (cmdS c A)] [((0, 9), .fam F)] (ledH (docsF L) B) (crV (failC (issLE (cntC B.docs who) B.n who c.s) B)) (ledH (docsF L) B ++ [((1, 0), stVL [])]) := by
            rcases hm2 with m1 | ⟨m1, m2⟩
            · exact callOK_run 400 [hC 1 4 c1, hC 4 2 c2, hB 5 1 _ _ m1, hB 5 11 _ _ hz, hC 8 3 c4, hC 9 3 c5, hC 11 4 c6, hB 12 1 _ _ g5] (by kernel_rfl) (by kernel_rfl)
            · exact callOK_run 400 [hC 1 4 c1, hC 4 2 c2, hB 5 1 _ _ m1, hB 5 5 _ _ m2, hB 5 11 _ _ hz, hC 8 3 c4, hC 9 3 c5, hC 11 4 c6, hB 12 1 _ _ g5] (by kernel_rfl) (by kernel_rfl)
          exact led_known (B' := (failC (issLE (cntC B.docs who) B.n who c.s) B).b) key hL
      · have g2 : (!decide (cexE x p.1 = 0)) = true := by rw [e2]; rfl
        simp only [e2]
        clear okx
        have key : CallOK Tryz.prog CexchF [.ptr 0 0 0, .val (.int .u8 who), .agg (cmdS c A)] [((0, 9), .fam F)] (ledH (docsF L) B) (crV (failC (cexE x p.1) B)) (ledH (docsF L) B ++ [((1, 0), stVL [])]) := by
          rcases hm2 with m1 | ⟨m1, m2⟩
          · exact callOK_run 400 [hC 1 4 c1, hC 4 2 c2, hB 5 1 _ _ m1, hB 5 11 _ _ hz, hC 8 3 c4, hC 9 3 c5, hB 9 4 _ _ g2, hC 10 4 c5] (by kernel_rfl) (by kernel_rfl)
          · exact callOK_run 400 [hC 1 4 c1, hC 4 2 c2, hB 5 1 _ _ m1, hB 5 5 _ _ m2, hB 5 11 _ _ hz, hC 8 3 c4, hC 9 3 c5, hB 9 4 _ _ g2, hC 10 4 c5] (by kernel_rfl) (by kernel_rfl)
        exact led_known (B' := (failC (cexE x p.1) B).b) key hL
    clear okx
    unfold cnone
    rcases Bool.eq_false_or_eq_true (decide (x.many = 0)) with m1 | m1
    · rcases Bool.eq_false_or_eq_true (decide (p.1.left = 0)) with m2 | m2
      · simp only [m1, m2]
        have key : CallOK Tryz.prog CexchF [.ptr 0 0 0, .val (.int .u8 who), .agg (cmdS c A)] [((0, 9), .fam F)] (ledH (docsF L) B) (crV (failC 6 B)) (ledH (docsF L) B ++ [((1, 0), stVL [])]) := callOK_run 400 [hC 1 4 c1, hC 4 2 c2, hB 5 1 _ _ m1, hB 5 5 _ _ m2] (by kernel_rfl) (by kernel_rfl)
        exact led_known (B' := (failC 6 B).b) key hL
      · rcases Bool.eq_false_or_eq_true (!tid0B' p.1.dst) with z | z
        · simp only [m1, m2, z]
          have key : CallOK Tryz.prog CexchF [.ptr 0 0 0, .val (.int .u8 who), .agg (cmdS c A)] [((0, 9), .fam F)] (ledH (docsF L) B) (crV (failC 6 B)) (ledH (docsF L) B ++ [((1, 0), stVL [])]) := callOK_run 400 [hC 1 4 c1, hC 4 2 c2, hB 5 1 _ _ m1, hB 5 5 _ _ m2, hB 5 11 _ _ z] (by kernel_rfl) (by kernel_rfl)
          exact led_known (B' := (failC 6 B).b) key hL
        · have := big (.inr ⟨m1, m2⟩) z
          simp only [m1, m2, z]
          exact this
    · rcases Bool.eq_false_or_eq_true (!tid0B' p.1.dst) with z | z
      · simp only [m1, z]
        have key : CallOK Tryz.prog CexchF [.ptr 0 0 0, .val (.int .u8 who), .agg (cmdS c A)] [((0, 9), .fam F)] (ledH (docsF L) B) (crV (failC 6 B)) (ledH (docsF L) B ++ [((1, 0), stVL [])]) := callOK_run 400 [hC 1 4 c1, hC 4 2 c2, hB 5 1 _ _ m1, hB 5 11 _ _ z] (by kernel_rfl) (by kernel_rfl)
        exact led_known (B' := (failC 6 B).b) key hL
      · have := big (.inl m1) z
        simp only [m1, z]
        exact this
end Go.Proofs.YtdnaegleifhmgaaGreat
end
section
namespace Go.Proofs.YtdnaegleifhmgaaGreat
open Go.RowKit Go.Lib Go.Tk Go.Shelf Go.Vc Go.Sx
structure CmtWf (c : CmtV) : Prop where
  car : 0 ≤ c.car ∧ c.car ≤ 255
  kind : 0 ≤ c.kind ∧ c.kind ≤ 255
  src : 0 ≤ c.src ∧ c.src ≤ 255
  ck : 0 ≤ c.cmd.kind ∧ c.cmd.kind ≤ 255
  ct : TidOk c.cmd.t
  ci : 0 ≤ c.cmd.i ∧ c.cmd.i ≤ 255
  sale : SaleOk c.cmd.s
  key : KidOk c.m.key
theorem CmtWf.ok {c : CmtV} (h : CmtWf c) : CmtOk c := ⟨h.car, h.src, h.sale⟩
def DoT : TypeId := 97
theorem step_packet (F : CF) {B : LedV} (hb : LedG B) {car src num : Int} {cmd : CmdV} {m : MsV} (A : SaleA) (hc : 0 ≤ car ∧ car ≤ 255) (hs : 0 ≤ src ∧ src ≤ 255) (hk : KidOk m.key) (hn : decide (B.n ≤ car) = false) (h1 : decide (B.n ≤ src) = false) (h2 : decide (src = car) = false) :
    StepK F B ⟨car, 2, cmd, src, num, m⟩ A ⟨0, tid0, 0, [], B.setS (pkS B.slips car src m)⟩ := by
  have w1 : IntKind.i64.wrap car = car := wr_i64 (by omega)
  have w2 : IntKind.i64.wrap src = src := wr_i64 (by omega)
  have c1 := cepack_w (docsX B.docs) B hb.ok.st hk car src
  exact callOK_run 600 [hI 5 2 IntKind.i64 _ _ w1, hB 5 7 _ _ hn, hI 5 25 IntKind.i64 _ _ w2, hB 5 30 _ _ h1, hB 5 36 _ _ h2, hC 8 7 c1] (by kernel_rfl) (by kernel_rfl)
theorem step_ack (F : CF) {B : LedV} {car src num : Int} {cmd : CmdV} {m : MsV} (A : SaleA) (hc : 0 ≤ car ∧ car ≤ 255) (hn : decide (B.n ≤ car) = false) :
    StepK F B ⟨car, 3, cmd, src, num, m⟩ A ⟨0, tid0, 0, [], B⟩ := by
  have w1 : IntKind.i64.wrap car = car := wr_i64 (by omega)
  exact callOK_run 600 [hI 5 2 IntKind.i64 _ _ w1, hB 5 7 _ _ hn] (by kernel_rfl) (by kernel_rfl)
theorem step_bad (F : CF) {B : LedV} {car kind src num : Int} {cmd : CmdV} {m : MsV} (A : SaleA) (hc : 0 ≤ car ∧ car ≤ 255) (hs : 0 ≤ src ∧ src ≤ 255) (hb : stepBad B.n ⟨car, kind, cmd, src, num, m⟩ = true) :
    StepK F B ⟨car, kind, cmd, src, num, m⟩ A ⟨1, tid0, 0, [], B⟩ := by
  have w1 : IntKind.i64.wrap car = car := wr_i64 (by omega)
  have w2 : IntKind.i64.wrap src = src := wr_i64 (by omega)
  have cf := cfailed_w 1
  unfold stepBad at hb
  rcases Bool.eq_false_or_eq_true (decide (B.n ≤ car)) with e1 | e1
  · exact callOK_run 600 [hI 5 2 IntKind.i64 _ _ w1, hB 5 7 _ _ e1, hC 6 1 cf] (by kernel_rfl) (by kernel_rfl)
  rcases Bool.eq_false_or_eq_true (decide (kind < 1)) with e2 | e2
  · exact callOK_run 600 [hI 5 2 IntKind.i64 _ _ w1, hB 5 7 _ _ e1, hB 5 11 _ _ e2, hC 6 1 cf] (by kernel_rfl) (by kernel_rfl)
  rcases Bool.eq_false_or_eq_true (decide (3 < kind)) with e3 | e3
  · exact callOK_run 600 [hI 5 2 IntKind.i64 _ _ w1, hB 5 7 _ _ e1, hB 5 11 _ _ e2, hB 5 16 _ _ e3, hC 6 1 cf] (by kernel_rfl) (by kernel_rfl)
  rcases Bool.eq_false_or_eq_true (decide (kind = 2)) with e4 | e4
  · rcases Bool.eq_false_or_eq_true (decide (B.n ≤ src)) with e5 | e5
    · exact callOK_run 600 [hI 5 2 IntKind.i64 _ _ w1, hB 5 7 _ _ e1, hB 5 11 _ _ e2, hB 5 16 _ _ e3, hB 5 21 _ _ e4, hI 5 25 IntKind.i64 _ _ w2, hB 5 30 _ _ e5, hC 6 1 cf] (by kernel_rfl) (by kernel_rfl)
    · rcases Bool.eq_false_or_eq_true (decide (src = car)) with e6 | e6
      · exact callOK_run 600 [hI 5 2 IntKind.i64 _ _ w1, hB 5 7 _ _ e1, hB 5 11 _ _ e2, hB 5 16 _ _ e3, hB 5 21 _ _ e4, hI 5 25 IntKind.i64 _ _ w2, hB 5 30 _ _ e5, hB 5 36 _ _ e6, hC 6 1 cf] (by kernel_rfl) (by kernel_rfl)
      · simp only [e1, e2, e3, e4, e5, e6] at hb
        cases hb
  · simp only [e1, e2, e3, e4] at hb
    cases hb
theorem step_unknown (F : CF) {B : LedV} {car src num ck : Int} {t : Tid} {i amt : Int} {s : SaleV} {m : MsV} (A : SaleA) (hc : 0 ≤ car ∧ car ≤ 255) (hk : 0 ≤ ck ∧ ck ≤ 255) (hn : decide (B.n ≤ car) = false) (g : ¬ (1 ≤ ck ∧ ck ≤ 13)) :
    StepK F B ⟨car, 1, ⟨ck, t, i, s, amt⟩, src, num, m⟩ A ⟨1, tid0, 0, [], B⟩ := by
  have w1 : IntKind.i64.wrap car = car := wr_i64 (by omega)
  have cf := cfailed_w 1
  have cd := doings_w
  have l1 := look_missG (P := Tryz.prog) (t := DoT) (c := true) (es := doingsL.reverse) (k := .u8) (x := ck) (ret := .tup [.val .nilFunc, .val (.bool false)]) (z := .nilFunc) Tryz.underlying97 Tryz.underlying5 (by kernel_rfl) (by kernel_rfl) (keyOf_u8 hk) (fun w => still_run (by kernel_rfl) w)
    (fun q hq e => g (by
      simp only [doingsL, List.reverse_cons, List.reverse_nil, List.nil_append, List.cons_append, doE, List.mem_cons, List.not_mem_nil, or_false] at hq
      rcases hq with rfl | rfl | rfl | rfl | rfl | rfl | rfl | rfl | rfl | rfl | rfl | rfl | rfl <;> (cases e; omega)))
    (fun _ => rfl) (by rfl) (by kernel_rfl)
  exact callOK_run 600 [hI 5 2 IntKind.i64 _ _ w1, hB 5 7 _ _ hn, hC 12 0 cd, hG 12 4 l1, hC 14 1 cf] (by kernel_rfl) (by kernel_rfl)
end Go.Proofs.YtdnaegleifhmgaaGreat
end
section
namespace Go.Proofs.YtdnaegleifhmgaaGreat
open Go.RowKit Go.Lib Go.Tk Go.Shelf Go.Vc Go.Sx
theorem ceGive_docs (B : LedV) (who : Int) (c : CmdV) : (ceGive B who c).b.docs = B.docs := by
  unfold ceGive
  cases !(lkt B.slips c.k).isSome || decide (who = c.t.c) <;> cases !(sAt B.slips c.k).at_ who <;> cases !decide ((sAt B.slips c.k).p.st = 1) <;> rfl
theorem ceUse_docs (B : LedV) (who : Int) (c : CmdV) : (ceUse B who c).b.docs = B.docs := by
  unfold ceUse
  cases !(lkt B.slips c.k).isSome <;> cases !(sAt B.slips c.k).at_ who || ((sAt B.slips c.k).l.c != who) <;> cases !decide ((nextI (sAt B.slips c.k).p.st c.kind).2 = 0) <;> rfl
theorem cgiveK (B : LedV) {c : CmdV} (hk : KidOk c.k) (A : SaleA) (who : Int) : CmdK CegiveF [] B who c A (ceGive B who c) := by
  have h := cegive_w (docsX B.docs) B hk A who
  have e := ceGive_docs B who c
  unfold CmdK crP
  rw [e]
  exact h
theorem cuseK {B : LedV} (hs : SlipsSt B.slips) {c : CmdV} (hk : KidOk c.k) (hc : 0 ≤ c.kind ∧ c.kind ≤ 255) (A : SaleA) (who : Int) : CmdK CeuseF [] B who c A (ceUse B who c) := by
  have h := ceuse_w (docsX B.docs) B hs hk hc A who
  have e := ceUse_docs B who c
  unfold CmdK crP
  rw [e]
  exact h
abbrev StR (B : LedV) (c : CmtV) : CR := stepR (ceStep B c)
theorem step_k (F : CF) {B : LedV} (hb : LedG B) {c : CmtV} {A : SaleA} (h : CmtWf c) (hl : ∀ b v, Rd (F b v) A.la (cellsL encLeg c.cmd.s.legs)) (hta : ∀ b v, Rd (F b v) A.ta (cellsL encTax c.cmd.s.taxes)) (h1 : SlOk A.la c.cmd.s.legs.length A.lc) (h2 : SlOk A.ta c.cmd.s.taxes.length A.tc) :
    StepK F B c A (StR B c) := by
  obtain ⟨car, kind, ⟨ck, t, i, s, amt⟩, src, num, m⟩ := c
  obtain ⟨hcar, hkind, hsrc, hck, hct, hci, hsale, hkey⟩ := h
  dsimp only at hcar hkind hsrc hck hct hci hsale hkey hl hta h1 h2
  unfold StR ceStep
  cases g : stepBad B.n ⟨car, kind, ⟨ck, t, i, s, amt⟩, src, num, m⟩ with
  | true => exact step_bad F A hcar hsrc g
  | false =>
    have g' := g
    unfold stepBad at g'
    simp only [Bool.or_eq_false_iff, decide_eq_false_iff_not] at g'
    obtain ⟨g1, g2, g3, g4⟩ := g'
    have hn : decide (B.n ≤ car) = false := decide_eq_false g1
    rcases (show kind = 1 ∨ kind = 2 ∨ kind = 3 by omega) with rfl | rfl | rfl
    · show StepK F B _ A (stepR (ceDo B car ⟨ck, t, i, s, amt⟩))
      by_cases hu : 1 ≤ ck ∧ ck ≤ 13
      · have kk : KidOk (CmdV.k ⟨ck, t, i, s, amt⟩) := ⟨hct, hci⟩
        have kv := hb.ok
        rcases (show ck = 1 ∨ ck = 2 ∨ ck = 3 ∨ ck = 4 ∨ ck = 5 ∨ ck = 6 ∨ ck = 7 ∨ ck = 8 ∨ ck = 9 ∨ ck = 10 ∨ ck = 11 ∨ ck = 12 ∨ ck = 13 by omega) with rfl | rfl | rfl | rfl | rfl | rfl | rfl | rfl | rfl | rfl | rfl | rfl | rfl
        · exact stepk_1 F hcar hn (ledX2 (B' := (ceSell B (cntC B.docs car) car s).b) fun L hL hsl => cesell_ok (c := ⟨1, t, i, s, amt⟩) F hb hL hcar hsale hl hta h1 h2)
        · exact stepk_2 F A hcar hn
        · exact stepk_3 F hcar hn (ledX2 (B' := (ceVoid B car t).b) fun L hL hsl => cevoid_L (c := ⟨3, t, i, s, amt⟩) hb.ok hL hsl A hct car)
        · exact stepk_4 F hcar hn (ledX2 (B' := (ceRefund B car t).b) fun L hL hsl => cerefund_L (c := ⟨4, t, i, s, amt⟩) hb.ok hL A hct car)
        · exact stepk_5 F hcar hn (ledX2 (B' := (ceExchange B (cntC B.docs car) car t s).b) fun L hL hsl => cexch_L (c := ⟨5, t, i, s, amt⟩) F hb hL hcar hct hsale hl hta h1 h2)
        · exact stepk_6 F A hcar hn
        · exact stepk_7 F hcar hn (cgiveK B kk A car)
        · exact stepk_8 F A hcar hn
        · exact stepk_9 F hcar hn (cuseK hb.ok.st kk hck A car)
        · exact stepk_10 F hcar hn (cuseK hb.ok.st kk hck A car)
        · exact stepk_11 F hcar hn (cuseK hb.ok.st kk hck A car)
        · exact stepk_12 F hcar hn (cuseK hb.ok.st kk hck A car)
        · exact stepk_13 F A hcar hn
      · have e : ceDo B car ⟨ck, t, i, s, amt⟩ = failC 1 B := by
          unfold ceDo
          dsimp only
          rw [if_neg (by omega), if_neg (by omega), if_neg (by omega), if_neg (by omega), if_neg (by omega), if_neg (by omega), if_neg (by omega), if_neg (by omega)]
        rw [e]
        exact step_unknown F A hcar hck hn hu
    · simp only [Bool.and_eq_false_iff, Bool.or_eq_false_iff, decide_eq_false_iff_not] at g4
      rcases g4 with g4 | ⟨g4, g5⟩
      · exact absurd trivial g4
      · exact step_packet F hb A hcar hsrc hkey hn (decide_eq_false g4) (decide_eq_false g5)
    · exact step_ack F A hcar hn
theorem step_c (F : CF) {B : LedV} (hb : LedG B) {c : CmtV} {A : SaleA} (h : CmtWf c) (hl : ∀ b v, Rd (F b v) A.la (cellsL encLeg c.cmd.s.legs)) (hta : ∀ b v, Rd (F b v) A.ta (cellsL encTax c.cmd.s.taxes)) (h1 : SlOk A.la c.cmd.s.legs.length A.lc) (h2 : SlOk A.ta c.cmd.s.taxes.length A.tc) :
    CallOK Tryz.prog StepLF [.ptr 0 0 0, .agg (cmtS c A)] [((0, 9), .fam F)] (ledC B) (stV' (StR B c)) (ledC (StR B c).b ++ [((1, 0), stVL (StR B c).st)]) :=
  lshut (B' := (StR B c).b) (step_k F hb h hl hta h1 h2) rfl rfl rfl rfl
theorem stepR_b (q : CR) : (stepR q).b = q.b := by
  unfold stepR
  cases decide (q.e = 0) <;> rfl
theorem stepR_e (q : CR) : (stepR q).e = q.e := by
  unfold stepR
  cases h : decide (q.e = 0) with
  | false => rfl
  | true => exact (of_decide_eq_true h).symm
theorem StR_ok {B : LedV} (h : LedG B) {c : CmtV} (hc : CmtWf c) : StepOk B (mayP c) (mayW c) (StR B c) := by
  have o := ceStep_ok h hc.ok
  refine ⟨by rw [stepR_b]; exact o.g, by rw [stepR_b]; exact o.n, fun e => by rw [stepR_e] at e; rw [stepR_b]; exact o.bad e, fun k s e => by rw [stepR_b]; exact o.old k s e, fun k s e1 e2 => by rw [stepR_b] at e2; exact o.new k s e1 e2⟩
end Go.Proofs.YtdnaegleifhmgaaGreat
end
