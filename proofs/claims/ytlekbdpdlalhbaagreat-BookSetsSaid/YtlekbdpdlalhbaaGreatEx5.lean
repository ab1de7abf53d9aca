/- EXCHANGE 5: a ticket is sold, looked at, taken back, paid back. -/
import Derived.Test.YtlekbdpdlalhbaaGreatMe48a335
namespace Go.Proofs.YtlekbdpdlalhbaaGreat
set_option maxRecDepth 100000
open Go.RowKit Go.Lib Go.Tk Go.Shelf Go.Vc Go.Sx
set_option linter.unusedVariables false
set_option linter.unusedSimpArgs false

theorem sum_bound : ∀ (xs : List Int) (s : Int), -1125899906842624 ≤ s → s ≤ 1125899906842624 → -1125899906842624 ≤ (sumFrom s xs).1 ∧ (sumFrom s xs).1 ≤ 1125899906842624
  | [], s, h1, h2 => ⟨h1, h2⟩
  | x :: r, s, h1, h2 => by
    show _ ≤ (if (addI s x).2 = 0 then sumFrom (addI s x).1 r else (0, 7)).1 ∧ (if (addI s x).2 = 0 then sumFrom (addI s x).1 r else (0, 7)).1 ≤ _
    rcases addI_cases s x with ⟨e, -, -, h3, h4⟩ | ⟨e, -, -⟩
    · rw [if_pos e, h4]
      have := mayI_of h3
      exact sum_bound r _ this.1 this.2
    · rw [if_neg (by omega)]; omega
theorem lkD_mem {ds : List DocV} {t : Tid} {d : DocV} (h : lkD ds t = some d) : d ∈ ds ∧ d.t = t := ⟨List.mem_of_find?_eq_some h, by simpa using List.find?_some h⟩
theorem lkD_some {ds : List DocV} {t : Tid} (h : t ∈ ds.map (·.t)) : ∃ d, lkD ds t = some d := by
  obtain ⟨d, hd, rfl⟩ := List.mem_map.1 h
  cases e : lkD ds d.t with
  | some x => exact ⟨x, rfl⟩
  | none => have := List.find?_eq_none.1 e d hd; simp at this
theorem putD_t (ds : List DocV) (d : DocV) : (putD ds d).map (·.t) = ds.map (·.t) := by
  unfold putD
  rw [List.map_map]
  refine List.map_congr_left fun x _ => ?_
  show (if x.t = d.t then d else x).t = x.t
  by_cases e : x.t = d.t
  · rw [if_pos e, e]
  · rw [if_neg e]
theorem BookOk.nodup {B : BookV} (h : BookOk B) : (B.docs.map (·.t)).Nodup := by
  unfold List.Nodup
  rw [List.pairwise_iff_getElem]
  intro i j hi hj hij e
  rw [List.length_map] at hi hj
  rw [List.getElem_map, List.getElem_map] at e
  have h1 := h.docs i _ (List.getElem?_eq_getElem hi)
  have h2 := h.docs j _ (List.getElem?_eq_getElem hj)
  rw [h1, h2] at e
  have := congrArg Tid.r e
  simp only at this
  omega
/-- a book that an agent may do anything with -/
structure ExOk (B : BookV) : Prop where
  bk : BookOk B
  sal : ∀ d ∈ B.docs, SaleOk d.s
  sm : ∀ d ∈ B.docs, DocSmall d
  own : ∀ k o, lkt B.owns k = some o → OwnOk o
theorem ExOk.coup {B : BookV} (h : ExOk B) (t : Tid) : ∀ o ∈ coupL B t, OwnOk o := by
  rcases coupL_cases B t with ⟨e, h0⟩ | ⟨a, e, h0, h1⟩ | ⟨a, b, e, h0, h1, h2⟩ | ⟨a, b, c, e, h0, h1, h2, h3⟩ | ⟨a, b, c, x, e, h0, h1, h2, h3⟩ <;> rw [e] <;> intro o ho <;> simp only [List.mem_cons, List.not_mem_nil, or_false] at ho
  · subst ho; exact h.own _ _ h0
  · rcases ho with rfl | rfl
    · exact h.own _ _ h0
    · exact h.own _ _ h1
  · rcases ho with rfl | rfl | rfl
    · exact h.own _ _ h0
    · exact h.own _ _ h1
    · exact h.own _ _ h2
  · rcases ho with rfl | rfl | rfl | rfl
    · exact h.own _ _ h0
    · exact h.own _ _ h1
    · exact h.own _ _ h2
    · exact h.own _ _ h3
/-- what comes of an act: an error, a ticket, an amount, how its coupons stand, the book -/
structure XR where
  e : Int
  t : Tid
  amt : Int
  st : List Int
  b : BookV
def failX (e : Int) (B : BookV) : XR := ⟨e, tid0, 0, [], B⟩
def toldX (B : BookV) (t : Tid) (amt : Int) : XR := ⟨0, t, amt, statusL B t, B⟩
def xrV (q : XR) : SV := .tup [.agg (repS q.e q.t q.amt (.raw 1 0)), eN q.e]
def xrP (q : XR) : Heap := bkC q.b ++ [((1, 0), stC q.st)]
def priceI (s : SaleV) : Int := (sumFrom 0 (priceL s)).1
/-! ### Display -/
def exDisplay (B : BookV) (t : Tid) : XR := match lkD B.docs t with
  | none => failX 4 B
  | some d => toldX B t d.left
def DisplayF : Nat := 112
theorem display_w {B : BookV} (h : ExOk B) {t : Tid} (ht : TidOk t) : CallOK Tryz.prog DisplayF [.ptr 0 0 0, .agg (tidS t)] [] (bkC B) (xrV (exDisplay B t)) (xrP (exDisplay B t)) := by
  unfold exDisplay
  cases hl : lkD B.docs t with
  | none =>
    have c1 := doc_no ht hl
    have c2 := failed_w 4
    exact callOK_run 400 [hC 1 2 c1, hC 3 1 c2] (by kernel_rfl) (by kernel_rfl)
  | some d =>
    have c1 := doc_ok ht hl (h.sm d (lkD_mem hl).1)
    have c2 := told_w B ht d.left
    exact callOK_run 400 [hC 1 2 c1, hC 4 4 c2] (by kernel_rfl) (by kernel_rfl)
/-! ### Issue -/
def exIssue (B : BookV) (s : SaleV) : XR := bif decide (B.issE s = 0) then toldX (B.issued s) B.nextT (priceI s) else failX (B.issE s) B
def ExIssueF : Nat := 42
theorem issE_check {B : BookV} {s : SaleV} (h : B.issE s = 0) : checkE s B.n = 0 := by
  unfold BookV.issE at h
  cases g : decide ((32 : Int) ≤ (B.docs.length : Int)) with
  | true => rw [g] at h; cases h
  | false =>
    rw [g] at h
    have h : makeE B.self ((B.docs.length : Int) + 1) s B.n = 0 := h
    unfold makeE at h
    split at h
    · cases h
    · exact h
theorem issE_price {B : BookV} {s : SaleV} (h : B.issE s = 0) : (sumFrom 0 (priceL s)).2 = 0 := (check_shape (issE_check h)).2.2.2
theorem nextT_ok {B : BookV} (hb : BookOk B) : TidOk B.nextT := by
  have h1 := hb.self
  have h2 := hb.n
  have h3 := hb.many
  exact ⟨⟨by show 0 ≤ B.self; omega, by show B.self ≤ 255; omega⟩, by show 0 ≤ (B.docs.length : Int) + 1; omega, by show (B.docs.length : Int) + 1 ≤ _; omega⟩
theorem exIssue_F (F : CF) {B : BookV} (hb : BookOk B) {s : SaleV} {A : SaleA} (ok : SaleOk s) (hl : ∀ b v, Rd (F b v) A.la (cellsL encLeg s.legs)) (ht : ∀ b v, Rd (F b v) A.ta (cellsL encTax s.taxes)) (h1 : SlOk A.la s.legs.length A.lc) (h2 : SlOk A.ta s.taxes.length A.tc) :
    CallOK Tryz.prog ExIssueF [.ptr 0 0 0, .agg (salS s (.val (.slice A.la s.legs.length A.lc)) (.val (.slice A.ta s.taxes.length A.tc)))] [((0, 9), .fam F)] (bkC B) (xrV (exIssue B s)) (xrP (exIssue B s)) := by
  have c2 := price_F F ok hl ht (fun e => (h1.nil e).2) (fun e => (h2.nil e).2)
  unfold exIssue
  rcases Bool.eq_false_or_eq_true (decide (B.issE s = 0)) with e1 | e1
  · have hm : B.issE s = 0 := of_decide_eq_true e1
    have c1 := issue_okC F hb ok hl ht h1 h2 hm
    have hp := issE_price hm
    have c3 := first2_w 0 0
    have c4 := told_w (B.issued s) (nextT_ok hb) (priceI s)
    rw [hp] at c2
    rw [e1]
    exact callOK_run 400 [hC 1 2 c1, hC 2 1 c2, hC 3 3 c3, hC 6 4 c4] (by kernel_rfl) (by kernel_rfl)
  · have hm : B.issE s ≠ 0 := of_decide_eq_false e1
    have c1 := issue_noC F hb ok hl ht h1 h2 hm
    have c3 := first2_w (B.issE s) (sumFrom 0 (priceL s)).2
    have f1 : first2 (B.issE s) (sumFrom 0 (priceL s)).2 = B.issE s := by unfold first2; rw [e1]; rfl
    have c4 := failed_w (B.issE s)
    have g1 : (!decide (B.issE s = 0)) = true := by rw [e1]; rfl
    rw [f1] at c3
    rw [e1]
    exact callOK_run 400 [hC 1 2 c1, hC 2 1 c2, hC 3 3 c3, hB 4 1 _ _ g1, hC 5 1 c4] (by kernel_rfl) (by kernel_rfl)
/-! ### Void -/
def voidO (o : OwnV) : Bool := freeO o && decide (o.k.n = 0)
def voidL : Bool → List OwnV → Bool
  | b, [] => b
  | b, o :: l => voidL (b && voidO o) l
def Void1F : Nat := 161
def voidFn : SV := .fn (.func Void1F) [] [.ptr 0 1 0]
def boolB (b : Bool) : Heap := [((0, 1), .box none [.val (.bool b)])]
theorem void1_w (k : Kid) (o : OwnV) (b : Bool) : CallOK Tryz.prog Void1F [.agg (kidS k), .agg (ownS o), .ptr 0 1 0] [] (boolB b) noS (boolB (b && voidO o)) := by
  have c1 := efree_w o
  unfold voidO
  cases b
  · exact callOK_run 400 [] (by kernel_rfl) (by kernel_rfl)
  · rcases Bool.eq_false_or_eq_true (freeO o) with e1 | e1
    · rcases Bool.eq_false_or_eq_true (decide (o.k.n = 0)) with e2 | e2 <;> simp only [e1, e2] at c1 ⊢ <;> exact callOK_run 400 [hC 1 3 c1, hB 1 9 _ _ e2] (by kernel_rfl) (by kernel_rfl)
    · simp only [e1] at c1 ⊢; exact callOK_run 400 [hC 1 3 c1] (by kernel_rfl) (by kernel_rfl)
theorem each_void (B : BookV) {t : Tid} (ht : TidOk t) (y : Bool) : CallOK Tryz.prog EachF [.ptr 0 0 0, .agg (tidS t), voidFn] (bkC B) (boolB y) noS (boolB (voidL y (coupL B t))) := by
  have st := status_d B ht
  have c0 := own_c B (kidOk_at ht (i := 0) (by decide) (by decide))
  have c1 := own_c B (kidOk_at ht (i := 1) (by decide) (by decide))
  have c2 := own_c B (kidOk_at ht (i := 2) (by decide) (by decide))
  have c3 := own_c B (kidOk_at ht (i := 3) (by decide) (by decide))
  rcases coupL_cases B t with ⟨e, h0⟩ | ⟨a, e, h0, h1⟩ | ⟨a, b, e, h0, h1, h2⟩ | ⟨a, b, c, e, h0, h1, h2, h3⟩ | ⟨a, b, c, x, e, h0, h1, h2, h3⟩
  · rw [e] at st ⊢
    exact callOK_runU 900 [hC 1 2 st] (by kernel_rfl) (by kernel_rfl)
  · rw [e] at st ⊢
    rw [h0] at c0
    have t0 := void1_w ⟨t, 0⟩ a y
    exact callOK_runU 900 [hC 1 2 st, hC 5 2 c0, hC 7 3 t0] (by kernel_rfl) (by kernel_rfl)
  · rw [e] at st ⊢
    rw [h0] at c0
    rw [h1] at c1
    have t0 := void1_w ⟨t, 0⟩ a y
    have t1 := void1_w ⟨t, 1⟩ b (y && voidO a)
    exact callOK_runU 900 [hC 1 2 st, hC 5 2 c0, hC 7 3 t0, hC 5 2 c1, hC 7 3 t1] (by kernel_rfl) (by kernel_rfl)
  · rw [e] at st ⊢
    rw [h0] at c0
    rw [h1] at c1
    rw [h2] at c2
    have t0 := void1_w ⟨t, 0⟩ a y
    have t1 := void1_w ⟨t, 1⟩ b (y && voidO a)
    have t2 := void1_w ⟨t, 2⟩ c (y && voidO a && voidO b)
    exact callOK_runU 900 [hC 1 2 st, hC 5 2 c0, hC 7 3 t0, hC 5 2 c1, hC 7 3 t1, hC 5 2 c2, hC 7 3 t2] (by kernel_rfl) (by kernel_rfl)
  · rw [e] at st ⊢
    rw [h0] at c0
    rw [h1] at c1
    rw [h2] at c2
    rw [h3] at c3
    have t0 := void1_w ⟨t, 0⟩ a y
    have t1 := void1_w ⟨t, 1⟩ b (y && voidO a)
    have t2 := void1_w ⟨t, 2⟩ c (y && voidO a && voidO b)
    have t3 := void1_w ⟨t, 3⟩ x (y && voidO a && voidO b && voidO c)
    exact callOK_runU 900 [hC 1 2 st, hC 5 2 c0, hC 7 3 t0, hC 5 2 c1, hC 7 3 t1, hC 5 2 c2, hC 7 3 t2, hC 5 2 c3, hC 7 3 t3] (by kernel_rfl) (by kernel_rfl)
def tid0B (t : Tid) : Bool := decide (t.c = 0) && (decide (t.r = 0) && true)
def voidD (d : DocV) : DocV := { d with back := (addI d.back d.paid).1 }
def exVoidD (B : BookV) (t : Tid) (d : DocV) : XR :=
  bif !voidL (tid0B d.frm) (coupL B t) then failX 6 B
  else bif !decide ((addI d.back d.paid).2 = 0) then failX (addI d.back d.paid).2 B
  else toldX (turnB (B.setD (voidD d)) t 5) t (-priceI d.s)
def exVoid (B : BookV) (t : Tid) : XR := match lkD B.docs t with
  | none => failX 4 B
  | some d => exVoidD B t d
def VoidF : Nat := 118
theorem void_w {B : BookV} (h : ExOk B) {t : Tid} (ht : TidOk t) : CallOK Tryz.prog VoidF [.ptr 0 0 0, .agg (tidS t)] [] (bkC B) (xrV (exVoid B t)) (xrP (exVoid B t)) := by
  unfold exVoid
  cases hl : lkD B.docs t with
  | none =>
    have c1 := doc_no ht hl
    have c2 := failed_w 4
    exact callOK_run 400 [hC 1 2 c1, hC 3 1 c2] (by kernel_rfl) (by kernel_rfl)
  | some d =>
    obtain ⟨hd, rfl⟩ := lkD_mem hl
    have c1 := doc_ok ht hl (h.sm d hd)
    have c2 := each_void B ht (tid0B d.frm)
    have c3 := failed_w 6
    show CallOK _ _ _ _ _ (xrV (exVoidD B d.t d)) (xrP (exVoidD B d.t d))
    unfold exVoidD
    rcases Bool.eq_false_or_eq_true (voidL (tid0B d.frm) (coupL B d.t)) with e1 | e1
    · have c4 := madd_w d.back d.paid
      rcases Bool.eq_false_or_eq_true (decide ((addI d.back d.paid).2 = 0)) with e2 | e2
      · have g2 : (!decide ((addI d.back d.paid).2 = 0)) = false := by rw [e2]; rfl
        have c5 := setDoc_ok (d := voidD d) ht hl h.bk.nodup ⟨(h.sm d hd).nl, (h.sm d hd).nt, (h.sm d hd).nv⟩
        have c6 := turn_w (B.setD (voidD d)) ht 5
        have c7 := price_R (h.sal d hd)
        have bp := sum_bound (priceL d.s) 0 (by decide) (by decide)
        have w1 : IntKind.i64.wrap (0 - (sumFrom 0 (priceL d.s)).1) = -priceI d.s := by rw [wr_i64 (by omega)]; exact Int.zero_sub _
        have c8 := told_w (turnB (B.setD (voidD d)) d.t 5) ht (-priceI d.s)
        simp only [e1, e2] at c2 ⊢
        exact callOK_run 400 [hC 1 2 c1, hC 5 3 c2, hC 8 4 c4, hB 9 1 _ _ g2, hC 11 2 c5, hC 12 2 c6, hC 13 2 c7, hI 14 3 IntKind.i64 _ _ w1, hC 14 4 c8] (by kernel_rfl) (by kernel_rfl)
      · have g2 : (!decide ((addI d.back d.paid).2 = 0)) = true := by rw [e2]; rfl
        have c5 := failed_w (addI d.back d.paid).2
        simp only [e1, e2] at c2 ⊢
        exact callOK_run 400 [hC 1 2 c1, hC 5 3 c2, hC 8 4 c4, hB 9 1 _ _ g2, hC 10 1 c5] (by kernel_rfl) (by kernel_rfl)
    · simp only [e1] at c2 ⊢
      exact callOK_run 400 [hC 1 2 c1, hC 5 3 c2, hC 7 0 c3] (by kernel_rfl) (by kernel_rfl)
/-! ### Refund -/
def refD (B : BookV) (d : DocV) : DocV := { d with back := (addI d.back (giftV B d).g).1, kept := (addI d.kept (giftV B d).k).1, left := 0 }
def refE (B : BookV) (d : DocV) : Int := first2 (giftV B d).e (first2 (addI d.back (giftV B d).g).2 (addI d.kept (giftV B d).k).2)
def noneB (B : BookV) (d : DocV) : Bool := decide ((giftV B d).many = 0) && decide (d.left = 0)
def exRefundD (B : BookV) (t : Tid) (d : DocV) : XR :=
  bif noneB B d then failX 6 B
  else bif !decide (refE B d = 0) then failX (refE B d) B
  else toldX (turnB (B.setD (refD B d)) t 6) t (-(giftV B d).g)
def exRefund (B : BookV) (t : Tid) : XR := match lkD B.docs t with
  | none => failX 4 B
  | some d => exRefundD B t d
def RefundF : Nat := 113
theorem refund_w {B : BookV} (h : ExOk B) {t : Tid} (ht : TidOk t) : CallOK Tryz.prog RefundF [.ptr 0 0 0, .agg (tidS t)] [] (bkC B) (xrV (exRefund B t)) (xrP (exRefund B t)) := by
  unfold exRefund
  cases hl : lkD B.docs t with
  | none =>
    have c1 := doc_no ht hl
    have c2 := failed_w 4
    exact callOK_run 400 [hC 1 2 c1, hC 3 1 c2] (by kernel_rfl) (by kernel_rfl)
  | some d =>
    obtain ⟨hd, rfl⟩ := lkD_mem hl
    have c1 := doc_ok ht hl (h.sm d hd)
    have c2 := gifts_w B ht (h.sal d hd).pen.2 (h.coup d.t)
    have c3 := failed_w 6
    have bg := sum_bound (giveL B d) 0 (by decide) (by decide)
    show CallOK _ _ _ _ _ (xrV (exRefundD B d.t d)) (xrP (exRefundD B d.t d))
    have bg : -1125899906842624 ≤ (giftV B d).g ∧ (giftV B d).g ≤ 1125899906842624 := bg
    unfold exRefundD
    have big : noneB B d = false → CallOK Tryz.prog RefundF [.ptr 0 0 0, .agg (tidS d.t)] [] (bkC B) (xrV (bif !decide (refE B d = 0) then failX (refE B d) B else toldX (turnB (B.setD (refD B d)) d.t 6) d.t (-(giftV B d).g))) (xrP (bif !decide (refE B d = 0) then failX (refE B d) B else toldX (turnB (B.setD (refD B d)) d.t 6) d.t (-(giftV B d).g))) := fun hn => by
      have c4 := madd_w d.back (giftV B d).g
      have c5 := madd_w d.kept (giftV B d).k
      have c6 := first3_w (giftV B d).e (addI d.back (giftV B d).g).2 (addI d.kept (giftV B d).k).2
      have c6 : CallOK Tryz.prog FirstF [.raw 0 0] [((0, 0), errR [eN (giftV B d).e, eN (addI d.back (giftV B d).g).2, eN (addI d.kept (giftV B d).k).2] 3)] [] (eN (refE B d)) [] := c6
      have two : ∀ x, noneB B d = x → (decide ((giftV B d).many = 0) && decide (d.left = 0)) = x := fun x e => e
      have hn := two _ hn
      clear two
      rcases Bool.eq_false_or_eq_true (decide (refE B d = 0)) with e2 | e2
      · have g2 : (!decide (refE B d = 0)) = false := by rw [e2]; rfl
        have c7 := setDoc_ok (d := refD B d) ht hl h.bk.nodup ⟨(h.sm d hd).nl, (h.sm d hd).nt, (h.sm d hd).nv⟩
        have c8 := turn_w (B.setD (refD B d)) ht 6
        have w1 : IntKind.i64.wrap (0 - (giftV B d).g) = -(giftV B d).g := by rw [wr_i64 (by omega)]; exact Int.zero_sub _
        have c9 := told_w (turnB (B.setD (refD B d)) d.t 6) ht (-(giftV B d).g)
        simp only [e2]
        rcases Bool.eq_false_or_eq_true (decide ((giftV B d).many = 0)) with e3 | e3
        · rw [e3] at hn
          have e4 : decide (d.left = 0) = false := hn
          exact callOK_run 400 [hC 1 2 c1, hC 4 2 c2, hB 5 2 _ _ e3, hB 5 6 _ _ hn, hC 8 4 c4, hC 9 4 c5, hC 10 5 c6, hB 11 1 _ _ g2, hC 14 2 c7, hC 15 2 c8, hI 16 4 IntKind.i64 _ _ w1, hC 16 5 c9] (by kernel_rfl) (by kernel_rfl)
        · exact callOK_run 400 [hC 1 2 c1, hC 4 2 c2, hB 5 2 _ _ e3, hC 8 4 c4, hC 9 4 c5, hC 10 5 c6, hB 11 1 _ _ g2, hC 14 2 c7, hC 15 2 c8, hI 16 4 IntKind.i64 _ _ w1, hC 16 5 c9] (by kernel_rfl) (by kernel_rfl)
      · have g2 : (!decide (refE B d = 0)) = true := by rw [e2]; rfl
        have c7 := failed_w (refE B d)
        simp only [e2]
        rcases Bool.eq_false_or_eq_true (decide ((giftV B d).many = 0)) with e3 | e3
        · rw [e3] at hn
          have e4 : decide (d.left = 0) = false := hn
          exact callOK_run 400 [hC 1 2 c1, hC 4 2 c2, hB 5 2 _ _ e3, hB 5 6 _ _ hn, hC 8 4 c4, hC 9 4 c5, hC 10 5 c6, hB 11 1 _ _ g2, hC 12 1 c7] (by kernel_rfl) (by kernel_rfl)
        · exact callOK_run 400 [hC 1 2 c1, hC 4 2 c2, hB 5 2 _ _ e3, hC 8 4 c4, hC 9 4 c5, hC 10 5 c6, hB 11 1 _ _ g2, hC 12 1 c7] (by kernel_rfl) (by kernel_rfl)
    rcases Bool.eq_false_or_eq_true (noneB B d) with e1 | e1
    · rw [e1]
      unfold noneB at e1
      rw [Bool.and_eq_true] at e1
      obtain ⟨e3, e4⟩ := e1
      exact callOK_run 400 [hC 1 2 c1, hC 4 2 c2, hB 5 2 _ _ e3, hB 5 6 _ _ e4, hC 6 0 c3] (by kernel_rfl) (by kernel_rfl)
    · rw [e1]
      exact big e1
end Go.Proofs.YtlekbdpdlalhbaaGreat
