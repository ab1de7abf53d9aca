/- Ex5, Ex6, BkC1, BkC2, BkC3. -/
import Derived.Test.YtifapcpcemigdaaGreatMf331612
import Derived.Test.YtifapcpcemigdaaGreatM533403a
import Derived.Shelf.SlMaps.Clone
set_option maxRecDepth 100000
set_option linter.unusedVariables false
set_option linter.unusedSimpArgs false
set_option linter.unusedSectionVars false
section
namespace Go.Proofs.YtifapcpcemigdaaGreat
open Go.RowKit Go.Lib Go.Tk Go.Shelf Go.Vc Go.Sx
theorem sum_bound : ∀ (xs : List Int) (s : Int), -1125899906842624 ≤ s → s ≤ 1125899906842624 → -1125899906842624 ≤ (sumFrom s xs).1 ∧ (sumFrom s xs).1 ≤ 1125899906842624
  | [], s, h1, h2 => ⟨h1, h2⟩
  | x :: r, s, h1, h2 => by
    show _ ≤ (if (addI s x).2 = 0 then sumFrom (addI s x).1 r else (0, 7)).1 ∧ (if (addI s x).2 = 0 then sumFrom (addI s x).1 r else (0, 7)).1 ≤ _
    rcases addI_cases s x with ⟨e, -, -, h3, h4⟩ | ⟨e, -, -⟩
    · rw [if_pos e, h4]
      have := mayI_of h3
      exact sum_bound r _ this.1 this.2
    · rw [if_neg (by omega)]; omega
theorem lkD_mem {ds : List DocV} {t : Tid} {d : DocV} (h : lkD ds t = some d) : d ∈ ds ∧ d.t = t := ⟨List.mem_of_find?_eq_some h, by simpa using List.find?_some h⟩
theorem lkD_some {ds : List DocV} {t : Tid} (h : t ∈ ds.map (·.t)) : ∃ d, lkD ds t = some d := by
  obtain ⟨d, hd, rfl⟩ := List.mem_map.1 h
  cases e : lkD ds d.t with
  | some x => exact ⟨x, rfl⟩
  | none => have := List.find?_eq_none.1 e d hd; simp at this
theorem putD_t (ds : List DocV) (d : DocV) : (putD ds d).map (·.t) = ds.map (·.t) := by
  unfold putD
  rw [List.map_map]
  refine List.map_congr_left fun x _ => ?_
  show (if x.t = d.t then d else x).t = x.t
  by_cases e : x.t = d.t
  · rw [if_pos e, e]
  · rw [if_neg e]
theorem BookOk.nodup {B : BookV} (h : BookOk B) : (B.docs.map (·.t)).Nodup := by
  unfold List.Nodup
  rw [List.pairwise_iff_getElem]
  intro i j hi hj hij e
  rw [List.length_map] at hi hj
  rw [List.getElem_map, List.getElem_map] at e
  have h1 := h.docs i _ (List.getElem?_eq_getElem hi)
  have h2 := h.docs j _ (List.getElem?_eq_getElem hj)
  rw [h1, h2] at e
  have := congrArg Tid.r e
  simp only at this
  omega
structure ExOk (B : BookV) : Prop where
  bk : BookOk B
  sal : ∀ d ∈ B.docs, SaleOk d.s
  sm : ∀ d ∈ B.docs, DocSmall d
  own : ∀ k o, lkt B.owns k = some o → OwnOk o
theorem ExOk.coup {B : BookV} (h : ExOk B) (t : Tid) : ∀ o ∈ coupL B t, OwnOk o := by
  rcases coupL_cases B t with ⟨e, h0⟩ | ⟨a, e, h0, h1⟩ | ⟨a, b, e, h0, h1, h2⟩ | ⟨a, b, c, e, h0, h1, h2, h3⟩ | ⟨a, b, c, x, e, h0, h1, h2, h3⟩ <;> rw [e] <;> intro o ho <;> simp only [List.mem_cons, List.not_mem_nil, or_false] at ho
  · subst ho; exact h.own _ _ h0
  · rcases ho with rfl | rfl
    · exact h.own _ _ h0
    · exact h.own _ _ h1
  · rcases ho with rfl | rfl | rfl
    · exact h.own _ _ h0
    · exact h.own _ _ h1
    · exact h.own _ _ h2
  · rcases ho with rfl | rfl | rfl | rfl
    · exact h.own _ _ h0
    · exact h.own _ _ h1
    · exact h.own _ _ h2
    · exact h.own _ _ h3
structure XR where
  e : Int
  t : Tid
  amt : Int
  st : List Int
  b : BookV
def failX (e : Int) (B : BookV) : XR := ⟨e, tid0, 0, [], B⟩
def toldX (B : BookV) (t : Tid) (amt : Int) : XR := ⟨0, t, amt, statusL B t, B⟩
def xrV (q : XR) : SV := .tup [.agg (repS q.e q.t q.amt (.raw 1 0)), eN q.e]
def xrP (q : XR) : Heap := bkC q.b ++ [((1, 0), stC q.st)]
def priceI (s : SaleV) : Int := (sumFrom 0 (priceL s)).1
def exDisplay (B : BookV) (t : Tid) : XR := match lkD B.docs t with
  | none => failX 4 B
  | some d => toldX B t d.left
def DisplayF : Nat := 91
theorem display_w {B : BookV} (h : ExOk B) {t : Tid} (ht : TidOk t) : CallOK Tryz.prog DisplayF [.ptr 0 0 0, .agg (tidS t)] [] (bkC B) (xrV (exDisplay B t)) (xrP (exDisplay B t)) := by
  unfold exDisplay
  cases hl : lkD B.docs t with
  | none =>
    have c1 := doc_no ht hl
    have c2 := failed_w 4
    exact callOK_run 400 [hC 1 2 c1, hC 3 1 c2] (by kernel_rfl) (by kernel_rfl)
  | some d =>
    have c1 := doc_ok ht hl (h.sm d (lkD_mem hl).1)
    have c2 := told_w B ht d.left
    exact callOK_run 400 [hC 1 2 c1, hC 4 4 c2] (by kernel_rfl) (by kernel_rfl)
def exIssue (B : BookV) (s : SaleV) : XR := bif decide (B.issE s = 0) then toldX (B.issued s) B.nextT (priceI s) else failX (B.issE s) B
def ExIssueF : Nat := 88
theorem issE_check {B : BookV} {s : SaleV} (h : B.issE s = 0) : checkE s B.n = 0 := by
  unfold BookV.issE at h
  cases g : decide ((32 : Int) ≤ (B.docs.length : Int)) with
  | true => rw [g] at h; cases h
  | false =>
    rw [g] at h
    have h : makeE B.self ((B.docs.length : Int) + 1) s B.n = 0 := h
    unfold makeE at h
    split at h
    · cases h
    · exact h
theorem issE_price {B : BookV} {s : SaleV} (h : B.issE s = 0) : (sumFrom 0 (priceL s)).2 = 0 := (check_shape (issE_check h)).2.2.2
theorem nextT_ok {B : BookV} (hb : BookOk B) : TidOk B.nextT := by
  have h1 := hb.self
  have h2 := hb.n
  have h3 := hb.many
  exact ⟨⟨by show 0 ≤ B.self; omega, by show B.self ≤ 255; omega⟩, by show 0 ≤ (B.docs.length : Int) + 1; omega, by show (B.docs.length : Int) + 1 ≤ _; omega⟩
theorem exIssue_F (F : CF) {B : BookV} (hb : BookOk B) {s : SaleV} {A : SaleA} (ok : SaleOk s) (hl : ∀ b v, Rd (F b v) A.la (cellsL encLeg s.legs)) (ht : ∀ b v, Rd (F b v) A.ta (cellsL encTax s.taxes)) (h1 : SlOk A.la s.legs.length A.lc) (h2 : SlOk A.ta s.taxes.length A.tc) :
    CallOK Tryz.prog ExIssueF [.ptr 0 0 0, .agg (salS s (.val (.slice A.la s.legs.length A.lc)) (.val (.slice A.ta s.taxes.length A.tc)))] [((0, 9), .fam F)] (bkC B) (xrV (exIssue B s)) (xrP (exIssue B s)) := by
  have c2 := price_F F ok hl ht (fun e => (h1.nil e).2) (fun e => (h2.nil e).2)
  unfold exIssue
  rcases Bool.eq_false_or_eq_true (decide (B.issE s = 0)) with e1 | e1
  · have hm : B.issE s = 0 := of_decide_eq_true e1
    have c1 := issue_okC F hb ok hl ht h1 h2 hm
    have hp := issE_price hm
    have c3 := first2_w 0 0
    have c4 := told_w (B.issued s) (nextT_ok hb) (priceI s)
    rw [hp] at c2
    rw [e1]
    exact callOK_run 400 [hC 1 2 c1, hC 2 1 c2, hC 3 3 c3, hC 6 4 c4] (by kernel_rfl) (by kernel_rfl)
  · have hm : B.issE s ≠ 0 := of_decide_eq_false e1
    have c1 := issue_noC F hb ok hl ht h1 h2 hm
    have c3 := first2_w (B.issE s) (sumFrom 0 (priceL s)).2
    have f1 : first2 (B.issE s) (sumFrom 0 (priceL s)).2 = B.issE s := by unfold first2; rw [e1]; rfl
    have c4 := failed_w (B.issE s)
    have g1 : (!decide (B.issE s = 0)) = true := by rw [e1]; rfl
    rw [f1] at c3
    rw [e1]
    exact callOK_run 400 [hC 1 2 c1, hC 2 1 c2, hC 3 3 c3, hB 4 1 _ _ g1, hC 5 1 c4] (by kernel_rfl) (by kernel_rfl)
def voidO (o : OwnV) : Bool := freeO o && decide (o.k.n = 0)
def voidL : Bool → List OwnV → Bool
  | b, [] => b
  | b, o :: l => voidL (b && voidO o) l
def Void1F : Nat := 135
def voidFn : SV := .fn (.func Void1F) [] [.ptr 0 1 0]
def boolB (b : Bool) : Heap := [((0, 1), .box none [.val (.bool b)])]
theorem void1_w (k : Kid) (o : OwnV) (b : Bool) : CallOK Tryz.prog Void1F [.agg (kidS k), .agg (ownS o), .ptr 0 1 0] [] (boolB b) noS (boolB (b && voidO o)) := by
  have c1 := efree_w o
  unfold voidO
  cases b
  · exact callOK_run 400 [] (by kernel_rfl) (by kernel_rfl)
  · rcases Bool.eq_false_or_eq_true (freeO o) with e1 | e1
    · rcases Bool.eq_false_or_eq_true (decide (o.k.n = 0)) with e2 | e2 <;> simp only [e1, e2] at c1 ⊢ <;> exact callOK_run 400 [hC 1 3 c1, hB 1 9 _ _ e2] (by kernel_rfl) (by kernel_rfl)
    · simp only [e1] at c1 ⊢; exact callOK_run 400 [hC 1 3 c1] (by kernel_rfl) (by kernel_rfl)
theorem each_void (B : BookV) {t : Tid} (ht : TidOk t) (y : Bool) : CallOK Tryz.prog EachF [.ptr 0 0 0, .agg (tidS t), voidFn] (bkC B) (boolB y) noS (boolB (voidL y (coupL B t))) := by
  have st := status_d B ht
  have c0 := own_c B (kidOk_at ht (i := 0) (by decide) (by decide))
  have c1 := own_c B (kidOk_at ht (i := 1) (by decide) (by decide))
  have c2 := own_c B (kidOk_at ht (i := 2) (by decide) (by decide))
  have c3 := own_c B (kidOk_at ht (i := 3) (by decide) (by decide))
  rcases coupL_cases B t with ⟨e, h0⟩ | ⟨a, e, h0, h1⟩ | ⟨a, b, e, h0, h1, h2⟩ | ⟨a, b, c, e, h0, h1, h2, h3⟩ | ⟨a, b, c, x, e, h0, h1, h2, h3⟩
  · rw [e] at st ⊢
    exact callOK_runU 900 [hC 1 2 st] (by kernel_rfl) (by kernel_rfl)
  · rw [e] at st ⊢
    rw [h0] at c0
    have t0 := void1_w ⟨t, 0⟩ a y
    exact callOK_runU 900 [hC 1 2 st, hC 5 2 c0, hC 7 3 t0] (by kernel_rfl) (by kernel_rfl)
  · rw [e] at st ⊢
    rw [h0] at c0
    rw [h1] at c1
    have t0 := void1_w ⟨t, 0⟩ a y
    have t1 := void1_w ⟨t, 1⟩ b (y && voidO a)
    exact callOK_runU 900 [hC 1 2 st, hC 5 2 c0, hC 7 3 t0, hC 5 2 c1, hC 7 3 t1] (by kernel_rfl) (by kernel_rfl)
  · rw [e] at st ⊢
    rw [h0] at c0
    rw [h1] at c1
    rw [h2] at c2
    have t0 := void1_w ⟨t, 0⟩ a y
    have t1 := void1_w ⟨t, 1⟩ b (y && voidO a)
    have t2 := void1_w ⟨t, 2⟩ c (y && voidO a && voidO b)
    exact callOK_runU 900 [hC 1 2 st, hC 5 2 c0, hC 7 3 t0, hC 5 2 c1, hC 7 3 t1, hC 5 2 c2, hC 7 3 t2] (by kernel_rfl) (by kernel_rfl)
  · rw [e] at st ⊢
    rw [h0] at c0
    rw [h1] at c1
    rw [h2] at c2
    rw [h3] at c3
    have t0 := void1_w ⟨t, 0⟩ a y
    have t1 := void1_w ⟨t, 1⟩ b (y && voidO a)
    have t2 := void1_w ⟨t, 2⟩ c (y && voidO a && voidO b)
    have t3 := void1_w ⟨t, 3⟩ x (y && voidO a && voidO b && voidO c)
    exact callOK_runU 900 [hC 1 2 st, hC 5 2 c0, hC 7 3 t0, hC 5 2 c1, hC 7 3 t1, hC 5 2 c2, hC 7 3 t2, hC 5 2 c3, hC 7 3 t3] (by kernel_rfl) (by kernel_rfl)
def tid0B (t : Tid) : Bool := decide (t.c = 0) && (decide (t.r = 0) && true)
def voidD (d : DocV) : DocV := { d with back := (addI d.back d.paid).1 }
def exVoidD (B : BookV) (t : Tid) (d : DocV) : XR :=
  bif !voidL (tid0B d.frm) (coupL B t) then failX 6 B
  else bif !decide ((addI d.back d.paid).2 = 0) then failX (addI d.back d.paid).2 B
  else toldX (turnB (B.setD (voidD d)) t 5) t (-priceI d.s)
def exVoid (B : BookV) (t : Tid) : XR := match lkD B.docs t with
  | none => failX 4 B
  | some d => exVoidD B t d
def VoidF : Nat := 92
theorem void_w {B : BookV} (h : ExOk B) {t : Tid} (ht : TidOk t) : CallOK Tryz.prog VoidF [.ptr 0 0 0, .agg (tidS t)] [] (bkC B) (xrV (exVoid B t)) (xrP (exVoid B t)) := by
  unfold exVoid
  cases hl : lkD B.docs t with
  | none =>
    have c1 := doc_no ht hl
    have c2 := failed_w 4
    exact callOK_run 400 [hC 1 2 c1, hC 3 1 c2] (by kernel_rfl) (by kernel_rfl)
  | some d =>
    obtain ⟨hd, rfl⟩ := lkD_mem hl
    have c1 := doc_ok ht hl (h.sm d hd)
    have c2 := each_void B ht (tid0B d.frm)
    have c3 := failed_w 6
    show CallOK _ _ _ _ _ (xrV (exVoidD B d.t d)) (xrP (exVoidD B d.t d))
    unfold exVoidD
    rcases Bool.eq_false_or_eq_true (voidL (tid0B d.frm) (coupL B d.t)) with e1 | e1
    · have c4 := madd_w d.back d.paid
      rcases Bool.eq_false_or_eq_true (decide ((addI d.back d.paid).2 = 0)) with e2 | e2
      · have g2 : (!decide ((addI d.back d.paid).2 = 0)) = false := by rw [e2]; rfl
        have c5 := setDoc_ok (d := voidD d) ht hl h.bk.nodup ⟨(h.sm d hd).nl, (h.sm d hd).nt, (h.sm d hd).nv⟩
        have c6 := turn_w (B.setD (voidD d)) ht 5
        have c7 := price_R (h.sal d hd)
        have bp := sum_bound (priceL d.s) 0 (by decide) (by decide)
        have w1 : IntKind.i64.wrap (0 - (sumFrom 0 (priceL d.s)).1) = -priceI d.s := by rw [wr_i64 (by omega)]; exact Int.zero_sub _
        have c8 := told_w (turnB (B.setD (voidD d)) d.t 5) ht (-priceI d.s)
        simp only [e1, e2] at c2 ⊢
        exact callOK_run 400 [hC 1 2 c1, hC 5 3 c2, hC 8 4 c4, hB 9 1 _ _ g2, hC 11 2 c5, hC 12 2 c6, hC 13 2 c7, hI 14 3 IntKind.i64 _ _ w1, hC 14 4 c8] (by kernel_rfl) (by kernel_rfl)
      · have g2 : (!decide ((addI d.back d.paid).2 = 0)) = true := by rw [e2]; rfl
        have c5 := failed_w (addI d.back d.paid).2
        simp only [e1, e2] at c2 ⊢
        exact callOK_run 400 [hC 1 2 c1, hC 5 3 c2, hC 8 4 c4, hB 9 1 _ _ g2, hC 10 1 c5] (by kernel_rfl) (by kernel_rfl)
    · simp only [e1] at c2 ⊢
      exact callOK_run 400 [hC 1 2 c1, hC 5 3 c2, hC 7 0 c3] (by kernel_rfl) (by kernel_rfl)
def refD (B : BookV) (d : DocV) : DocV := { d with back := (addI d.back (giftV B d).g).1, kept := (addI d.kept (giftV B d).k).1, left := 0 }
def refE (B : BookV) (d : DocV) : Int := first2 (giftV B d).e (first2 (addI d.back (giftV B d).g).2 (addI d.kept (giftV B d).k).2)
def noneB (B : BookV) (d : DocV) : Bool := decide ((giftV B d).many = 0) && decide (d.left = 0)
def exRefundD (B : BookV) (t : Tid) (d : DocV) : XR :=
  bif noneB B d then failX 6 B
  else bif !decide (refE B d = 0) then failX (refE B d) B
  else toldX (turnB (B.setD (refD B d)) t 6) t (-(giftV B d).g)
def exRefund (B : BookV) (t : Tid) : XR := match lkD B.docs t with
  | none => failX 4 B
  | some d => exRefundD B t d
def RefundF : Nat := 93
theorem refund_w {B : BookV} (h : ExOk B) {t : Tid} (ht : TidOk t) : CallOK Tryz.prog RefundF [.ptr 0 0 0, .agg (tidS t)] [] (bkC B) (xrV (exRefund B t)) (xrP (exRefund B t)) := by
  unfold exRefund
  cases hl : lkD B.docs t with
  | none =>
    have c1 := doc_no ht hl
    have c2 := failed_w 4
    exact callOK_run 400 [hC 1 2 c1, hC 3 1 c2] (by kernel_rfl) (by kernel_rfl)
  | some d =>
    obtain ⟨hd, rfl⟩ := lkD_mem hl
    have c1 := doc_ok ht hl (h.sm d hd)
    have c2 := gifts_w B ht (h.sal d hd).pen.2 (h.coup d.t)
    have c3 := failed_w 6
    have bg := sum_bound (giveL B d) 0 (by decide) (by decide)
    show CallOK _ _ _ _ _ (xrV (exRefundD B d.t d)) (xrP (exRefundD B d.t d))
    have bg : -1125899906842624 ≤ (giftV B d).g ∧ (giftV B d).g ≤ 1125899906842624 := bg
    unfold exRefundD
    have big : noneB B d = false → CallOK Tryz.prog RefundF [.ptr 0 0 0, .agg (tidS d.t)] [] (bkC B) (xrV (bif !decide (refE B d = 0) then failX (refE B d) B else toldX (turnB (B.setD (refD B d)) d.t 6) d.t (-(giftV B d).g))) (xrP (bif !decide (refE B d = 0) then failX (refE B d) B else toldX (turnB (B.setD (refD B d)) d.t 6) d.t (-(giftV B d).g))) := fun hn => by
      have c4 := madd_w d.back (giftV B d).g
      have c5 := madd_w d.kept (giftV B d).k
      have c6 := first3_w (giftV B d).e (addI d.back (giftV B d).g).2 (addI d.kept (giftV B d).k).2
      have c6 : CallOK Tryz.prog FirstF [.raw 0 0] [((0, 0), errR [eN (giftV B d).e, eN (addI d.back (giftV B d).g).2, eN (addI d.kept (giftV B d).k).2] 3)] [] (eN (refE B d)) [] := c6
      have two : ∀ x, noneB B d = x → (decide ((giftV B d).many = 0) && decide (d.left = 0)) = x := fun x e => e
      have hn := two _ hn
      clear two
      rcases Bool.eq_false_or_eq_true (decide (refE B d = 0)) with e2 | e2
      · have g2 : (!decide (refE B d = 0)) = false := by rw [e2]; rfl
        have c7 := setDoc_ok (d := refD B d) ht hl h.bk.nodup ⟨(h.sm d hd).nl, (h.sm d hd).nt, (h.sm d hd).nv⟩
        have c8 := turn_w (B.setD (refD B d)) ht 6
        have w1 : IntKind.i64.wrap (0 - (giftV B d).g) = -(giftV B d).g := by rw [wr_i64 (by omega)]; exact Int.zero_sub _
        have c9 := told_w (turnB (B.setD (refD B d)) d.t 6) ht (-(giftV B d).g)
        simp only [e2]
        rcases Bool.eq_false_or_eq_true (decide ((giftV B d).many = 0)) with e3 | e3
        · rw [e3] at hn
          have e4 : decide (d.left = 0) = false := hn
          exact callOK_run 400 [hC 1 2 c1, hC 4 2 c2, hB 5 2 _ _ e3, hB 5 6 _ _ hn, hC 8 4 c4, hC 9 4 c5, hC 10 5 c6, hB 11 1 _ _ g2, hC 14 2 c7, hC 15 2 c8, hI 16 4 IntKind.i64 _ _ w1, hC 16 5 c9] (by kernel_rfl) (by kernel_rfl)
        · exact callOK_run 400 [hC 1 2 c1, hC 4 2 c2, hB 5 2 _ _ e3, hC 8 4 c4, hC 9 4 c5, hC 10 5 c6, hB 11 1 _ _ g2, hC 14 2 c7, hC 15 2 c8, hI 16 4 IntKind.i64 _ _ w1, hC 16 5 c9] (by kernel_rfl) (by kernel_rfl)
      · have g2 : (!decide (refE B d = 0)) = true := by rw [e2]; rfl
        have c7 := failed_w (refE B d)
        simp only [e2]
        rcases Bool.eq_false_or_eq_true (decide ((giftV B d).many = 0)) with e3 | e3
        · rw [e3] at hn
          have e4 : decide (d.left = 0) = false := hn
          exact callOK_run 400 [hC 1 2 c1, hC 4 2 c2, hB 5 2 _ _ e3, hB 5 6 _ _ hn, hC 8 4 c4, hC 9 4 c5, hC 10 5 c6, hB 11 1 _ _ g2, hC 12 1 c7] (by kernel_rfl) (by kernel_rfl)
        · exact callOK_run 400 [hC 1 2 c1, hC 4 2 c2, hB 5 2 _ _ e3, hC 8 4 c4, hC 9 4 c5, hC 10 5 c6, hB 11 1 _ _ g2, hC 12 1 c7] (by kernel_rfl) (by kernel_rfl)
    rcases Bool.eq_false_or_eq_true (noneB B d) with e1 | e1
    · rw [e1]
      unfold noneB at e1
      rw [Bool.and_eq_true] at e1
      obtain ⟨e3, e4⟩ := e1
      exact callOK_run 400 [hC 1 2 c1, hC 4 2 c2, hB 5 2 _ _ e3, hB 5 6 _ _ e4, hC 6 0 c3] (by kernel_rfl) (by kernel_rfl)
    · rw [e1]
      exact big e1
end Go.Proofs.YtifapcpcemigdaaGreat
end
section
namespace Go.Proofs.YtifapcpcemigdaaGreat
open Go.RowKit Go.Lib Go.Tk Go.Shelf Go.Vc Go.Sx
theorem issE_many {B : BookV} {s : SaleV} (h : B.issE s = 0) : B.docs.length < 32 := by
  unfold BookV.issE at h
  cases g : decide ((32 : Int) ≤ (B.docs.length : Int)) with
  | true => rw [g] at h; cases h
  | false => have := of_decide_eq_false g; omega
theorem BookOk.issued {B : BookV} (hb : BookOk B) {s : SaleV} (h : B.issE s = 0) : BookOk (B.issued s) := by
  have hm := issE_many h
  refine ⟨hb.self, hb.n, fun i d hd => ?_, ?_⟩
  · have hd : (B.docs ++ [docMade B.nextT s])[i]? = some d := hd
    rw [List.getElem?_append] at hd
    by_cases hi : i < B.docs.length
    · rw [if_pos hi] at hd; exact hb.docs i d hd
    · rw [if_neg hi] at hd
      have hz : i - B.docs.length = 0 := by
        have := (List.getElem?_eq_some_iff.1 hd).1
        simp at this; omega
      rw [hz] at hd
      cases hd
      show B.nextT = _
      unfold BookV.nextT
      rw [show i = B.docs.length by omega]; rfl
  · show (B.docs ++ [docMade B.nextT s]).length ≤ 32
    rw [List.length_append]; simp; omega
theorem turn1_docs (B : BookV) (k : Kid) (o : OwnV) (s : Int) : (turn1 B k o s).docs = B.docs := by
  unfold turn1
  cases freeO o
  · rfl
  · exact setO_docs B k _
theorem turnL_docs (s : Int) (t : Tid) : ∀ (l : List OwnV) (B : BookV) (i : Int), (turnL s t B i l).docs = B.docs
  | [], B, i => rfl
  | o :: l, B, i => by
    show (turnL s t (turn1 B ⟨t, i⟩ o s) (i + 1) l).docs = _
    rw [turnL_docs s t l, turn1_docs]
theorem turnB_docs (B : BookV) (t : Tid) (s : Int) : (turnB B t s).docs = B.docs := turnL_docs s t _ B 0
theorem lkD_app {ds : List DocV} {t : Tid} {d x : DocV} (h : lkD ds t = some d) : lkD (ds ++ [x]) t = some d := by
  unfold lkD at h ⊢
  rw [List.find?_append, h]; rfl
def usedX (s : SaleV) (x : GiftV) : Int := if x.g < s.fare then x.g else s.fare
def exD1 (B : BookV) (d : DocV) (s : SaleV) : DocV := { d with kept := (addI d.kept (giftV B d).k).1, left := 0, dst := B.nextT }
def exD2 (B : BookV) (d : DocV) (s : SaleV) : DocV := { docMade B.nextT s with frm := d.t, credit := (giftV B d).g, paid := s.fare - usedX s (giftV B d), left := (giftV B d).g - usedX s (giftV B d) }
def exB2 (B : BookV) (d : DocV) (s : SaleV) : BookV := turnB ((B.issued s).setD (exD1 B d s)) d.t 7
def exE (B : BookV) (d : DocV) : Int := first2 (giftV B d).e (addI d.kept (giftV B d).k).2
def exExchangeD (B : BookV) (d : DocV) (s : SaleV) : XR :=
  bif noneB B d || !tid0B d.dst then failX 6 B
  else bif !decide (exE B d = 0) then failX (exE B d) B
  else bif !decide (B.issE s = 0) then failX (B.issE s) B
  else toldX ((exB2 B d s).setD (exD2 B d s)) B.nextT (priceI s - usedX s (giftV B d))
def exExchange (B : BookV) (t : Tid) (s : SaleV) : XR := match lkD B.docs t with
  | none => failX 4 B
  | some d => exExchangeD B d s
def ExchangeF : Nat := 90
theorem exchange_F (F : CF) {B : BookV} (h : ExOk B) {t : Tid} (ht : TidOk t) {s : SaleV} {A : SaleA} (ok : SaleOk s) (hl : ∀ b v, Rd (F b v) A.la (cellsL encLeg s.legs)) (hta : ∀ b v, Rd (F b v) A.ta (cellsL encTax s.taxes)) (h1 : SlOk A.la s.legs.length A.lc) (h2 : SlOk A.ta s.taxes.length A.tc) :
    CallOK Tryz.prog ExchangeF [.ptr 0 0 0, .agg (tidS t), .agg (salS s (.val (.slice A.la s.legs.length A.lc)) (.val (.slice A.ta s.taxes.length A.tc)))] [((0, 9), .fam F)] (bkC B) (xrV (exExchange B t s)) (xrP (exExchange B t s)) := by
  unfold exExchange
  cases hf : lkD B.docs t with
  | none =>
    have c1 := doc_no ht hf
    have c2 := failed_w 4
    exact callOK_run 400 [hC 1 2 c1, hC 3 1 c2] (by kernel_rfl) (by kernel_rfl)
  | some d =>
    obtain ⟨hd, rfl⟩ := lkD_mem hf
    have c1 := doc_ok ht hf (h.sm d hd)
    have c2 := gifts_w B ht (h.sal d hd).pen.2 (h.coup d.t)
    have c3 := failed_w 6
    have bg := sum_bound (giveL B d) 0 (by decide) (by decide)
    have bg : -1125899906842624 ≤ (giftV B d).g ∧ (giftV B d).g ≤ 1125899906842624 := bg
    show CallOK _ _ _ _ _ (xrV (exExchangeD B d s)) (xrP (exExchangeD B d s))
    unfold exExchangeD
    have big : noneB B d = false → tid0B d.dst = true → CallOK Tryz.prog ExchangeF [.ptr 0 0 0, .agg (tidS d.t), .agg (salS s (.val (.slice A.la s.legs.length A.lc)) (.val (.slice A.ta s.taxes.length A.tc)))] [((0, 9), .fam F)] (bkC B)
        (xrV (bif !decide (exE B d = 0) then failX (exE B d) B else bif !decide (B.issE s = 0) then failX (B.issE s) B else toldX ((exB2 B d s).setD (exD2 B d s)) B.nextT (priceI s - usedX s (giftV B d))))
        (xrP (bif !decide (exE B d = 0) then failX (exE B d) B else bif !decide (B.issE s = 0) then failX (B.issE s) B else toldX ((exB2 B d s).setD (exD2 B d s)) B.nextT (priceI s - usedX s (giftV B d)))) := fun hn hz => by
      have c5 := madd_w d.kept (giftV B d).k
      have c6 := first2_w (giftV B d).e (addI d.kept (giftV B d).k).2
      have c6 : CallOK Tryz.prog FirstF [.raw 0 0] [((0, 0), errR [eN (giftV B d).e, eN (addI d.kept (giftV B d).k).2] 2)] [] (eN (exE B d)) [] := c6
      have two : ∀ x, noneB B d = x → (decide ((giftV B d).many = 0) && decide (d.left = 0)) = x := fun x e => e
      have hn := two _ hn
      clear two
      have hz2 : (!tid0B d.dst) = false := by rw [hz]; rfl
      rcases Bool.eq_false_or_eq_true (decide (exE B d = 0)) with e2 | e2
      · have g2 : (!decide (exE B d = 0)) = false := by rw [e2]; rfl
        rcases Bool.eq_false_or_eq_true (decide (B.issE s = 0)) with e5 | e5
        · have hm : B.issE s = 0 := of_decide_eq_true e5
          have c7 := issue_okC F h.bk ok hl hta h1 h2 hm
          have hb1 := h.bk.issued hm
          have t2 := nextT_ok h.bk
          obtain ⟨-, -, hsh, hpr⟩ := check_shape (issE_check hm)
          obtain ⟨hS, -, l1, l4, f0, f1⟩ := shape_share ok hsh
          have hvl : (shareV s.fare (wsOf s)).length = s.legs.length := by rw [shareV_len hS, ws_len]
          have sm2 : DocSmall (exD2 B d s) := ⟨by have := ok.nl; show s.legs.length ≤ _; omega, by have := ok.nt; show s.taxes.length ≤ _; omega, by show (shareV s.fare (wsOf s)).length ≤ _; omega⟩
          have c8 := setDoc_ok (B := B.issued s) (d := exD1 B d s) ht (lkD_app hf) hb1.nodup ⟨(h.sm d hd).nl, (h.sm d hd).nt, (h.sm d hd).nv⟩
          have c9 := turn_w ((B.issued s).setD (exD1 B d s)) ht 7
          have hdt : (exB2 B d s).docs.map (·.t) = (B.issued s).docs.map (·.t) := by unfold exB2; rw [turnB_docs]; exact putD_t _ _
          obtain ⟨d3, hd3⟩ : ∃ x, lkD (exB2 B d s).docs (exD2 B d s).t = some x := lkD_some (by
            rw [hdt]
            show B.nextT ∈ (B.docs ++ [docMade B.nextT s]).map (·.t)
            rw [List.map_append]; exact List.mem_append_right _ (List.mem_singleton.2 rfl))
          have c10 := setDoc_ok (B := exB2 B d s) (d := exD2 B d s) t2 hd3 (by rw [hdt]; exact hb1.nodup) sm2
          have c11 := price_F F ok hl hta (fun e => (h1.nil e).2) (fun e => (h2.nil e).2)
          have bp := sum_bound (priceL s) 0 (by decide) (by decide)
          have c12 := told_w ((exB2 B d s).setD (exD2 B d s)) t2 (priceI s - usedX s (giftV B d))
          have bu : -1125899906842624 ≤ usedX s (giftV B d) ∧ usedX s (giftV B d) ≤ 1125899906842624 := by unfold usedX; split <;> omega
          have w1 : IntKind.i64.wrap (s.fare - usedX s (giftV B d)) = s.fare - usedX s (giftV B d) := wr_i64 (by omega)
          have w2 : IntKind.i64.wrap ((giftV B d).g - usedX s (giftV B d)) = (giftV B d).g - usedX s (giftV B d) := wr_i64 (by omega)
          have w3 : IntKind.i64.wrap ((sumFrom 0 (priceL s)).1 - usedX s (giftV B d)) = priceI s - usedX s (giftV B d) := wr_i64 (by omega)
          have w0 : (if (giftV B d).g < s.fare then (giftV B d).g else s.fare) = usedX s (giftV B d) := rfl
          simp only [e2, e5]
          rcases Bool.eq_false_or_eq_true (decide ((giftV B d).many = 0)) with e3 | e3
          · rw [e3] at hn
            have e4 : decide (d.left = 0) = false := hn
            exact callOK_run 600 [hC 1 2 c1, hC 4 2 c2, hB 5 2 _ _ e3, hB 5 6 _ _ hn, hB 5 12 _ _ hz2, hC 7 4 c5, hC 8 4 c6, hB 9 1 _ _ g2, hC 11 2 c7, hI 14 4 IntKind.i64 _ _ w0, hI 14 5 IntKind.i64 _ _ w0, hC 16 2 c8, hC 17 2 c9, hI 18 5 IntKind.i64 _ _ w0, hI 18 6 IntKind.i64 _ _ w1, hI 18 9 IntKind.i64 _ _ w0, hI 18 10 IntKind.i64 _ _ w2, hC 19 2 c10, hC 20 1 c11, hI 20 4 IntKind.i64 _ _ hpr, hI 21 4 IntKind.i64 _ _ w0, hI 21 5 IntKind.i64 _ _ w3, hC 21 6 c12] (by kernel_rfl) (by kernel_rfl)
          · exact callOK_run 600 [hC 1 2 c1, hC 4 2 c2, hB 5 2 _ _ e3, hB 5 12 _ _ hz2, hC 7 4 c5, hC 8 4 c6, hB 9 1 _ _ g2, hC 11 2 c7, hI 14 4 IntKind.i64 _ _ w0, hI 14 5 IntKind.i64 _ _ w0, hC 16 2 c8, hC 17 2 c9, hI 18 5 IntKind.i64 _ _ w0, hI 18 6 IntKind.i64 _ _ w1, hI 18 9 IntKind.i64 _ _ w0, hI 18 10 IntKind.i64 _ _ w2, hC 19 2 c10, hC 20 1 c11, hI 20 4 IntKind.i64 _ _ hpr, hI 21 4 IntKind.i64 _ _ w0, hI 21 5 IntKind.i64 _ _ w3, hC 21 6 c12] (by kernel_rfl) (by kernel_rfl)
        · have hm : B.issE s ≠ 0 := of_decide_eq_false e5
          have g5 : (!decide (B.issE s = 0)) = true := by rw [e5]; rfl
          have c7 := issue_noC F h.bk ok hl hta h1 h2 hm
          have c8 := failed_w (B.issE s)
          simp only [e2, e5]
          rcases Bool.eq_false_or_eq_true (decide ((giftV B d).many = 0)) with e3 | e3
          · rw [e3] at hn
            have e4 : decide (d.left = 0) = false := hn
            exact callOK_run 600 [hC 1 2 c1, hC 4 2 c2, hB 5 2 _ _ e3, hB 5 6 _ _ hn, hB 5 12 _ _ hz2, hC 7 4 c5, hC 8 4 c6, hB 9 1 _ _ g2, hC 11 2 c7, hB 12 1 _ _ g5, hC 13 1 c8] (by kernel_rfl) (by kernel_rfl)
          · exact callOK_run 600 [hC 1 2 c1, hC 4 2 c2, hB 5 2 _ _ e3, hB 5 12 _ _ hz2, hC 7 4 c5, hC 8 4 c6, hB 9 1 _ _ g2, hC 11 2 c7, hB 12 1 _ _ g5, hC 13 1 c8] (by kernel_rfl) (by kernel_rfl)
      · have g2 : (!decide (exE B d = 0)) = true := by rw [e2]; rfl
        have c7 := failed_w (exE B d)
        simp only [e2]
        rcases Bool.eq_false_or_eq_true (decide ((giftV B d).many = 0)) with e3 | e3
        · rw [e3] at hn
          have e4 : decide (d.left = 0) = false := hn
          exact callOK_run 600 [hC 1 2 c1, hC 4 2 c2, hB 5 2 _ _ e3, hB 5 6 _ _ hn, hB 5 12 _ _ hz2, hC 7 4 c5, hC 8 4 c6, hB 9 1 _ _ g2, hC 10 1 c7] (by kernel_rfl) (by kernel_rfl)
        · exact callOK_run 600 [hC 1 2 c1, hC 4 2 c2, hB 5 2 _ _ e3, hB 5 12 _ _ hz2, hC 7 4 c5, hC 8 4 c6, hB 9 1 _ _ g2, hC 10 1 c7] (by kernel_rfl) (by kernel_rfl)
    rcases Bool.eq_false_or_eq_true (noneB B d) with e1 | e1
    · rw [e1]
      unfold noneB at e1
      rw [Bool.and_eq_true] at e1
      obtain ⟨e3, e4⟩ := e1
      exact callOK_run 600 [hC 1 2 c1, hC 4 2 c2, hB 5 2 _ _ e3, hB 5 6 _ _ e4, hC 6 0 c3] (by kernel_rfl) (by kernel_rfl)
    · rcases Bool.eq_false_or_eq_true (tid0B d.dst) with e6 | e6
      · rw [e1, e6]
        exact big e1 e6
      · rw [e1, e6]
        have hz2 : (!tid0B d.dst) = true := by rw [e6]; rfl
        have two : ∀ x, noneB B d = x → (decide ((giftV B d).many = 0) && decide (d.left = 0)) = x := fun x e => e
        have hn := two _ e1
        clear two
        rcases Bool.eq_false_or_eq_true (decide ((giftV B d).many = 0)) with e3 | e3
        · rw [e3] at hn
          have e4 : decide (d.left = 0) = false := hn
          exact callOK_run 600 [hC 1 2 c1, hC 4 2 c2, hB 5 2 _ _ e3, hB 5 6 _ _ hn, hB 5 12 _ _ hz2, hC 6 0 c3] (by kernel_rfl) (by kernel_rfl)
        · exact callOK_run 600 [hC 1 2 c1, hC 4 2 c2, hB 5 2 _ _ e3, hB 5 12 _ _ hz2, hC 6 0 c3] (by kernel_rfl) (by kernel_rfl)
end Go.Proofs.YtifapcpcemigdaaGreat
end
section
namespace Go.Proofs.YtifapcpcemigdaaGreat
open Go.RowKit Go.Lib Go.Tk Go.Shelf Go.Vc Go.Sx Go.Maps
def CloneOF : Nat := 62
def CloneHF : Nat := 63
set_option maxHeartbeats 2000000 in
theorem cloneO_any (b : Nat) (es : Array MapEntry) (clock : Nat) (w : World) (hb : w.heap[b]? = some (.map es clock)) :
    Calls Tryz.prog CloneOF #[.map (some b)] w fun e w' => e = .returned (.map (some w.heap.size)) ∧ w' = w.alloc (.map es clock) := by
  unfold CloneOF
  have hq := fun w => run_eql_map_nil_sl (P := Tryz.prog) w 97 _ _ (some b) Tryz.underlying97
  go_enter Tryz.func62, Tryz.ntmps62
  go_wp2
  rw [run_callFunc_extern Tryz.func114 (by kernel_rfl) (by kernel_rfl) (by kernel_rfl) (e := Extern.MapsClone.clone) (by kernel_rfl), run_maps_clone_sl w 97 hb]
  simp only [Result.andThen]
  rw [Oper.upon_value]
  go_wp2
  rw [run_typeAssert_map_sl _ 97 _ _ _ _ Tryz.underlying97]
  simp only [Result.andThen]
  rw [Oper.upon_value]
  go_wp2
  go_ret
  exact ⟨rfl, rfl⟩
set_option maxHeartbeats 2000000 in
theorem cloneH_any (b : Nat) (es : Array MapEntry) (clock : Nat) (w : World) (hb : w.heap[b]? = some (.map es clock)) :
    Calls Tryz.prog CloneHF #[.map (some b)] w fun e w' => e = .returned (.map (some w.heap.size)) ∧ w' = w.alloc (.map es clock) := by
  unfold CloneHF
  have hq := fun w => run_eql_map_nil_sl (P := Tryz.prog) w 98 _ _ (some b) Tryz.underlying98
  go_enter Tryz.func63, Tryz.ntmps63
  go_wp2
  rw [run_callFunc_extern Tryz.func114 (by kernel_rfl) (by kernel_rfl) (by kernel_rfl) (e := Extern.MapsClone.clone) (by kernel_rfl), run_maps_clone_sl w 98 hb]
  simp only [Result.andThen]
  rw [Oper.upon_value]
  go_wp2
  rw [run_typeAssert_map_sl _ 98 _ _ _ _ Tryz.underlying98]
  simp only [Result.andThen]
  rw [Oper.upon_value]
  go_wp2
  go_ret
  exact ⟨rfl, rfl⟩
end Go.Proofs.YtifapcpcemigdaaGreat
end
section
namespace Go.Proofs.YtifapcpcemigdaaGreat
open Go.RowKit Go.Lib Go.Tk Go.Shelf Go.Vc Go.Sx Go.Maps
def rowsC (L : List (DocV × DocA)) : Chunk where
  at_ S w := ∀ p ∈ L, DocIn S w p
  stable hk hi h := fun p hp => (h p hp).stays hk hi
theorem docs_split {L : List (DocV × DocA)} {b : Nat} {v : Value} {R : List Chunk} {w : World} (h : Mem (docsF L b v :: R) w) : Mem (mapC tidK b (ents docW (docKV L)) :: rowsC L :: R) w := by
  have h1 : Mem (allC [mapC tidK b (ents docW (docKV L)), rowsC L] :: R) w := h.weaken fun S hS => by
    obtain ⟨⟨hb, hm⟩, Sd, g1, g2, -⟩ := hS
    refine ⟨fun i k => match i with | 0 => k = b | _ => Sd k, fun i k hi hk => ?_, fun i c hc => ?_, fun i j k hi hj hij hki hkj => ?_⟩
    · match i, hk with
      | 0, hk => exact hk ▸ hb
      | i + 1, hk => exact (g1 k hk).1
    · match i, hc with
      | 0, hc => cases hc; exact ⟨rfl, hm⟩
      | 1, hc => cases hc; exact g2
      | i + 2, hc => cases hc
    · match i, j, hij, hki, hkj with
      | 0, 0, hij, _, _ => exact hij rfl
      | 0, j + 1, _, hki, hkj => exact (g1 k hkj).2 hki
      | i + 1, 0, _, hki, hkj => exact (g1 k hki).2 hkj
      | i + 1, j + 1, hij, _, _ => simp at hi hj; exact hij (by omega)
  exact h1.all
theorem docs_shut {L : List (DocV × DocA)} {b : Nat} {v : Value} {R : List Chunk} {w : World} (h : Mem (mapC tidK b (ents docW (docKV L)) :: rowsC L :: R) w) : Mem (docsF L b v :: R) w := by
  refine mem_join (l := [mapC tidK b (ents docW (docKV L)), rowsC L]) h fun S hS => ?_
  obtain ⟨F, g1, g2, g3⟩ := hS
  have m0 := g2 0 _ rfl
  have m1 := g2 1 _ rfl
  refine ⟨⟨g1 0 b (by simp) m0.1, m0.2⟩, F 1, fun k hk => ⟨g1 1 k (by simp) hk, fun e => ?_⟩, m1, fun p hp => by cases hp⟩
  subst e
  exact g3 1 0 k (by simp) (by simp) (by decide) hk m0.1
end Go.Proofs.YtifapcpcemigdaaGreat
end
section
namespace Go.Proofs.YtifapcpcemigdaaGreat
open Go.RowKit Go.Lib Go.Tk Go.Shelf Go.Vc Go.Sx Go.Maps
theorem copied_rows (L : List (DocV × DocA)) (p : DocV × DocA) (hp : p ∈ L) (sm : DocSmall p.1) : CallOK Tryz.prog CopiedF [.agg (docSA p.1 p.2)] [((0, 5), .fam fun _ _ => rowsC L)] [] (.agg (docS p.1 (.raw 1 0) (.raw 1 1) (.raw 1 2))) (docR p.1) := by
  refine CallOK.mv 5 ?_ rfl rfl rfl
  intro ε R w hM
  have hM' : Mem (rowsC L :: R) w := hM
  have ok : SlOk p.2.la p.1.s.legs.length p.2.lc ∧ SlOk p.2.ta p.1.s.taxes.length p.2.tc ∧ SlOk p.2.va p.1.vals.length p.2.vc := hM'.of 0 rfl fun S hS => ⟨(hS p hp).okl, (hS p hp).okt, (hS p hp).okv⟩
  exact copied_w (fun _ _ => rowsC L) (fun b v S w h => (h p hp).legs) (fun b v S w h => (h p hp).taxes) (fun b v S w h => (h p hp).vals) ok.1 ok.2.1 ok.2.2 sm ε R w hM
theorem putt_new {κ α : Type} [DecidableEq κ] : ∀ (l : List (κ × α)) (k : κ) (a : α), (∀ p ∈ l, p.1 ≠ k) → putt l k a = l ++ [(k, a)]
  | [], _, _, _ => rfl
  | p :: l, k, a, h => by
    show (if _ then _ else _) = _
    rw [if_neg (h p List.mem_cons_self), putt_new l k a fun q hq => h q (List.mem_cons_of_mem _ hq)]
    rfl
theorem upd_docsN (ds : List DocV) (d : DocV) (ht : TidOk d.t) (hn : ∀ x ∈ ds, x.t ≠ d.t) :
    OpG Tryz.prog (isUp DT) upXYZ [.map 0 0, .agg (tidS d.t), .agg (docS d (.raw 0 1) (.raw 0 2) (.raw 0 3))] [] [((0, 0), .fam (docsX ds)), ((0, 1), legR d.s.legs.length d.s.legs), ((0, 2), taxR d.s.taxes.length d.s.taxes), ((0, 3), i64R d.vals.length d.vals)] (.val undef) [((0, 0), .fam (docsX (ds ++ [d])))] := by
  intro o ho
  refine ⟨(upd_docs [] [(d, docA0)] (d, docA0) ht (List.Perm.refl _) o ho).1, fun ε ρ R w hx hM => ?_⟩
  have hM : Mem (docsX ds (ε 0 0).1 (ε 0 0).2 :: rowC 43 3 (asSl (ε 0 1).2) d.s.legs.length (cellsL encLeg d.s.legs) :: rowC 154 2 (asSl (ε 0 2).2) d.s.taxes.length (cellsL encTax d.s.taxes) :: rowC 2 1 (asSl (ε 0 3).2) d.vals.length (d.vals.map (.int .i64)) :: R) w := hM
  obtain ⟨la, lc, hvl, okl⟩ := row_sl (hM.owns 1 rfl)
  obtain ⟨ta, tc, hvt, okt⟩ := row_sl (hM.owns 2 rfl)
  obtain ⟨va, vc, hvv, okv⟩ := row_sl (hM.owns 3 rfl)
  rw [hvl, hvt, hvv] at hM
  obtain ⟨⟨L, hL⟩, hM⟩ := Mem.ex hM
  have hM2 := docs_join (p := (d, ⟨la, lc, ta, tc, va, vc⟩)) rfl rfl rfl hM
  have hp : (putt (docKV L) d.t (d, (⟨la, lc, ta, tc, va, vc⟩ : DocA))).Perm (docKV (L ++ [(d, ⟨la, lc, ta, tc, va, vc⟩)])) := by
    rw [putt_new _ _ _ fun q hq => by
      obtain ⟨y, hy, rfl⟩ := List.mem_map.1 hq
      exact hn y.1 (by rw [← hL]; exact List.mem_map_of_mem hy)]
    unfold docKV
    rw [List.map_append]
    exact List.Perm.refl _
  have hA : SV.dens ε [.map 0 0, .agg (tidS d.t), .agg (docS d (.raw 0 1) (.raw 0 2) (.raw 0 3))] = SV.dens ε [.map 0 0, .agg (tidS d.t), .agg (docSA d ⟨la, lc, ta, tc, va, vc⟩)] := by
    simp only [SV.dens, SV.den, docS, docSA, hvl, hvt, hvv]
  rw [hA] at hx
  have := (upd_docs L (L ++ [(d, ⟨la, lc, ta, tc, va, vc⟩)]) (d, ⟨la, lc, ta, tc, va, vc⟩) ht hp o ho).2 ε ρ R w hx hM2
  exact res_mono (fun u w' ⟨x, h1, h2⟩ => ⟨x, h1, by
    have h2 : Mem (docsF (L ++ [(d, ⟨la, lc, ta, tc, va, vc⟩)]) (eset ε 1 x 0 0).1 (eset ε 1 x 0 0).2 :: R) w' := h2
    have h3 : Mem (docsX (ds ++ [d]) (eset ε 1 x 0 0).1 (eset ε 1 x 0 0).2 :: R) w' := Mem.in_ex ⟨L ++ [(d, ⟨la, lc, ta, tc, va, vc⟩)], by rw [List.map_append, hL]; rfl⟩ h2
    exact h3⟩) this
end Go.Proofs.YtifapcpcemigdaaGreat
end
