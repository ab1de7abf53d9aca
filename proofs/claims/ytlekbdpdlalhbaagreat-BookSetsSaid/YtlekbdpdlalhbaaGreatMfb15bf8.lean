/- Ex6, Ex7. -/
import Derived.Test.YtlekbdpdlalhbaaGreatEx5
section
namespace Go.Proofs.YtlekbdpdlalhbaaGreat
set_option maxRecDepth 100000
open Go.RowKit Go.Lib Go.Tk Go.Shelf Go.Vc Go.Sx
set_option linter.unusedVariables false
set_option linter.unusedSimpArgs false

theorem issE_many {B : BookV} {s : SaleV} (h : B.issE s = 0) : B.docs.length < 32 := by
  unfold BookV.issE at h
  cases g : decide ((32 : Int) ≤ (B.docs.length : Int)) with
  | true => rw [g] at h; cases h
  | false => have := of_decide_eq_false g; omega
theorem BookOk.issued {B : BookV} (hb : BookOk B) {s : SaleV} (h : B.issE s = 0) : BookOk (B.issued s) := by
  have hm := issE_many h
  refine ⟨hb.self, hb.n, fun i d hd => ?_, ?_⟩
  · have hd : (B.docs ++ [docMade B.nextT s])[i]? = some d := hd
    rw [List.getElem?_append] at hd
    by_cases hi : i < B.docs.length
    · rw [if_pos hi] at hd; exact hb.docs i d hd
    · rw [if_neg hi] at hd
      have hz : i - B.docs.length = 0 := by
        have := (List.getElem?_eq_some_iff.1 hd).1
        simp at this; omega
      rw [hz] at hd
      cases hd
      show B.nextT = _
      unfold BookV.nextT
      rw [show i = B.docs.length by omega]; rfl
  · show (B.docs ++ [docMade B.nextT s]).length ≤ 32
    rw [List.length_append]; simp; omega
theorem turn1_docs (B : BookV) (k : Kid) (o : OwnV) (s : Int) : (turn1 B k o s).docs = B.docs := by
  unfold turn1
  cases freeO o
  · rfl
  · exact setO_docs B k _
theorem turnL_docs (s : Int) (t : Tid) : ∀ (l : List OwnV) (B : BookV) (i : Int), (turnL s t B i l).docs = B.docs
  | [], B, i => rfl
  | o :: l, B, i => by
    show (turnL s t (turn1 B ⟨t, i⟩ o s) (i + 1) l).docs = _
    rw [turnL_docs s t l, turn1_docs]
theorem turnB_docs (B : BookV) (t : Tid) (s : Int) : (turnB B t s).docs = B.docs := turnL_docs s t _ B 0
theorem lkD_app {ds : List DocV} {t : Tid} {d x : DocV} (h : lkD ds t = some d) : lkD (ds ++ [x]) t = some d := by
  unfold lkD at h ⊢
  rw [List.find?_append, h]; rfl
def usedX (s : SaleV) (x : GiftV) : Int := if x.g < s.fare then x.g else s.fare
def exD1 (B : BookV) (d : DocV) (s : SaleV) : DocV := { d with kept := (addI d.kept (giftV B d).k).1, left := 0, dst := B.nextT }
def exD2 (B : BookV) (d : DocV) (s : SaleV) : DocV := { docMade B.nextT s with frm := d.t, credit := (giftV B d).g, paid := s.fare - usedX s (giftV B d), left := (giftV B d).g - usedX s (giftV B d) }
def exB2 (B : BookV) (d : DocV) (s : SaleV) : BookV := turnB ((B.issued s).setD (exD1 B d s)) d.t 7
def exE (B : BookV) (d : DocV) : Int := first2 (giftV B d).e (addI d.kept (giftV B d).k).2
def exExchangeD (B : BookV) (d : DocV) (s : SaleV) : XR :=
  bif noneB B d || !tid0B d.dst then failX 6 B
  else bif !decide (exE B d = 0) then failX (exE B d) B
  else bif !decide (B.issE s = 0) then failX (B.issE s) B
  else toldX ((exB2 B d s).setD (exD2 B d s)) B.nextT (priceI s - usedX s (giftV B d))
def exExchange (B : BookV) (t : Tid) (s : SaleV) : XR := match lkD B.docs t with
  | none => failX 4 B
  | some d => exExchangeD B d s
def ExchangeF : Nat := 111
theorem exchange_F (F : CF) {B : BookV} (h : ExOk B) {t : Tid} (ht : TidOk t) {s : SaleV} {A : SaleA} (ok : SaleOk s) (hl : ∀ b v, Rd (F b v) A.la (cellsL encLeg s.legs)) (hta : ∀ b v, Rd (F b v) A.ta (cellsL encTax s.taxes)) (h1 : SlOk A.la s.legs.length A.lc) (h2 : SlOk A.ta s.taxes.length A.tc) :
    CallOK Tryz.prog ExchangeF [.ptr 0 0 0, .agg (tidS t), .agg (salS s (.val (.slice A.la s.legs.length A.lc)) (.val (.slice A.ta s.taxes.length A.tc)))] [((0, 9), .fam F)] (bkC B) (xrV (exExchange B t s)) (xrP (exExchange B t s)) := by
  unfold exExchange
  cases hf : lkD B.docs t with
  | none =>
    have c1 := doc_no ht hf
    have c2 := failed_w 4
    exact callOK_run 400 [hC 1 2 c1, hC 3 1 c2] (by kernel_rfl) (by kernel_rfl)
  | some d =>
    obtain ⟨hd, rfl⟩ := lkD_mem hf
    have c1 := doc_ok ht hf (h.sm d hd)
    have c2 := gifts_w B ht (h.sal d hd).pen.2 (h.coup d.t)
    have c3 := failed_w 6
    have bg := sum_bound (giveL B d) 0 (by decide) (by decide)
    have bg : -1125899906842624 ≤ (giftV B d).g ∧ (giftV B d).g ≤ 1125899906842624 := bg
    show CallOK _ _ _ _ _ (xrV (exExchangeD B d s)) (xrP (exExchangeD B d s))
    unfold exExchangeD
    have big : noneB B d = false → tid0B d.dst = true → CallOK Tryz.prog ExchangeF [.ptr 0 0 0, .agg (tidS d.t), .agg (salS s (.val (.slice A.la s.legs.length A.lc)) (.val (.slice A.ta s.taxes.length A.tc)))] [((0, 9), .fam F)] (bkC B)
        (xrV (bif !decide (exE B d = 0) then failX (exE B d) B else bif !decide (B.issE s = 0) then failX (B.issE s) B else toldX ((exB2 B d s).setD (exD2 B d s)) B.nextT (priceI s - usedX s (giftV B d))))
        (xrP (bif !decide (exE B d = 0) then failX (exE B d) B else bif !decide (B.issE s = 0) then failX (B.issE s) B else toldX ((exB2 B d s).setD (exD2 B d s)) B.nextT (priceI s - usedX s (giftV B d)))) := fun hn hz => by
      have c5 := madd_w d.kept (giftV B d).k
      have c6 := first2_w (giftV B d).e (addI d.kept (giftV B d).k).2
      have c6 : CallOK Tryz.prog FirstF [.raw 0 0] [((0, 0), errR [eN (giftV B d).e, eN (addI d.kept (giftV B d).k).2] 2)] [] (eN (exE B d)) [] := c6
      have two : ∀ x, noneB B d = x → (decide ((giftV B d).many = 0) && decide (d.left = 0)) = x := fun x e => e
      have hn := two _ hn
      clear two
      have hz2 : (!tid0B d.dst) = false := by rw [hz]; rfl
      rcases Bool.eq_false_or_eq_true (decide (exE B d = 0)) with e2 | e2
      · have g2 : (!decide (exE B d = 0)) = false := by rw [e2]; rfl
        rcases Bool.eq_false_or_eq_true (decide (B.issE s = 0)) with e5 | e5
        · have hm : B.issE s = 0 := of_decide_eq_true e5
          have c7 := issue_okC F h.bk ok hl hta h1 h2 hm
          have hb1 := h.bk.issued hm
          have t2 := nextT_ok h.bk
          obtain ⟨-, -, hsh, hpr⟩ := check_shape (issE_check hm)
          obtain ⟨hS, -, l1, l4, f0, f1⟩ := shape_share ok hsh
          have hvl : (shareV s.fare (wsOf s)).length = s.legs.length := by rw [shareV_len hS, ws_len]
          have sm2 : DocSmall (exD2 B d s) := ⟨by have := ok.nl; show s.legs.length ≤ _; omega, by have := ok.nt; show s.taxes.length ≤ _; omega, by show (shareV s.fare (wsOf s)).length ≤ _; omega⟩
          have c8 := setDoc_ok (B := B.issued s) (d := exD1 B d s) ht (lkD_app hf) hb1.nodup ⟨(h.sm d hd).nl, (h.sm d hd).nt, (h.sm d hd).nv⟩
          have c9 := turn_w ((B.issued s).setD (exD1 B d s)) ht 7
          have hdt : (exB2 B d s).docs.map (·.t) = (B.issued s).docs.map (·.t) := by unfold exB2; rw [turnB_docs]; exact putD_t _ _
          obtain ⟨d3, hd3⟩ : ∃ x, lkD (exB2 B d s).docs (exD2 B d s).t = some x := lkD_some (by
            rw [hdt]
            show B.nextT ∈ (B.docs ++ [docMade B.nextT s]).map (·.t)
            rw [List.map_append]; exact List.mem_append_right _ (List.mem_singleton.2 rfl))
          have c10 := setDoc_ok (B := exB2 B d s) (d := exD2 B d s) t2 hd3 (by rw [hdt]; exact hb1.nodup) sm2
          have c11 := price_F F ok hl hta (fun e => (h1.nil e).2) (fun e => (h2.nil e).2)
          have bp := sum_bound (priceL s) 0 (by decide) (by decide)
          have c12 := told_w ((exB2 B d s).setD (exD2 B d s)) t2 (priceI s - usedX s (giftV B d))
          have bu : -1125899906842624 ≤ usedX s (giftV B d) ∧ usedX s (giftV B d) ≤ 1125899906842624 := by unfold usedX; split <;> omega
          have w1 : IntKind.i64.wrap (s.fare - usedX s (giftV B d)) = s.fare - usedX s (giftV B d) := wr_i64 (by omega)
          have w2 : IntKind.i64.wrap ((giftV B d).g - usedX s (giftV B d)) = (giftV B d).g - usedX s (giftV B d) := wr_i64 (by omega)
          have w3 : IntKind.i64.wrap ((sumFrom 0 (priceL s)).1 - usedX s (giftV B d)) = priceI s - usedX s (giftV B d) := wr_i64 (by omega)
          have w0 : (if (giftV B d).g < s.fare then (giftV B d).g else s.fare) = usedX s (giftV B d) := rfl
          simp only [e2, e5]
          rcases Bool.eq_false_or_eq_true (decide ((giftV B d).many = 0)) with e3 | e3
          · rw [e3] at hn
            have e4 : decide (d.left = 0) = false := hn
            exact callOK_run 600 [hC 1 2 c1, hC 4 2 c2, hB 5 2 _ _ e3, hB 5 6 _ _ hn, hB 5 12 _ _ hz2, hC 7 4 c5, hC 8 4 c6, hB 9 1 _ _ g2, hC 11 2 c7, hI 14 4 IntKind.i64 _ _ w0, hI 14 5 IntKind.i64 _ _ w0, hC 16 2 c8, hC 17 2 c9, hI 18 5 IntKind.i64 _ _ w0, hI 18 6 IntKind.i64 _ _ w1, hI 18 9 IntKind.i64 _ _ w0, hI 18 10 IntKind.i64 _ _ w2, hC 19 2 c10, hC 20 1 c11, hI 20 4 IntKind.i64 _ _ hpr, hI 21 4 IntKind.i64 _ _ w0, hI 21 5 IntKind.i64 _ _ w3, hC 21 6 c12] (by kernel_rfl) (by kernel_rfl)
          · exact callOK_run 600 [hC 1 2 c1, hC 4 2 c2, hB 5 2 _ _ e3, hB 5 12 _ _ hz2, hC 7 4 c5, hC 8 4 c6, hB 9 1 _ _ g2, hC 11 2 c7, hI 14 4 IntKind.i64 _ _ w0, hI 14 5 IntKind.i64 _ _ w0, hC 16 2 c8, hC 17 2 c9, hI 18 5 IntKind.i64 _ _ w0, hI 18 6 IntKind.i64 _ _ w1, hI 18 9 IntKind.i64 _ _ w0, hI 18 10 IntKind.i64 _ _ w2, hC 19 2 c10, hC 20 1 c11, hI 20 4 IntKind.i64 _ _ hpr, hI 21 4 IntKind.i64 _ _ w0, hI 21 5 IntKind.i64 _ _ w3, hC 21 6 c12] (by kernel_rfl) (by kernel_rfl)
        · have hm : B.issE s ≠ 0 := of_decide_eq_false e5
          have g5 : (!decide (B.issE s = 0)) = true := by rw [e5]; rfl
          have c7 := issue_noC F h.bk ok hl hta h1 h2 hm
          have c8 := failed_w (B.issE s)
          simp only [e2, e5]
          rcases Bool.eq_false_or_eq_true (decide ((giftV B d).many = 0)) with e3 | e3
          · rw [e3] at hn
            have e4 : decide (d.left = 0) = false := hn
            exact callOK_run 600 [hC 1 2 c1, hC 4 2 c2, hB 5 2 _ _ e3, hB 5 6 _ _ hn, hB 5 12 _ _ hz2, hC 7 4 c5, hC 8 4 c6, hB 9 1 _ _ g2, hC 11 2 c7, hB 12 1 _ _ g5, hC 13 1 c8] (by kernel_rfl) (by kernel_rfl)
          · exact callOK_run 600 [hC 1 2 c1, hC 4 2 c2, hB 5 2 _ _ e3, hB 5 12 _ _ hz2, hC 7 4 c5, hC 8 4 c6, hB 9 1 _ _ g2, hC 11 2 c7, hB 12 1 _ _ g5, hC 13 1 c8] (by kernel_rfl) (by kernel_rfl)
      · have g2 : (!decide (exE B d = 0)) = true := by rw [e2]; rfl
        have c7 := failed_w (exE B d)
        simp only [e2]
        rcases Bool.eq_false_or_eq_true (decide ((giftV B d).many = 0)) with e3 | e3
        · rw [e3] at hn
          have e4 : decide (d.left = 0) = false := hn
          exact callOK_run 600 [hC 1 2 c1, hC 4 2 c2, hB 5 2 _ _ e3, hB 5 6 _ _ hn, hB 5 12 _ _ hz2, hC 7 4 c5, hC 8 4 c6, hB 9 1 _ _ g2, hC 10 1 c7] (by kernel_rfl) (by kernel_rfl)
        · exact callOK_run 600 [hC 1 2 c1, hC 4 2 c2, hB 5 2 _ _ e3, hB 5 12 _ _ hz2, hC 7 4 c5, hC 8 4 c6, hB 9 1 _ _ g2, hC 10 1 c7] (by kernel_rfl) (by kernel_rfl)
    rcases Bool.eq_false_or_eq_true (noneB B d) with e1 | e1
    · rw [e1]
      unfold noneB at e1
      rw [Bool.and_eq_true] at e1
      obtain ⟨e3, e4⟩ := e1
      exact callOK_run 600 [hC 1 2 c1, hC 4 2 c2, hB 5 2 _ _ e3, hB 5 6 _ _ e4, hC 6 0 c3] (by kernel_rfl) (by kernel_rfl)
    · rcases Bool.eq_false_or_eq_true (tid0B d.dst) with e6 | e6
      · rw [e1, e6]
        exact big e1 e6
      · rw [e1, e6]
        have hz2 : (!tid0B d.dst) = true := by rw [e6]; rfl
        have two : ∀ x, noneB B d = x → (decide ((giftV B d).many = 0) && decide (d.left = 0)) = x := fun x e => e
        have hn := two _ e1
        clear two
        rcases Bool.eq_false_or_eq_true (decide ((giftV B d).many = 0)) with e3 | e3
        · rw [e3] at hn
          have e4 : decide (d.left = 0) = false := hn
          exact callOK_run 600 [hC 1 2 c1, hC 4 2 c2, hB 5 2 _ _ e3, hB 5 6 _ _ hn, hB 5 12 _ _ hz2, hC 6 0 c3] (by kernel_rfl) (by kernel_rfl)
        · exact callOK_run 600 [hC 1 2 c1, hC 4 2 c2, hB 5 2 _ _ e3, hB 5 12 _ _ hz2, hC 6 0 c3] (by kernel_rfl) (by kernel_rfl)
end Go.Proofs.YtlekbdpdlalhbaaGreat
end
section
namespace Go.Proofs.YtlekbdpdlalhbaaGreat
set_option maxRecDepth 100000
open Go.RowKit Go.Lib Go.Tk Go.Shelf Go.Vc Go.Sx
set_option linter.unusedVariables false
set_option linter.unusedSimpArgs false

theorem shareL_bds {t : Int} {ws : List Int} (hp : PosRow ws) (ha : 0 < ws.sum) (ht : 0 ≤ t) {i : Nat} (hi : i < ws.length) : 0 ≤ (shareL t ws).getD i 0 ∧ (shareL t ws).getD i 0 ≤ t + 1 := by
  rw [shareL_get _ _ _ hi]
  have hx := posrow_get hp hi
  have e : ws.getD i 0 = ws[i] := by simp [List.getD_eq_getElem?_getD, hi]
  have := wh_bd (t := t) (S := ws.sum) ht ha hx.1 (by rw [e]; exact le_sum ws (fun y hy => (hp y hy).1) _ (List.getElem_mem hi))
  split <;> omega
theorem share_bd {s : SaleV} (ok : SaleOk s) {n : Int} (h : checkE s n = 0) (i : Nat) : 0 ≤ (shareV s.fare (wsOf s)).getD i 0 ∧ (shareV s.fare (wsOf s)).getD i 0 ≤ 1125899906842625 := by
  obtain ⟨-, -, hsh, -⟩ := check_shape h
  obtain ⟨hS, ha, l1, l4, f0, f1⟩ := shape_share ok hsh
  have hv : shareV s.fare (wsOf s) = shareL s.fare (wsOf s) := by unfold shareV; rw [if_pos hS]
  rw [hv]
  by_cases hi : i < (wsOf s).length
  · have := shareL_bds (ws_pos ok) ha f0 hi
    omega
  · rw [List.getD_eq_getElem?_getD, List.getElem?_eq_none (by rw [shareL_len]; omega)]
    exact ⟨Int.le_refl _, by decide⟩
theorem issO_lk (t : Tid) (s : SaleV) (vs : List Int) (L : OwnsV) (k : Kid) : ∀ n, (∃ i : Nat, i < n ∧ k = ⟨t, (i : Int)⟩ ∧ lkt (issO t s vs L n) k = some (ownNew (s.legs.getD i leg0) (vs.getD i 0))) ∨ ((∀ i : Nat, i < n → k ≠ ⟨t, (i : Int)⟩) ∧ lkt (issO t s vs L n) k = lkt L k)
  | 0 => .inr ⟨fun i hi => absurd hi (Nat.not_lt_zero _), rfl⟩
  | n + 1 => by
    have ih := issO_lk t s vs L k n
    have e : issO t s vs L (n + 1) = putt (issO t s vs L n) ⟨t, (n : Int)⟩ (ownNew (s.legs.getD n leg0) (vs.getD n 0)) := rfl
    rw [e, lkt_put]
    by_cases hk : (⟨t, (n : Int)⟩ : Kid) = k
    · rw [if_pos hk]
      exact .inl ⟨n, Nat.lt_succ_self _, hk.symm, rfl⟩
    · rw [if_neg hk]
      rcases ih with ⟨i, hi, h1, h2⟩ | ⟨h1, h2⟩
      · exact .inl ⟨i, by omega, h1, h2⟩
      · exact .inr ⟨fun i hi => by
          by_cases q : i = n
          · subst q; exact fun e => hk e.symm
          · exact h1 i (by omega), h2⟩
theorem ExOk.issued {B : BookV} (h : ExOk B) {s : SaleV} (ok : SaleOk s) (hm : B.issE s = 0) : ExOk (B.issued s) := by
  have hc := issE_check hm
  obtain ⟨-, -, hsh, -⟩ := check_shape hc
  obtain ⟨hS, ha, l1, l4, f0, f1⟩ := shape_share ok hsh
  have hvl : (shareV s.fare (wsOf s)).length = s.legs.length := by rw [shareV_len hS, ws_len]
  have hd : ∀ d ∈ (B.issued s).docs, d ∈ B.docs ∨ d = docMade B.nextT s := fun d hd => by
    have hd : d ∈ B.docs ++ [docMade B.nextT s] := hd
    rcases List.mem_append.1 hd with q | q
    · exact .inl q
    · exact .inr (List.mem_singleton.1 q)
  refine ⟨h.bk.issued hm, fun d q => ?_, fun d q => ?_, fun k o ho => ?_⟩
  · rcases hd d q with q | rfl
    · exact h.sal d q
    · exact ok
  · rcases hd d q with q | rfl
    · exact h.sm d q
    · exact ⟨by have := ok.nl; show s.legs.length ≤ _; omega, by have := ok.nt; show s.taxes.length ≤ _; omega, by show (shareV s.fare (wsOf s)).length ≤ _; omega⟩
  · have ho : lkt (issO B.nextT s (shareV s.fare (wsOf s)) B.owns (shareV s.fare (wsOf s)).length) k = some o := ho
    rcases issO_lk B.nextT s (shareV s.fare (wsOf s)) B.owns k (shareV s.fare (wsOf s)).length with ⟨i, hi, -, h2⟩ | ⟨-, h2⟩
    · rw [h2] at ho
      cases ho
      have := share_bd ok hc i
      show -9223372036854775808 ≤ (shareV s.fare (wsOf s)).getD i 0 ∧ (shareV s.fare (wsOf s)).getD i 0 ≤ 9223372036854775807
      omega
    · rw [h2] at ho
      exact h.own k o ho
theorem ExOk.setD {B : BookV} (h : ExOk B) {d : DocV} (ok : SaleOk d.s) (sm : DocSmall d) : ExOk (B.setD d) := by
  have hd : ∀ x ∈ (B.setD d).docs, x ∈ B.docs ∨ x = d := fun x hx => by
    obtain ⟨y, hy, e⟩ := List.mem_map.1 (show x ∈ putD B.docs d from hx)
    by_cases q : y.t = d.t
    · rw [if_pos q] at e; exact .inr e.symm
    · rw [if_neg q] at e; exact .inl (e ▸ hy)
  refine ⟨⟨h.bk.self, h.bk.n, fun i x hx => ?_, ?_⟩, fun x q => ?_, fun x q => ?_, h.own⟩
  · have e := putD_t B.docs d
    have h1 : ((putD B.docs d).map (·.t))[i]? = some x.t := by rw [List.getElem?_map, show (putD B.docs d)[i]? = some x from hx]; rfl
    rw [e, List.getElem?_map] at h1
    cases h2 : B.docs[i]? with
    | none => rw [h2] at h1; cases h1
    | some y =>
      rw [h2] at h1
      have h3 := h.bk.docs i y h2
      show x.t = ⟨B.self, (i : Int) + 1⟩
      rw [← h3]
      simpa using h1.symm
  · show (putD B.docs d).length ≤ 32
    unfold putD; rw [List.length_map]; exact h.bk.many
  · rcases hd x q with q | rfl
    · exact h.sal x q
    · exact ok
  · rcases hd x q with q | rfl
    · exact h.sm x q
    · exact sm
theorem ExOk.turn1 {B : BookV} (h : ExOk B) {k : Kid} {o : OwnV} (ho : OwnOk o) (s : Int) : ExOk (turn1 B k o s) := by
  have hd := turn1_docs B k o s
  have hs : (Go.Proofs.YtlekbdpdlalhbaaGreat.turn1 B k o s).self = B.self ∧ (Go.Proofs.YtlekbdpdlalhbaaGreat.turn1 B k o s).n = B.n := by
    unfold Go.Proofs.YtlekbdpdlalhbaaGreat.turn1 BookV.setO
    cases freeO o <;> cases (lkt B.owns k).isSome <;> exact ⟨rfl, rfl⟩
  refine ⟨⟨by rw [hs.1, hs.2]; exact h.bk.self, by rw [hs.2]; exact h.bk.n, by rw [hd, hs.1]; exact h.bk.docs, by rw [hd]; exact h.bk.many⟩, by rw [hd]; exact h.sal, by rw [hd]; exact h.sm, fun k' x hx => ?_⟩
  unfold Go.Proofs.YtlekbdpdlalhbaaGreat.turn1 BookV.setO at hx
  cases hf : freeO o
  · rw [hf] at hx; exact h.own k' x hx
  · rw [hf] at hx
    cases hl : (lkt B.owns k).isSome
    · rw [hl] at hx; exact h.own k' x hx
    · rw [hl] at hx
      have hx : lkt (putt B.owns k (asO o s)) k' = some x := hx
      rw [lkt_put] at hx
      by_cases e : k = k'
      · rw [if_pos e] at hx; cases hx; exact ho
      · rw [if_neg e] at hx; exact h.own k' x hx
theorem ExOk.turnL (s : Int) (t : Tid) : ∀ (l : List OwnV) {B : BookV} (i : Int), ExOk B → (∀ o ∈ l, OwnOk o) → ExOk (turnL s t B i l)
  | [], B, i, h, _ => h
  | o :: l, B, i, h, hl => ExOk.turnL s t l (i + 1) (h.turn1 (k := ⟨t, i⟩) (hl o List.mem_cons_self) s) fun x hx => hl x (List.mem_cons_of_mem _ hx)
theorem ExOk.turnB {B : BookV} (h : ExOk B) (t : Tid) (s : Int) : ExOk (turnB B t s) := ExOk.turnL s t _ 0 h (h.coup t)
theorem exIssue_ok {B : BookV} (h : ExOk B) {s : SaleV} (ok : SaleOk s) : ExOk (exIssue B s).b := by
  unfold exIssue
  rcases Bool.eq_false_or_eq_true (decide (B.issE s = 0)) with e | e <;> rw [e]
  · exact h.issued ok (of_decide_eq_true e)
  · exact h
theorem exDisplay_ok {B : BookV} (h : ExOk B) (t : Tid) : ExOk (exDisplay B t).b := by
  unfold exDisplay
  cases lkD B.docs t <;> exact h
theorem exVoid_ok {B : BookV} (h : ExOk B) (t : Tid) : ExOk (exVoid B t).b := by
  unfold exVoid
  cases hf : lkD B.docs t with
  | none => exact h
  | some d =>
    have hd := (lkD_mem hf).1
    show ExOk (exVoidD B t d).b
    unfold exVoidD
    cases (!voidL (tid0B d.frm) (coupL B t))
    · cases (!decide ((addI d.back d.paid).2 = 0))
      · exact (h.setD (d := voidD d) (h.sal d hd) ⟨(h.sm d hd).nl, (h.sm d hd).nt, (h.sm d hd).nv⟩).turnB t 5
      · exact h
    · exact h
theorem exRefund_ok {B : BookV} (h : ExOk B) (t : Tid) : ExOk (exRefund B t).b := by
  unfold exRefund
  cases hf : lkD B.docs t with
  | none => exact h
  | some d =>
    have hd := (lkD_mem hf).1
    show ExOk (exRefundD B t d).b
    unfold exRefundD
    cases noneB B d
    · cases (!decide (refE B d = 0))
      · exact (h.setD (d := refD B d) (h.sal d hd) ⟨(h.sm d hd).nl, (h.sm d hd).nt, (h.sm d hd).nv⟩).turnB t 6
      · exact h
    · exact h
theorem exExchange_ok {B : BookV} (h : ExOk B) (t : Tid) {s : SaleV} (ok : SaleOk s) : ExOk (exExchange B t s).b := by
  unfold exExchange
  cases hf : lkD B.docs t with
  | none => exact h
  | some d =>
    have hd := (lkD_mem hf).1
    show ExOk (exExchangeD B d s).b
    unfold exExchangeD
    cases (noneB B d || !tid0B d.dst)
    · cases (!decide (exE B d = 0))
      · rcases Bool.eq_false_or_eq_true (decide (B.issE s = 0)) with e | e
        · have hm := of_decide_eq_true e
          rw [e]
          obtain ⟨-, -, hsh, -⟩ := check_shape (issE_check hm)
          obtain ⟨hS, ha, l1, l4, f0, f1⟩ := shape_share ok hsh
          have hvl : (shareV s.fare (wsOf s)).length = s.legs.length := by rw [shareV_len hS, ws_len]
          have h1 := ((h.issued ok hm).setD (d := exD1 B d s) (h.sal d hd) ⟨(h.sm d hd).nl, (h.sm d hd).nt, (h.sm d hd).nv⟩).turnB d.t 7
          exact h1.setD (d := exD2 B d s) ok ⟨by have := ok.nl; show s.legs.length ≤ _; omega, by have := ok.nt; show s.taxes.length ≤ _; omega, by show (shareV s.fare (wsOf s)).length ≤ _; omega⟩
        · rw [e]; exact h
      · exact h
    · exact h
theorem new_ex (self n : Int) (h : 0 ≤ self ∧ self < n ∧ 2 ≤ n ∧ n ≤ 8) : ExOk (bookNew self n) := ⟨book_new_ok self n h, (fun d hd => by cases hd), (fun d hd => by cases hd), (fun k o ho => by cases ho)⟩
end Go.Proofs.YtlekbdpdlalhbaaGreat
end
