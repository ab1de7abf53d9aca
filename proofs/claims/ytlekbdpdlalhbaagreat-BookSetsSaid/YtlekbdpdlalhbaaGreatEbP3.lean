/- BALANCES 3 (plain): what the agent does, and a coupon that is handed on: each keeps what documents are worth. -/
import Derived.Test.YtlekbdpdlalhbaaGreatM7f42ba3
import Derived.Test.YtlekbdpdlalhbaaGreatHo4
namespace Go.Proofs.YtlekbdpdlalhbaaGreat
set_option maxRecDepth 100000
open Go.RowKit Go.Lib Go.Tk Go.Shelf Go.Vc Go.Sx
set_option linter.unusedVariables false
set_option linter.unusedSimpArgs false

theorem sumFrom_val : ∀ (xs : List Int) (s : Int), (sumFrom s xs).2 = 0 → (sumFrom s xs).1 = s + xs.sum
  | [], s, _ => by simp [sumFrom]
  | x :: r, s, h => by
    rcases addI_cases s x with ⟨e, -, -, -, e1⟩ | ⟨e, -, -⟩
    · rw [sumFrom, if_pos e] at h ⊢
      rw [sumFrom_val r _ h, e1, List.sum_cons]; omega
    · rw [sumFrom, if_neg (by rw [e]; decide)] at h
      cases h
theorem addI_val {a b : Int} (h : (addI a b).2 = 0) : (addI a b).1 = a + b := by
  rcases addI_cases a b with ⟨-, -, -, -, e1⟩ | ⟨e, -, -⟩
  · exact e1
  · rw [e] at h; cases h
theorem first2_0 {a b : Int} (h : first2 a b = 0) : a = 0 ∧ b = 0 := by
  unfold first2 at h
  rcases Bool.eq_false_or_eq_true (decide (a = 0)) with e | e
  · rw [e] at h; exact ⟨of_decide_eq_true e, h⟩
  · rw [e] at h; exact absurd h (of_decide_eq_false e)
theorem gifts_sum {pen : Int} (hp : 0 ≤ pen) : ∀ L : List OwnV, (∀ o ∈ L, 0 ≤ o.k.v) → (L.map fun o => giveV o.k.v pen).sum + (L.map fun o => giveK o.k.v pen).sum = (L.map (·.k.v)).sum ∧ 0 ≤ (L.map fun o => giveV o.k.v pen).sum ∧ 0 ≤ (L.map fun o => giveK o.k.v pen).sum
  | [], _ => ⟨rfl, Int.le_refl _, Int.le_refl _⟩
  | o :: L, h => by
    obtain ⟨h1, h2, h3⟩ := gifts_sum hp L fun x hx => h x (List.mem_cons_of_mem _ hx)
    have h0 := h o List.mem_cons_self
    simp only [List.map_cons, List.sum_cons]
    have e1 : giveV o.k.v pen = o.k.v - min o.k.v pen := by unfold giveV; rw [if_neg (by omega)]
    have e2 : giveK o.k.v pen = min o.k.v pen := by unfold giveK; rw [if_neg (by omega)]
    rw [e1, e2]
    refine ⟨by omega, by omega, by omega⟩
/-- what is given and what is kept -/
structure GiftOk (d : DocV) (L : List OwnV) (g k : Int) : Prop where
  sum : g + k = d.left + ((frL L).map (·.k.v)).sum
  g0 : 0 ≤ g
  k0 : 0 ≤ k
theorem DocI.cv {d : DocV} {L : List OwnV} (h : DocI d L) : ∀ o ∈ L, 0 ≤ o.k.v := fun o ho => h.nn _ (by rw [← h.vals]; exact List.mem_map_of_mem ho)
theorem gift_ok {B : BookV} {d : DocV} (h : DocI d (coupL B d.t)) (he : (giftV B d).e = 0) : GiftOk d (coupL B d.t) (giftV B d).g (giftV B d).k := by
  obtain ⟨e1, e2⟩ := first2_0 he
  have hg : (giftV B d).g = d.left + ((frL (coupL B d.t)).map fun o => giveV o.k.v d.s.pen).sum := by
    show (sumFrom 0 (giveL B d)).1 = _
    rw [sumFrom_val _ _ e1]
    unfold giveL
    rw [List.sum_cons, Int.zero_add]; rfl
  have hk : (giftV B d).k = ((frL (coupL B d.t)).map fun o => giveK o.k.v d.s.pen).sum := by
    show (sumFrom 0 (keepL B d)).1 = _
    rw [sumFrom_val _ _ e2, Int.zero_add]; rfl
  obtain ⟨s1, s2, s3⟩ := gifts_sum h.pen (frL (coupL B d.t)) fun o ho => h.cv o (List.mem_filter.1 ho).1
  have := h.left
  exact ⟨by rw [hg, hk]; omega, by rw [hg]; omega, by rw [hk]; omega⟩
/-- the book's accounts -/
structure EB (B : BookV) : Prop where
  ex : ExOk B
  ks : KeysIn B
  ei : EI B.docs (coupL B)
theorem EB.nodup {B : BookV} (h : EB B) : (B.docs.map (·.t)).Nodup := h.ex.bk.nodup
theorem turnB_coup (B : BookV) (t : Tid) (s : Int) (d : DocV) : coupL (turnB (B.setD d) t s) t = (coupL B t).map (turnO s) := coupL_turn (B.setD d) t s
theorem turnB_coup_ne (B : BookV) {t t' : Tid} (s : Int) (d : DocV) (h : t' ≠ t) : coupL (turnB (B.setD d) t s) t' = coupL B t' := coupL_turn_ne (B.setD d) s h
theorem turnB_docsD (B : BookV) (t : Tid) (s : Int) (d : DocV) : (turnB (B.setD d) t s).docs = putD B.docs d := turnB_docs _ t s
/-- a document changed, its free coupons turned -/
theorem EB.change {B : BookV} (h : EB B) {d d' : DocV} {s : Int} (hs : 4 < s ∧ s ≤ 7) (hd : d ∈ B.docs) (ht : d'.t = d.t) (hsl : d'.s = d.s) (hv : d'.vals = d.vals) (hf : d'.frm = d.frm) (ho : d'.dst = d.dst) (hc : d'.credit = d.credit) (hp : d'.paid = d.paid)
    (hb : 0 ≤ d'.back) (hk : 0 ≤ d'.kept) (hl : 0 ≤ d'.left) (hl2 : d'.left ≤ d.left) (hm : d'.back + d'.kept + d'.left = d.back + d.kept + d.left + ((frL (coupL B d.t)).map (·.k.v)).sum) : EB (turnB (B.setD d') d.t s) := by
  have hi := h.ei.doc d hd
  refine ⟨(h.ex.setD (by rw [hsl]; exact h.ex.sal d hd) ⟨by rw [hsl]; exact (h.ex.sm d hd).nl, by rw [hsl]; exact (h.ex.sm d hd).nt, by rw [hv]; exact (h.ex.sm d hd).nv⟩).turnB d.t s, (h.ks.setD d').turnB d.t s, ?_⟩
  rw [turnB_docsD]
  have e := turnB_coup B d.t s d'
  refine h.ei.upd h.nodup hd ht hf ho hc ?_ ?_ (fun t q => turnB_coup_ne B s d' q)
  · rw [e]
    refine ⟨by rw [turn_vals, hv]; exact hi.vals, turn_st ⟨by omega, hs.2⟩ hi.st, by rw [hv]; exact hi.nn, by rw [hv, hsl]; exact hi.sum, by rw [hsl]; exact hi.pen, by rw [hp]; exact hi.paid, hb, hk, hl, by have := hi.leftc; rw [hc]; omega, fun q => ?_, by rw [hp, hc, ht]; exact hi.bnd⟩
    rw [hp, hc, hsl]; exact hi.frm (hf ▸ q)
  · rw [e]
    unfold mD
    rw [opL_turn hs.1, hp]; omega
theorem voidL_all : ∀ (L : List OwnV) (b : Bool), voidL b L = true → b = true ∧ ∀ o ∈ L, voidO o = true
  | [], b, h => ⟨h, fun o ho => by cases ho⟩
  | o :: L, b, h => by
    obtain ⟨h1, h2⟩ := voidL_all L (b && voidO o) h
    rw [Bool.and_eq_true] at h1
    exact ⟨h1.1, fun x hx => by
      rcases List.mem_cons.1 hx with rfl | hx
      · exact h1.2
      · exact h2 x hx⟩
theorem tid0_eq {t : Tid} (h : tid0B t = true) : t = tid0 := by
  obtain ⟨c, r⟩ := t
  simp only [tid0B, Bool.and_true, Bool.and_eq_true, decide_eq_true_eq] at h
  obtain ⟨rfl, rfl⟩ := h; rfl
theorem exVoid_b {B : BookV} (h : EB B) (t : Tid) : EB (exVoid B t).b := by
  unfold exVoid
  cases hf : lkD B.docs t with
  | none => exact h
  | some d =>
    obtain ⟨hd, rfl⟩ := lkD_mem hf
    show EB (exVoidD B d.t d).b
    unfold exVoidD
    rcases Bool.eq_false_or_eq_true (voidL (tid0B d.frm) (coupL B d.t)) with e1 | e1 <;> rw [e1]
    · rcases Bool.eq_false_or_eq_true (decide ((addI d.back d.paid).2 = 0)) with e2 | e2 <;> rw [e2]
      · have ev := addI_val (of_decide_eq_true e2)
        obtain ⟨v1, v2⟩ := voidL_all _ _ e1
        have hi := h.ei.doc d hd
        have hfr := hi.frm (tid0_eq v1)
        have hall : frL (coupL B d.t) = coupL B d.t := List.filter_eq_self.2 fun o ho => by have := v2 o ho; unfold voidO at this; rw [Bool.and_eq_true] at this; exact this.1
        have hb0 := hi.back
        have hp0 := hi.paid
        refine h.change (s := 5) (d' := voidD d) (by decide) hd rfl rfl rfl rfl rfl rfl rfl ?_ hi.kept hi.left (Int.le_refl _) ?_
        · show 0 ≤ (addI d.back d.paid).1
          rw [ev]; omega
        · show (addI d.back d.paid).1 + d.kept + d.left = _
          rw [ev, hall, hi.vals, hi.sum, hfr.1]; omega
      · exact h
    · exact h
theorem exRefund_b {B : BookV} (h : EB B) (t : Tid) : EB (exRefund B t).b := by
  unfold exRefund
  cases hf : lkD B.docs t with
  | none => exact h
  | some d =>
    obtain ⟨hd, rfl⟩ := lkD_mem hf
    show EB (exRefundD B d.t d).b
    unfold exRefundD
    cases noneB B d
    · rcases Bool.eq_false_or_eq_true (decide (refE B d = 0)) with e2 | e2 <;> rw [e2]
      · have he := of_decide_eq_true e2
        obtain ⟨he1, he2⟩ := first2_0 he
        obtain ⟨he2, he3⟩ := first2_0 he2
        have hi := h.ei.doc d hd
        obtain ⟨g1, g2, g3⟩ := gift_ok hi he1
        have hb0 := hi.back
        have hk0 := hi.kept
        have hl0 := hi.left
        refine h.change (s := 6) (d' := refD B d) (by decide) hd rfl rfl rfl rfl rfl rfl rfl ?_ ?_ (Int.le_refl _) hi.left ?_
        · show 0 ≤ (addI d.back (giftV B d).g).1
          rw [addI_val he2]; omega
        · show 0 ≤ (addI d.kept (giftV B d).k).1
          rw [addI_val he3]; omega
        · show (addI d.back (giftV B d).g).1 + (addI d.kept (giftV B d).k).1 + 0 = _
          rw [addI_val he2, addI_val he3]; omega
      · exact h
    · exact h
/-! ### a ticket sold -/
structure MadeI (B : BookV) (s : SaleV) : Prop where
  vl : (shareV s.fare (wsOf s)).length ≤ 4
  op : opL (newL s) = s.fare
  vs : (shareV s.fare (wsOf s)).sum = s.fare
  nn : ∀ v ∈ shareV s.fare (wsOf s), 0 ≤ v
  st : ∀ o ∈ newL s, 1 ≤ o.k.s ∧ o.k.s ≤ 7
  pen : 0 ≤ s.pen
  fare : 0 ≤ s.fare
  many : B.docs.length < 32
theorem made_i {B : BookV} {s : SaleV} (ok : SaleOk s) (hm : B.issE s = 0) : MadeI B s := by
  obtain ⟨-, -, hsh, -⟩ := check_shape (issE_check hm)
  obtain ⟨hS, ha, l1, l4, f0, f1⟩ := shape_share ok hsh
  have hp : 0 ≤ s.pen ∧ s.pen ≤ 1125899906842624 := by
    simp only [shapeB, Bool.and_eq_true] at hsh
    obtain ⟨⟨⟨⟨-, -⟩, h3⟩, -⟩, -⟩ := hsh
    simp only [must3, List.all_cons, List.all_nil, Bool.and_true, Bool.and_eq_true, amtB, decide_eq_true_eq] at h3
    exact h3.2
  have hv : shareV s.fare (wsOf s) = shareL s.fare (wsOf s) := by unfold shareV; rw [if_pos hS]
  have hvs : (shareV s.fare (wsOf s)).sum = s.fare := by rw [hv]; exact shareL_sum _ _ ha
  have st1 : ∀ o ∈ newL s, o.k.s = 1 := fun o ho => by
    unfold newL at ho
    obtain ⟨i, -, rfl⟩ := List.mem_map.1 ho
    rfl
  refine ⟨by rw [shareV_len hS, ws_len]; exact l4, ?_, hvs, fun v hx => ?_, fun o ho => by rw [st1 o ho]; decide, hp.1, f0, issE_many hm⟩
  · unfold opL
    rw [List.filter_eq_self.2 fun o ho => by simp [st1 o ho], newL_vals, hvs]
  · rw [hv] at hx
    obtain ⟨i, hi, rfl⟩ := List.getElem_of_mem hx
    have := (shareL_bds (ws_pos ok) ha f0 (i := i) (by rw [shareL_len] at hi; exact hi)).1
    simpa [List.getD_eq_getElem?_getD, hi] using this
theorem nextT_fresh {B : BookV} (h : BookOk B) : ∀ x ∈ B.docs, x.t ≠ B.nextT := fun x hx e => by
  obtain ⟨j, hj, hjd⟩ := List.getElem_of_mem hx
  have := h.docs j x (by rw [List.getElem?_eq_getElem hj, hjd])
  rw [this] at e
  have e : (⟨B.self, (j : Int) + 1⟩ : Tid) = ⟨B.self, (B.docs.length : Int) + 1⟩ := e
  injection e with _ e
  omega
theorem doc_r {B : BookV} (h : BookOk B) {x : DocV} (hx : x ∈ B.docs) : 1 ≤ x.t.r ∧ x.t.r ≤ B.docs.length := by
  obtain ⟨j, hj, hjd⟩ := List.getElem_of_mem hx
  have := h.docs j x (by rw [List.getElem?_eq_getElem hj, hjd])
  rw [this]
  refine ⟨by show 1 ≤ (j : Int) + 1; omega, by show (j : Int) + 1 ≤ _; omega⟩
theorem EB.issued {B : BookV} (h : EB B) {s : SaleV} (ok : SaleOk s) (hs : s.fare < 1099511627776) (hm : B.issE s = 0) : EB (B.issued s) := by
  have m := made_i ok hm
  refine ⟨h.ex.issued ok hm, h.ks.issued s, ?_⟩
  have e := coupL_issued (s := s) (h.ks.next h.ex.bk) m.vl
  have hvl := newL_vals s
  refine h.ei.add (n := docMade B.nextT s) (nextT_fresh h.ex.bk) rfl ?_ ?_ rfl (fun t q => coupL_issued_ne q)
  · show DocI _ (coupL (B.issued s) B.nextT)
    rw [e]
    have := m.fare
    refine ⟨hvl, m.st, m.nn, m.vs, m.pen, m.fare, Int.le_refl _, Int.le_refl _, Int.le_refl _, Int.le_refl _, fun _ => ⟨rfl, rfl⟩, ?_⟩
    show s.fare + 0 ≤ 1099511627776 * ((B.docs.length : Int) + 1)
    omega
  · show mD _ (coupL (B.issued s) B.nextT) = 0
    rw [e]
    unfold mD
    rw [m.op]
    show s.fare - 0 - 0 - 0 - s.fare = 0
    omega
theorem exIssue_b {B : BookV} (h : EB B) {s : SaleV} (ok : SaleOk s) (hs : s.fare < 1099511627776) : EB (exIssue B s).b := by
  unfold exIssue
  rcases Bool.eq_false_or_eq_true (decide (B.issE s = 0)) with e | e <;> rw [e]
  · exact h.issued ok hs (of_decide_eq_true e)
  · exact h
theorem exDisplay_b {B : BookV} (h : EB B) (t : Tid) : EB (exDisplay B t).b := by
  unfold exDisplay
  cases lkD B.docs t <;> exact h
theorem putD_none {ds : List DocV} {d : DocV} (h : ∀ x ∈ ds, x.t ≠ d.t) : putD ds d = ds := by
  unfold putD
  conv => rhs; rw [← List.map_id ds]
  exact List.map_congr_left fun x hx => by rw [if_neg (h x hx)]; rfl
theorem putD_app (l m : List DocV) (d : DocV) : putD (l ++ m) d = putD l d ++ putD m d := List.map_append
theorem ex_docs {B : BookV} (h : BookOk B) {d : DocV} (hd : d ∈ B.docs) (s : SaleV) : ((exB2 B d s).setD (exD2 B d s)).docs = putD B.docs (exD1 B d s) ++ [exD2 B d s] := by
  have hf := nextT_fresh h
  show putD (turnB ((B.issued s).setD (exD1 B d s)) d.t 7).docs (exD2 B d s) = _
  rw [turnB_docsD]
  show putD (putD (B.docs ++ [docMade B.nextT s]) (exD1 B d s)) (exD2 B d s) = _
  have e1 : putD (B.docs ++ [docMade B.nextT s]) (exD1 B d s) = putD B.docs (exD1 B d s) ++ [docMade B.nextT s] := by
    unfold putD
    rw [List.map_append, List.map_cons, List.map_nil, if_neg (show (docMade B.nextT s).t ≠ (exD1 B d s).t from fun e => hf d hd e.symm)]
  rw [e1]
  have e2 : ∀ x ∈ putD B.docs (exD1 B d s), x.t ≠ (exD2 B d s).t := fun x hx => by
    rcases putD_mem hx with rfl | ⟨hx, -⟩
    · exact hf d hd
    · exact hf x hx
  show putD (putD B.docs (exD1 B d s) ++ [docMade B.nextT s]) (exD2 B d s) = _
  rw [putD_app, putD_none e2]
  show _ ++ [if (docMade B.nextT s).t = (exD2 B d s).t then exD2 B d s else docMade B.nextT s] = _
  rw [if_pos (show (docMade B.nextT s).t = (exD2 B d s).t from rfl)]
theorem exExchange_b {B : BookV} (h : EB B) (t : Tid) {s : SaleV} (ok : SaleOk s) (hs : s.fare < 1099511627776) : EB (exExchange B t s).b := by
  have hok := exExchange_ok h.ex t ok
  unfold exExchange at hok ⊢
  cases hf : lkD B.docs t with
  | none => exact h
  | some d =>
    rw [hf] at hok
    obtain ⟨hd, rfl⟩ := lkD_mem hf
    have hok : ExOk (exExchangeD B d s).b := hok
    show EB (exExchangeD B d s).b
    unfold exExchangeD at hok ⊢
    rcases Bool.eq_false_or_eq_true (noneB B d || !tid0B d.dst) with e1 | e1 <;> rw [e1] at hok ⊢
    · exact h
    rcases Bool.eq_false_or_eq_true (decide (exE B d = 0)) with e2 | e2 <;> rw [e2] at hok ⊢
    · rcases Bool.eq_false_or_eq_true (decide (B.issE s = 0)) with e3 | e3 <;> rw [e3] at hok ⊢
      · have hm := of_decide_eq_true e3
        have m := made_i ok hm
        obtain ⟨he1, he2⟩ := first2_0 (of_decide_eq_true e2)
        rw [Bool.or_eq_false_iff, Bool.not_eq_false'] at e1
        have hdst := tid0_eq e1.2
        have hi := h.ei.doc d hd
        obtain ⟨g1, g2, g3⟩ := gift_ok hi he1
        have hne : d.t ≠ B.nextT := nextT_fresh h.ex.bk d hd
        refine ⟨hok, ((h.ks.issued s).setD _ |>.turnB d.t 7).setD _, ?_⟩
        show EI ((exB2 B d s).setD (exD2 B d s)).docs (coupL ((exB2 B d s).setD (exD2 B d s)))
        rw [ex_docs h.ex.bk hd]
        have c1 : coupL ((exB2 B d s).setD (exD2 B d s)) d.t = (coupL B d.t).map (turnO 7) := (turnB_coup (B.issued s) d.t 7 (exD1 B d s)).trans (by rw [coupL_issued_ne hne])
        have c2 : coupL ((exB2 B d s).setD (exD2 B d s)) B.nextT = newL s := (turnB_coup_ne (B.issued s) 7 (exD1 B d s) hne.symm).trans (coupL_issued (h.ks.next h.ex.bk) m.vl)
        have hk0 := hi.kept
        have hl0 := hi.left
        have hp0 := hi.paid
        have hb0 := hi.back
        have hf0 := m.fare
        have hbn := hi.bnd
        have hbal := h.ei.non d hd hdst
        have hrr := doc_r h.ex.bk hd
        have hop := opL_nn hi
        have hopn : ((frL (coupL B d.t)).map (·.k.v)).sum ≤ opL (coupL B d.t) := by
          have := opL_turn (s := 7) (by decide) (coupL B d.t)
          have hnn : 0 ≤ opL ((coupL B d.t).map (turnO 7)) := by
            refine sum_nonneg _ fun x hx => ?_
            obtain ⟨o, ho, rfl⟩ := List.mem_map.1 hx
            have h5 := List.mem_map_of_mem (f := fun o : OwnV => o.k.v) (List.mem_filter.1 ho).1
            rw [turn_vals, hi.vals] at h5
            exact hi.nn _ h5
          omega
        unfold mD at hbal
        have hu : usedX s (giftV B d) ≤ s.fare ∧ usedX s (giftV B d) ≤ (giftV B d).g ∧ 0 ≤ usedX s (giftV B d) ∧ (usedX s (giftV B d) = s.fare ∨ usedX s (giftV B d) = (giftV B d).g) := by
          unfold usedX
          split <;> omega
        refine h.ei.exch h.nodup hd (d' := exD1 B d s) (n := exD2 B d s) rfl rfl hdst rfl ?_ rfl (nextT_fresh h.ex.bk) rfl rfl ?_ ?_ ?_ ?_ ?_
        · intro e
          have e : (⟨B.self, (B.docs.length : Int) + 1⟩ : Tid) = ⟨0, 0⟩ := e
          injection e with _ e
          omega
        · rw [c1]
          refine ⟨by rw [turn_vals]; exact hi.vals, turn_st (by decide) hi.st, hi.nn, hi.sum, hi.pen, hi.paid, hi.back, ?_, Int.le_refl _, by have := hi.leftc; show (0 : Int) ≤ d.credit; omega, hi.frm, hi.bnd⟩
          show 0 ≤ (addI d.kept (giftV B d).k).1
          rw [addI_val he2]; omega
        · show DocI (exD2 B d s) (coupL ((exB2 B d s).setD (exD2 B d s)) B.nextT)
          rw [c2]
          refine ⟨newL_vals s, m.st, m.nn, m.vs, m.pen, ?_, Int.le_refl _, Int.le_refl _, ?_, ?_, fun q => ?_, ?_⟩
          · show 0 ≤ s.fare - usedX s (giftV B d)
            omega
          · show 0 ≤ (giftV B d).g - usedX s (giftV B d)
            omega
          · show (giftV B d).g - usedX s (giftV B d) ≤ (giftV B d).g
            omega
          · have q : d.t = tid0 := q
            rw [q] at hrr
            exact absurd hrr.1 (by decide)
          · show s.fare - usedX s (giftV B d) + (giftV B d).g ≤ 1099511627776 * ((B.docs.length : Int) + 1)
            have : 1099511627776 * d.t.r ≤ 1099511627776 * (B.docs.length : Int) := by omega
            omega
        · rw [c1]
          unfold mD
          rw [opL_turn (by decide)]
          show d.paid - d.back - (addI d.kept (giftV B d).k).1 - 0 - _ = _ + (giftV B d).g
          rw [addI_val he2]; omega
        · show mD (exD2 B d s) (coupL ((exB2 B d s).setD (exD2 B d s)) B.nextT) = _
          rw [c2]
          unfold mD
          rw [m.op]
          show s.fare - usedX s (giftV B d) - 0 - 0 - ((giftV B d).g - usedX s (giftV B d)) - s.fare = -(giftV B d).g
          omega
        · intro t' q1 q2
          exact (turnB_coup_ne (B.issued s) 7 (exD1 B d s) q1).trans (coupL_issued_ne q2)
      · exact h
    · exact h
/-! ### a coupon handed on -/
def selL (a b c d : Option OwnV) : List OwnV :=
  match a with
  | none => []
  | some a => match b with
    | none => [a]
    | some b => match c with
      | none => [a, b]
      | some c => match d with
        | none => [a, b, c]
        | some d => [a, b, c, d]
def svO (o : OwnV) : Int × Int := (o.k.s, o.k.v)
theorem selL_stv {a b c d a' b' c' d' : Option OwnV} (h0 : a'.map svO = a.map svO) (h1 : b'.map svO = b.map svO) (h2 : c'.map svO = c.map svO) (h3 : d'.map svO = d.map svO) : stv (selL a' b' c' d') = stv (selL a b c d) := by
  cases a' <;> cases a <;> simp only [Option.map_none, Option.map_some, reduceCtorEq, Option.some.injEq] at h0
  · rfl
  cases b' <;> cases b <;> simp only [Option.map_none, Option.map_some, reduceCtorEq, Option.some.injEq] at h1
  · exact congrArg (fun x => [x]) h0
  cases c' <;> cases c <;> simp only [Option.map_none, Option.map_some, reduceCtorEq, Option.some.injEq] at h2
  · show [svO _, svO _] = [svO _, svO _]
    rw [h0, h1]
  cases d' <;> cases d <;> simp only [Option.map_none, Option.map_some, reduceCtorEq, Option.some.injEq] at h3
  · show [svO _, svO _, svO _] = [svO _, svO _, svO _]
    rw [h0, h1, h2]
  · show [svO _, svO _, svO _, svO _] = [svO _, svO _, svO _, svO _]
    rw [h0, h1, h2, h3]
theorem coupL_sel (B : BookV) (t : Tid) : coupL B t = selL (lkt B.owns ⟨t, 0⟩) (lkt B.owns ⟨t, 1⟩) (lkt B.owns ⟨t, 2⟩) (lkt B.owns ⟨t, 3⟩) := rfl
theorem coupL_setO {B : BookV} {k : Kid} {o o' : OwnV} (h : lkt B.owns k = some o) (e : svO o' = svO o) (t : Tid) : stv (coupL (B.setO k o') t) = stv (coupL B t) := by
  have key : ∀ i : Int, (lkt (B.setO k o').owns ⟨t, i⟩).map svO = (lkt B.owns ⟨t, i⟩).map svO := fun i => by
    rw [setO_some h]
    show (lkt (putt B.owns k o') ⟨t, i⟩).map svO = _
    rw [lkt_put]
    by_cases q : k = ⟨t, i⟩
    · rw [if_pos q, ← q, h]
      show some (svO o') = some (svO o)
      rw [e]
    · rw [if_neg q]
  rw [coupL_sel, coupL_sel]
  exact selL_stv (key 0) (key 1) (key 2) (key 3)
theorem setO_same (B : BookV) (k : Kid) (o : OwnV) : (B.setO k o).docs = B.docs ∧ (B.setO k o).self = B.self ∧ (B.setO k o).n = B.n ∧ (B.setO k o).helds = B.helds := by
  unfold BookV.setO; cases (lkt B.owns k).isSome <;> exact ⟨rfl, rfl, rfl, rfl⟩
theorem ExOk.setO {B : BookV} (h : ExOk B) {k : Kid} {o : OwnV} (ho : OwnOk o) : ExOk (B.setO k o) := by
  obtain ⟨e1, e2, e3, -⟩ := setO_same B k o
  refine ⟨⟨by rw [e2, e3]; exact h.bk.self, by rw [e3]; exact h.bk.n, by rw [e1, e2]; exact h.bk.docs, by rw [e1]; exact h.bk.many⟩, by rw [e1]; exact h.sal, by rw [e1]; exact h.sm, fun k' x hx => ?_⟩
  cases hl : lkt B.owns k with
  | none => rw [setO_none hl] at hx; exact h.own k' x hx
  | some y =>
    rw [setO_some hl] at hx
    have hx : lkt (putt B.owns k o) k' = some x := hx
    rw [lkt_put] at hx
    by_cases q : k = k'
    · rw [if_pos q] at hx; cases hx; exact ho
    · rw [if_neg q] at hx; exact h.own k' x hx
theorem EB.setO {B : BookV} (h : EB B) {k : Kid} {o o' : OwnV} (hl : lkt B.owns k = some o) (e : svO o' = svO o) : EB (B.setO k o') := by
  have ho := h.ex.own k o hl
  have ev : o'.k.v = o.k.v := (Prod.mk.inj e).2
  refine ⟨h.ex.setO (show OwnOk o' from by unfold OwnOk at ho ⊢; rw [ev]; exact ho), h.ks.setO k o', ?_⟩
  rw [(setO_same B k o').1]
  exact h.ei.stv fun t => coupL_setO hl e t
def wantM (k : Kid) : MsV := ⟨1, k, cpn0, 0, 0⟩
theorem hearWant {B : BookV} (c : Int) (k : Kid) : (hearQ B c (wantM k)).b = B ∨ ∃ o, lkt B.owns k = some o ∧ freeO o = true ∧ (hearQ B c (wantM k)).b = B.setO k (givenO o c) := by
  unfold hearQ
  cases badHear B c (wantM k).kind
  · show (hwantQ B c k).b = B ∨ ∃ o, lkt B.owns k = some o ∧ freeO o = true ∧ (hwantQ B c k).b = B.setO k (givenO o c)
    unfold hwantQ
    cases hl : lkt B.owns k with
    | none => exact .inl rfl
    | some o =>
      simp only [Option.isSome_some, Option.getD_some, Bool.not_true, cond_false]
      cases ha : o.away
      · cases decide (o.k.l.c = c)
        · exact .inl rfl
        · cases hs : decide (o.k.s = 1)
          · exact .inl rfl
          · cases decide (o.k.n = 4294967295)
            · exact .inr ⟨o, rfl, by unfold freeO; rw [ha, hs]; rfl, rfl⟩
            · exact .inl rfl
      · exact .inl rfl
  · exact .inl rfl
theorem EB.hear {B : BookV} (h : EB B) (c : Int) (k : Kid) : EB (hearQ B c (wantM k)).b := by
  rcases hearWant (B := B) c k with e | ⟨o, hl, -, e⟩
  · rw [e]; exact h
  · rw [e]; exact h.setO hl rfl
theorem new_eb (self n : Int) (h : 0 ≤ self ∧ self < n ∧ 2 ≤ n ∧ n ≤ 8) : EB (bookNew self n) := ⟨new_ex self n h, (fun k o e => by cases e), (fun d hd => by cases hd), (fun d hd => by cases hd), (fun d hd => by cases hd), rfl⟩
end Go.Proofs.YtlekbdpdlalhbaaGreat
