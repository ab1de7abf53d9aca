/- ALONE, LEAVES (plain): what an act of the agent leaves as it was; what is told. -/
import Derived.Test.YtlekbdpdlalhbaaGreatEbP3
import Derived.Test.YtlekbdpdlalhbaaGreatM4f78b84
namespace Go.Proofs.YtlekbdpdlalhbaaGreat
set_option maxRecDepth 100000
open Go.RowKit Go.Lib Go.Tk Go.Shelf Go.Vc Go.Sx
set_option linter.unusedVariables false
set_option linter.unusedSimpArgs false

def doX (B : BookV) (x : Act17) : XR := if x.d = 0 then exIssue B x.s else if x.d = 1 then exDisplay B x.t else if x.d = 2 then exVoid B x.t else if x.d = 3 then exRefund B x.t else exExchange B x.t x.s
def moreX (x : Act17) : Nat := if x.d < 1 ∨ 3 < x.d then 1 else 0
/-- the ways in which an act ends -/
inductive ActEnd (B : BookV) (x : Act17) : XR → Prop where
  | fail (e : Int) (h : e ≠ 0) : ActEnd B x (failX e B)
  | look (d : DocV) (hd : d ∈ B.docs) (h : x.d = 1) (ht : d.t = x.t) : ActEnd B x (toldX B d.t d.left)
  | made (h : x.d = 0) (hm : B.issE x.s = 0) : ActEnd B x (toldX (B.issued x.s) B.nextT (priceI x.s))
  | turn (d d' : DocV) (s a : Int) (hd : d ∈ B.docs) (ht : d.t = x.t) (ht' : d'.t = d.t) (hl : d'.left = d.left ∨ d'.left = 0) (h : x.d = 2 ∨ x.d = 3) (ha : mayI a = true) : ActEnd B x (toldX (turnB (B.setD d') d.t s) d.t a)
  | exch (d : DocV) (hd : d ∈ B.docs) (ht : d.t = x.t) (h : ¬ (x.d = 0 ∨ x.d = 1 ∨ x.d = 2 ∨ x.d = 3)) (hg : (giftV B d).e = 0) (hm : B.issE x.s = 0) : ActEnd B x (toldX ((exB2 B d x.s).setD (exD2 B d x.s)) B.nextT (priceI x.s - usedX x.s (giftV B d)))
theorem mayI_mk {x : Int} (h : -1125899906842624 ≤ x ∧ x ≤ 1125899906842624) : mayI x = true := by simp [mayI]; omega
theorem price_may (s : SaleV) : -1125899906842624 ≤ priceI s ∧ priceI s ≤ 1125899906842624 := sum_bound _ 0 (by decide) (by decide)
theorem noneB_gift {B : BookV} {d : DocV} : -1125899906842624 ≤ (giftV B d).g ∧ (giftV B d).g ≤ 1125899906842624 := sum_bound _ 0 (by decide) (by decide)
theorem doX_end (B : BookV) (x : Act17) : ActEnd B x (doX B x) := by
  unfold doX
  by_cases g0 : x.d = 0
  · rw [if_pos g0]
    unfold exIssue
    rcases Bool.eq_false_or_eq_true (decide (B.issE x.s = 0)) with e | e <;> rw [e]
    · exact .made g0 (of_decide_eq_true e)
    · exact .fail _ (of_decide_eq_false e)
  rw [if_neg g0]
  by_cases g1 : x.d = 1
  · rw [if_pos g1]
    unfold exDisplay
    cases hf : lkD B.docs x.t with
    | none => exact .fail 4 (by decide)
    | some d =>
      obtain ⟨hd, ht⟩ := lkD_mem hf
      show ActEnd B x (toldX B x.t d.left)
      rw [← ht]
      exact .look d hd g1 ht
  rw [if_neg g1]
  by_cases g2 : x.d = 2
  · rw [if_pos g2]
    unfold exVoid
    cases hf : lkD B.docs x.t with
    | none => exact .fail 4 (by decide)
    | some d =>
      obtain ⟨hd, ht⟩ := lkD_mem hf
      show ActEnd B x (exVoidD B x.t d)
      rw [← ht]
      unfold exVoidD
      rcases Bool.eq_false_or_eq_true (voidL (tid0B d.frm) (coupL B d.t)) with e1 | e1 <;> rw [e1]
      · rcases Bool.eq_false_or_eq_true (decide ((addI d.back d.paid).2 = 0)) with e2 | e2 <;> rw [e2]
        · have := price_may d.s
          exact .turn d (voidD d) 5 _ hd ht rfl (.inl rfl) (.inl g2) (mayI_mk (by omega))
        · exact .fail _ (of_decide_eq_false e2)
      · exact .fail 6 (by decide)
  rw [if_neg g2]
  by_cases g3 : x.d = 3
  · rw [if_pos g3]
    unfold exRefund
    cases hf : lkD B.docs x.t with
    | none => exact .fail 4 (by decide)
    | some d =>
      obtain ⟨hd, ht⟩ := lkD_mem hf
      show ActEnd B x (exRefundD B x.t d)
      rw [← ht]
      unfold exRefundD
      cases noneB B d
      · rcases Bool.eq_false_or_eq_true (decide (refE B d = 0)) with e2 | e2 <;> rw [e2]
        · have := noneB_gift (B := B) (d := d)
          exact .turn d (refD B d) 6 _ hd ht rfl (.inr rfl) (.inr g3) (mayI_mk (by omega))
        · exact .fail _ (of_decide_eq_false e2)
      · exact .fail 6 (by decide)
  rw [if_neg g3]
  unfold exExchange
  cases hf : lkD B.docs x.t with
  | none => exact .fail 4 (by decide)
  | some d =>
    obtain ⟨hd, ht⟩ := lkD_mem hf
    show ActEnd B x (exExchangeD B d x.s)
    unfold exExchangeD
    rcases Bool.eq_false_or_eq_true (noneB B d || !tid0B d.dst) with e1 | e1 <;> rw [e1]
    · exact .fail 6 (by decide)
    rcases Bool.eq_false_or_eq_true (decide (exE B d = 0)) with e2 | e2 <;> rw [e2]
    · rcases Bool.eq_false_or_eq_true (decide (B.issE x.s = 0)) with e3 | e3 <;> rw [e3]
      · exact .exch d hd ht (by omega) (first2_0 (of_decide_eq_true e2)).1 (of_decide_eq_true e3)
      · exact .fail _ (of_decide_eq_false e3)
    · exact .fail _ (of_decide_eq_false e2)
/-! ### coupons -/
theorem turn1_helds (B : BookV) (k : Kid) (o : OwnV) (s : Int) : (turn1 B k o s).helds = B.helds := by
  unfold turn1
  cases freeO o
  · rfl
  · exact (setO_same B k _).2.2.2
theorem turnL_helds (s : Int) (t : Tid) : ∀ (l : List OwnV) (B : BookV) (i : Int), (turnL s t B i l).helds = B.helds
  | [], _, _ => rfl
  | o :: l, B, i => by
    show (turnL s t (turn1 B ⟨t, i⟩ o s) (i + 1) l).helds = _
    rw [turnL_helds s t l, turn1_helds]
theorem turnB_helds (B : BookV) (t : Tid) (s : Int) : (turnB B t s).helds = B.helds := turnL_helds s t _ B 0
theorem turnB_lk (B : BookV) (t : Tid) (s : Int) (k : Kid) : lkt (turnB B t s).owns k = lkt B.owns k ∨ ∃ o, lkt B.owns k = some o ∧ lkt (turnB B t s).owns k = some (turnO s o) := by
  by_cases h : ∃ i : Nat, i < (coupL B t).length ∧ k = ⟨t, (i : Int)⟩
  · obtain ⟨i, hi, rfl⟩ := h
    exact .inr ⟨_, coupL_get hi, turnB_at hi⟩
  · exact .inl (turnB_other fun i hi e => h ⟨i, hi, e⟩)
theorem turnB_ne (B : BookV) {t : Tid} (s : Int) {k : Kid} (h : k.t ≠ t) : lkt (turnB B t s).owns k = lkt B.owns k := turnB_other fun i hi e => h (by rw [e])
theorem issued_ne (B : BookV) (s : SaleV) {k : Kid} (h : k.t ≠ B.nextT) : lkt (B.issued s).owns k = lkt B.owns k := by
  show lkt (issO B.nextT s (shareV s.fare (wsOf s)) B.owns (shareV s.fare (wsOf s)).length) _ = _
  rcases issO_lk B.nextT s (shareV s.fare (wsOf s)) B.owns k (shareV s.fare (wsOf s)).length with ⟨j, hj, e, -⟩ | ⟨-, h'⟩
  · exact absurd (by rw [e]) h
  · exact h'
theorem turnO_not {s : Int} {o : OwnV} (h : freeO o = false) : turnO s o = o := by unfold turnO; rw [h]; rfl
/-- what an act does to the coupons of a ticket that is there -/
theorem doX_own {B : BookV} (hb : BookOk B) (x : Act17) {k : Kid} (hk : ∃ d ∈ B.docs, d.t = k.t) : (lkt B.owns k = none ∧ lkt (doX B x).b.owns k = none) ∨ ∃ o o', lkt B.owns k = some o ∧ lkt (doX B x).b.owns k = some o' ∧ (freeO o = false → o' = o) := by
  obtain ⟨dk, hdk, hkt⟩ := hk
  have hne : k.t ≠ B.nextT := hkt ▸ nextT_fresh hb dk hdk
  have same : ∀ {C : BookV}, lkt C.owns k = lkt B.owns k → (lkt B.owns k = none ∧ lkt C.owns k = none) ∨ ∃ o o', lkt B.owns k = some o ∧ lkt C.owns k = some o' ∧ (freeO o = false → o' = o) := fun {C} e => by
    rw [e]
    cases lkt B.owns k with
    | none => exact .inl ⟨rfl, rfl⟩
    | some o => exact .inr ⟨o, o, rfl, rfl, fun _ => rfl⟩
  have turned : ∀ {A C : BookV} {t : Tid} {s : Int}, lkt A.owns k = lkt B.owns k → lkt C.owns k = lkt (turnB A t s).owns k → (lkt B.owns k = none ∧ lkt C.owns k = none) ∨ ∃ o o', lkt B.owns k = some o ∧ lkt C.owns k = some o' ∧ (freeO o = false → o' = o) := fun {A C t s} e1 e2 => by
    rcases turnB_lk A t s k with h | ⟨o, h1, h2⟩
    · exact same (e2.trans (h.trans e1))
    · exact .inr ⟨o, turnO s o, e1 ▸ h1, e2.trans h2, turnO_not⟩
  have q := doX_end B x
  generalize doX B x = r at q ⊢
  cases q with
  | fail e h => exact same rfl
  | look d hd h ht => exact same rfl
  | made h hm => exact same (issued_ne B x.s hne)
  | turn d d' s a hd ht ht' hl h ha => exact turned (A := B.setD d') rfl rfl
  | exch d hd ht h hg hm => exact turned (A := (B.issued x.s).setD (exD1 B d x.s)) (t := d.t) (s := 7) (issued_ne B x.s hne) rfl
theorem doX_helds (B : BookV) (x : Act17) : (doX B x).b.helds = B.helds := by
  have q := doX_end B x
  generalize doX B x = r at q ⊢
  cases q with
  | fail e h => rfl
  | look d hd h ht => rfl
  | made h hm => rfl
  | turn d d' s a hd ht ht' hl h ha => exact turnB_helds _ _ _
  | exch d hd ht h hg hm => exact turnB_helds _ _ _
theorem putD_get (ds : List DocV) (d : DocV) (k : Nat) : (putD ds d)[k]? = (ds[k]?).map fun x => if x.t = d.t then d else x := List.getElem?_map
theorem putD_length (ds : List DocV) (d : DocV) : (putD ds d).length = ds.length := List.length_map _
theorem doX_docs {B : BookV} (hb : BookOk B) (x : Act17) {k : Nat} {d : DocV} (hk : B.docs[k]? = some d) :
    ∃ d', (doX B x).b.docs[k]? = some d' ∧ d'.t = d.t ∧ ((d.t ≠ x.t ∨ x.d = 0) → d' = d ∧ ∀ i : Int, lkt (doX B x).b.owns ⟨d.t, i⟩ = lkt B.owns ⟨d.t, i⟩) := by
  have hd0 := List.mem_of_getElem? hk
  have hne : d.t ≠ B.nextT := nextT_fresh hb d hd0
  have hlt : k < B.docs.length := by
    rcases Nat.lt_or_ge k B.docs.length with h | h
    · exact h
    · rw [List.getElem?_eq_none h] at hk; cases hk
  have q := doX_end B x
  generalize doX B x = r at q ⊢
  cases q with
  | fail e h => exact ⟨d, hk, rfl, fun _ => ⟨rfl, fun _ => rfl⟩⟩
  | look y hd h ht => exact ⟨d, hk, rfl, fun _ => ⟨rfl, fun _ => rfl⟩⟩
  | made h hm =>
    refine ⟨d, ?_, rfl, fun _ => ⟨rfl, fun i => issued_ne B x.s hne⟩⟩
    show (B.docs ++ [docMade B.nextT x.s])[k]? = _
    rw [List.getElem?_append_left hlt, hk]
  | turn y d' s a hd ht ht' hl h ha =>
    refine ⟨if d.t = d'.t then d' else d, ?_, ?_, fun hq => ?_⟩
    · show (turnB (B.setD d') y.t s).docs[k]? = _
      rw [turnB_docsD, putD_get, hk]; rfl
    · split
      · rename_i e; exact e.symm
      · rfl
    · have hdy : d.t ≠ y.t := by rw [ht]; exact hq.elim id (fun e => by omega)
      exact ⟨by rw [if_neg (by rw [ht']; exact hdy)], fun i => (turnB_ne (B.setD d') s hdy).trans rfl⟩
  | exch y hd ht h hg hm =>
    refine ⟨if d.t = (exD1 B y x.s).t then exD1 B y x.s else d, ?_, ?_, fun hq => ?_⟩
    · show ((exB2 B y x.s).setD (exD2 B y x.s)).docs[k]? = _
      rw [ex_docs hb hd, List.getElem?_append_left (by rw [putD_length]; exact hlt), putD_get, hk]; rfl
    · split
      · rename_i e; exact e.symm
      · rfl
    · have hdy : d.t ≠ y.t := by rw [ht]; exact hq.elim id (fun e => absurd (.inl e) h)
      exact ⟨by rw [if_neg (show d.t ≠ (exD1 B y x.s).t from hdy)], fun i => (turnB_ne ((B.issued x.s).setD (exD1 B y x.s)) 7 hdy).trans (issued_ne B x.s hne)⟩
theorem doX_len {B : BookV} (hb : BookOk B) (x : Act17) : (doX B x).b.docs.length = B.docs.length + (bif decide ((doX B x).e = 0) then moreX x else 0) := by
  unfold moreX
  have q := doX_end B x
  generalize doX B x = r at q ⊢
  cases q with
  | fail e h =>
    show B.docs.length = _ + (bif decide (e = 0) then _ else 0)
    rw [decide_eq_false h]; rfl
  | look y hd h ht =>
    show B.docs.length = _ + (if _ then 1 else 0)
    rw [if_neg (by omega)]; rfl
  | made h hm =>
    show (B.docs ++ [docMade B.nextT x.s]).length = _ + (if _ then 1 else 0)
    rw [if_pos (by omega), List.length_append]; rfl
  | turn y d' s a hd ht ht' hl h ha =>
    show (turnB (B.setD d') y.t s).docs.length = _ + (if _ then 1 else 0)
    rw [turnB_docsD, putD_length, if_neg (by omega)]; rfl
  | exch y hd ht h hg hm =>
    show ((exB2 B y x.s).setD (exD2 B y x.s)).docs.length = _ + (if _ then 1 else 0)
    rw [ex_docs hb hd, if_pos (by omega), List.length_append, putD_length]; rfl
theorem doX_fail {B : BookV} {x : Act17} (h : (doX B x).e ≠ 0) : doX B x = failX (doX B x).e B := by
  have q := doX_end B x
  generalize doX B x = r at q h ⊢
  cases q with
  | fail e' h' => rfl
  | look => exact absurd rfl h
  | made => exact absurd rfl h
  | turn => exact absurd rfl h
  | exch => exact absurd rfl h
/-! ### what an agent is told -/
structure EL (B : BookV) : Prop where
  ex : ExOk B
  ks : KeysIn B
  lf : ∀ d ∈ B.docs, 0 ≤ d.left ∧ d.left ≤ 1125899906842624
  ne : ∀ d ∈ B.docs, coupL B d.t ≠ []
theorem newL_ne {B : BookV} {s : SaleV} (ok : SaleOk s) (hm : B.issE s = 0) : newL s ≠ [] := by
  obtain ⟨-, -, hsh, -⟩ := check_shape (issE_check hm)
  obtain ⟨hS, ha, l1, l4, f0, f1⟩ := shape_share ok hsh
  intro e
  have := newL_len s
  rw [e, shareV_len hS, ws_len] at this
  simp at this
  omega
theorem map_ne {L : List OwnV} (s : Int) (h : L ≠ []) : L.map (turnO s) ≠ [] := fun e => h (List.map_eq_nil_iff.1 e)
theorem giveV_nn (v p : Int) : 0 ≤ giveV v p := by unfold giveV; split <;> omega
theorem gift_nn {B : BookV} {d : DocV} (hl : 0 ≤ d.left) (h : (giftV B d).e = 0) : 0 ≤ (giftV B d).g := by
  show 0 ≤ (sumFrom 0 (giveL B d)).1
  rw [sumFrom_val _ _ (first2_0 h).1, Int.zero_add]
  refine sum_nonneg _ fun x hx => ?_
  unfold giveL at hx
  rcases List.mem_cons.1 hx with rfl | hx
  · exact hl
  · obtain ⟨o, -, rfl⟩ := List.mem_map.1 hx
    exact giveV_nn _ _
theorem price_ge {B : BookV} {s : SaleV} (ok : SaleOk s) (hm : B.issE s = 0) : 0 ≤ s.fare ∧ s.fare ≤ priceI s := by
  obtain ⟨-, -, hsh, hp⟩ := check_shape (issE_check hm)
  obtain ⟨hS, ha, l1, l4, f0, f1⟩ := shape_share ok hsh
  refine ⟨f0, ?_⟩
  unfold priceI
  rw [sumFrom_val _ _ hp, Int.zero_add]
  unfold priceL
  rw [List.sum_cons]
  have : 0 ≤ (s.taxes.map (·.amt)).sum := by
    refine sum_nonneg _ fun x hx => ?_
    obtain ⟨t, ht, rfl⟩ := List.mem_map.1 hx
    simp only [shapeB, Bool.and_eq_true] at hsh
    have h5 := hsh.2
    simp only [must5, Bool.not_eq_true', List.any_eq_false] at h5
    have h6 : taxBad t = false := by simpa using h5 t ht
    unfold taxBad at h6
    rw [Bool.or_eq_false_iff] at h6
    have h7 := h6.2
    rw [Bool.not_eq_false'] at h7
    simp only [amtB, Bool.and_eq_true, decide_eq_true_eq] at h7
    exact h7.1
  omega
theorem used_bd {s : SaleV} {x : GiftV} (h1 : 0 ≤ x.g) (h2 : 0 ≤ s.fare) : 0 ≤ usedX s x ∧ usedX s x ≤ s.fare ∧ usedX s x ≤ x.g := by unfold usedX; split <;> omega
theorem EL.issued {B : BookV} (h : EL B) {s : SaleV} (ok : SaleOk s) (hm : B.issE s = 0) : EL (B.issued s) := by
  have m := made_i ok hm
  refine ⟨h.ex.issued ok hm, h.ks.issued s, fun d hd => ?_, fun d hd => ?_⟩
  · rcases List.mem_append.1 (show d ∈ B.docs ++ [docMade B.nextT s] from hd) with hd | hd
    · exact h.lf d hd
    · rw [List.mem_singleton.1 hd]; exact ⟨Int.le_refl _, by show (0 : Int) ≤ _; decide⟩
  · rcases List.mem_append.1 (show d ∈ B.docs ++ [docMade B.nextT s] from hd) with hd | hd
    · rw [coupL_issued_ne (nextT_fresh h.ex.bk d hd)]; exact h.ne d hd
    · rw [List.mem_singleton.1 hd]
      show coupL (B.issued s) B.nextT ≠ []
      rw [coupL_issued (h.ks.next h.ex.bk) m.vl]; exact newL_ne ok hm
theorem doX_ok {B : BookV} (h : ExOk B) {x : Act17} (ok : SaleOk x.s) : ExOk (doX B x).b := by
  unfold doX
  by_cases g0 : x.d = 0
  · rw [if_pos g0]; exact exIssue_ok h ok
  rw [if_neg g0]
  by_cases g1 : x.d = 1
  · rw [if_pos g1]; exact exDisplay_ok h x.t
  rw [if_neg g1]
  by_cases g2 : x.d = 2
  · rw [if_pos g2]; exact exVoid_ok h x.t
  rw [if_neg g2]
  by_cases g3 : x.d = 3
  · rw [if_pos g3]; exact exRefund_ok h x.t
  rw [if_neg g3]; exact exExchange_ok h x.t ok
theorem doX_eb {B : BookV} (h : EB B) {x : Act17} (ok : SaleOk x.s) (hf : x.s.fare < 1099511627776) : EB (doX B x).b := by
  unfold doX
  by_cases g0 : x.d = 0
  · rw [if_pos g0]; exact exIssue_b h ok hf
  rw [if_neg g0]
  by_cases g1 : x.d = 1
  · rw [if_pos g1]; exact exDisplay_b h x.t
  rw [if_neg g1]
  by_cases g2 : x.d = 2
  · rw [if_pos g2]; exact exVoid_b h x.t
  rw [if_neg g2]
  by_cases g3 : x.d = 3
  · rw [if_pos g3]; exact exRefund_b h x.t
  rw [if_neg g3]; exact exExchange_b h x.t ok hf
/-- what is told of an act that was done -/
structure Told (q : XR) : Prop where
  st : q.st = statusL q.b q.t
  ne : q.st ≠ []
  amt : mayI q.amt = true
  t : TidOk q.t
theorem status_ne {B : BookV} {t : Tid} (h : coupL B t ≠ []) : statusL B t ≠ [] := fun e => h (List.map_eq_nil_iff.1 e)
theorem doX_el {B : BookV} (h : EL B) {x : Act17} (ok : SaleOk x.s) (hto : TidOk x.t) : EL (doX B x).b ∧ ((doX B x).e = 0 → Told (doX B x)) := by
  have hx := doX_ok h.ex ok
  have q := doX_end B x
  generalize doX B x = r at q hx ⊢
  cases q with
  | fail e h' => exact ⟨h, fun e0 => absurd e0 h'⟩
  | look d hd h' ht => exact ⟨h, fun _ => ⟨rfl, status_ne (h.ne d hd), mayI_mk (by have := h.lf d hd; show _ ≤ d.left ∧ d.left ≤ _; omega), ht ▸ hto⟩⟩
  | made h' hm =>
    have he := h.issued ok hm
    exact ⟨he, fun _ => ⟨rfl, status_ne (he.ne (docMade B.nextT x.s) (List.mem_append_right _ (List.mem_singleton.2 rfl))), mayI_mk (price_may _), nextT_ok h.ex.bk⟩⟩
  | turn d d' s a hd ht ht' hl h' ha =>
    have hc := turnB_coup B d.t s d'
    have hne : coupL (turnB (B.setD d') d.t s) d.t ≠ [] := by rw [hc]; exact map_ne s (h.ne d hd)
    refine ⟨⟨hx, (h.ks.setD d').turnB d.t s, fun y hy => ?_, fun y hy => ?_⟩, fun _ => ⟨rfl, status_ne hne, ha, ht ▸ hto⟩⟩
    · rw [show (toldX (turnB (B.setD d') d.t s) d.t a).b.docs = putD B.docs d' from turnB_docsD B d.t s d'] at hy
      rcases putD_mem hy with rfl | ⟨hy, -⟩
      · have := h.lf d hd
        rcases hl with e | e <;> rw [e] <;> omega
      · exact h.lf y hy
    · rw [show (toldX (turnB (B.setD d') d.t s) d.t a).b.docs = putD B.docs d' from turnB_docsD B d.t s d'] at hy
      show coupL (turnB (B.setD d') d.t s) y.t ≠ []
      rcases putD_mem hy with rfl | ⟨hy, q⟩
      · rw [ht']; exact hne
      · rw [turnB_coup_ne B s d' (by rw [← ht']; exact q)]; exact h.ne y hy
  | exch d hd ht h' hg hm =>
    have m := made_i ok hm
    have hnd : d.t ≠ B.nextT := nextT_fresh h.ex.bk d hd
    have c1 : coupL ((exB2 B d x.s).setD (exD2 B d x.s)) d.t = (coupL B d.t).map (turnO 7) := (turnB_coup (B.issued x.s) d.t 7 (exD1 B d x.s)).trans (by rw [coupL_issued_ne hnd])
    have c2 : coupL ((exB2 B d x.s).setD (exD2 B d x.s)) B.nextT = newL x.s := (turnB_coup_ne (B.issued x.s) 7 (exD1 B d x.s) hnd.symm).trans (coupL_issued (h.ks.next h.ex.bk) m.vl)
    have hp := price_ge ok hm
    have hp2 := price_may x.s
    have hg0 := gift_nn (h.lf d hd).1 hg
    have hgb := noneB_gift (B := B) (d := d)
    have hu := used_bd (s := x.s) (x := giftV B d) hg0 hp.1
    have hdocs : (toldX ((exB2 B d x.s).setD (exD2 B d x.s)) B.nextT (priceI x.s - usedX x.s (giftV B d))).b.docs = putD B.docs (exD1 B d x.s) ++ [exD2 B d x.s] := ex_docs h.ex.bk hd x.s
    refine ⟨⟨hx, ((h.ks.issued x.s).setD _ |>.turnB d.t 7).setD _, fun y hy => ?_, fun y hy => ?_⟩, fun _ => ⟨rfl, status_ne (by show coupL ((exB2 B d x.s).setD (exD2 B d x.s)) B.nextT ≠ []; rw [c2]; exact newL_ne ok hm), mayI_mk (by show _ ≤ priceI x.s - usedX x.s (giftV B d) ∧ priceI x.s - usedX x.s (giftV B d) ≤ _; omega), nextT_ok h.ex.bk⟩⟩
    · rw [hdocs] at hy
      rcases List.mem_append.1 hy with hy | hy
      · rcases putD_mem hy with rfl | ⟨hy, -⟩
        · exact ⟨Int.le_refl _, by show (0 : Int) ≤ _; decide⟩
        · exact h.lf y hy
      · rw [List.mem_singleton.1 hy]
        show 0 ≤ (giftV B d).g - usedX x.s (giftV B d) ∧ (giftV B d).g - usedX x.s (giftV B d) ≤ _
        omega
    · rw [hdocs] at hy
      show coupL ((exB2 B d x.s).setD (exD2 B d x.s)) y.t ≠ []
      rcases List.mem_append.1 hy with hy | hy
      · rcases putD_mem hy with rfl | ⟨hy, q⟩
        · rw [show (exD1 B d x.s).t = d.t from rfl, c1]; exact map_ne 7 (h.ne d hd)
        · have q : y.t ≠ d.t := q
          rw [show coupL ((exB2 B d x.s).setD (exD2 B d x.s)) y.t = coupL B y.t from (turnB_coup_ne (B.issued x.s) 7 (exD1 B d x.s) q).trans (coupL_issued_ne (nextT_fresh h.ex.bk y hy))]
          exact h.ne y hy
      · rw [List.mem_singleton.1 hy]
        show coupL ((exB2 B d x.s).setD (exD2 B d x.s)) B.nextT ≠ []
        rw [c2]; exact newL_ne ok hm
theorem EL.hear {B : BookV} (h : EL B) (c : Int) (k : Kid) : EL (hearQ B c (wantM k)).b := by
  rcases hearWant (B := B) c k with e | ⟨o, hl, -, e⟩
  · rw [e]; exact h
  · rw [e]
    have ho := h.ex.own k o hl
    refine ⟨h.ex.setO (show OwnOk (givenO o c) from ho), h.ks.setO k _, by rw [(setO_same B k _).1]; exact h.lf, fun d hd => ?_⟩
    rw [(setO_same B k _).1] at hd
    have := coupL_setO (o' := givenO o c) hl rfl d.t
    intro e0
    rw [e0] at this
    exact h.ne d hd (List.map_eq_nil_iff.1 this.symm)
theorem new_el (self n : Int) (h : 0 ≤ self ∧ self < n ∧ 2 ≤ n ∧ n ≤ 8) : EL (bookNew self n) := ⟨new_ex self n h, (fun k o e => by cases e), (fun d hd => by cases hd), (fun d hd => by cases hd)⟩
end Go.Proofs.YtlekbdpdlalhbaaGreat
