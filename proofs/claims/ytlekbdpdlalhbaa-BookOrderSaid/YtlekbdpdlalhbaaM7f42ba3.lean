/- EbP1, EbP2. -/
import Derived.Test.YtlekbdpdlalhbaaM18b6b0c
section
namespace Go.Proofs.Ytlekbdpdlalhbaa
set_option maxRecDepth 100000
open Go.RowKit Go.Lib Go.Tk Go.Shelf Go.Vc Go.Sx
set_option linter.unusedVariables false
set_option linter.unusedSimpArgs false

theorem coupL_get {B : BookV} {t : Tid} {i : Nat} (h : i < (coupL B t).length) : lkt B.owns ⟨t, (i : Int)⟩ = some ((coupL B t).getD i own0) := by
  rcases coupL_cases B t with ⟨e, h0⟩ | ⟨a, e, h0, h1⟩ | ⟨a, b, e, h0, h1, h2⟩ | ⟨a, b, c, e, h0, h1, h2, h3⟩ | ⟨a, b, c, d, e, h0, h1, h2, h3⟩ <;> rw [e] at h ⊢ <;> simp only [List.length_cons, List.length_nil] at h
  · omega
  · obtain rfl : i = 0 := by omega
    exact h0
  · rcases (show i = 0 ∨ i = 1 by omega) with rfl | rfl
    · exact h0
    · exact h1
  · rcases (show i = 0 ∨ i = 1 ∨ i = 2 by omega) with rfl | rfl | rfl
    · exact h0
    · exact h1
    · exact h2
  · rcases (show i = 0 ∨ i = 1 ∨ i = 2 ∨ i = 3 by omega) with rfl | rfl | rfl | rfl
    · exact h0
    · exact h1
    · exact h2
    · exact h3
theorem coupL_end (B : BookV) (t : Tid) : (coupL B t).length = 4 ∨ lkt B.owns ⟨t, ((coupL B t).length : Int)⟩ = none := by
  rcases coupL_cases B t with ⟨e, h0⟩ | ⟨a, e, h0, h1⟩ | ⟨a, b, e, h0, h1, h2⟩ | ⟨a, b, c, e, h0, h1, h2, h3⟩ | ⟨a, b, c, d, e, h0, h1, h2, h3⟩ <;> rw [e]
  · exact .inr h0
  · exact .inr h1
  · exact .inr h2
  · exact .inr h3
  · exact .inl rfl
theorem coupL_of {B : BookV} {t : Tid} {L : List OwnV} (hl : L.length ≤ 4) (h : ∀ i, i < L.length → lkt B.owns ⟨t, (i : Int)⟩ = some (L.getD i own0)) (he : L.length = 4 ∨ lkt B.owns ⟨t, (L.length : Int)⟩ = none) : coupL B t = L := by
  match L, hl, h, he with
  | [], _, h, he =>
    have h0 : lkt B.owns ⟨t, 0⟩ = none := he.elim (fun e => by cases e) id
    unfold coupL; rw [h0]
  | [a], _, h, he =>
    have h0 : lkt B.owns ⟨t, 0⟩ = some a := h 0 (by simp)
    have h1 : lkt B.owns ⟨t, 1⟩ = none := he.elim (fun e => by cases e) id
    unfold coupL; rw [h0, h1]
  | [a, b], _, h, he =>
    have h0 : lkt B.owns ⟨t, 0⟩ = some a := h 0 (by simp)
    have h1 : lkt B.owns ⟨t, 1⟩ = some b := h 1 (by simp)
    have h2 : lkt B.owns ⟨t, 2⟩ = none := he.elim (fun e => by cases e) id
    unfold coupL; rw [h0, h1, h2]
  | [a, b, c], _, h, he =>
    have h0 : lkt B.owns ⟨t, 0⟩ = some a := h 0 (by simp)
    have h1 : lkt B.owns ⟨t, 1⟩ = some b := h 1 (by simp)
    have h2 : lkt B.owns ⟨t, 2⟩ = some c := h 2 (by simp)
    have h3 : lkt B.owns ⟨t, 3⟩ = none := he.elim (fun e => by cases e) id
    unfold coupL; rw [h0, h1, h2, h3]
  | [a, b, c, d], _, h, he =>
    have h0 : lkt B.owns ⟨t, 0⟩ = some a := h 0 (by simp)
    have h1 : lkt B.owns ⟨t, 1⟩ = some b := h 1 (by simp)
    have h2 : lkt B.owns ⟨t, 2⟩ = some c := h 2 (by simp)
    have h3 : lkt B.owns ⟨t, 3⟩ = some d := h 3 (by simp)
    unfold coupL; rw [h0, h1, h2, h3]
  | a :: b :: c :: d :: e :: l, hl, _, _ => simp at hl
/-- books that tell the same of a ticket's coupons -/
theorem coupL_same {B C : BookV} {t : Tid} (h : ∀ i : Int, lkt C.owns ⟨t, i⟩ = lkt B.owns ⟨t, i⟩) : coupL C t = coupL B t := by
  unfold coupL; rw [h 0, h 1, h 2, h 3]
def turnO (s : Int) (o : OwnV) : OwnV := bif freeO o then asO o s else o
theorem turn1_at {B : BookV} {k : Kid} {o : OwnV} {s : Int} (h : lkt B.owns k = some o) : lkt (turn1 B k o s).owns k = some (turnO s o) := by
  unfold turn1 turnO
  cases freeO o
  · exact h
  · show lkt (B.setO k (asO o s)).owns k = _
    rw [setO_some h]
    show lkt (putt B.owns k _) k = _
    rw [lkt_put, if_pos rfl]; rfl
theorem turnL_other {s : Int} {t : Tid} {k : Kid} : ∀ (l : List OwnV) (B : BookV) (i : Int), (∀ j : Nat, j < l.length → k ≠ ⟨t, i + (j : Int)⟩) → lkt (turnL s t B i l).owns k = lkt B.owns k
  | [], _, _, _ => rfl
  | o :: l, B, i, h => by
    show lkt (turnL s t (turn1 B ⟨t, i⟩ o s) (i + 1) l).owns k = _
    rw [turnL_other l _ (i + 1) (fun j hj => by
      have := h (j + 1) (by simp only [List.length_cons]; omega)
      rwa [show i + 1 + (j : Int) = i + ((j + 1 : Nat) : Int) by omega])]
    exact lkt_turn1 (fun e => h 0 (by simp) (by rw [← e]; simp))
theorem turnL_at {s : Int} {t : Tid} : ∀ (l : List OwnV) (B : BookV) (i : Int), (∀ j : Nat, j < l.length → lkt B.owns ⟨t, i + (j : Int)⟩ = some (l.getD j own0)) → ∀ j : Nat, j < l.length → lkt (turnL s t B i l).owns ⟨t, i + (j : Int)⟩ = some (turnO s (l.getD j own0))
  | [], _, _, _, j, hj => absurd hj (Nat.not_lt_zero _)
  | o :: l, B, i, h, j, hj => by
    have h0 : lkt B.owns ⟨t, i⟩ = some o := by have := h 0 (by simp); simpa using this
    have hne : ∀ j : Nat, (⟨t, i⟩ : Kid) ≠ ⟨t, i + 1 + (j : Int)⟩ := fun j e => by injection e with _ e; omega
    show lkt (turnL s t (turn1 B ⟨t, i⟩ o s) (i + 1) l).owns _ = _
    cases j with
    | zero =>
      have := turnL_other (s := s) (t := t) (k := ⟨t, i⟩) l (turn1 B ⟨t, i⟩ o s) (i + 1) (fun j _ => hne j)
      rw [turn1_at h0] at this
      simpa using this
    | succ j =>
      have := turnL_at (s := s) (t := t) l (turn1 B ⟨t, i⟩ o s) (i + 1) (fun j hj => by
        rw [lkt_turn1 (hne j)]
        have := h (j + 1) (by simp only [List.length_cons]; omega)
        rw [show i + 1 + (j : Int) = i + ((j + 1 : Nat) : Int) by omega]
        simpa using this) j (by simpa using hj)
      rw [show i + ((j + 1 : Nat) : Int) = i + 1 + (j : Int) by omega]
      simpa using this
theorem turnB_at {B : BookV} {t : Tid} {s : Int} {i : Nat} (h : i < (coupL B t).length) : lkt (turnB B t s).owns ⟨t, (i : Int)⟩ = some (turnO s ((coupL B t).getD i own0)) := by
  have := turnL_at (s := s) (t := t) (coupL B t) B 0 (fun j hj => by rw [Int.zero_add]; exact coupL_get hj) i h
  rwa [Int.zero_add] at this
theorem turnB_other {B : BookV} {t : Tid} {s : Int} {k : Kid} (h : ∀ i : Nat, i < (coupL B t).length → k ≠ ⟨t, (i : Int)⟩) : lkt (turnB B t s).owns k = lkt B.owns k :=
  turnL_other (coupL B t) B 0 fun j hj => by rw [Int.zero_add]; exact h j hj
theorem coupL_turn (B : BookV) (t : Tid) (s : Int) : coupL (turnB B t s) t = (coupL B t).map (turnO s) := by
  refine coupL_of (by rw [List.length_map]; exact coupL_len B t) (fun i hi => ?_) ?_
  · rw [List.length_map] at hi
    rw [turnB_at hi]
    congr 1
    rw [List.getD_eq_getElem?_getD, List.getD_eq_getElem?_getD, List.getElem?_map, List.getElem?_eq_getElem hi]; rfl
  · rw [List.length_map]
    rcases coupL_end B t with h | h
    · exact .inl h
    · refine .inr ?_
      rw [turnB_other (fun i hi e => by injection e with _ e; omega)]; exact h
theorem coupL_turn_ne (B : BookV) {t t' : Tid} (s : Int) (h : t' ≠ t) : coupL (turnB B t s) t' = coupL B t' :=
  coupL_same fun i => turnB_other fun j _ e => h (by injection e)
/-! ### a new ticket -/
def newL (s : SaleV) : List OwnV := (List.range (shareV s.fare (wsOf s)).length).map fun i => ownNew (s.legs.getD i leg0) ((shareV s.fare (wsOf s)).getD i 0)
theorem newL_len (s : SaleV) : (newL s).length = (shareV s.fare (wsOf s)).length := by unfold newL; simp
theorem newL_get {s : SaleV} {i : Nat} (h : i < (shareV s.fare (wsOf s)).length) : (newL s).getD i own0 = ownNew (s.legs.getD i leg0) ((shareV s.fare (wsOf s)).getD i 0) := by
  unfold newL
  rw [List.getD_eq_getElem?_getD, List.getElem?_map, List.getElem?_range h]; rfl
theorem newL_vals (s : SaleV) : (newL s).map (·.k.v) = shareV s.fare (wsOf s) := by
  refine List.ext_getElem? fun i => ?_
  by_cases h : i < (shareV s.fare (wsOf s)).length
  · unfold newL
    rw [List.map_map, List.getElem?_map, List.getElem?_range h]
    show some ((shareV s.fare (wsOf s)).getD i 0) = _
    rw [List.getD_eq_getElem?_getD, List.getElem?_eq_getElem h]; rfl
  · rw [List.getElem?_eq_none (by rw [List.length_map, newL_len]; omega), List.getElem?_eq_none (by omega)]
theorem coupL_issued {B : BookV} {s : SaleV} (hn : ∀ i : Int, lkt B.owns ⟨B.nextT, i⟩ = none) (hl : (shareV s.fare (wsOf s)).length ≤ 4) : coupL (B.issued s) B.nextT = newL s := by
  refine coupL_of (by rw [newL_len]; exact hl) (fun i hi => ?_) ?_
  · rw [newL_len] at hi
    show lkt (issO B.nextT s (shareV s.fare (wsOf s)) B.owns (shareV s.fare (wsOf s)).length) _ = _
    rcases issO_lk B.nextT s (shareV s.fare (wsOf s)) B.owns ⟨B.nextT, (i : Int)⟩ (shareV s.fare (wsOf s)).length with ⟨j, hj, e, h⟩ | ⟨h, -⟩
    · injection e with _ e
      have e : i = j := by omega
      subst e
      rw [h, newL_get hi]
    · exact absurd rfl (h i hi)
  · refine .inr ?_
    rw [newL_len]
    show lkt (issO B.nextT s (shareV s.fare (wsOf s)) B.owns (shareV s.fare (wsOf s)).length) _ = _
    rcases issO_lk B.nextT s (shareV s.fare (wsOf s)) B.owns ⟨B.nextT, ((shareV s.fare (wsOf s)).length : Int)⟩ (shareV s.fare (wsOf s)).length with ⟨j, hj, e, h⟩ | ⟨-, h⟩
    · injection e with _ e; omega
    · rw [h]; exact hn _
theorem coupL_issued_ne {B : BookV} {s : SaleV} {t : Tid} (h : t ≠ B.nextT) : coupL (B.issued s) t = coupL B t := by
  refine coupL_same fun i => ?_
  show lkt (issO B.nextT s (shareV s.fare (wsOf s)) B.owns (shareV s.fare (wsOf s)).length) _ = _
  rcases issO_lk B.nextT s (shareV s.fare (wsOf s)) B.owns ⟨t, i⟩ (shareV s.fare (wsOf s)).length with ⟨j, hj, e, -⟩ | ⟨-, h'⟩
  · injection e with e _; exact absurd e h
  · exact h'
/-- each coupon is a document's -/
def KeysIn (B : BookV) : Prop := ∀ k o, lkt B.owns k = some o → ∃ d ∈ B.docs, d.t = k.t
theorem KeysIn.next {B : BookV} (h : KeysIn B) (hb : BookOk B) (i : Int) : lkt B.owns ⟨B.nextT, i⟩ = none := by
  cases e : lkt B.owns ⟨B.nextT, i⟩ with
  | none => rfl
  | some o =>
    obtain ⟨d, hd, ht⟩ := h _ _ e
    obtain ⟨j, hj, hjd⟩ := List.getElem_of_mem hd
    have := hb.docs j d (by rw [List.getElem?_eq_getElem hj, hjd])
    rw [this] at ht
    have ht : (⟨B.self, (j : Int) + 1⟩ : Tid) = ⟨B.self, (B.docs.length : Int) + 1⟩ := ht
    injection ht with _ ht
    omega
theorem putD_mem_t {ds : List DocV} {d : DocV} {t : Tid} (h : ∃ x ∈ ds, x.t = t) : ∃ x ∈ putD ds d, x.t = t := by
  obtain ⟨x, hx, e⟩ := h
  have : t ∈ (putD ds d).map (·.t) := by rw [putD_t]; exact e ▸ List.mem_map_of_mem hx
  obtain ⟨y, hy, he⟩ := List.mem_map.1 this
  exact ⟨y, hy, he⟩
theorem KeysIn.setD {B : BookV} (h : KeysIn B) (d : DocV) : KeysIn (B.setD d) := fun k o hk => putD_mem_t (h k o hk)
theorem KeysIn.setO {B : BookV} (h : KeysIn B) (k : Kid) (o : OwnV) : KeysIn (B.setO k o) := by
  unfold BookV.setO
  cases e : lkt B.owns k with
  | none => exact h
  | some x =>
    intro k' o' h'
    have h' : lkt (putt B.owns k o) k' = some o' := h'
    rw [lkt_put] at h'
    by_cases q : k = k'
    · subst q; exact h k x e
    · rw [if_neg q] at h'; exact h k' o' h'
theorem KeysIn.turn1 {B : BookV} (h : KeysIn B) (k : Kid) (o : OwnV) (s : Int) : KeysIn (turn1 B k o s) := by
  unfold Go.Proofs.Ytlekbdpdlalhbaa.turn1
  cases freeO o
  · exact h
  · exact h.setO k _
theorem KeysIn.turnL (s : Int) (t : Tid) : ∀ (l : List OwnV) {B : BookV} (i : Int), KeysIn B → KeysIn (turnL s t B i l)
  | [], _, _, h => h
  | o :: l, B, i, h => KeysIn.turnL s t l (i + 1) (h.turn1 ⟨t, i⟩ o s)
theorem KeysIn.turnB {B : BookV} (h : KeysIn B) (t : Tid) (s : Int) : KeysIn (turnB B t s) := KeysIn.turnL s t _ 0 h
theorem KeysIn.issued {B : BookV} (h : KeysIn B) (s : SaleV) : KeysIn (B.issued s) := by
  intro k o hk
  have hk : lkt (issO B.nextT s (shareV s.fare (wsOf s)) B.owns (shareV s.fare (wsOf s)).length) k = some o := hk
  rcases issO_lk B.nextT s (shareV s.fare (wsOf s)) B.owns k (shareV s.fare (wsOf s)).length with ⟨j, hj, e, -⟩ | ⟨-, h'⟩
  · exact ⟨docMade B.nextT s, List.mem_append_right _ (List.mem_singleton.2 rfl), by rw [e]; rfl⟩
  · rw [h'] at hk
    obtain ⟨d, hd, ht⟩ := h k o hk
    exact ⟨d, List.mem_append_left _ hd, ht⟩
end Go.Proofs.Ytlekbdpdlalhbaa
end
section
namespace Go.Proofs.Ytlekbdpdlalhbaa
set_option maxRecDepth 100000
open Go.RowKit Go.Lib Go.Tk Go.Shelf Go.Vc Go.Sx
set_option linter.unusedVariables false
set_option linter.unusedSimpArgs false

def opL (L : List OwnV) : Int := ((L.filter fun o => decide (o.k.s ≤ 4)).map (·.k.v)).sum
def mD (d : DocV) (L : List OwnV) : Int := d.paid - d.back - d.kept - d.left - opL L
structure DocI (d : DocV) (L : List OwnV) : Prop where
  vals : L.map (·.k.v) = d.vals
  st : ∀ o ∈ L, 1 ≤ o.k.s ∧ o.k.s ≤ 7
  nn : ∀ v ∈ d.vals, 0 ≤ v
  sum : d.vals.sum = d.s.fare
  pen : 0 ≤ d.s.pen
  paid : 0 ≤ d.paid
  back : 0 ≤ d.back
  kept : 0 ≤ d.kept
  left : 0 ≤ d.left
  leftc : d.left ≤ d.credit
  frm : d.frm = tid0 → d.paid = d.s.fare ∧ d.credit = 0
  bnd : d.paid + d.credit ≤ 1099511627776 * d.t.r
structure EI (ds : List DocV) (c : Tid → List OwnV) : Prop where
  doc : ∀ d ∈ ds, DocI d (c d.t)
  non : ∀ d ∈ ds, d.dst = tid0 → mD d (c d.t) + d.credit = 0
  lnk : ∀ d ∈ ds, d.dst ≠ tid0 → ∃ n ∈ ds, n.t = d.dst ∧ n.frm = d.t ∧ mD d (c d.t) + d.credit = n.credit
  tot : (ds.map fun d => mD d (c d.t)).sum = 0

/-! ### coupons -/
theorem freeO_s {o : OwnV} (h : freeO o = true) : o.k.s = 1 := by
  unfold freeO at h
  simp only [Bool.and_eq_true, decide_eq_true_eq] at h
  exact h.2
def frL (L : List OwnV) : List OwnV := L.filter freeO
theorem opL_turn {s : Int} (hs : 4 < s) : ∀ L : List OwnV, opL (L.map (turnO s)) = opL L - ((frL L).map (·.k.v)).sum
  | [] => rfl
  | o :: L => by
    have ih := opL_turn hs L
    unfold opL frL at ih ⊢
    cases hf : freeO o with
    | true =>
      have h1 := freeO_s hf
      have e : turnO s o = asO o s := by unfold turnO; rw [hf]; rfl
      have hx : ¬ (decide ((asO o s).k.s ≤ 4) = true) := by
        show ¬ (decide (s ≤ 4) = true)
        simp; omega
      rw [List.map_cons, e, List.filter_cons_of_neg (p := fun o : OwnV => decide (o.k.s ≤ 4)) (a := asO o s) hx, List.filter_cons_of_pos (by simp [h1]), List.filter_cons_of_pos hf, List.map_cons, List.map_cons, List.sum_cons, List.sum_cons, ih]
      omega
    | false =>
      have e : turnO s o = o := by unfold turnO; rw [hf]; rfl
      rw [List.map_cons, e, List.filter_cons_of_neg (a := o) (p := freeO) (by simp [hf])]
      by_cases h4 : o.k.s ≤ 4
      · rw [List.filter_cons_of_pos (by simp [h4]), List.filter_cons_of_pos (by simp [h4]), List.map_cons, List.map_cons, List.sum_cons, List.sum_cons, ih]
        omega
      · rw [List.filter_cons_of_neg (by simp [h4]), List.filter_cons_of_neg (by simp [h4]), ih]
theorem turn_vals (s : Int) (L : List OwnV) : (L.map (turnO s)).map (·.k.v) = L.map (·.k.v) := by
  rw [List.map_map]
  refine List.map_congr_left fun o _ => ?_
  show (turnO s o).k.v = o.k.v
  unfold turnO; cases freeO o <;> rfl
theorem turn_st {s : Int} (hs : 1 ≤ s ∧ s ≤ 7) {L : List OwnV} (h : ∀ o ∈ L, 1 ≤ o.k.s ∧ o.k.s ≤ 7) : ∀ o ∈ L.map (turnO s), 1 ≤ o.k.s ∧ o.k.s ≤ 7 := by
  intro o ho
  obtain ⟨x, hx, rfl⟩ := List.mem_map.1 ho
  unfold turnO
  cases freeO x
  · exact h x hx
  · exact hs
/-- what is told of a coupon's worth -/
def stv (L : List OwnV) : List (Int × Int) := L.map fun o => (o.k.s, o.k.v)
theorem opL_stv : ∀ {L M : List OwnV}, stv L = stv M → opL L = opL M
  | [], [], _ => rfl
  | [], _ :: _, h => by simp [stv] at h
  | _ :: _, [], h => by simp [stv] at h
  | a :: L, b :: M, h => by
    unfold stv at h
    rw [List.map_cons, List.map_cons] at h
    injection h with h1 h2
    injection h1 with hs hv
    have ih := opL_stv h2
    unfold opL at ih ⊢
    by_cases h4 : a.k.s ≤ 4
    · rw [List.filter_cons_of_pos (by simp [h4]), List.filter_cons_of_pos (by simp [← hs, h4]), List.map_cons, List.map_cons, List.sum_cons, List.sum_cons, ih, hv]
    · rw [List.filter_cons_of_neg (by simp [h4]), List.filter_cons_of_neg (by simp [← hs, h4]), ih]
theorem DocI.stv {d : DocV} {L M : List OwnV} (h : DocI d L) (e : stv M = stv L) : DocI d M := by
  have e1 : M.map (·.k.v) = L.map (·.k.v) := by have := congrArg (List.map Prod.snd) e; unfold Go.Proofs.Ytlekbdpdlalhbaa.stv at this; rwa [List.map_map, List.map_map] at this
  have e2 : M.map (·.k.s) = L.map (·.k.s) := by have := congrArg (List.map Prod.fst) e; unfold Go.Proofs.Ytlekbdpdlalhbaa.stv at this; rwa [List.map_map, List.map_map] at this
  refine ⟨e1.trans h.vals, fun o ho => ?_, h.nn, h.sum, h.pen, h.paid, h.back, h.kept, h.left, h.leftc, h.frm, h.bnd⟩
  have : o.k.s ∈ L.map (·.k.s) := by rw [← e2]; exact List.mem_map_of_mem ho
  obtain ⟨x, hx, hxe⟩ := List.mem_map.1 this
  rw [← hxe]; exact h.st x hx
theorem EI.stv {ds : List DocV} {c c' : Tid → List OwnV} (h : EI ds c) (e : ∀ t, stv (c' t) = stv (c t)) : EI ds c' := by
  have em : ∀ d, mD d (c' d.t) = mD d (c d.t) := fun d => by unfold mD; rw [opL_stv (e d.t)]
  refine ⟨fun d hd => (h.doc d hd).stv (e d.t), fun d hd h0 => by rw [em]; exact h.non d hd h0, fun d hd h0 => by rw [em]; exact h.lnk d hd h0, ?_⟩
  rw [show (fun d => mD d (c' d.t)) = fun d => mD d (c d.t) from funext em]; exact h.tot

/-! ### documents put -/
theorem putD_mem {ds : List DocV} {d x : DocV} (h : x ∈ putD ds d) : x = d ∨ (x ∈ ds ∧ x.t ≠ d.t) := by
  obtain ⟨y, hy, e⟩ := List.mem_map.1 h
  by_cases q : y.t = d.t
  · rw [if_pos q] at e; exact .inl e.symm
  · rw [if_neg q] at e; subst e; exact .inr ⟨hy, q⟩
theorem putD_in {ds : List DocV} {d x : DocV} (h : x ∈ ds) : (x.t = d.t ∧ d ∈ putD ds d) ∨ (x.t ≠ d.t ∧ x ∈ putD ds d) := by
  by_cases q : x.t = d.t
  · exact .inl ⟨q, List.mem_map.2 ⟨x, h, by rw [if_pos q]⟩⟩
  · exact .inr ⟨q, List.mem_map.2 ⟨x, h, by rw [if_neg q]⟩⟩
theorem sum_putD {f f' : DocV → Int} {d' : DocV} : ∀ {ds : List DocV} {d : DocV}, (ds.map (·.t)).Nodup → d ∈ ds → d'.t = d.t → (∀ x ∈ ds, x.t ≠ d.t → f' x = f x) → ((putD ds d').map f').sum = (ds.map f).sum - f d + f' d'
  | [], _, _, h, _, _ => by cases h
  | y :: ds, d, hn, hd, ht, hf => by
    rw [List.map_cons, List.nodup_cons] at hn
    unfold putD
    rw [List.map_cons, List.map_cons, List.map_cons, List.sum_cons, List.sum_cons]
    rcases List.mem_cons.1 hd with e | hd2
    · subst e
      rw [if_pos ht.symm]
      have key : ((ds.map fun x => if x.t = d'.t then d' else x).map f').sum = (ds.map f).sum := by
        rw [List.map_map]
        congr 1
        refine List.map_congr_left fun x hx => ?_
        have hne : x.t ≠ d.t := fun e => hn.1 (e ▸ List.mem_map_of_mem hx)
        show f' (if x.t = d'.t then d' else x) = f x
        rw [if_neg (by rw [ht]; exact hne)]
        exact hf x (List.mem_cons_of_mem _ hx) hne
      rw [key]; omega
    · have hne : y.t ≠ d.t := fun e => hn.1 (e ▸ List.mem_map_of_mem (f := fun x : DocV => x.t) hd2)
      rw [if_neg (by rw [ht]; exact hne), hf y List.mem_cons_self hne]
      have ih := sum_putD hn.2 hd2 ht (fun x hx h => hf x (List.mem_cons_of_mem _ hx) h)
      unfold putD at ih
      rw [ih]; omega
theorem nodup_eq {ds : List DocV} (hn : (ds.map (·.t)).Nodup) {x y : DocV} (hx : x ∈ ds) (hy : y ∈ ds) (e : x.t = y.t) : x = y := by
  induction ds with
  | nil => cases hx
  | cons z ds ih =>
    rw [List.map_cons, List.nodup_cons] at hn
    rcases List.mem_cons.1 hx with h1 | h1 <;> rcases List.mem_cons.1 hy with h2 | h2
    · rw [h1, h2]
    · exact absurd (h1 ▸ e ▸ List.mem_map_of_mem (f := fun d : DocV => d.t) h2) hn.1
    · exact absurd (h2 ▸ e ▸ List.mem_map_of_mem (f := fun d : DocV => d.t) h1) hn.1
    · exact ih hn.2 h1 h2
/-- one document changed: its worth stays -/
theorem EI.upd {ds : List DocV} {c c' : Tid → List OwnV} (h : EI ds c) (hn : (ds.map (·.t)).Nodup) {d d' : DocV} (hd : d ∈ ds) (ht : d'.t = d.t) (hf : d'.frm = d.frm) (ho : d'.dst = d.dst) (hc : d'.credit = d.credit)
    (hi : DocI d' (c' d.t)) (hm : mD d' (c' d.t) = mD d (c d.t)) (he : ∀ t, t ≠ d.t → c' t = c t) : EI (putD ds d') c' := by
  have old : ∀ x, x ∈ ds → x.t ≠ d.t → c' x.t = c x.t := fun x _ q => he _ q
  have up : ∀ n ∈ ds, ∃ n' ∈ putD ds d', n'.t = n.t ∧ n'.frm = n.frm ∧ n'.credit = n.credit := fun n hn' => by
    rcases putD_in (d := d') hn' with ⟨q, q2⟩ | ⟨q, q2⟩
    · have e : n = d := nodup_eq hn hn' hd (q.trans ht)
      subst e
      exact ⟨d', q2, ht, hf, hc⟩
    · exact ⟨n, q2, rfl, rfl, rfl⟩
  refine ⟨fun x hx => ?_, fun x hx h0 => ?_, fun x hx h0 => ?_, ?_⟩
  · rcases putD_mem hx with rfl | ⟨hx, q⟩
    · rw [ht]; exact hi
    · rw [old x hx (ht ▸ q)]; exact h.doc x hx
  · rcases putD_mem hx with rfl | ⟨hx, q⟩
    · rw [ht, hm, hc]; exact h.non d hd (ho ▸ h0)
    · rw [old x hx (ht ▸ q)]; exact h.non x hx h0
  · have key : ∃ y ∈ ds, y.t = x.t ∧ y.dst = x.dst ∧ mD y (c y.t) + y.credit = mD x (c' x.t) + x.credit := by
      rcases putD_mem hx with rfl | ⟨hx, q⟩
      · exact ⟨d, hd, ht.symm, ho.symm, by rw [ht, hm, hc]⟩
      · exact ⟨x, hx, rfl, rfl, by rw [old x hx (ht ▸ q)]⟩
    obtain ⟨y, hy, e1, e2, e3⟩ := key
    obtain ⟨n, hn', n1, n2, n3⟩ := h.lnk y hy (e2 ▸ h0)
    obtain ⟨n', g1, g2, g3, g4⟩ := up n hn'
    exact ⟨n', g1, by rw [g2, n1, e2], by rw [g3, n2, e1], by rw [← e3, n3, g4]⟩
  · rw [sum_putD (f := fun d => mD d (c d.t)) (f' := fun d => mD d (c' d.t)) hn hd ht (fun x hx q => by rw [old x hx q]), h.tot]
    show 0 - mD d (c d.t) + mD d' (c' d'.t) = 0
    rw [ht, hm]; omega
/-- one document made -/
theorem EI.add {ds : List DocV} {c c' : Tid → List OwnV} (h : EI ds c) {n : DocV} (hfr : ∀ x ∈ ds, x.t ≠ n.t) (h0 : n.dst = tid0) (hi : DocI n (c' n.t)) (hm : mD n (c' n.t) = 0) (hcr : n.credit = 0) (he : ∀ t, t ≠ n.t → c' t = c t) : EI (ds ++ [n]) c' := by
  have mem : ∀ x, x ∈ ds ++ [n] → (x ∈ ds ∧ c' x.t = c x.t) ∨ x = n := fun x hx => by
    rcases List.mem_append.1 hx with hx | hx
    · exact .inl ⟨hx, he _ (hfr x hx)⟩
    · exact .inr (List.mem_singleton.1 hx)
  refine ⟨fun x hx => ?_, fun x hx q => ?_, fun x hx q => ?_, ?_⟩
  · rcases mem x hx with ⟨hx, e⟩ | rfl
    · rw [e]; exact h.doc x hx
    · exact hi
  · rcases mem x hx with ⟨hx, e⟩ | rfl
    · rw [e]; exact h.non x hx q
    · rw [hm, hcr]; rfl
  · rcases mem x hx with ⟨hx, e⟩ | rfl
    · rw [e]
      obtain ⟨y, hy, r⟩ := h.lnk x hx q
      exact ⟨y, List.mem_append_left _ hy, r⟩
    · exact absurd h0 q
  · rw [List.map_append, List.sum_append]
    have : ds.map (fun d => mD d (c' d.t)) = ds.map (fun d => mD d (c d.t)) := List.map_congr_left fun x hx => by rw [he _ (hfr x hx)]
    rw [this, h.tot]
    simp only [List.map_cons, List.map_nil, List.sum_cons, List.sum_nil]
    rw [hm]; rfl
end Go.Proofs.Ytlekbdpdlalhbaa
end
