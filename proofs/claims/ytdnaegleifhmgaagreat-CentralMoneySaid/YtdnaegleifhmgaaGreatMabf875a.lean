/- EbP1, EbP2, EbP3, Ce40. -/
import Derived.Test.YtdnaegleifhmgaaGreatM6fdd07c
import Derived.Test.YtdnaegleifhmgaaGreatM7ce3b18
import Derived.Test.YtdnaegleifhmgaaGreatMfcacc41
set_option maxRecDepth 100000
set_option linter.unusedVariables false
set_option linter.unusedSimpArgs false
set_option linter.unusedSectionVars false
section
namespace Go.Proofs.YtdnaegleifhmgaaGreat
open Go.RowKit Go.Lib Go.Tk Go.Shelf Go.Vc Go.Sx
theorem coupL_get {B : BookV} {t : Tid} {i : Nat} (h : i < (coupL B t).length) : lkt B.owns ⟨t, (i : Int)⟩ = some ((coupL B t).getD i own0) := by
  rcases coupL_cases B t with ⟨e, h0⟩ | ⟨a, e, h0, h1⟩ | ⟨a, b, e, h0, h1, h2⟩ | ⟨a, b, c, e, h0, h1, h2, h3⟩ | ⟨a, b, c, d, e, h0, h1, h2, h3⟩ <;> rw [e] at h ⊢ <;> simp only [List.length_cons, List.length_nil] at h
  · omega
  · obtain rfl : i = 0 := by omega
    exact h0
  · rcases (show i = 0 ∨ i = 1 by omega) with rfl | rfl
    · exact h0
    · exact h1
  · rcases (show i = 0 ∨ i = 1 ∨ i = 2 by omega) with rfl | rfl | rfl
    · exact h0
    · exact h1
    · exact h2
  · rcases (show i = 0 ∨ i = 1 ∨ i = 2 ∨ i = 3 by omega) with rfl | rfl | rfl | rfl
    · exact h0
    · exact h1
    · exact h2
    · exact h3
theorem coupL_end (B : BookV) (t : Tid) : (coupL B t).length = 4 ∨ lkt B.owns ⟨t, ((coupL B t).length : Int)⟩ = none := by
  rcases coupL_cases B t with ⟨e, h0⟩ | ⟨a, e, h0, h1⟩ | ⟨a, b, e, h0, h1, h2⟩ | ⟨a, b, c, e, h0, h1, h2, h3⟩ | ⟨a, b, c, d, e, h0, h1, h2, h3⟩ <;> rw [e]
  · exact .inr h0
  · exact .inr h1
  · exact .inr h2
  · exact .inr h3
  · exact .inl rfl
theorem coupL_of {B : BookV} {t : Tid} {L : List OwnV} (hl : L.length ≤ 4) (h : ∀ i, i < L.length → lkt B.owns ⟨t, (i : Int)⟩ = some (L.getD i own0)) (he : L.length = 4 ∨ lkt B.owns ⟨t, (L.length : Int)⟩ = none) : coupL B t = L := by
  match L, hl, h, he with
  | [], _, h, he =>
    have h0 : lkt B.owns ⟨t, 0⟩ = none := he.elim (fun e => by cases e) id
    unfold coupL; rw [h0]
  | [a], _, h, he =>
    have h0 : lkt B.owns ⟨t, 0⟩ = some a := h 0 (by simp)
    have h1 : lkt B.owns ⟨t, 1⟩ = none := he.elim (fun e => by cases e) id
    unfold coupL; rw [h0, h1]
  | [a, b], _, h, he =>
    have h0 : lkt B.owns ⟨t, 0⟩ = some a := h 0 (by simp)
    have h1 : lkt B.owns ⟨t, 1⟩ = some b := h 1 (by simp)
    have h2 : lkt B.owns ⟨t, 2⟩ = none := he.elim (fun e => by cases e) id
    unfold coupL; rw [h0, h1, h2]
  | [a, b, c], _, h, he =>
    have h0 : lkt B.owns ⟨t, 0⟩ = some a := h 0 (by simp)
    have h1 : lkt B.owns ⟨t, 1⟩ = some b := h 1 (by simp)
    have h2 : lkt B.owns ⟨t, 2⟩ = some c := h 2 (by simp)
    have h3 : lkt B.owns ⟨t, 3⟩ = none := he.elim (fun e => by cases e) id
    unfold coupL; rw [h0, h1, h2, h3]
  | [a, b, c, d], _, h, he =>
    have h0 : lkt B.owns ⟨t, 0⟩ = some a := h 0 (by simp)
    have h1 : lkt B.owns ⟨t, 1⟩ = some b := h 1 (by simp)
    have h2 : lkt B.owns ⟨t, 2⟩ = some c := h 2 (by simp)
    have h3 : lkt B.owns ⟨t, 3⟩ = some d := h 3 (by simp)
    unfold coupL; rw [h0, h1, h2, h3]
  | a :: b :: c :: d :: e :: l, hl, _, _ => simp at hl
theorem coupL_same {B C : BookV} {t : Tid} (h : ∀ i : Int, lkt C.owns ⟨t, i⟩ = lkt B.owns ⟨t, i⟩) : coupL C t = coupL B t := by
  unfold coupL; rw [h 0, h 1, h 2, h 3]
def turnO (s : Int) (o : OwnV) : OwnV := bif freeO o then asO o s else o
theorem turn1_at {B : BookV} {k : Kid} {o : OwnV} {s : Int} (h : lkt B.owns k = some o) : lkt (turn1 B k o s).owns k = some (turnO s o) := by
  unfold turn1 turnO
  cases freeO o
  · exact h
  · show lkt (B.setO k (asO o s)).owns k = _
    rw [setO_some h]
    show lkt (putt B.owns k _) k = _
    rw [lkt_put, if_pos rfl]; rfl
theorem turnL_other {s : Int} {t : Tid} {k : Kid} : ∀ (l : List OwnV) (B : BookV) (i : Int), (∀ j : Nat, j < l.length → k ≠ ⟨t, i + (j : Int)⟩) → lkt (turnL s t B i l).owns k = lkt B.owns k
  | [], _, _, _ => rfl
  | o :: l, B, i, h => by
    show lkt (turnL s t (turn1 B ⟨t, i⟩ o s) (i + 1) l).owns k = _
    rw [turnL_other l _ (i + 1) (fun j hj => by
      have := h (j + 1) (by simp only [List.length_cons]; omega)
      rwa [show i + 1 + (j : Int) = i + ((j + 1 : Nat) : Int) by omega])]
    exact lkt_turn1 (fun e => h 0 (by simp) (by rw [← e]; simp))
theorem turnL_at {s : Int} {t : Tid} : ∀ (l : List OwnV) (B : BookV) (i : Int), (∀ j : Nat, j < l.length → lkt B.owns ⟨t, i + (j : Int)⟩ = some (l.getD j own0)) → ∀ j : Nat, j < l.length → lkt (turnL s t B i l).owns ⟨t, i + (j : Int)⟩ = some (turnO s (l.getD j own0))
  | [], _, _, _, j, hj => absurd hj (Nat.not_lt_zero _)
  | o :: l, B, i, h, j, hj => by
    have h0 : lkt B.owns ⟨t, i⟩ = some o := by have := h 0 (by simp); simpa using this
    have hne : ∀ j : Nat, (⟨t, i⟩ : Kid) ≠ ⟨t, i + 1 + (j : Int)⟩ := fun j e => by injection e with _ e; omega
    show lkt (turnL s t (turn1 B ⟨t, i⟩ o s) (i + 1) l).owns _ = _
    cases j with
    | zero =>
      have := turnL_other (s := s) (t := t) (k := ⟨t, i⟩) l (turn1 B ⟨t, i⟩ o s) (i + 1) (fun j _ => hne j)
      rw [turn1_at h0] at this
      simpa using this
    | succ j =>
      have := turnL_at (s := s) (t := t) l (turn1 B ⟨t, i⟩ o s) (i + 1) (fun j hj => by
        rw [lkt_turn1 (hne j)]
        have := h (j + 1) (by simp only [List.length_cons]; omega)
        rw [show i + 1 + (j : Int) = i + ((j + 1 : Nat) : Int) by omega]
        simpa using this) j (by simpa using hj)
      rw [show i + ((j + 1 : Nat) : Int) = i + 1 + (j : Int) by omega]
      simpa using this
theorem turnB_at {B : BookV} {t : Tid} {s : Int} {i : Nat} (h : i < (coupL B t).length) : lkt (turnB B t s).owns ⟨t, (i : Int)⟩ = some (turnO s ((coupL B t).getD i own0)) := by
  have := turnL_at (s := s) (t := t) (coupL B t) B 0 (fun j hj => by rw [Int.zero_add]; exact coupL_get hj) i h
  rwa [Int.zero_add] at this
theorem turnB_other {B : BookV} {t : Tid} {s : Int} {k : Kid} (h : ∀ i : Nat, i < (coupL B t).length → k ≠ ⟨t, (i : Int)⟩) : lkt (turnB B t s).owns k = lkt B.owns k :=
  turnL_other (coupL B t) B 0 fun j hj => by rw [Int.zero_add]; exact h j hj
theorem coupL_turn (B : BookV) (t : Tid) (s : Int) : coupL (turnB B t s) t = (coupL B t).map (turnO s) := by
  refine coupL_of (by rw [List.length_map]; exact coupL_len B t) (fun i hi => ?_) ?_
  · rw [List.length_map] at hi
    rw [turnB_at hi]
    congr 1
    rw [List.getD_eq_getElem?_getD, List.getD_eq_getElem?_getD, List.getElem?_map, List.getElem?_eq_getElem hi]; rfl
  · rw [List.length_map]
    rcases coupL_end B t with h | h
    · exact .inl h
    · refine .inr ?_
      rw [turnB_other (fun i hi e => by injection e with _ e; omega)]; exact h
theorem coupL_turn_ne (B : BookV) {t t' : Tid} (s : Int) (h : t' ≠ t) : coupL (turnB B t s) t' = coupL B t' :=
  coupL_same fun i => turnB_other fun j _ e => h (by injection e)
def newL (s : SaleV) : List OwnV := (List.range (shareV s.fare (wsOf s)).length).map fun i => ownNew (s.legs.getD i leg0) ((shareV s.fare (wsOf s)).getD i 0)
theorem newL_len (s : SaleV) : (newL s).length = (shareV s.fare (wsOf s)).length := by unfold newL; simp
theorem newL_get {s : SaleV} {i : Nat} (h : i < (shareV s.fare (wsOf s)).length) : (newL s).getD i own0 = ownNew (s.legs.getD i leg0) ((shareV s.fare (wsOf s)).getD i 0) := by
  unfold newL
  rw [List.getD_eq_getElem?_getD, List.getElem?_map, List.getElem?_range h]; rfl
theorem newL_vals (s : SaleV) : (newL s).map (·.k.v) = shareV s.fare (wsOf s) := by
  refine List.ext_getElem? fun i => ?_
  by_cases h : i < (shareV s.fare (wsOf s)).length
  · unfold newL
    rw [List.map_map, List.getElem?_map, List.getElem?_range h]
    show some ((shareV s.fare (wsOf s)).getD i 0) = _
    rw [List.getD_eq_getElem?_getD, List.getElem?_eq_getElem h]; rfl
  · rw [List.getElem?_eq_none (by rw [List.length_map, newL_len]; omega), List.getElem?_eq_none (by omega)]
theorem coupL_issued {B : BookV} {s : SaleV} (hn : ∀ i : Int, lkt B.owns ⟨B.nextT, i⟩ = none) (hl : (shareV s.fare (wsOf s)).length ≤ 4) : coupL (B.issued s) B.nextT = newL s := by
  refine coupL_of (by rw [newL_len]; exact hl) (fun i hi => ?_) ?_
  · rw [newL_len] at hi
    show lkt (issO B.nextT s (shareV s.fare (wsOf s)) B.owns (shareV s.fare (wsOf s)).length) _ = _
    rcases issO_lk B.nextT s (shareV s.fare (wsOf s)) B.owns ⟨B.nextT, (i : Int)⟩ (shareV s.fare (wsOf s)).length with ⟨j, hj, e, h⟩ | ⟨h, -⟩
    · injection e with _ e
      have e : i = j := by omega
      subst e
      rw [h, newL_get hi]
    · exact absurd rfl (h i hi)
  · refine .inr ?_
    rw [newL_len]
    show lkt (issO B.nextT s (shareV s.fare (wsOf s)) B.owns (shareV s.fare (wsOf s)).length) _ = _
    rcases issO_lk B.nextT s (shareV s.fare (wsOf s)) B.owns ⟨B.nextT, ((shareV s.fare (wsOf s)).length : Int)⟩ (shareV s.fare (wsOf s)).length with ⟨j, hj, e, h⟩ | ⟨-, h⟩
    · injection e with _ e; omega
    · rw [h]; exact hn _
theorem coupL_issued_ne {B : BookV} {s : SaleV} {t : Tid} (h : t ≠ B.nextT) : coupL (B.issued s) t = coupL B t := by
  refine coupL_same fun i => ?_
  show lkt (issO B.nextT s (shareV s.fare (wsOf s)) B.owns (shareV s.fare (wsOf s)).length) _ = _
  rcases issO_lk B.nextT s (shareV s.fare (wsOf s)) B.owns ⟨t, i⟩ (shareV s.fare (wsOf s)).length with ⟨j, hj, e, -⟩ | ⟨-, h'⟩
  · injection e with e _; exact absurd e h
  · exact h'
def KeysIn (B : BookV) : Prop := ∀ k o, lkt B.owns k = some o → ∃ d ∈ B.docs, d.t = k.t
theorem KeysIn.next {B : BookV} (h : KeysIn B) (hb : BookOk B) (i : Int) : lkt B.owns ⟨B.nextT, i⟩ = none := by
  cases e : lkt B.owns ⟨B.nextT, i⟩ with
  | none => rfl
  | some o =>
    obtain ⟨d, hd, ht⟩ := h _ _ e
    obtain ⟨j, hj, hjd⟩ := List.getElem_of_mem hd
    have := hb.docs j d (by rw [List.getElem?_eq_getElem hj, hjd])
    rw [this] at ht
    have ht : (⟨B.self, (j : Int) + 1⟩ : Tid) = ⟨B.self, (B.docs.length : Int) + 1⟩ := ht
    injection ht with _ ht
    omega
theorem putD_mem_t {ds : List DocV} {d : DocV} {t : Tid} (h : ∃ x ∈ ds, x.t = t) : ∃ x ∈ putD ds d, x.t = t := by
  obtain ⟨x, hx, e⟩ := h
  have : t ∈ (putD ds d).map (·.t) := by rw [putD_t]; exact e ▸ List.mem_map_of_mem hx
  obtain ⟨y, hy, he⟩ := List.mem_map.1 this
  exact ⟨y, hy, he⟩
theorem KeysIn.setD {B : BookV} (h : KeysIn B) (d : DocV) : KeysIn (B.setD d) := fun k o hk => putD_mem_t (h k o hk)
theorem KeysIn.setO {B : BookV} (h : KeysIn B) (k : Kid) (o : OwnV) : KeysIn (B.setO k o) := by
  unfold BookV.setO
  cases e : lkt B.owns k with
  | none => exact h
  | some x =>
    intro k' o' h'
    have h' : lkt (putt B.owns k o) k' = some o' := h'
    rw [lkt_put] at h'
    by_cases q : k = k'
    · subst q; exact h k x e
    · rw [if_neg q] at h'; exact h k' o' h'
theorem KeysIn.turn1 {B : BookV} (h : KeysIn B) (k : Kid) (o : OwnV) (s : Int) : KeysIn (turn1 B k o s) := by
  unfold Go.Proofs.YtdnaegleifhmgaaGreat.turn1
  cases freeO o
  · exact h
  · exact h.setO k _
theorem KeysIn.turnL (s : Int) (t : Tid) : ∀ (l : List OwnV) {B : BookV} (i : Int), KeysIn B → KeysIn (turnL s t B i l)
  | [], _, _, h => h
  | o :: l, B, i, h => KeysIn.turnL s t l (i + 1) (h.turn1 ⟨t, i⟩ o s)
theorem KeysIn.turnB {B : BookV} (h : KeysIn B) (t : Tid) (s : Int) : KeysIn (turnB B t s) := KeysIn.turnL s t _ 0 h
theorem KeysIn.issued {B : BookV} (h : KeysIn B) (s : SaleV) : KeysIn (B.issued s) := by
  intro k o hk
  have hk : lkt (issO B.nextT s (shareV s.fare (wsOf s)) B.owns (shareV s.fare (wsOf s)).length) k = some o := hk
  rcases issO_lk B.nextT s (shareV s.fare (wsOf s)) B.owns k (shareV s.fare (wsOf s)).length with ⟨j, hj, e, -⟩ | ⟨-, h'⟩
  · exact ⟨docMade B.nextT s, List.mem_append_right _ (List.mem_singleton.2 rfl), by rw [e]; rfl⟩
  · rw [h'] at hk
    obtain ⟨d, hd, ht⟩ := h k o hk
    exact ⟨d, List.mem_append_left _ hd, ht⟩
end Go.Proofs.YtdnaegleifhmgaaGreat
end
section
namespace Go.Proofs.YtdnaegleifhmgaaGreat
open Go.RowKit Go.Lib Go.Tk Go.Shelf Go.Vc Go.Sx
def opL (L : List OwnV) : Int := ((L.filter fun o => decide (o.k.s ≤ 4)).map (·.k.v)).sum
def mD (d : DocV) (L : List OwnV) : Int := d.paid - d.back - d.kept - d.left - opL L
structure DocI (d : DocV) (L : List OwnV) : Prop where
  vals : L.map (·.k.v) = d.vals
  st : ∀ o ∈ L, 1 ≤ o.k.s ∧ o.k.s ≤ 7
  nn : ∀ v ∈ d.vals, 0 ≤ v
  sum : d.vals.sum = d.s.fare
  pen : 0 ≤ d.s.pen
  paid : 0 ≤ d.paid
  back : 0 ≤ d.back
  kept : 0 ≤ d.kept
  left : 0 ≤ d.left
  leftc : d.left ≤ d.credit
  frm : d.frm = tid0 → d.paid = d.s.fare ∧ d.credit = 0
  bnd : d.paid + d.credit ≤ 1099511627776 * d.t.r
structure EI (ds : List DocV) (c : Tid → List OwnV) : Prop where
  doc : ∀ d ∈ ds, DocI d (c d.t)
  non : ∀ d ∈ ds, d.dst = tid0 → mD d (c d.t) + d.credit = 0
  lnk : ∀ d ∈ ds, d.dst ≠ tid0 → ∃ n ∈ ds, n.t = d.dst ∧ n.frm = d.t ∧ mD d (c d.t) + d.credit = n.credit
  tot : (ds.map fun d => mD d (c d.t)).sum = 0
theorem opL_nn {d : DocV} {L : List OwnV} (h : DocI d L) : 0 ≤ opL L := by
  refine sum_nonneg _ fun x hx => ?_
  obtain ⟨o, ho, rfl⟩ := List.mem_map.1 hx
  exact h.nn _ (by rw [← h.vals]; exact List.mem_map_of_mem (List.mem_filter.1 ho).1)
theorem freeO_s {o : OwnV} (h : freeO o = true) : o.k.s = 1 := by
  unfold freeO at h
  simp only [Bool.and_eq_true, decide_eq_true_eq] at h
  exact h.2
def frL (L : List OwnV) : List OwnV := L.filter freeO
theorem opL_turn {s : Int} (hs : 4 < s) : ∀ L : List OwnV, opL (L.map (turnO s)) = opL L - ((frL L).map (·.k.v)).sum
  | [] => rfl
  | o :: L => by
    have ih := opL_turn hs L
    unfold opL frL at ih ⊢
    cases hf : freeO o with
    | true =>
      have h1 := freeO_s hf
      have e : turnO s o = asO o s := by unfold turnO; rw [hf]; rfl
      have hx : ¬ (decide ((asO o s).k.s ≤ 4) = true) := by
        show ¬ (decide (s ≤ 4) = true)
        simp; omega
      rw [List.map_cons, e, List.filter_cons_of_neg (p := fun o : OwnV => decide (o.k.s ≤ 4)) (a := asO o s) hx, List.filter_cons_of_pos (by simp [h1]), List.filter_cons_of_pos hf, List.map_cons, List.map_cons, List.sum_cons, List.sum_cons, ih]
      omega
    | false =>
      have e : turnO s o = o := by unfold turnO; rw [hf]; rfl
      rw [List.map_cons, e, List.filter_cons_of_neg (a := o) (p := freeO) (by simp [hf])]
      by_cases h4 : o.k.s ≤ 4
      · rw [List.filter_cons_of_pos (by simp [h4]), List.filter_cons_of_pos (by simp [h4]), List.map_cons, List.map_cons, List.sum_cons, List.sum_cons, ih]
        omega
      · rw [List.filter_cons_of_neg (by simp [h4]), List.filter_cons_of_neg (by simp [h4]), ih]
theorem turn_vals (s : Int) (L : List OwnV) : (L.map (turnO s)).map (·.k.v) = L.map (·.k.v) := by
  rw [List.map_map]
  refine List.map_congr_left fun o _ => ?_
  show (turnO s o).k.v = o.k.v
  unfold turnO; cases freeO o <;> rfl
theorem turn_st {s : Int} (hs : 1 ≤ s ∧ s ≤ 7) {L : List OwnV} (h : ∀ o ∈ L, 1 ≤ o.k.s ∧ o.k.s ≤ 7) : ∀ o ∈ L.map (turnO s), 1 ≤ o.k.s ∧ o.k.s ≤ 7 := by
  intro o ho
  obtain ⟨x, hx, rfl⟩ := List.mem_map.1 ho
  unfold turnO
  cases freeO x
  · exact h x hx
  · exact hs
def stv (L : List OwnV) : List (Int × Int) := L.map fun o => (o.k.s, o.k.v)
theorem opL_stv : ∀ {L M : List OwnV}, stv L = stv M → opL L = opL M
  | [], [], _ => rfl
  | [], _ :: _, h => by simp [stv] at h
  | _ :: _, [], h => by simp [stv] at h
  | a :: L, b :: M, h => by
    unfold stv at h
    rw [List.map_cons, List.map_cons] at h
    injection h with h1 h2
    injection h1 with hs hv
    have ih := opL_stv h2
    unfold opL at ih ⊢
    by_cases h4 : a.k.s ≤ 4
    · rw [List.filter_cons_of_pos (by simp [h4]), List.filter_cons_of_pos (by simp [← hs, h4]), List.map_cons, List.map_cons, List.sum_cons, List.sum_cons, ih, hv]
    · rw [List.filter_cons_of_neg (by simp [h4]), List.filter_cons_of_neg (by simp [← hs, h4]), ih]
theorem DocI.stv {d : DocV} {L M : List OwnV} (h : DocI d L) (e : stv M = stv L) : DocI d M := by
  have e1 : M.map (·.k.v) = L.map (·.k.v) := by have := congrArg (List.map Prod.snd) e; unfold Go.Proofs.YtdnaegleifhmgaaGreat.stv at this; rwa [List.map_map, List.map_map] at this
  have e2 : M.map (·.k.s) = L.map (·.k.s) := by have := congrArg (List.map Prod.fst) e; unfold Go.Proofs.YtdnaegleifhmgaaGreat.stv at this; rwa [List.map_map, List.map_map] at this
  refine ⟨e1.trans h.vals, fun o ho => ?_, h.nn, h.sum, h.pen, h.paid, h.back, h.kept, h.left, h.leftc, h.frm, h.bnd⟩
  have : o.k.s ∈ L.map (·.k.s) := by rw [← e2]; exact List.mem_map_of_mem ho
  obtain ⟨x, hx, hxe⟩ := List.mem_map.1 this
  rw [← hxe]; exact h.st x hx
theorem EI.stv {ds : List DocV} {c c' : Tid → List OwnV} (h : EI ds c) (e : ∀ t, stv (c' t) = stv (c t)) : EI ds c' := by
  have em : ∀ d, mD d (c' d.t) = mD d (c d.t) := fun d => by unfold mD; rw [opL_stv (e d.t)]
  refine ⟨fun d hd => (h.doc d hd).stv (e d.t), fun d hd h0 => by rw [em]; exact h.non d hd h0, fun d hd h0 => by rw [em]; exact h.lnk d hd h0, ?_⟩
  rw [show (fun d => mD d (c' d.t)) = fun d => mD d (c d.t) from funext em]; exact h.tot
theorem putD_mem {ds : List DocV} {d x : DocV} (h : x ∈ putD ds d) : x = d ∨ (x ∈ ds ∧ x.t ≠ d.t) := by
  obtain ⟨y, hy, e⟩ := List.mem_map.1 h
  by_cases q : y.t = d.t
  · rw [if_pos q] at e; exact .inl e.symm
  · rw [if_neg q] at e; subst e; exact .inr ⟨hy, q⟩
theorem putD_in {ds : List DocV} {d x : DocV} (h : x ∈ ds) : (x.t = d.t ∧ d ∈ putD ds d) ∨ (x.t ≠ d.t ∧ x ∈ putD ds d) := by
  by_cases q : x.t = d.t
  · exact .inl ⟨q, List.mem_map.2 ⟨x, h, by rw [if_pos q]⟩⟩
  · exact .inr ⟨q, List.mem_map.2 ⟨x, h, by rw [if_neg q]⟩⟩
theorem sum_putD {f f' : DocV → Int} {d' : DocV} : ∀ {ds : List DocV} {d : DocV}, (ds.map (·.t)).Nodup → d ∈ ds → d'.t = d.t → (∀ x ∈ ds, x.t ≠ d.t → f' x = f x) → ((putD ds d').map f').sum = (ds.map f).sum - f d + f' d'
  | [], _, _, h, _, _ => by cases h
  | y :: ds, d, hn, hd, ht, hf => by
    rw [List.map_cons, List.nodup_cons] at hn
    unfold putD
    rw [List.map_cons, List.map_cons, List.map_cons, List.sum_cons, List.sum_cons]
    rcases List.mem_cons.1 hd with e | hd2
    · subst e
      rw [if_pos ht.symm]
      have key : ((ds.map fun x => if x.t = d'.t then d' else x).map f').sum = (ds.map f).sum := by
        rw [List.map_map]
        congr 1
        refine List.map_congr_left fun x hx => ?_
        have hne : x.t ≠ d.t := fun e => hn.1 (e ▸ List.mem_map_of_mem hx)
        show f' (if x.t = d'.t then d' else x) = f x
        rw [if_neg (by rw [ht]; exact hne)]
        exact hf x (List.mem_cons_of_mem _ hx) hne
      rw [key]; omega
    · have hne : y.t ≠ d.t := fun e => hn.1 (e ▸ List.mem_map_of_mem (f := fun x : DocV => x.t) hd2)
      rw [if_neg (by rw [ht]; exact hne), hf y List.mem_cons_self hne]
      have ih := sum_putD hn.2 hd2 ht (fun x hx h => hf x (List.mem_cons_of_mem _ hx) h)
      unfold putD at ih
      rw [ih]; omega
theorem nodup_eq {ds : List DocV} (hn : (ds.map (·.t)).Nodup) {x y : DocV} (hx : x ∈ ds) (hy : y ∈ ds) (e : x.t = y.t) : x = y := by
  induction ds with
  | nil => cases hx
  | cons z ds ih =>
    rw [List.map_cons, List.nodup_cons] at hn
    rcases List.mem_cons.1 hx with h1 | h1 <;> rcases List.mem_cons.1 hy with h2 | h2
    · rw [h1, h2]
    · exact absurd (h1 ▸ e ▸ List.mem_map_of_mem (f := fun d : DocV => d.t) h2) hn.1
    · exact absurd (h2 ▸ e ▸ List.mem_map_of_mem (f := fun d : DocV => d.t) h1) hn.1
    · exact ih hn.2 h1 h2
theorem EI.upd {ds : List DocV} {c c' : Tid → List OwnV} (h : EI ds c) (hn : (ds.map (·.t)).Nodup) {d d' : DocV} (hd : d ∈ ds) (ht : d'.t = d.t) (hf : d'.frm = d.frm) (ho : d'.dst = d.dst) (hc : d'.credit = d.credit)
    (hi : DocI d' (c' d.t)) (hm : mD d' (c' d.t) = mD d (c d.t)) (he : ∀ t, t ≠ d.t → c' t = c t) : EI (putD ds d') c' := by
  have old : ∀ x, x ∈ ds → x.t ≠ d.t → c' x.t = c x.t := fun x _ q => he _ q
  have up : ∀ n ∈ ds, ∃ n' ∈ putD ds d', n'.t = n.t ∧ n'.frm = n.frm ∧ n'.credit = n.credit := fun n hn' => by
    rcases putD_in (d := d') hn' with ⟨q, q2⟩ | ⟨q, q2⟩
    · have e : n = d := nodup_eq hn hn' hd (q.trans ht)
      subst e
      exact ⟨d', q2, ht, hf, hc⟩
    · exact ⟨n, q2, rfl, rfl, rfl⟩
  refine ⟨fun x hx => ?_, fun x hx h0 => ?_, fun x hx h0 => ?_, ?_⟩
  · rcases putD_mem hx with rfl | ⟨hx, q⟩
    · rw [ht]; exact hi
    · rw [old x hx (ht ▸ q)]; exact h.doc x hx
  · rcases putD_mem hx with rfl | ⟨hx, q⟩
    · rw [ht, hm, hc]; exact h.non d hd (ho ▸ h0)
    · rw [old x hx (ht ▸ q)]; exact h.non x hx h0
  · have key : ∃ y ∈ ds, y.t = x.t ∧ y.dst = x.dst ∧ mD y (c y.t) + y.credit = mD x (c' x.t) + x.credit := by
      rcases putD_mem hx with rfl | ⟨hx, q⟩
      · exact ⟨d, hd, ht.symm, ho.symm, by rw [ht, hm, hc]⟩
      · exact ⟨x, hx, rfl, rfl, by rw [old x hx (ht ▸ q)]⟩
    obtain ⟨y, hy, e1, e2, e3⟩ := key
    obtain ⟨n, hn', n1, n2, n3⟩ := h.lnk y hy (e2 ▸ h0)
    obtain ⟨n', g1, g2, g3, g4⟩ := up n hn'
    exact ⟨n', g1, by rw [g2, n1, e2], by rw [g3, n2, e1], by rw [← e3, n3, g4]⟩
  · rw [sum_putD (f := fun d => mD d (c d.t)) (f' := fun d => mD d (c' d.t)) hn hd ht (fun x hx q => by rw [old x hx q]), h.tot]
    show 0 - mD d (c d.t) + mD d' (c' d'.t) = 0
    rw [ht, hm]; omega
theorem EI.add {ds : List DocV} {c c' : Tid → List OwnV} (h : EI ds c) {n : DocV} (hfr : ∀ x ∈ ds, x.t ≠ n.t) (h0 : n.dst = tid0) (hi : DocI n (c' n.t)) (hm : mD n (c' n.t) = 0) (hcr : n.credit = 0) (he : ∀ t, t ≠ n.t → c' t = c t) : EI (ds ++ [n]) c' := by
  have mem : ∀ x, x ∈ ds ++ [n] → (x ∈ ds ∧ c' x.t = c x.t) ∨ x = n := fun x hx => by
    rcases List.mem_append.1 hx with hx | hx
    · exact .inl ⟨hx, he _ (hfr x hx)⟩
    · exact .inr (List.mem_singleton.1 hx)
  refine ⟨fun x hx => ?_, fun x hx q => ?_, fun x hx q => ?_, ?_⟩
  · rcases mem x hx with ⟨hx, e⟩ | rfl
    · rw [e]; exact h.doc x hx
    · exact hi
  · rcases mem x hx with ⟨hx, e⟩ | rfl
    · rw [e]; exact h.non x hx q
    · rw [hm, hcr]; rfl
  · rcases mem x hx with ⟨hx, e⟩ | rfl
    · rw [e]
      obtain ⟨y, hy, r⟩ := h.lnk x hx q
      exact ⟨y, List.mem_append_left _ hy, r⟩
    · exact absurd h0 q
  · rw [List.map_append, List.sum_append]
    have : ds.map (fun d => mD d (c' d.t)) = ds.map (fun d => mD d (c d.t)) := List.map_congr_left fun x hx => by rw [he _ (hfr x hx)]
    rw [this, h.tot]
    simp only [List.map_cons, List.map_nil, List.sum_cons, List.sum_nil]
    rw [hm]; rfl
theorem EI.exch {ds : List DocV} {c c' : Tid → List OwnV} (h : EI ds c) (hn : (ds.map (·.t)).Nodup) {d d' n : DocV} (hd : d ∈ ds) (ht : d'.t = d.t) (hf : d'.frm = d.frm) (ho : d.dst = tid0) (ho' : d'.dst = n.t) (hnt : n.t ≠ tid0) (hc : d'.credit = d.credit)
    (hfr : ∀ x ∈ ds, x.t ≠ n.t) (h0 : n.dst = tid0) (hnf : n.frm = d.t)
    (hi : DocI d' (c' d.t)) (hin : DocI n (c' n.t)) (hm : mD d' (c' d.t) = mD d (c d.t) + n.credit) (hmn : mD n (c' n.t) = -n.credit) (he : ∀ t, t ≠ d.t → t ≠ n.t → c' t = c t) : EI (putD ds d' ++ [n]) c' := by
  have old : ∀ x, x ∈ ds → x.t ≠ d.t → c' x.t = c x.t := fun x hx q => he _ q (hfr x hx)
  have mem : ∀ x, x ∈ putD ds d' ++ [n] → x = d' ∨ (x ∈ ds ∧ x.t ≠ d.t ∧ c' x.t = c x.t) ∨ x = n := fun x hx => by
    rcases List.mem_append.1 hx with hx | hx
    · rcases putD_mem hx with rfl | ⟨hx, q⟩
      · exact .inl rfl
      · exact .inr (.inl ⟨hx, ht ▸ q, old x hx (ht ▸ q)⟩)
    · exact .inr (.inr (List.mem_singleton.1 hx))
  have up : ∀ m ∈ ds, ∃ m' ∈ putD ds d' ++ [n], m'.t = m.t ∧ m'.frm = m.frm ∧ m'.credit = m.credit := fun m hm' => by
    rcases putD_in (d := d') hm' with ⟨q, q2⟩ | ⟨q, q2⟩
    · have e : m = d := nodup_eq hn hm' hd (q.trans ht)
      subst e
      exact ⟨d', List.mem_append_left _ q2, ht, hf, hc⟩
    · exact ⟨m, List.mem_append_left _ q2, rfl, rfl, rfl⟩
  have hd0 := h.non d hd ho
  refine ⟨fun x hx => ?_, fun x hx q => ?_, fun x hx q => ?_, ?_⟩
  · rcases mem x hx with rfl | ⟨hx, q, e⟩ | rfl
    · rw [ht]; exact hi
    · rw [e]; exact h.doc x hx
    · exact hin
  · rcases mem x hx with rfl | ⟨hx, q', e⟩ | rfl
    · exact absurd (ho'.symm.trans q) hnt
    · rw [e]; exact h.non x hx q
    · rw [hmn]; omega
  · rcases mem x hx with rfl | ⟨hx, q', e⟩ | rfl
    · exact ⟨n, List.mem_append_right _ (List.mem_singleton.2 rfl), ho'.symm, hnf.trans ht.symm, by rw [ht, hm, hc]; omega⟩
    · obtain ⟨m, hm', m1, m2, m3⟩ := h.lnk x hx q
      obtain ⟨m', g1, g2, g3, g4⟩ := up m hm'
      exact ⟨m', g1, by rw [g2, m1], by rw [g3, m2], by rw [e, m3, g4]⟩
    · exact absurd h0 q
  · rw [List.map_append, List.sum_append, sum_putD (f := fun d => mD d (c d.t)) (f' := fun d => mD d (c' d.t)) hn hd ht (fun x hx q => by rw [old x hx q]), h.tot]
    simp only [List.map_cons, List.map_nil, List.sum_cons, List.sum_nil]
    show 0 - mD d (c d.t) + mD d' (c' d'.t) + (mD n (c' n.t) + 0) = 0
    rw [ht, hm, hmn]; omega
end Go.Proofs.YtdnaegleifhmgaaGreat
end
section
namespace Go.Proofs.YtdnaegleifhmgaaGreat
open Go.RowKit Go.Lib Go.Tk Go.Shelf Go.Vc Go.Sx
theorem sumFrom_val : ∀ (xs : List Int) (s : Int), (sumFrom s xs).2 = 0 → (sumFrom s xs).1 = s + xs.sum
  | [], s, _ => by simp [sumFrom]
  | x :: r, s, h => by
    rcases addI_cases s x with ⟨e, -, -, -, e1⟩ | ⟨e, -, -⟩
    · rw [sumFrom, if_pos e] at h ⊢
      rw [sumFrom_val r _ h, e1, List.sum_cons]; omega
    · rw [sumFrom, if_neg (by rw [e]; decide)] at h
      cases h
theorem addI_val {a b : Int} (h : (addI a b).2 = 0) : (addI a b).1 = a + b := by
  rcases addI_cases a b with ⟨-, -, -, -, e1⟩ | ⟨e, -, -⟩
  · exact e1
  · rw [e] at h; cases h
theorem first2_0 {a b : Int} (h : first2 a b = 0) : a = 0 ∧ b = 0 := by
  unfold first2 at h
  rcases Bool.eq_false_or_eq_true (decide (a = 0)) with e | e
  · rw [e] at h; exact ⟨of_decide_eq_true e, h⟩
  · rw [e] at h; exact absurd h (of_decide_eq_false e)
theorem gifts_sum {pen : Int} (hp : 0 ≤ pen) : ∀ L : List OwnV, (∀ o ∈ L, 0 ≤ o.k.v) → (L.map fun o => giveV o.k.v pen).sum + (L.map fun o => giveK o.k.v pen).sum = (L.map (·.k.v)).sum ∧ 0 ≤ (L.map fun o => giveV o.k.v pen).sum ∧ 0 ≤ (L.map fun o => giveK o.k.v pen).sum
  | [], _ => ⟨rfl, Int.le_refl _, Int.le_refl _⟩
  | o :: L, h => by
    obtain ⟨h1, h2, h3⟩ := gifts_sum hp L fun x hx => h x (List.mem_cons_of_mem _ hx)
    have h0 := h o List.mem_cons_self
    simp only [List.map_cons, List.sum_cons]
    have e1 : giveV o.k.v pen = o.k.v - min o.k.v pen := by unfold giveV; rw [if_neg (by omega)]
    have e2 : giveK o.k.v pen = min o.k.v pen := by unfold giveK; rw [if_neg (by omega)]
    rw [e1, e2]
    refine ⟨by omega, by omega, by omega⟩
structure GiftOk (d : DocV) (L : List OwnV) (g k : Int) : Prop where
  sum : g + k = d.left + ((frL L).map (·.k.v)).sum
  g0 : 0 ≤ g
  k0 : 0 ≤ k
theorem DocI.cv {d : DocV} {L : List OwnV} (h : DocI d L) : ∀ o ∈ L, 0 ≤ o.k.v := fun o ho => h.nn _ (by rw [← h.vals]; exact List.mem_map_of_mem ho)
structure EB (B : BookV) : Prop where
  ex : ExOk B
  ks : KeysIn B
  ei : EI B.docs (coupL B)
theorem EB.nodup {B : BookV} (h : EB B) : (B.docs.map (·.t)).Nodup := h.ex.bk.nodup
theorem turnB_coup (B : BookV) (t : Tid) (s : Int) (d : DocV) : coupL (turnB (B.setD d) t s) t = (coupL B t).map (turnO s) := coupL_turn (B.setD d) t s
theorem turnB_coup_ne (B : BookV) {t t' : Tid} (s : Int) (d : DocV) (h : t' ≠ t) : coupL (turnB (B.setD d) t s) t' = coupL B t' := coupL_turn_ne (B.setD d) s h
theorem turnB_docsD (B : BookV) (t : Tid) (s : Int) (d : DocV) : (turnB (B.setD d) t s).docs = putD B.docs d := turnB_docs _ t s
theorem EB.change {B : BookV} (h : EB B) {d d' : DocV} {s : Int} (hs : 4 < s ∧ s ≤ 7) (hd : d ∈ B.docs) (ht : d'.t = d.t) (hsl : d'.s = d.s) (hv : d'.vals = d.vals) (hf : d'.frm = d.frm) (ho : d'.dst = d.dst) (hc : d'.credit = d.credit) (hp : d'.paid = d.paid)
    (hb : 0 ≤ d'.back) (hk : 0 ≤ d'.kept) (hl : 0 ≤ d'.left) (hl2 : d'.left ≤ d.left) (hm : d'.back + d'.kept + d'.left = d.back + d.kept + d.left + ((frL (coupL B d.t)).map (·.k.v)).sum) : EB (turnB (B.setD d') d.t s) := by
  have hi := h.ei.doc d hd
  refine ⟨(h.ex.setD (by rw [hsl]; exact h.ex.sal d hd) ⟨by rw [hsl]; exact (h.ex.sm d hd).nl, by rw [hsl]; exact (h.ex.sm d hd).nt, by rw [hv]; exact (h.ex.sm d hd).nv⟩).turnB d.t s, (h.ks.setD d').turnB d.t s, ?_⟩
  rw [turnB_docsD]
  have e := turnB_coup B d.t s d'
  refine h.ei.upd h.nodup hd ht hf ho hc ?_ ?_ (fun t q => turnB_coup_ne B s d' q)
  · rw [e]
    refine ⟨by rw [turn_vals, hv]; exact hi.vals, turn_st ⟨by omega, hs.2⟩ hi.st, by rw [hv]; exact hi.nn, by rw [hv, hsl]; exact hi.sum, by rw [hsl]; exact hi.pen, by rw [hp]; exact hi.paid, hb, hk, hl, by have := hi.leftc; rw [hc]; omega, fun q => ?_, by rw [hp, hc, ht]; exact hi.bnd⟩
    rw [hp, hc, hsl]; exact hi.frm (hf ▸ q)
  · rw [e]
    unfold mD
    rw [opL_turn hs.1, hp]; omega
structure MadeI (B : BookV) (s : SaleV) : Prop where
  vl : (shareV s.fare (wsOf s)).length ≤ 4
  op : opL (newL s) = s.fare
  vs : (shareV s.fare (wsOf s)).sum = s.fare
  nn : ∀ v ∈ shareV s.fare (wsOf s), 0 ≤ v
  st : ∀ o ∈ newL s, 1 ≤ o.k.s ∧ o.k.s ≤ 7
  pen : 0 ≤ s.pen
  fare : 0 ≤ s.fare
  many : B.docs.length < 32
theorem made_i {B : BookV} {s : SaleV} (ok : SaleOk s) (hm : B.issE s = 0) : MadeI B s := by
  obtain ⟨-, -, hsh, -⟩ := check_shape (issE_check hm)
  obtain ⟨hS, ha, l1, l4, f0, f1⟩ := shape_share ok hsh
  have hp : 0 ≤ s.pen ∧ s.pen ≤ 1125899906842624 := by
    simp only [shapeB, Bool.and_eq_true] at hsh
    obtain ⟨⟨⟨⟨-, -⟩, h3⟩, -⟩, -⟩ := hsh
    simp only [must3, List.all_cons, List.all_nil, Bool.and_true, Bool.and_eq_true, amtB, decide_eq_true_eq] at h3
    exact h3.2
  have hv : shareV s.fare (wsOf s) = shareL s.fare (wsOf s) := by unfold shareV; rw [if_pos hS]
  have hvs : (shareV s.fare (wsOf s)).sum = s.fare := by rw [hv]; exact shareL_sum _ _ ha
  have st1 : ∀ o ∈ newL s, o.k.s = 1 := fun o ho => by
    unfold newL at ho
    obtain ⟨i, -, rfl⟩ := List.mem_map.1 ho
    rfl
  refine ⟨by rw [shareV_len hS, ws_len]; exact l4, ?_, hvs, fun v hx => ?_, fun o ho => by rw [st1 o ho]; decide, hp.1, f0, issE_many hm⟩
  · unfold opL
    rw [List.filter_eq_self.2 fun o ho => by simp [st1 o ho], newL_vals, hvs]
  · rw [hv] at hx
    obtain ⟨i, hi, rfl⟩ := List.getElem_of_mem hx
    have := (shareL_bds (ws_pos ok) ha f0 (i := i) (by rw [shareL_len] at hi; exact hi)).1
    simpa [List.getD_eq_getElem?_getD, hi] using this
theorem nextT_fresh {B : BookV} (h : BookOk B) : ∀ x ∈ B.docs, x.t ≠ B.nextT := fun x hx e => by
  obtain ⟨j, hj, hjd⟩ := List.getElem_of_mem hx
  have := h.docs j x (by rw [List.getElem?_eq_getElem hj, hjd])
  rw [this] at e
  have e : (⟨B.self, (j : Int) + 1⟩ : Tid) = ⟨B.self, (B.docs.length : Int) + 1⟩ := e
  injection e with _ e
  omega
theorem doc_r {B : BookV} (h : BookOk B) {x : DocV} (hx : x ∈ B.docs) : 1 ≤ x.t.r ∧ x.t.r ≤ B.docs.length := by
  obtain ⟨j, hj, hjd⟩ := List.getElem_of_mem hx
  have := h.docs j x (by rw [List.getElem?_eq_getElem hj, hjd])
  rw [this]
  refine ⟨by show 1 ≤ (j : Int) + 1; omega, by show (j : Int) + 1 ≤ _; omega⟩
theorem EB.issued {B : BookV} (h : EB B) {s : SaleV} (ok : SaleOk s) (hs : s.fare < 1099511627776) (hm : B.issE s = 0) : EB (B.issued s) := by
  have m := made_i ok hm
  refine ⟨h.ex.issued ok hm, h.ks.issued s, ?_⟩
  have e := coupL_issued (s := s) (h.ks.next h.ex.bk) m.vl
  have hvl := newL_vals s
  refine h.ei.add (n := docMade B.nextT s) (nextT_fresh h.ex.bk) rfl ?_ ?_ rfl (fun t q => coupL_issued_ne q)
  · show DocI _ (coupL (B.issued s) B.nextT)
    rw [e]
    have := m.fare
    refine ⟨hvl, m.st, m.nn, m.vs, m.pen, m.fare, Int.le_refl _, Int.le_refl _, Int.le_refl _, Int.le_refl _, fun _ => ⟨rfl, rfl⟩, ?_⟩
    show s.fare + 0 ≤ 1099511627776 * ((B.docs.length : Int) + 1)
    omega
  · show mD _ (coupL (B.issued s) B.nextT) = 0
    rw [e]
    unfold mD
    rw [m.op]
    show s.fare - 0 - 0 - 0 - s.fare = 0
    omega
theorem putD_none {ds : List DocV} {d : DocV} (h : ∀ x ∈ ds, x.t ≠ d.t) : putD ds d = ds := by
  unfold putD
  conv => rhs; rw [← List.map_id ds]
  exact List.map_congr_left fun x hx => by rw [if_neg (h x hx)]; rfl
theorem putD_app (l m : List DocV) (d : DocV) : putD (l ++ m) d = putD l d ++ putD m d := List.map_append
def selL (a b c d : Option OwnV) : List OwnV :=
  match a with
  | none => []
  | some a => match b with
    | none => [a]
    | some b => match c with
      | none => [a, b]
      | some c => match d with
        | none => [a, b, c]
        | some d => [a, b, c, d]
def svO (o : OwnV) : Int × Int := (o.k.s, o.k.v)
theorem selL_stv {a b c d a' b' c' d' : Option OwnV} (h0 : a'.map svO = a.map svO) (h1 : b'.map svO = b.map svO) (h2 : c'.map svO = c.map svO) (h3 : d'.map svO = d.map svO) : stv (selL a' b' c' d') = stv (selL a b c d) := by
  cases a' <;> cases a <;> simp only [Option.map_none, Option.map_some, reduceCtorEq, Option.some.injEq] at h0
  · rfl
  cases b' <;> cases b <;> simp only [Option.map_none, Option.map_some, reduceCtorEq, Option.some.injEq] at h1
  · exact congrArg (fun x => [x]) h0
  cases c' <;> cases c <;> simp only [Option.map_none, Option.map_some, reduceCtorEq, Option.some.injEq] at h2
  · show [svO _, svO _] = [svO _, svO _]
    rw [h0, h1]
  cases d' <;> cases d <;> simp only [Option.map_none, Option.map_some, reduceCtorEq, Option.some.injEq] at h3
  · show [svO _, svO _, svO _] = [svO _, svO _, svO _]
    rw [h0, h1, h2]
  · show [svO _, svO _, svO _, svO _] = [svO _, svO _, svO _, svO _]
    rw [h0, h1, h2, h3]
theorem coupL_sel (B : BookV) (t : Tid) : coupL B t = selL (lkt B.owns ⟨t, 0⟩) (lkt B.owns ⟨t, 1⟩) (lkt B.owns ⟨t, 2⟩) (lkt B.owns ⟨t, 3⟩) := rfl
theorem coupL_setO {B : BookV} {k : Kid} {o o' : OwnV} (h : lkt B.owns k = some o) (e : svO o' = svO o) (t : Tid) : stv (coupL (B.setO k o') t) = stv (coupL B t) := by
  have key : ∀ i : Int, (lkt (B.setO k o').owns ⟨t, i⟩).map svO = (lkt B.owns ⟨t, i⟩).map svO := fun i => by
    rw [setO_some h]
    show (lkt (putt B.owns k o') ⟨t, i⟩).map svO = _
    rw [lkt_put]
    by_cases q : k = ⟨t, i⟩
    · rw [if_pos q, ← q, h]
      show some (svO o') = some (svO o)
      rw [e]
    · rw [if_neg q]
  rw [coupL_sel, coupL_sel]
  exact selL_stv (key 0) (key 1) (key 2) (key 3)
theorem setO_same (B : BookV) (k : Kid) (o : OwnV) : (B.setO k o).docs = B.docs ∧ (B.setO k o).self = B.self ∧ (B.setO k o).n = B.n ∧ (B.setO k o).helds = B.helds := by
  unfold BookV.setO; cases (lkt B.owns k).isSome <;> exact ⟨rfl, rfl, rfl, rfl⟩
theorem ExOk.setO {B : BookV} (h : ExOk B) {k : Kid} {o : OwnV} (ho : OwnOk o) : ExOk (B.setO k o) := by
  obtain ⟨e1, e2, e3, -⟩ := setO_same B k o
  refine ⟨⟨by rw [e2, e3]; exact h.bk.self, by rw [e3]; exact h.bk.n, by rw [e1, e2]; exact h.bk.docs, by rw [e1]; exact h.bk.many⟩, by rw [e1]; exact h.sal, by rw [e1]; exact h.sm, fun k' x hx => ?_⟩
  cases hl : lkt B.owns k with
  | none => rw [setO_none hl] at hx; exact h.own k' x hx
  | some y =>
    rw [setO_some hl] at hx
    have hx : lkt (putt B.owns k o) k' = some x := hx
    rw [lkt_put] at hx
    by_cases q : k = k'
    · rw [if_pos q] at hx; cases hx; exact ho
    · rw [if_neg q] at hx; exact h.own k' x hx
theorem EB.setO {B : BookV} (h : EB B) {k : Kid} {o o' : OwnV} (hl : lkt B.owns k = some o) (e : svO o' = svO o) : EB (B.setO k o') := by
  have ho := h.ex.own k o hl
  have ev : o'.k.v = o.k.v := (Prod.mk.inj e).2
  refine ⟨h.ex.setO (show OwnOk o' from by unfold OwnOk at ho ⊢; rw [ev]; exact ho), h.ks.setO k o', ?_⟩
  rw [(setO_same B k o').1]
  exact h.ei.stv fun t => coupL_setO hl e t
end Go.Proofs.YtdnaegleifhmgaaGreat
end
section
namespace Go.Proofs.YtdnaegleifhmgaaGreat
open Go.RowKit Go.Lib Go.Tk Go.Shelf Go.Vc Go.Sx
def toOw (s : SlipV) : OwnV := ⟨⟨s.l, s.v, s.p.st, s.p.nonce⟩, !(!s.p.way && decide (s.p.car = s.p.key.t.c)), 0, false, false⟩
theorem freeO_toOw (s : SlipV) : freeO (toOw s) = s.free := by
  unfold freeO toOw SlipV.free
  simp only [Bool.not_not, Bool.and_assoc]
def oAt (S : SlipsV) (t : Tid) (i : Nat) : Option OwnV := (lkt S ⟨t, (i : Int)⟩).map toOw
def cS (S : SlipsV) (t : Tid) : List OwnV := (List.range 4).filterMap (oAt S t)
theorem cS_congr {S S' : SlipsV} {t : Tid} (h : ∀ i : Nat, lkt S' ⟨t, (i : Int)⟩ = lkt S ⟨t, (i : Int)⟩) : cS S' t = cS S t := by
  unfold cS
  congr 1
  funext i
  unfold oAt
  rw [h i]
theorem toOw_turn (x : Int) (s : SlipV) : toOw (turnX x s) = turnO x (toOw s) := by
  unfold turnX turnO
  rw [freeO_toOw]
  cases s.free <;> rfl
theorem cS_turn {S S' : SlipsV} {t : Tid} {x : Int} (h : ∀ i : Nat, lkt S' ⟨t, (i : Int)⟩ = (lkt S ⟨t, (i : Int)⟩).map (turnX x)) : cS S' t = (cS S t).map (turnO x) := by
  unfold cS
  rw [List.map_filterMap]
  congr 1
  funext i
  unfold oAt
  rw [h i]
  cases lkt S ⟨t, (i : Int)⟩ with
  | none => rfl
  | some s => exact congrArg some (toOw_turn x s)
def lw (o : OwnV) : Bool × Int := (decide (o.k.s ≤ 4), o.k.v)
theorem cS_lw {S S' : SlipsV} {t : Tid} (h : ∀ i : Nat, (oAt S' t i).map lw = (oAt S t i).map lw) : (cS S' t).map lw = (cS S t).map lw := by
  unfold cS
  rw [List.map_filterMap, List.map_filterMap]
  congr 1
  funext i
  exact h i
theorem opL_lw : ∀ {L M : List OwnV}, L.map lw = M.map lw → opL L = opL M
  | [], [], _ => rfl
  | [], _ :: _, h => by simp at h
  | _ :: _, [], h => by simp at h
  | a :: L, b :: M, h => by
    rw [List.map_cons, List.map_cons] at h
    injection h with h1 h2
    injection h1 with hs hv
    have ih := opL_lw h2
    unfold opL at ih ⊢
    rcases Bool.eq_false_or_eq_true (decide (a.k.s ≤ 4)) with e | e
    · rw [List.filter_cons_of_pos (by simpa using e), List.filter_cons_of_pos (by rw [e] at hs; simpa using hs.symm), List.map_cons, List.map_cons, List.sum_cons, List.sum_cons, ih, hv]
    · rw [List.filter_cons_of_neg (by simpa using e), List.filter_cons_of_neg (by rw [e] at hs; simpa using hs.symm), ih]
theorem vals_lw {L M : List OwnV} (h : L.map lw = M.map lw) : L.map (·.k.v) = M.map (·.k.v) := by
  have := congrArg (List.map Prod.snd) h
  rwa [List.map_map, List.map_map] at this
theorem DocI.lw {d : DocV} {L M : List OwnV} (h : DocI d L) (e : M.map Go.Proofs.YtdnaegleifhmgaaGreat.lw = L.map Go.Proofs.YtdnaegleifhmgaaGreat.lw) (hs : ∀ o ∈ M, 1 ≤ o.k.s ∧ o.k.s ≤ 7) : DocI d M :=
  ⟨(vals_lw e).trans h.vals, hs, h.nn, h.sum, h.pen, h.paid, h.back, h.kept, h.left, h.leftc, h.frm, h.bnd⟩
theorem EI.lw {ds : List DocV} {c c' : Tid → List OwnV} (h : EI ds c) (e : ∀ t, (c' t).map Go.Proofs.YtdnaegleifhmgaaGreat.lw = (c t).map Go.Proofs.YtdnaegleifhmgaaGreat.lw) (hs : ∀ t, ∀ o ∈ c' t, 1 ≤ o.k.s ∧ o.k.s ≤ 7) : EI ds c' := by
  have em : ∀ d, mD d (c' d.t) = mD d (c d.t) := fun d => by unfold mD; rw [opL_lw (e d.t)]
  refine ⟨fun d hd => (h.doc d hd).lw (e d.t) (hs d.t), fun d hd h0 => by rw [em]; exact h.non d hd h0, fun d hd h0 => by rw [em]; exact h.lnk d hd h0, ?_⟩
  rw [show (fun d => mD d (c' d.t)) = fun d => mD d (c d.t) from funext em]; exact h.tot
structure EC (B : LedV) : Prop where
  g : LedG B
  ei : EI B.docs (cS B.slips)
theorem cS_st {B : LedV} (h : LedG B) (t : Tid) : ∀ o ∈ cS B.slips t, 1 ≤ o.k.s ∧ o.k.s ≤ 7 := fun o ho => by
  unfold cS at ho
  obtain ⟨i, -, hi⟩ := List.mem_filterMap.1 ho
  unfold oAt at hi
  cases e : lkt B.slips ⟨t, (i : Int)⟩ with
  | none => rw [e] at hi; cases hi
  | some s => rw [e] at hi; cases hi; exact (h.pl _ _ e).st
theorem lk_tot {B : LedV} (h : LedG B) {d : DocV} (hd : d ∈ B.docs) (i : Nat) : (lkt B.slips ⟨d.t, (i : Int)⟩).isSome = decide (i < d.vals.length) := by
  cases e : (lkt B.slips ⟨d.t, (i : Int)⟩).isSome with
  | true =>
    obtain ⟨d', hd', h1, h2, h3⟩ := (h.keys _).1 e
    have := nd_inj h.ok.nodup hd' hd h1
    subst this
    rw [decide_eq_true]; simpa using h3
  | false =>
    by_cases q : i < d.vals.length
    · have := (h.keys ⟨d.t, (i : Int)⟩).2 ⟨d, hd, rfl, by show 0 ≤ (i : Int); omega, by show (i : Int) < _; omega⟩
      rw [this] at e; cases e
    · rw [decide_eq_false q]
theorem free_cS {B : LedV} (h : LedG B) {d : DocV} (hd : d ∈ B.docs) : (freeN B.slips d.t d.vals.length).map toOw = frL (cS B.slips d.t) := by
  have h4 := h.ok.vals d hd
  have hall : ∀ i, i < d.vals.length → oAt B.slips d.t i = some (toOw (sAt B.slips ⟨d.t, (i : Int)⟩)) := fun i hi => by
    have e := lk_tot h hd i
    rw [decide_eq_true hi] at e
    unfold oAt
    rw [sAt_of e]; rfl
  have hno : ∀ i, ¬ i < d.vals.length → oAt B.slips d.t i = none := fun i hi => by
    have e := lk_tot h hd i
    rw [decide_eq_false hi] at e
    unfold oAt
    cases q : lkt B.slips ⟨d.t, (i : Int)⟩ with
    | none => rfl
    | some s => rw [q] at e; cases e
  have key : cS B.slips d.t = ((List.range d.vals.length).map fun i : Nat => sAt B.slips ⟨d.t, (i : Int)⟩).map toOw := by
    unfold cS
    have e4 : List.range 4 = [0, 1, 2, 3] := rfl
    rw [e4]
    rcases (show d.vals.length = 0 ∨ d.vals.length = 1 ∨ d.vals.length = 2 ∨ d.vals.length = 3 ∨ d.vals.length = 4 by omega) with e | e | e | e | e
    all_goals
      rw [e] at hall hno ⊢
      simp only [List.range_succ, List.range_zero, List.nil_append, List.cons_append, List.map_cons, List.map_nil]
    · simp only [List.filterMap_cons, hno 0 (by decide), hno 1 (by decide), hno 2 (by decide), hno 3 (by decide), List.filterMap_nil]
    · simp only [List.filterMap_cons, hall 0 (by decide), hno 1 (by decide), hno 2 (by decide), hno 3 (by decide), List.filterMap_nil]
    · simp only [List.filterMap_cons, hall 0 (by decide), hall 1 (by decide), hno 2 (by decide), hno 3 (by decide), List.filterMap_nil]
    · simp only [List.filterMap_cons, hall 0 (by decide), hall 1 (by decide), hall 2 (by decide), hno 3 (by decide), List.filterMap_nil]
    · simp only [List.filterMap_cons, hall 0 (by decide), hall 1 (by decide), hall 2 (by decide), hall 3 (by decide), List.filterMap_nil]
  rw [key]
  unfold frL freeN
  have k2 : ∀ L : List SlipV, (L.filter SlipV.free).map toOw = (L.map toOw).filter freeO := fun L => by
    rw [List.filter_map]
    congr 2
    funext s
    exact (freeO_toOw s).symm
  exact k2 _
theorem cgift_ok {B : LedV} (h : EC B) {d : DocV} (hd : d ∈ B.docs) (he : (cgiftV B.slips d d.vals.length).e = 0) : GiftOk d (cS B.slips d.t) (cgiftV B.slips d d.vals.length).g (cgiftV B.slips d d.vals.length).k := by
  have hi := h.ei.doc d hd
  have fc := free_cS h.g hd
  obtain ⟨e1, e2⟩ := first2_0 he
  have hg : (cgiftV B.slips d d.vals.length).g = d.left + ((frL (cS B.slips d.t)).map fun o => giveV o.k.v d.s.pen).sum := by
    show (sumFrom 0 (cgiveL B.slips d d.vals.length)).1 = _
    rw [sumFrom_val _ _ e1]
    unfold cgiveL
    rw [List.sum_cons, Int.zero_add, ← fc, List.map_map]; rfl
  have hk : (cgiftV B.slips d d.vals.length).k = ((frL (cS B.slips d.t)).map fun o => giveK o.k.v d.s.pen).sum := by
    show (sumFrom 0 (ckeepL B.slips d d.vals.length)).1 = _
    rw [sumFrom_val _ _ e2, Int.zero_add, ← fc, List.map_map]; rfl
  obtain ⟨s1, s2, s3⟩ := gifts_sum hi.pen (frL (cS B.slips d.t)) fun o ho => hi.cv o (List.mem_filter.1 ho).1
  have := hi.left
  exact ⟨by rw [hg, hk]; omega, by rw [hg]; omega, by rw [hk]; omega⟩
theorem lkt_turnT {B : LedV} (h : LedG B) {d : DocV} (hd : d ∈ B.docs) (x : Int) (i : Nat) : lkt (cturnN B.slips d.t x d.vals.length) ⟨d.t, (i : Int)⟩ = (lkt B.slips ⟨d.t, (i : Int)⟩).map (turnX x) := by
  rw [lkt_cturnN h.ok.key]
  by_cases q : i < d.vals.length
  · rw [if_pos ⟨rfl, by show 0 ≤ (i : Int); omega, by show (i : Int) < _; omega⟩]
  · rw [if_neg (fun r => q (by have := r.2.2; show i < _; have h2 : (i : Int) < (d.vals.length : Int) := this; omega))]
    have e := lk_tot h hd i
    rw [decide_eq_false q] at e
    cases g : lkt B.slips ⟨d.t, (i : Int)⟩ with
    | none => rfl
    | some s => rw [g] at e; cases e
theorem lkt_turnNe {S : SlipsV} (h : SlipsKey S) {t t' : Tid} (hne : t' ≠ t) (x : Int) (m i : Nat) : lkt (cturnN S t x m) ⟨t', (i : Int)⟩ = lkt S ⟨t', (i : Int)⟩ := by
  rw [lkt_cturnN h, if_neg (fun r => hne r.1)]
theorem EC.change {B : LedV} (h : EC B) {d d' : DocV} {x : Int} (hx : 4 < x ∧ x ≤ 7) (hd : d ∈ B.docs) (ht : d'.t = d.t) (hsl : d'.s = d.s) (hv : d'.vals = d.vals) (hf : d'.frm = d.frm) (ho : d'.dst = d.dst) (hc : d'.credit = d.credit) (hp : d'.paid = d.paid)
    (hb : 0 ≤ d'.back) (hk : 0 ≤ d'.kept) (hl : 0 ≤ d'.left) (hl2 : d'.left ≤ d.left) (hm : d'.back + d'.kept + d'.left = d.back + d.kept + d.left + ((frL (cS B.slips d.t)).map (·.k.v)).sum) {q : LedV} (hq : q = (B.setD d').setS (cturnN B.slips d.t x d.vals.length)) (hg : LedG q) : EC q := by
  subst hq
  have hi := h.ei.doc d hd
  refine ⟨hg, ?_⟩
  have e : cS (cturnN B.slips d.t x d.vals.length) d.t = (cS B.slips d.t).map (turnO x) := cS_turn (lkt_turnT h.g hd x)
  refine h.ei.upd h.g.ok.nodup hd ht hf ho hc ?_ ?_ (fun t q => cS_congr fun i => lkt_turnNe h.g.ok.key q x _ i)
  · show DocI d' (cS (cturnN B.slips d.t x d.vals.length) d.t)
    rw [e]
    refine ⟨by rw [turn_vals, hv]; exact hi.vals, turn_st ⟨by omega, hx.2⟩ hi.st, by rw [hv]; exact hi.nn, by rw [hv, hsl]; exact hi.sum, by rw [hsl]; exact hi.pen, by rw [hp]; exact hi.paid, hb, hk, hl, by have := hi.leftc; rw [hc]; omega, fun q => ?_, by rw [hp, hc, ht]; exact hi.bnd⟩
    rw [hp, hc, hsl]; exact hi.frm (hf ▸ q)
  · show mD d' (cS (cturnN B.slips d.t x d.vals.length) d.t) = _
    rw [e]
    unfold mD
    rw [opL_turn hx.1, hp]; omega
theorem tid0'_eq {t : Tid} (h : tid0B' t = true) : t = tid0 := by
  obtain ⟨c, r⟩ := t
  simp only [tid0B', Bool.and_true, Bool.and_eq_true, decide_eq_true_eq] at h
  obtain ⟨rfl, rfl⟩ := h; rfl
theorem cvoidN_all (S : SlipsV) (t : Tid) : ∀ (n : Nat) (b : Bool), cvoidN S t b n = true → b = true ∧ ∀ i : Nat, i < n → (sAt S ⟨t, (i : Int)⟩).free = true
  | 0, b, h => ⟨h, fun i hi => absurd hi (Nat.not_lt_zero _)⟩
  | n + 1, b, h => by
    have h : (cvoidN S t b n && cvoid (sAt S ⟨t, (n : Int)⟩)) = true := h
    rw [Bool.and_eq_true] at h
    obtain ⟨h1, h2⟩ := cvoidN_all S t n b h.1
    refine ⟨h1, fun i hi => ?_⟩
    by_cases e : i = n
    · subst e
      have := h.2
      unfold cvoid at this
      rw [Bool.and_eq_true] at this
      exact this.1
    · exact h2 i (by omega)
theorem ceVoid_c {B : LedV} (h : EC B) (who : Int) (t : Tid) : EC (ceVoid B who t).b := by
  have hg := (ceVoid_ok h.g (W := fun _ => True) (who := who) (t := t)).g
  unfold ceVoid at hg ⊢
  cases hf : lkD B.docs t with
  | none => exact h
  | some d =>
    rw [hf] at hg
    obtain ⟨hd, rfl⟩ := lkD_mem hf
    have hg : LedG (bif d.t.c != who then failC 4 B else ceVoidD B d.t d).b := hg
    show EC (bif d.t.c != who then failC 4 B else ceVoidD B d.t d).b
    cases hw : (d.t.c != who) with
    | true => exact h
    | false =>
      rw [hw] at hg
      have hg : LedG (ceVoidD B d.t d).b := hg
      show EC (ceVoidD B d.t d).b
      unfold ceVoidD at hg ⊢
      rcases Bool.eq_false_or_eq_true (cvoidN B.slips d.t (tid0B' d.frm) d.vals.length) with e1 | e1 <;> rw [e1] at hg ⊢
      · rcases Bool.eq_false_or_eq_true (decide ((addI d.back d.paid).2 = 0)) with e2 | e2 <;> rw [e2] at hg ⊢
        · have ev := addI_val (of_decide_eq_true e2)
          obtain ⟨v1, v2⟩ := cvoidN_all _ _ _ _ e1
          have hi := h.ei.doc d hd
          have hfr := hi.frm (tid0'_eq v1)
          have hall : frL (cS B.slips d.t) = cS B.slips d.t := by
            refine List.filter_eq_self.2 fun o ho => ?_
            unfold cS at ho
            obtain ⟨i, -, hi⟩ := List.mem_filterMap.1 ho
            unfold oAt at hi
            cases e : lkt B.slips ⟨d.t, (i : Int)⟩ with
            | none => rw [e] at hi; cases hi
            | some s =>
              rw [e] at hi
              cases hi
              rw [freeO_toOw]
              have q := lk_tot h.g hd i
              rw [e] at q
              have := v2 i (of_decide_eq_true q.symm)
              unfold sAt at this
              rw [e] at this
              exact this
          have hb0 := hi.back
          have hp0 := hi.paid
          refine h.change (x := 5) (d' := cvoidD d) (by decide) hd rfl rfl rfl rfl rfl rfl rfl ?_ hi.kept hi.left (Int.le_refl _) ?_ rfl hg
          · show 0 ≤ (addI d.back d.paid).1
            rw [ev]; omega
          · show (addI d.back d.paid).1 + d.kept + d.left = _
            rw [ev, hall, hi.vals, hi.sum, hfr.1]; omega
        · exact h
      · exact h
theorem ceRefund_c {B : LedV} (h : EC B) (who : Int) (t : Tid) : EC (ceRefund B who t).b := by
  have hg := (ceRefund_ok h.g (W := fun _ => True) (who := who) (t := t)).g
  unfold ceRefund at hg ⊢
  cases hf : lkD B.docs t with
  | none => exact h
  | some d =>
    rw [hf] at hg
    obtain ⟨hd, rfl⟩ := lkD_mem hf
    have hg : LedG (bif d.t.c != who then failC 4 B else ceRefundD B d.t d (cgiftV B.slips d d.vals.length)).b := hg
    show EC (bif d.t.c != who then failC 4 B else ceRefundD B d.t d (cgiftV B.slips d d.vals.length)).b
    cases hw : (d.t.c != who) with
    | true => exact h
    | false =>
      rw [hw] at hg
      have hg : LedG (ceRefundD B d.t d (cgiftV B.slips d d.vals.length)).b := hg
      show EC (ceRefundD B d.t d (cgiftV B.slips d d.vals.length)).b
      have go := cgift_ok h hd
      generalize cgiftV B.slips d d.vals.length = x at hg go ⊢
      unfold ceRefundD at hg ⊢
      cases e0 : cnone x d <;> rw [e0] at hg
      · rcases Bool.eq_false_or_eq_true (decide (crefE x d = 0)) with e2 | e2 <;> rw [e2] at hg ⊢
        · have he := of_decide_eq_true e2
          obtain ⟨he1, he2⟩ := first2_0 he
          obtain ⟨he2, he3⟩ := first2_0 he2
          have hi := h.ei.doc d hd
          obtain ⟨g1, g2, g3⟩ := go he1
          have hb0 := hi.back
          have hk0 := hi.kept
          have hl0 := hi.left
          refine h.change (x := 6) (d' := crefD x d) (by decide) hd rfl rfl rfl rfl rfl rfl rfl ?_ ?_ (Int.le_refl _) hi.left ?_ rfl hg
          · show 0 ≤ (addI d.back x.g).1
            rw [addI_val he2]; omega
          · show 0 ≤ (addI d.kept x.k).1
            rw [addI_val he3]; omega
          · show (addI d.back x.g).1 + (addI d.kept x.k).1 + 0 = _
            rw [addI_val he2, addI_val he3]; omega
        · exact h
      · exact h
end Go.Proofs.YtdnaegleifhmgaaGreat
end
