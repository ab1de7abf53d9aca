/- Ex2, Ex3, Ex4, Ex5, Ex6, Ex7, EbP1. -/
import Derived.Test.YtnkghdakjdhhdaaGreatM467ed32
import Derived.Test.YtnkghdakjdhhdaaGreatM528e2f7
set_option maxRecDepth 100000
set_option linter.unusedVariables false
set_option linter.unusedSimpArgs false
set_option linter.unusedSectionVars false
section
namespace Go.Proofs.YtnkghdakjdhhdaaGreat
open Go.RowKit Go.Lib Go.Tk Go.Shelf Go.Vc Go.Sx
def putD (ds : List DocV) (d : DocV) : List DocV := ds.map fun x => if x.t = d.t then d else x
def BookV.setD (B : BookV) (d : DocV) : BookV := { B with docs := putD B.docs d }
end Go.Proofs.YtnkghdakjdhhdaaGreat
end
section
namespace Go.Proofs.YtnkghdakjdhhdaaGreat
open Go.RowKit Go.Lib Go.Tk Go.Shelf Go.Vc Go.Sx
def freeO (o : OwnV) : Bool := !o.away && decide (o.k.s = 1)
def asO (o : OwnV) (s : Int) : OwnV := { o with k := { o.k with s := s } }
def turn1 (B : BookV) (k : Kid) (o : OwnV) (s : Int) : BookV := bif freeO o then B.setO k (asO o s) else B
theorem lkt_turn1 {B : BookV} {k k' : Kid} {o : OwnV} {s : Int} (h : k ≠ k') : lkt (turn1 B k o s).owns k' = lkt B.owns k' := by
  unfold turn1 BookV.setO
  cases freeO o <;> cases (lkt B.owns k).isSome <;> first | rfl | (show lkt (putt B.owns k _) k' = _; rw [lkt_put, if_neg h])
def turnL (s : Int) (t : Tid) : BookV → Int → List OwnV → BookV
  | B, _, [] => B
  | B, i, o :: l => turnL s t (turn1 B ⟨t, i⟩ o s) (i + 1) l
def turnB (B : BookV) (t : Tid) (s : Int) : BookV := turnL s t B 0 (coupL B t)
end Go.Proofs.YtnkghdakjdhhdaaGreat
end
section
namespace Go.Proofs.YtnkghdakjdhhdaaGreat
open Go.RowKit Go.Lib Go.Tk Go.Shelf Go.Vc Go.Sx
def i64V (n : Nat) (l : List Value) : SC := .row 2 1 n (.shal l) []
def OwnOk (o : OwnV) : Prop := -9223372036854775808 ≤ o.k.v ∧ o.k.v ≤ 9223372036854775807
theorem coupL_len (B : BookV) (t : Tid) : (coupL B t).length ≤ 4 := by
  rcases coupL_cases B t with ⟨e, h0⟩ | ⟨a, e, h0, h1⟩ | ⟨a, b, e, h0, h1, h2⟩ | ⟨a, b, c, e, h0, h1, h2, h3⟩ | ⟨a, b, c, x, e, h0, h1, h2, h3⟩ <;> rw [e] <;> simp
end Go.Proofs.YtnkghdakjdhhdaaGreat
end
section
namespace Go.Proofs.YtnkghdakjdhhdaaGreat
open Go.RowKit Go.Lib Go.Tk Go.Shelf Go.Vc Go.Sx
theorem lkD_mem {ds : List DocV} {t : Tid} {d : DocV} (h : lkD ds t = some d) : d ∈ ds ∧ d.t = t := ⟨List.mem_of_find?_eq_some h, by simpa using List.find?_some h⟩
theorem lkD_some {ds : List DocV} {t : Tid} (h : t ∈ ds.map (·.t)) : ∃ d, lkD ds t = some d := by
  obtain ⟨d, hd, rfl⟩ := List.mem_map.1 h
  cases e : lkD ds d.t with
  | some x => exact ⟨x, rfl⟩
  | none => have := List.find?_eq_none.1 e d hd; simp at this
theorem putD_t (ds : List DocV) (d : DocV) : (putD ds d).map (·.t) = ds.map (·.t) := by
  unfold putD
  rw [List.map_map]
  refine List.map_congr_left fun x _ => ?_
  show (if x.t = d.t then d else x).t = x.t
  by_cases e : x.t = d.t
  · rw [if_pos e, e]
  · rw [if_neg e]
theorem BookOk.nodup {B : BookV} (h : BookOk B) : (B.docs.map (·.t)).Nodup := by
  unfold List.Nodup
  rw [List.pairwise_iff_getElem]
  intro i j hi hj hij e
  rw [List.length_map] at hi hj
  rw [List.getElem_map, List.getElem_map] at e
  have h1 := h.docs i _ (List.getElem?_eq_getElem hi)
  have h2 := h.docs j _ (List.getElem?_eq_getElem hj)
  rw [h1, h2] at e
  have := congrArg Tid.r e
  simp only at this
  omega
structure ExOk (B : BookV) : Prop where
  bk : BookOk B
  sal : ∀ d ∈ B.docs, SaleOk d.s
  sm : ∀ d ∈ B.docs, DocSmall d
  own : ∀ k o, lkt B.owns k = some o → OwnOk o
theorem ExOk.coup {B : BookV} (h : ExOk B) (t : Tid) : ∀ o ∈ coupL B t, OwnOk o := by
  rcases coupL_cases B t with ⟨e, h0⟩ | ⟨a, e, h0, h1⟩ | ⟨a, b, e, h0, h1, h2⟩ | ⟨a, b, c, e, h0, h1, h2, h3⟩ | ⟨a, b, c, x, e, h0, h1, h2, h3⟩ <;> rw [e] <;> intro o ho <;> simp only [List.mem_cons, List.not_mem_nil, or_false] at ho
  · subst ho; exact h.own _ _ h0
  · rcases ho with rfl | rfl
    · exact h.own _ _ h0
    · exact h.own _ _ h1
  · rcases ho with rfl | rfl | rfl
    · exact h.own _ _ h0
    · exact h.own _ _ h1
    · exact h.own _ _ h2
  · rcases ho with rfl | rfl | rfl | rfl
    · exact h.own _ _ h0
    · exact h.own _ _ h1
    · exact h.own _ _ h2
    · exact h.own _ _ h3
theorem issE_check {B : BookV} {s : SaleV} (h : B.issE s = 0) : checkE s B.n = 0 := by
  unfold BookV.issE at h
  cases g : decide ((32 : Int) ≤ (B.docs.length : Int)) with
  | true => rw [g] at h; cases h
  | false =>
    rw [g] at h
    have h : makeE B.self ((B.docs.length : Int) + 1) s B.n = 0 := h
    unfold makeE at h
    split at h
    · cases h
    · exact h
end Go.Proofs.YtnkghdakjdhhdaaGreat
end
section
namespace Go.Proofs.YtnkghdakjdhhdaaGreat
open Go.RowKit Go.Lib Go.Tk Go.Shelf Go.Vc Go.Sx
theorem issE_many {B : BookV} {s : SaleV} (h : B.issE s = 0) : B.docs.length < 32 := by
  unfold BookV.issE at h
  cases g : decide ((32 : Int) ≤ (B.docs.length : Int)) with
  | true => rw [g] at h; cases h
  | false => have := of_decide_eq_false g; omega
theorem BookOk.issued {B : BookV} (hb : BookOk B) {s : SaleV} (h : B.issE s = 0) : BookOk (B.issued s) := by
  have hm := issE_many h
  refine ⟨hb.self, hb.n, fun i d hd => ?_, ?_⟩
  · have hd : (B.docs ++ [docMade B.nextT s])[i]? = some d := hd
    rw [List.getElem?_append] at hd
    by_cases hi : i < B.docs.length
    · rw [if_pos hi] at hd; exact hb.docs i d hd
    · rw [if_neg hi] at hd
      have hz : i - B.docs.length = 0 := by
        have := (List.getElem?_eq_some_iff.1 hd).1
        simp at this; omega
      rw [hz] at hd
      cases hd
      show B.nextT = _
      unfold BookV.nextT
      rw [show i = B.docs.length by omega]; rfl
  · show (B.docs ++ [docMade B.nextT s]).length ≤ 32
    rw [List.length_append]; simp; omega
theorem turn1_docs (B : BookV) (k : Kid) (o : OwnV) (s : Int) : (turn1 B k o s).docs = B.docs := by
  unfold turn1
  cases freeO o
  · rfl
  · exact setO_docs B k _
theorem turnL_docs (s : Int) (t : Tid) : ∀ (l : List OwnV) (B : BookV) (i : Int), (turnL s t B i l).docs = B.docs
  | [], B, i => rfl
  | o :: l, B, i => by
    show (turnL s t (turn1 B ⟨t, i⟩ o s) (i + 1) l).docs = _
    rw [turnL_docs s t l, turn1_docs]
theorem turnB_docs (B : BookV) (t : Tid) (s : Int) : (turnB B t s).docs = B.docs := turnL_docs s t _ B 0
end Go.Proofs.YtnkghdakjdhhdaaGreat
end
section
namespace Go.Proofs.YtnkghdakjdhhdaaGreat
open Go.RowKit Go.Lib Go.Tk Go.Shelf Go.Vc Go.Sx
theorem shareL_bds {t : Int} {ws : List Int} (hp : PosRow ws) (ha : 0 < ws.sum) (ht : 0 ≤ t) {i : Nat} (hi : i < ws.length) : 0 ≤ (shareL t ws).getD i 0 ∧ (shareL t ws).getD i 0 ≤ t + 1 := by
  rw [shareL_get _ _ _ hi]
  have hx := posrow_get hp hi
  have e : ws.getD i 0 = ws[i] := by simp [List.getD_eq_getElem?_getD, hi]
  have := wh_bd (t := t) (S := ws.sum) ht ha hx.1 (by rw [e]; exact le_sum ws (fun y hy => (hp y hy).1) _ (List.getElem_mem hi))
  split <;> omega
theorem share_bd {s : SaleV} (ok : SaleOk s) {n : Int} (h : checkE s n = 0) (i : Nat) : 0 ≤ (shareV s.fare (wsOf s)).getD i 0 ∧ (shareV s.fare (wsOf s)).getD i 0 ≤ 1125899906842625 := by
  obtain ⟨-, -, hsh, -⟩ := check_shape h
  obtain ⟨hS, ha, l1, l4, f0, f1⟩ := shape_share ok hsh
  have hv : shareV s.fare (wsOf s) = shareL s.fare (wsOf s) := by unfold shareV; rw [if_pos hS]
  rw [hv]
  by_cases hi : i < (wsOf s).length
  · have := shareL_bds (ws_pos ok) ha f0 hi
    omega
  · rw [List.getD_eq_getElem?_getD, List.getElem?_eq_none (by rw [shareL_len]; omega)]
    exact ⟨Int.le_refl _, by decide⟩
theorem issO_lk (t : Tid) (s : SaleV) (vs : List Int) (L : OwnsV) (k : Kid) : ∀ n, (∃ i : Nat, i < n ∧ k = ⟨t, (i : Int)⟩ ∧ lkt (issO t s vs L n) k = some (ownNew (s.legs.getD i leg0) (vs.getD i 0))) ∨ ((∀ i : Nat, i < n → k ≠ ⟨t, (i : Int)⟩) ∧ lkt (issO t s vs L n) k = lkt L k)
  | 0 => .inr ⟨fun i hi => absurd hi (Nat.not_lt_zero _), rfl⟩
  | n + 1 => by
    have ih := issO_lk t s vs L k n
    have e : issO t s vs L (n + 1) = putt (issO t s vs L n) ⟨t, (n : Int)⟩ (ownNew (s.legs.getD n leg0) (vs.getD n 0)) := rfl
    rw [e, lkt_put]
    by_cases hk : (⟨t, (n : Int)⟩ : Kid) = k
    · rw [if_pos hk]
      exact .inl ⟨n, Nat.lt_succ_self _, hk.symm, rfl⟩
    · rw [if_neg hk]
      rcases ih with ⟨i, hi, h1, h2⟩ | ⟨h1, h2⟩
      · exact .inl ⟨i, by omega, h1, h2⟩
      · exact .inr ⟨fun i hi => by
          by_cases q : i = n
          · subst q; exact fun e => hk e.symm
          · exact h1 i (by omega), h2⟩
theorem ExOk.issued {B : BookV} (h : ExOk B) {s : SaleV} (ok : SaleOk s) (hm : B.issE s = 0) : ExOk (B.issued s) := by
  have hc := issE_check hm
  obtain ⟨-, -, hsh, -⟩ := check_shape hc
  obtain ⟨hS, ha, l1, l4, f0, f1⟩ := shape_share ok hsh
  have hvl : (shareV s.fare (wsOf s)).length = s.legs.length := by rw [shareV_len hS, ws_len]
  have hd : ∀ d ∈ (B.issued s).docs, d ∈ B.docs ∨ d = docMade B.nextT s := fun d hd => by
    have hd : d ∈ B.docs ++ [docMade B.nextT s] := hd
    rcases List.mem_append.1 hd with q | q
    · exact .inl q
    · exact .inr (List.mem_singleton.1 q)
  refine ⟨h.bk.issued hm, fun d q => ?_, fun d q => ?_, fun k o ho => ?_⟩
  · rcases hd d q with q | rfl
    · exact h.sal d q
    · exact ok
  · rcases hd d q with q | rfl
    · exact h.sm d q
    · exact ⟨by have := ok.nl; show s.legs.length ≤ _; omega, by have := ok.nt; show s.taxes.length ≤ _; omega, by show (shareV s.fare (wsOf s)).length ≤ _; omega⟩
  · have ho : lkt (issO B.nextT s (shareV s.fare (wsOf s)) B.owns (shareV s.fare (wsOf s)).length) k = some o := ho
    rcases issO_lk B.nextT s (shareV s.fare (wsOf s)) B.owns k (shareV s.fare (wsOf s)).length with ⟨i, hi, -, h2⟩ | ⟨-, h2⟩
    · rw [h2] at ho
      cases ho
      have := share_bd ok hc i
      show -9223372036854775808 ≤ (shareV s.fare (wsOf s)).getD i 0 ∧ (shareV s.fare (wsOf s)).getD i 0 ≤ 9223372036854775807
      omega
    · rw [h2] at ho
      exact h.own k o ho
theorem ExOk.setD {B : BookV} (h : ExOk B) {d : DocV} (ok : SaleOk d.s) (sm : DocSmall d) : ExOk (B.setD d) := by
  have hd : ∀ x ∈ (B.setD d).docs, x ∈ B.docs ∨ x = d := fun x hx => by
    obtain ⟨y, hy, e⟩ := List.mem_map.1 (show x ∈ putD B.docs d from hx)
    by_cases q : y.t = d.t
    · rw [if_pos q] at e; exact .inr e.symm
    · rw [if_neg q] at e; exact .inl (e ▸ hy)
  refine ⟨⟨h.bk.self, h.bk.n, fun i x hx => ?_, ?_⟩, fun x q => ?_, fun x q => ?_, h.own⟩
  · have e := putD_t B.docs d
    have h1 : ((putD B.docs d).map (·.t))[i]? = some x.t := by rw [List.getElem?_map, show (putD B.docs d)[i]? = some x from hx]; rfl
    rw [e, List.getElem?_map] at h1
    cases h2 : B.docs[i]? with
    | none => rw [h2] at h1; cases h1
    | some y =>
      rw [h2] at h1
      have h3 := h.bk.docs i y h2
      show x.t = ⟨B.self, (i : Int) + 1⟩
      rw [← h3]
      simpa using h1.symm
  · show (putD B.docs d).length ≤ 32
    unfold putD; rw [List.length_map]; exact h.bk.many
  · rcases hd x q with q | rfl
    · exact h.sal x q
    · exact ok
  · rcases hd x q with q | rfl
    · exact h.sm x q
    · exact sm
theorem ExOk.turn1 {B : BookV} (h : ExOk B) {k : Kid} {o : OwnV} (ho : OwnOk o) (s : Int) : ExOk (turn1 B k o s) := by
  have hd := turn1_docs B k o s
  have hs : (Go.Proofs.YtnkghdakjdhhdaaGreat.turn1 B k o s).self = B.self ∧ (Go.Proofs.YtnkghdakjdhhdaaGreat.turn1 B k o s).n = B.n := by
    unfold Go.Proofs.YtnkghdakjdhhdaaGreat.turn1 BookV.setO
    cases freeO o <;> cases (lkt B.owns k).isSome <;> exact ⟨rfl, rfl⟩
  refine ⟨⟨by rw [hs.1, hs.2]; exact h.bk.self, by rw [hs.2]; exact h.bk.n, by rw [hd, hs.1]; exact h.bk.docs, by rw [hd]; exact h.bk.many⟩, by rw [hd]; exact h.sal, by rw [hd]; exact h.sm, fun k' x hx => ?_⟩
  unfold Go.Proofs.YtnkghdakjdhhdaaGreat.turn1 BookV.setO at hx
  cases hf : freeO o
  · rw [hf] at hx; exact h.own k' x hx
  · rw [hf] at hx
    cases hl : (lkt B.owns k).isSome
    · rw [hl] at hx; exact h.own k' x hx
    · rw [hl] at hx
      have hx : lkt (putt B.owns k (asO o s)) k' = some x := hx
      rw [lkt_put] at hx
      by_cases e : k = k'
      · rw [if_pos e] at hx; cases hx; exact ho
      · rw [if_neg e] at hx; exact h.own k' x hx
theorem ExOk.turnL (s : Int) (t : Tid) : ∀ (l : List OwnV) {B : BookV} (i : Int), ExOk B → (∀ o ∈ l, OwnOk o) → ExOk (turnL s t B i l)
  | [], B, i, h, _ => h
  | o :: l, B, i, h, hl => ExOk.turnL s t l (i + 1) (h.turn1 (k := ⟨t, i⟩) (hl o List.mem_cons_self) s) fun x hx => hl x (List.mem_cons_of_mem _ hx)
theorem ExOk.turnB {B : BookV} (h : ExOk B) (t : Tid) (s : Int) : ExOk (turnB B t s) := ExOk.turnL s t _ 0 h (h.coup t)
theorem new_ex (self n : Int) (h : 0 ≤ self ∧ self < n ∧ 2 ≤ n ∧ n ≤ 8) : ExOk (bookNew self n) := ⟨book_new_ok self n h, (fun d hd => by cases hd), (fun d hd => by cases hd), (fun k o ho => by cases ho)⟩
end Go.Proofs.YtnkghdakjdhhdaaGreat
end
section
namespace Go.Proofs.YtnkghdakjdhhdaaGreat
open Go.RowKit Go.Lib Go.Tk Go.Shelf Go.Vc Go.Sx
theorem coupL_get {B : BookV} {t : Tid} {i : Nat} (h : i < (coupL B t).length) : lkt B.owns ⟨t, (i : Int)⟩ = some ((coupL B t).getD i own0) := by
  rcases coupL_cases B t with ⟨e, h0⟩ | ⟨a, e, h0, h1⟩ | ⟨a, b, e, h0, h1, h2⟩ | ⟨a, b, c, e, h0, h1, h2, h3⟩ | ⟨a, b, c, d, e, h0, h1, h2, h3⟩ <;> rw [e] at h ⊢ <;> simp only [List.length_cons, List.length_nil] at h
  · omega
  · obtain rfl : i = 0 := by omega
    exact h0
  · rcases (show i = 0 ∨ i = 1 by omega) with rfl | rfl
    · exact h0
    · exact h1
  · rcases (show i = 0 ∨ i = 1 ∨ i = 2 by omega) with rfl | rfl | rfl
    · exact h0
    · exact h1
    · exact h2
  · rcases (show i = 0 ∨ i = 1 ∨ i = 2 ∨ i = 3 by omega) with rfl | rfl | rfl | rfl
    · exact h0
    · exact h1
    · exact h2
    · exact h3
theorem coupL_end (B : BookV) (t : Tid) : (coupL B t).length = 4 ∨ lkt B.owns ⟨t, ((coupL B t).length : Int)⟩ = none := by
  rcases coupL_cases B t with ⟨e, h0⟩ | ⟨a, e, h0, h1⟩ | ⟨a, b, e, h0, h1, h2⟩ | ⟨a, b, c, e, h0, h1, h2, h3⟩ | ⟨a, b, c, d, e, h0, h1, h2, h3⟩ <;> rw [e]
  · exact .inr h0
  · exact .inr h1
  · exact .inr h2
  · exact .inr h3
  · exact .inl rfl
theorem coupL_of {B : BookV} {t : Tid} {L : List OwnV} (hl : L.length ≤ 4) (h : ∀ i, i < L.length → lkt B.owns ⟨t, (i : Int)⟩ = some (L.getD i own0)) (he : L.length = 4 ∨ lkt B.owns ⟨t, (L.length : Int)⟩ = none) : coupL B t = L := by
  match L, hl, h, he with
  | [], _, h, he =>
    have h0 : lkt B.owns ⟨t, 0⟩ = none := he.elim (fun e => by cases e) id
    unfold coupL; rw [h0]
  | [a], _, h, he =>
    have h0 : lkt B.owns ⟨t, 0⟩ = some a := h 0 (by simp)
    have h1 : lkt B.owns ⟨t, 1⟩ = none := he.elim (fun e => by cases e) id
    unfold coupL; rw [h0, h1]
  | [a, b], _, h, he =>
    have h0 : lkt B.owns ⟨t, 0⟩ = some a := h 0 (by simp)
    have h1 : lkt B.owns ⟨t, 1⟩ = some b := h 1 (by simp)
    have h2 : lkt B.owns ⟨t, 2⟩ = none := he.elim (fun e => by cases e) id
    unfold coupL; rw [h0, h1, h2]
  | [a, b, c], _, h, he =>
    have h0 : lkt B.owns ⟨t, 0⟩ = some a := h 0 (by simp)
    have h1 : lkt B.owns ⟨t, 1⟩ = some b := h 1 (by simp)
    have h2 : lkt B.owns ⟨t, 2⟩ = some c := h 2 (by simp)
    have h3 : lkt B.owns ⟨t, 3⟩ = none := he.elim (fun e => by cases e) id
    unfold coupL; rw [h0, h1, h2, h3]
  | [a, b, c, d], _, h, he =>
    have h0 : lkt B.owns ⟨t, 0⟩ = some a := h 0 (by simp)
    have h1 : lkt B.owns ⟨t, 1⟩ = some b := h 1 (by simp)
    have h2 : lkt B.owns ⟨t, 2⟩ = some c := h 2 (by simp)
    have h3 : lkt B.owns ⟨t, 3⟩ = some d := h 3 (by simp)
    unfold coupL; rw [h0, h1, h2, h3]
  | a :: b :: c :: d :: e :: l, hl, _, _ => simp at hl
theorem coupL_same {B C : BookV} {t : Tid} (h : ∀ i : Int, lkt C.owns ⟨t, i⟩ = lkt B.owns ⟨t, i⟩) : coupL C t = coupL B t := by
  unfold coupL; rw [h 0, h 1, h 2, h 3]
def turnO (s : Int) (o : OwnV) : OwnV := bif freeO o then asO o s else o
theorem turn1_at {B : BookV} {k : Kid} {o : OwnV} {s : Int} (h : lkt B.owns k = some o) : lkt (turn1 B k o s).owns k = some (turnO s o) := by
  unfold turn1 turnO
  cases freeO o
  · exact h
  · show lkt (B.setO k (asO o s)).owns k = _
    rw [setO_some h]
    show lkt (putt B.owns k _) k = _
    rw [lkt_put, if_pos rfl]; rfl
theorem turnL_other {s : Int} {t : Tid} {k : Kid} : ∀ (l : List OwnV) (B : BookV) (i : Int), (∀ j : Nat, j < l.length → k ≠ ⟨t, i + (j : Int)⟩) → lkt (turnL s t B i l).owns k = lkt B.owns k
  | [], _, _, _ => rfl
  | o :: l, B, i, h => by
    show lkt (turnL s t (turn1 B ⟨t, i⟩ o s) (i + 1) l).owns k = _
    rw [turnL_other l _ (i + 1) (fun j hj => by
      have := h (j + 1) (by simp only [List.length_cons]; omega)
      rwa [show i + 1 + (j : Int) = i + ((j + 1 : Nat) : Int) by omega])]
    exact lkt_turn1 (fun e => h 0 (by simp) (by rw [← e]; simp))
theorem turnL_at {s : Int} {t : Tid} : ∀ (l : List OwnV) (B : BookV) (i : Int), (∀ j : Nat, j < l.length → lkt B.owns ⟨t, i + (j : Int)⟩ = some (l.getD j own0)) → ∀ j : Nat, j < l.length → lkt (turnL s t B i l).owns ⟨t, i + (j : Int)⟩ = some (turnO s (l.getD j own0))
  | [], _, _, _, j, hj => absurd hj (Nat.not_lt_zero _)
  | o :: l, B, i, h, j, hj => by
    have h0 : lkt B.owns ⟨t, i⟩ = some o := by have := h 0 (by simp); simpa using this
    have hne : ∀ j : Nat, (⟨t, i⟩ : Kid) ≠ ⟨t, i + 1 + (j : Int)⟩ := fun j e => by injection e with _ e; omega
    show lkt (turnL s t (turn1 B ⟨t, i⟩ o s) (i + 1) l).owns _ = _
    cases j with
    | zero =>
      have := turnL_other (s := s) (t := t) (k := ⟨t, i⟩) l (turn1 B ⟨t, i⟩ o s) (i + 1) (fun j _ => hne j)
      rw [turn1_at h0] at this
      simpa using this
    | succ j =>
      have := turnL_at (s := s) (t := t) l (turn1 B ⟨t, i⟩ o s) (i + 1) (fun j hj => by
        rw [lkt_turn1 (hne j)]
        have := h (j + 1) (by simp only [List.length_cons]; omega)
        rw [show i + 1 + (j : Int) = i + ((j + 1 : Nat) : Int) by omega]
        simpa using this) j (by simpa using hj)
      rw [show i + ((j + 1 : Nat) : Int) = i + 1 + (j : Int) by omega]
      simpa using this
theorem turnB_at {B : BookV} {t : Tid} {s : Int} {i : Nat} (h : i < (coupL B t).length) : lkt (turnB B t s).owns ⟨t, (i : Int)⟩ = some (turnO s ((coupL B t).getD i own0)) := by
  have := turnL_at (s := s) (t := t) (coupL B t) B 0 (fun j hj => by rw [Int.zero_add]; exact coupL_get hj) i h
  rwa [Int.zero_add] at this
theorem turnB_other {B : BookV} {t : Tid} {s : Int} {k : Kid} (h : ∀ i : Nat, i < (coupL B t).length → k ≠ ⟨t, (i : Int)⟩) : lkt (turnB B t s).owns k = lkt B.owns k :=
  turnL_other (coupL B t) B 0 fun j hj => by rw [Int.zero_add]; exact h j hj
theorem coupL_turn (B : BookV) (t : Tid) (s : Int) : coupL (turnB B t s) t = (coupL B t).map (turnO s) := by
  refine coupL_of (by rw [List.length_map]; exact coupL_len B t) (fun i hi => ?_) ?_
  · rw [List.length_map] at hi
    rw [turnB_at hi]
    congr 1
    rw [List.getD_eq_getElem?_getD, List.getD_eq_getElem?_getD, List.getElem?_map, List.getElem?_eq_getElem hi]; rfl
  · rw [List.length_map]
    rcases coupL_end B t with h | h
    · exact .inl h
    · refine .inr ?_
      rw [turnB_other (fun i hi e => by injection e with _ e; omega)]; exact h
theorem coupL_turn_ne (B : BookV) {t t' : Tid} (s : Int) (h : t' ≠ t) : coupL (turnB B t s) t' = coupL B t' :=
  coupL_same fun i => turnB_other fun j _ e => h (by injection e)
def newL (s : SaleV) : List OwnV := (List.range (shareV s.fare (wsOf s)).length).map fun i => ownNew (s.legs.getD i leg0) ((shareV s.fare (wsOf s)).getD i 0)
theorem newL_len (s : SaleV) : (newL s).length = (shareV s.fare (wsOf s)).length := by unfold newL; simp
theorem newL_get {s : SaleV} {i : Nat} (h : i < (shareV s.fare (wsOf s)).length) : (newL s).getD i own0 = ownNew (s.legs.getD i leg0) ((shareV s.fare (wsOf s)).getD i 0) := by
  unfold newL
  rw [List.getD_eq_getElem?_getD, List.getElem?_map, List.getElem?_range h]; rfl
theorem newL_vals (s : SaleV) : (newL s).map (·.k.v) = shareV s.fare (wsOf s) := by
  refine List.ext_getElem? fun i => ?_
  by_cases h : i < (shareV s.fare (wsOf s)).length
  · unfold newL
    rw [List.map_map, List.getElem?_map, List.getElem?_range h]
    show some ((shareV s.fare (wsOf s)).getD i 0) = _
    rw [List.getD_eq_getElem?_getD, List.getElem?_eq_getElem h]; rfl
  · rw [List.getElem?_eq_none (by rw [List.length_map, newL_len]; omega), List.getElem?_eq_none (by omega)]
theorem coupL_issued {B : BookV} {s : SaleV} (hn : ∀ i : Int, lkt B.owns ⟨B.nextT, i⟩ = none) (hl : (shareV s.fare (wsOf s)).length ≤ 4) : coupL (B.issued s) B.nextT = newL s := by
  refine coupL_of (by rw [newL_len]; exact hl) (fun i hi => ?_) ?_
  · rw [newL_len] at hi
    show lkt (issO B.nextT s (shareV s.fare (wsOf s)) B.owns (shareV s.fare (wsOf s)).length) _ = _
    rcases issO_lk B.nextT s (shareV s.fare (wsOf s)) B.owns ⟨B.nextT, (i : Int)⟩ (shareV s.fare (wsOf s)).length with ⟨j, hj, e, h⟩ | ⟨h, -⟩
    · injection e with _ e
      have e : i = j := by omega
      subst e
      rw [h, newL_get hi]
    · exact absurd rfl (h i hi)
  · refine .inr ?_
    rw [newL_len]
    show lkt (issO B.nextT s (shareV s.fare (wsOf s)) B.owns (shareV s.fare (wsOf s)).length) _ = _
    rcases issO_lk B.nextT s (shareV s.fare (wsOf s)) B.owns ⟨B.nextT, ((shareV s.fare (wsOf s)).length : Int)⟩ (shareV s.fare (wsOf s)).length with ⟨j, hj, e, h⟩ | ⟨-, h⟩
    · injection e with _ e; omega
    · rw [h]; exact hn _
theorem coupL_issued_ne {B : BookV} {s : SaleV} {t : Tid} (h : t ≠ B.nextT) : coupL (B.issued s) t = coupL B t := by
  refine coupL_same fun i => ?_
  show lkt (issO B.nextT s (shareV s.fare (wsOf s)) B.owns (shareV s.fare (wsOf s)).length) _ = _
  rcases issO_lk B.nextT s (shareV s.fare (wsOf s)) B.owns ⟨t, i⟩ (shareV s.fare (wsOf s)).length with ⟨j, hj, e, -⟩ | ⟨-, h'⟩
  · injection e with e _; exact absurd e h
  · exact h'
def KeysIn (B : BookV) : Prop := ∀ k o, lkt B.owns k = some o → ∃ d ∈ B.docs, d.t = k.t
theorem KeysIn.next {B : BookV} (h : KeysIn B) (hb : BookOk B) (i : Int) : lkt B.owns ⟨B.nextT, i⟩ = none := by
  cases e : lkt B.owns ⟨B.nextT, i⟩ with
  | none => rfl
  | some o =>
    obtain ⟨d, hd, ht⟩ := h _ _ e
    obtain ⟨j, hj, hjd⟩ := List.getElem_of_mem hd
    have := hb.docs j d (by rw [List.getElem?_eq_getElem hj, hjd])
    rw [this] at ht
    have ht : (⟨B.self, (j : Int) + 1⟩ : Tid) = ⟨B.self, (B.docs.length : Int) + 1⟩ := ht
    injection ht with _ ht
    omega
theorem putD_mem_t {ds : List DocV} {d : DocV} {t : Tid} (h : ∃ x ∈ ds, x.t = t) : ∃ x ∈ putD ds d, x.t = t := by
  obtain ⟨x, hx, e⟩ := h
  have : t ∈ (putD ds d).map (·.t) := by rw [putD_t]; exact e ▸ List.mem_map_of_mem hx
  obtain ⟨y, hy, he⟩ := List.mem_map.1 this
  exact ⟨y, hy, he⟩
theorem KeysIn.setD {B : BookV} (h : KeysIn B) (d : DocV) : KeysIn (B.setD d) := fun k o hk => putD_mem_t (h k o hk)
theorem KeysIn.setO {B : BookV} (h : KeysIn B) (k : Kid) (o : OwnV) : KeysIn (B.setO k o) := by
  unfold BookV.setO
  cases e : lkt B.owns k with
  | none => exact h
  | some x =>
    intro k' o' h'
    have h' : lkt (putt B.owns k o) k' = some o' := h'
    rw [lkt_put] at h'
    by_cases q : k = k'
    · subst q; exact h k x e
    · rw [if_neg q] at h'; exact h k' o' h'
theorem KeysIn.turn1 {B : BookV} (h : KeysIn B) (k : Kid) (o : OwnV) (s : Int) : KeysIn (turn1 B k o s) := by
  unfold Go.Proofs.YtnkghdakjdhhdaaGreat.turn1
  cases freeO o
  · exact h
  · exact h.setO k _
theorem KeysIn.turnL (s : Int) (t : Tid) : ∀ (l : List OwnV) {B : BookV} (i : Int), KeysIn B → KeysIn (turnL s t B i l)
  | [], _, _, h => h
  | o :: l, B, i, h => KeysIn.turnL s t l (i + 1) (h.turn1 ⟨t, i⟩ o s)
theorem KeysIn.turnB {B : BookV} (h : KeysIn B) (t : Tid) (s : Int) : KeysIn (turnB B t s) := KeysIn.turnL s t _ 0 h
theorem KeysIn.issued {B : BookV} (h : KeysIn B) (s : SaleV) : KeysIn (B.issued s) := by
  intro k o hk
  have hk : lkt (issO B.nextT s (shareV s.fare (wsOf s)) B.owns (shareV s.fare (wsOf s)).length) k = some o := hk
  rcases issO_lk B.nextT s (shareV s.fare (wsOf s)) B.owns k (shareV s.fare (wsOf s)).length with ⟨j, hj, e, -⟩ | ⟨-, h'⟩
  · exact ⟨docMade B.nextT s, List.mem_append_right _ (List.mem_singleton.2 rfl), by rw [e]; rfl⟩
  · rw [h'] at hk
    obtain ⟨d, hd, ht⟩ := h k o hk
    exact ⟨d, List.mem_append_left _ hd, ht⟩
end Go.Proofs.YtnkghdakjdhhdaaGreat
end
