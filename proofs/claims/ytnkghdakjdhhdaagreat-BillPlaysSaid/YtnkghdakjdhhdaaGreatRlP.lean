/- A book and the document's: what they have is alike, plain. -/
import Derived.Test.YtnkghdakjdhhdaaGreatM0eb1c47
import Derived.Test.YtnkghdakjdhhdaaGreatMeae63ca
import Derived.Test.YtnkghdakjdhhdaaGreatM88b8626
namespace Go.Proofs.YtnkghdakjdhhdaaGreat
set_option maxRecDepth 100000
open Go.RowKit Go.Lib Go.Tk Go.Shelf Go.Vc Go.Sx
set_option linter.unusedVariables false
set_option linter.unusedSimpArgs false
structure RelB (B : BookV) (R : RefV) : Prop where
  self : R.self = B.self
  n : R.n = B.n
  docs : R.docs.map (·.1) = B.docs
  own : ∀ k, lkt R.owns k = lkt B.owns k
  ownN : (R.owns.map (·.1)).Nodup
  ownK : ∀ p ∈ R.owns, KidOk p.1 ∧ p.1.t.r ≤ (R.docs.length : Int)
  held : ∀ k, lkt R.helds k = lkt B.helds k
  keys : R.helds.map (·.1) = keysL B
theorem RelB.dlen {B : BookV} {R : RefV} (h : RelB B R) : R.docs.length = B.docs.length := by rw [← h.docs, List.length_map]
theorem RelB.hlen {B : BookV} {R : RefV} (h : RelB B R) : R.helds.length = B.helds.length := by
  have := congrArg List.length h.keys
  rw [List.length_map, keysL_len] at this
  exact this
theorem new_rel (self n : Int) : RelB (bookNew self n) (refNew self n) := ⟨rfl, rfl, rfl, fun _ => rfl, List.nodup_nil, (fun p hp => by cases hp), fun _ => rfl, by show ([] : List Kid) = sortBy cfK []; unfold sortBy; simp⟩
theorem lkt_append {κ α : Type} [DecidableEq κ] (L M : List (κ × α)) (k : κ) : lkt (L ++ M) k = (lkt L k).or (lkt M k) := by
  induction L with
  | nil => rfl
  | cons p l ih =>
    show (if p.1 = k then some p.2 else lkt (l ++ M) k) = (if p.1 = k then some p.2 else lkt l k).or (lkt M k)
    by_cases q : p.1 = k
    · rw [if_pos q, if_pos q]; rfl
    · rw [if_neg q, if_neg q, ih]
theorem issR_at {t : Tid} {s : SaleV} {vs : List Int} {L : List (Kid × OwnV)} (hf : ∀ p ∈ L, p.1.t ≠ t) : ∀ (i : Nat) (p : Kid × OwnV), p ∈ issR t s vs L i → p ∈ L ∨ (p.1.t = t ∧ 0 ≤ p.1.i ∧ p.1.i < (i : Int))
  | 0, p, h => .inl h
  | i + 1, p, h => by
    rcases List.mem_append.1 (show p ∈ issR t s vs L i ++ [_] from h) with h | h
    · rcases issR_at hf i p h with h | ⟨h1, h2, h3⟩
      · exact .inl h
      · exact .inr ⟨h1, h2, by omega⟩
    · rw [List.mem_singleton] at h
      subst h
      exact .inr ⟨rfl, by show 0 ≤ (i : Int); omega, by show (i : Int) < ((i + 1 : Nat) : Int); omega⟩
theorem iss_rel {t : Tid} {s : SaleV} {vs : List Int} {L M : List (Kid × OwnV)} (hf : ∀ p ∈ L, p.1.t ≠ t) (h : ∀ k, lkt L k = lkt M k) (hn : (L.map (·.1)).Nodup) : ∀ i, (∀ k, lkt (issR t s vs L i) k = lkt (issO t s vs M i) k) ∧ ((issR t s vs L i).map (·.1)).Nodup
  | 0 => ⟨h, hn⟩
  | i + 1 => by
    obtain ⟨h1, h2⟩ := iss_rel hf h hn i
    have hno : (⟨t, (i : Int)⟩ : Kid) ∉ (issR t s vs L i).map (·.1) := fun hm => by
      obtain ⟨p, hp, e⟩ := List.mem_map.1 hm
      rcases issR_at hf i p hp with hp | ⟨e1, e2, e3⟩
      · exact hf p hp (by rw [e])
      · rw [e] at e3
        have e3 : (i : Int) < (i : Int) := e3
        omega
    constructor
    · intro k
      show lkt (issR t s vs L i ++ [_]) k = lkt (putt (issO t s vs M i) _ _) k
      rw [lkt_append, lkt_put, ← h1]
      by_cases q : (⟨t, (i : Int)⟩ : Kid) = k
      · subst q
        rw [lkt_none.2 hno, if_pos rfl]
        show lkt [_] _ = _
        unfold lkt
        rw [if_pos rfl]
      · rw [if_neg q]
        have : lkt [((⟨t, (i : Int)⟩ : Kid), ownNew (s.legs.getD i leg0) (vs.getD i 0))] k = none := by
          unfold lkt
          rw [if_neg q]; rfl
        rw [this]
        cases lkt (issR t s vs L i) k <;> rfl
    · show ((issR t s vs L i ++ [((⟨t, (i : Int)⟩ : Kid), ownNew (s.legs.getD i leg0) (vs.getD i 0))]).map (fun q : Kid × OwnV => q.1)).Nodup
      rw [List.map_append, List.nodup_append]
      exact ⟨h2, by simp, fun x hx y hy e => by simp only [List.map_cons, List.map_nil, List.mem_singleton] at hy; rw [e, hy] at hx; exact hno hx⟩
theorem RelB.issE {B : BookV} {R : RefV} (h : RelB B R) (s : SaleV) : R.issE s = B.issE s := by unfold RefV.issE BookV.issE; rw [h.dlen, h.self, h.n]
theorem RelB.nextT {B : BookV} {R : RefV} (h : RelB B R) : R.nextT = B.nextT := by unfold RefV.nextT BookV.nextT; rw [h.dlen, h.self]
theorem RelB.issue {B : BookV} {R : RefV} (h : RelB B R) (hb : BookOk B) {s : SaleV} (ok : SaleOk s) (A : SaleA) : RelB (B.issue s) (R.issue s A) := by
  unfold BookV.issue RefV.issue
  rw [h.issE]
  by_cases e : B.issE s = 0
  case neg => rw [decide_eq_false e]; exact h
  rw [decide_eq_true e]
  have hr := R.issE_ok ok (by rw [h.issE]; exact e)
  have hlen : (R.docs ++ [(docMade R.nextT s, A)]).length = R.docs.length + 1 := by rw [List.length_append]; rfl
  have hf : ∀ p ∈ R.owns, p.1.t ≠ B.nextT := fun p hp e => by
    have := (h.ownK p hp).2
    rw [e] at this
    have : (B.docs.length : Int) + 1 ≤ (R.docs.length : Int) := this
    rw [h.dlen] at this
    omega
  have t0 : TidOk B.nextT := ⟨by have := hb.self; have := hb.n; show 0 ≤ B.self ∧ B.self ≤ 255; omega, by show 0 ≤ (B.docs.length : Int) + 1; omega, by have := hb.many; show (B.docs.length : Int) + 1 ≤ _; omega⟩
  obtain ⟨h1, h2⟩ := iss_rel (t := B.nextT) (s := s) (vs := shareV s.fare (wsOf s)) hf h.own h.ownN (shareV s.fare (wsOf s)).length
  refine ⟨h.self, h.n, ?_, ?_, ?_, ?_, h.held, h.keys⟩
  · show (R.docs ++ [(docMade R.nextT s, A)]).map (fun q : DocV × SaleA => q.1) = B.docs ++ [docMade B.nextT s]
    rw [List.map_append, h.docs, h.nextT, List.map_cons, List.map_nil]
  · show ∀ k, lkt (issR R.nextT s _ R.owns _) k = lkt (issO B.nextT s _ B.owns _) k
    rw [h.nextT]; exact h1
  · show ((issR R.nextT s _ R.owns _).map (·.1)).Nodup
    rw [h.nextT]; exact h2
  · show ∀ p ∈ issR R.nextT s _ R.owns _, KidOk p.1 ∧ p.1.t.r ≤ ((R.docs ++ [(docMade R.nextT s, A)]).length : Int)
    rw [hlen, h.nextT]
    intro p hp
    rcases issR_at hf _ p hp with hp | ⟨e1, e2, e3⟩
    · have := h.ownK p hp
      exact ⟨this.1, by have := this.2; omega⟩
    · refine ⟨⟨by rw [e1]; exact t0, by omega, by omega⟩, ?_⟩
      rw [e1]
      show (B.docs.length : Int) + 1 ≤ _
      rw [← h.dlen]; omega
theorem stO_rel {B : BookV} {R : RefV} (h : RelB B R) {k : Kid} {y : OwnV} (hy : lkt B.owns k = some y) (o : OwnV) : RelB (B.setO k o) (R.stO k o) := by
  rw [← h.own] at hy
  rcases rIx_cases R.owns k with ⟨-, e⟩ | ⟨i, z, e, hi, hf⟩
  · rw [lkt_none.2 fun hm => by obtain ⟨p, hp, q⟩ := List.mem_map.1 hm; exact e p hp q] at hy; cases hy
  have hky : (R.owns.set i (k, o)).map (·.1) = R.owns.map (·.1) := by
    rw [List.map_set]
    have : (R.owns.map (·.1))[i]? = some k := by rw [List.getElem?_map, hi]; rfl
    apply List.ext_getElem?
    intro j
    rw [List.getElem?_set]
    by_cases q : i = j
    · subst q
      rw [if_pos rfl, this]
      have hil := (List.getElem?_eq_some_iff.1 this).1
      rw [if_pos hil]
    · rw [if_neg q]
  have hy2 : lkt B.owns k = some y := by rw [← h.own]; exact hy
  rw [setO_some hy2, stO_at e]
  refine ⟨h.self, h.n, h.docs, fun k' => ?_, ?_, fun p hp => ?_, h.held, h.keys⟩
  · show lkt (R.owns.set i (k, o)) k' = lkt (putt B.owns k o) k'
    rw [lkt_set hi hf, lkt_put, h.own]
  · show ((R.owns.set i (k, o)).map (·.1)).Nodup
    rw [hky]; exact h.ownN
  · have hm : p.1 ∈ (R.owns.set i (k, o)).map (·.1) := List.mem_map_of_mem hp
    rw [hky] at hm
    obtain ⟨q, hq, e2⟩ := List.mem_map.1 hm
    rw [← e2]; exact h.ownK q hq
theorem stH_rel {B : BookV} {R : RefV} (h : RelB B R) (b : BI B) {k : Kid} {y : HeldV} (hy : lkt B.helds k = some y) (o : HeldV) (hset : B.setH k o = { B with helds := putt B.helds k o }) : RelB (B.setH k o) (R.stH k o) := by
  have hy1 := hy
  rw [← h.held] at hy
  rcases rIx_cases R.helds k with ⟨-, e⟩ | ⟨i, z, e, hi, hf⟩
  · rw [lkt_none.2 fun hm => by obtain ⟨p, hp, q⟩ := List.mem_map.1 hm; exact e p hp q] at hy; cases hy
  have hky : (R.helds.set i (k, o)).map (·.1) = R.helds.map (·.1) := by
    rw [List.map_set]
    have : (R.helds.map (·.1))[i]? = some k := by rw [List.getElem?_map, hi]; rfl
    apply List.ext_getElem?
    intro j
    rw [List.getElem?_set]
    by_cases q : i = j
    · subst q
      rw [if_pos rfl, this]
      have hil := (List.getElem?_eq_some_iff.1 this).1
      rw [if_pos hil]
    · rw [if_neg q]
  rw [hset, stH_at e]
  refine ⟨h.self, h.n, h.docs, h.own, h.ownN, h.ownK, fun k' => ?_, ?_⟩
  · show lkt (R.helds.set i (k, o)) k' = lkt (putt B.helds k o) k'
    rw [lkt_set hi hf, lkt_put, h.held]
  · show (R.helds.set i (k, o)).map (·.1) = sortBy cfK ((putt B.helds k o).map (·.1))
    have hm : k ∈ B.helds.map (·.1) := by
      by_cases q : k ∈ B.helds.map (·.1)
      · exact q
      · rw [lkt_none.2 q] at hy1; cases hy1
    rw [hky, h.keys, putt_keys k o hm]; rfl
theorem setO_rel {B : BookV} {R : RefV} (h : RelB B R) (k : Kid) (o : OwnV) : RelB (B.setO k o) (R.setO k o) := by
  have e0 := h.own k
  unfold RefV.setO
  rcases rIx_lkt R.owns k with ⟨e, hl⟩ | ⟨i, z, e, hi, hl⟩
  · rw [e, show decide ((0 : Int) ≤ -1) = false by decide]
    rw [setO_none (by rw [← e0]; exact hl)]
    exact h
  · rw [e, show decide ((0 : Int) ≤ (i : Int)) = true from decide_eq_true (by omega)]
    have := stO_rel h (k := k) (y := z) (by rw [← e0]; exact hl) o
    rw [stO_at e] at this
    exact this
theorem ahead_lt (a b : Kid) : aheadB a b = true ↔ ltK a b := by
  unfold aheadB ltK
  by_cases h1 : a.t.c = b.t.c
  · rw [show (!decide (a.t.c = b.t.c)) = false by rw [decide_eq_true h1]; rfl]
    by_cases h2 : a.t.r = b.t.r
    · rw [show (!decide (a.t.r = b.t.r)) = false by rw [decide_eq_true h2]; rfl]
      simp only [cond_false, decide_eq_true_eq]
      omega
    · rw [show (!decide (a.t.r = b.t.r)) = true by rw [decide_eq_false h2]; rfl]
      simp only [cond_false, cond_true, decide_eq_true_eq]
      omega
  · rw [show (!decide (a.t.c = b.t.c)) = true by rw [decide_eq_false h1]; rfl]
    simp only [cond_true, decide_eq_true_eq]
    omega
def SortK (l : List Kid) : Prop := l.Pairwise fun x y => (!(ltOf cfK) y x) = true
theorem sortK_lt {x y : Kid} : (!(ltOf cfK) y x) = true ↔ ¬ ltK y x := by
  rw [Bool.not_eq_true', lt_kid_no]
theorem ins_sorted {l : List (Kid × HeldV)} (hs : SortK (l.map (·.1))) {k : Kid} (hk : k ∉ l.map (·.1)) (h : HeldV) : SortK ((insH l k h).map (·.1)) := by
  unfold insH
  have hx : insIx l k ≤ l.length := insIx_le l k
  have e1 : ((l.take (insIx l k) ++ [(k, h)]) ++ l.drop (insIx l k)).map (·.1) = (l.take (insIx l k)).map (·.1) ++ ([k] ++ (l.drop (insIx l k)).map (·.1)) := by simp
  rw [e1]
  have hs' : SortK ((l.take (insIx l k)).map (·.1) ++ (l.drop (insIx l k)).map (·.1)) := by rw [← List.map_append, List.take_append_drop]; exact hs
  unfold SortK at *
  rw [List.pairwise_append] at hs'
  obtain ⟨p1, p2, p3⟩ := hs'
  have a1 : ∀ x ∈ (l.take (insIx l k)).map (·.1), ltK x k := fun x hx => by
    obtain ⟨p, hp, rfl⟩ := List.mem_map.1 hx
    obtain ⟨j, hj, rfl⟩ := List.mem_iff_getElem.1 hp
    rw [List.length_take] at hj
    rw [List.getElem_take]
    have := List.not_of_lt_findIdx (p := fun p : Kid × HeldV => !aheadB p.1 k) (xs := l) (i := j) (by unfold insIx at hj; omega)
    rw [← ahead_lt]
    simpa using this
  have a2 : ∀ x ∈ (l.drop (insIx l k)).map (·.1), ¬ ltK x k := fun x hx => by
    obtain ⟨p, hp, rfl⟩ := List.mem_map.1 hx
    cases hd : l.drop (insIx l k) with
    | nil => rw [hd] at hp; cases hp
    | cons q r =>
      have hlt : insIx l k < l.length := by
        rcases Nat.lt_or_ge (insIx l k) l.length with g | g
        · exact g
        · rw [List.drop_eq_nil_of_le g] at hd; cases hd
      have hq : l[insIx l k] = q := by
        have := List.drop_eq_getElem_cons hlt
        rw [hd] at this
        exact (List.cons.inj this).1.symm
      have hnq : ¬ ltK q.1 k := by
        have : (!aheadB (l[insIx l k]).1 k) = true := List.findIdx_getElem (p := fun p : Kid × HeldV => !aheadB p.1 k) (w := hlt)
        rw [hq] at this
        rw [← ahead_lt]
        simpa using this
      rw [hd] at hp p2
      rcases List.mem_cons.1 hp with e | e
      · rw [e]; exact hnq
      · rw [List.map_cons, List.pairwise_cons] at p2
        have := sortK_lt.1 (p2.1 p.1 (List.mem_map_of_mem e))
        unfold ltK at *; omega
  have a3 : ∀ x ∈ (l.drop (insIx l k)).map (·.1), ¬ ltK x k := a2
  refine List.pairwise_append.2 ⟨p1, List.pairwise_append.2 ⟨List.pairwise_singleton _ _, p2, fun x hx y hy => ?_⟩, fun x hx y hy => ?_⟩
  · rw [List.mem_singleton] at hx
    subst hx
    rw [sortK_lt]; exact a3 y hy
  · rcases List.mem_append.1 hy with hy | hy
    · rw [List.mem_singleton] at hy
      subst hy
      rw [sortK_lt]
      have := a1 x hx
      unfold ltK at *; omega
    · exact p3 x hx y hy
theorem ins_perm (l : List (Kid × HeldV)) (k : Kid) (h : HeldV) : (insH l k h).Perm ((k, h) :: l) := by
  unfold insH
  rw [List.append_assoc]
  refine List.perm_middle.trans ?_
  show ((k, h) :: (l.take (insIx l k) ++ l.drop (insIx l k))).Perm _
  rw [List.take_append_drop]
theorem ins_lkt {l : List (Kid × HeldV)} {k : Kid} (hk : k ∉ l.map (·.1)) (x : HeldV) (k' : Kid) : lkt (insH l k x) k' = if k = k' then some x else lkt l k' := by
  unfold insH
  have e : lkt l k' = (lkt (l.take (insIx l k)) k').or (lkt (l.drop (insIx l k)) k') := by rw [← lkt_append, List.take_append_drop]
  have e1 : lkt [(k, x)] k' = if k = k' then some x else none := rfl
  rw [lkt_append, lkt_append, e1]
  by_cases q : k = k'
  · subst q
    have : lkt (l.take (insIx l k)) k = none := lkt_none.2 fun hm => hk (by
      obtain ⟨p, hp, e⟩ := List.mem_map.1 hm
      exact e ▸ List.mem_map_of_mem (List.mem_of_mem_take hp))
    rw [this, if_pos rfl, if_pos rfl]; rfl
  · rw [if_neg q, if_neg q, e]
    cases lkt (l.take (insIx l k)) k' <;> rfl
theorem keysL_sorted (B : BookV) : SortK (keysL B) := sortBy_pair swoK _
theorem setHE_rel {B : BookV} {R : RefV} (h : RelB B R) (k : Kid) : R.setHE k = B.setHE k := by
  have e0 := h.held k
  have hb : R.badK k = B.badK k := by
    unfold RefV.badK BookV.badK ticketB
    rw [h.self, h.n]
    by_cases h1 : k.t.c < B.n
    · rw [decide_eq_true h1, decide_eq_false (show ¬ B.n ≤ k.t.c by omega)]
      by_cases h2 : 1 ≤ k.t.r
      · rw [decide_eq_true h2, decide_eq_false (show ¬ k.t.r < 1 by omega)]
        by_cases h3 : k.t.r ≤ 9999999999
        · rw [decide_eq_true h3, decide_eq_false (show ¬ 9999999999 < k.t.r by omega)]; rfl
        · rw [decide_eq_false h3, decide_eq_true (show 9999999999 < k.t.r by omega)]; rfl
      · rw [decide_eq_false h2, decide_eq_true (show k.t.r < 1 by omega)]; rfl
    · rw [decide_eq_false h1, decide_eq_true (show B.n ≤ k.t.c by omega)]; rfl
  unfold RefV.setHE BookV.setHE
  rw [hb, h.hlen]
  cases B.badK k with
  | true => rfl
  | false =>
    simp only [cond_false]
    rcases rIx_lkt R.helds k with ⟨e, hl⟩ | ⟨i, z, e, hi, hl⟩
    · rw [e, ← e0, hl, show decide ((0 : Int) ≤ -1) = false by decide]
      have : decide ((64 : Int) ≤ (B.helds.length : Int)) = decide (64 ≤ B.helds.length) := decide_eq_decide.2 (by omega)
      rw [this]; rfl
    · rw [e, ← e0, hl, show decide ((0 : Int) ≤ (i : Int)) = true from decide_eq_true (by omega)]; rfl
theorem setH_rel {B : BookV} {R : RefV} (h : RelB B R) (b : BI B) (k : Kid) (x : HeldV) : RelB (B.setH k x) (R.setH k x) := by
  have hE := setHE_rel h k
  have e0 := h.held k
  by_cases hb : R.badK k = true
  · have e1 : R.setHE k = 1 := by unfold RefV.setHE; rw [hb]; rfl
    rw [show R.setH k x = R by unfold RefV.setH; rw [hb]; rfl, setH_not (by rw [← hE, e1]; decide)]
    exact h
  have hb : R.badK k = false := by simpa using hb
  rcases rIx_lkt R.helds k with ⟨e, hl⟩ | ⟨i, z, e, hi, hl⟩
  · by_cases h64 : (64 : Int) ≤ (R.helds.length : Int)
    · have e1 : R.setHE k = 3 := by
        unfold RefV.setHE
        rw [hb, e, decide_eq_true h64]; rfl
      rw [show R.setH k x = R by unfold RefV.setH; rw [hb, e, decide_eq_true h64]; rfl, setH_not (by rw [← hE, e1]; decide)]
      exact h
    · have e1 : R.setHE k = 0 := by
        unfold RefV.setHE
        rw [hb, e, decide_eq_false h64]; rfl
      rw [show R.setH k x = { R with helds := insH R.helds k x } by unfold RefV.setH; rw [hb, e, decide_eq_false h64]; rfl, setH_ok (by rw [← hE]; exact e1)]
      have hn : k ∉ R.helds.map (·.1) := lkt_none.1 hl
      have hn2 : k ∉ B.helds.map (·.1) := lkt_none.1 (by rw [← e0]; exact hl)
      refine ⟨h.self, h.n, h.docs, h.own, h.ownN, h.ownK, fun k' => ?_, ?_⟩
      · show lkt (insH R.helds k x) k' = lkt (putt B.helds k x) k'
        rw [lkt_put, ← h.held]
        exact ins_lkt hn x k'
      · show (insH R.helds k x).map (·.1) = sortBy cfK ((putt B.helds k x).map (·.1))
        have hs : SortK (R.helds.map (·.1)) := by rw [h.keys]; exact keysL_sorted B
        have h1 := sortBy_self swoK totK (ins_sorted hs hn x)
        rw [← h1]
        refine sortBy_eq swoK totK ?_
        rw [Go.Sx.putt_new k x hn2, List.map_append]
        refine ((ins_perm R.helds k x).map (·.1)).trans ?_
        rw [List.map_cons, h.keys]
        refine (List.Perm.cons k (sortBy_perm cfK (B.helds.map (·.1)))).trans ?_
        exact (List.perm_append_comm (l₁ := [k]) (l₂ := B.helds.map (·.1)))
  · have e1 : R.setHE k = 0 := by
      unfold RefV.setHE
      rw [hb, e, show decide ((0 : Int) ≤ (i : Int)) = true from decide_eq_true (by omega)]; rfl
    have := stH_rel h b (k := k) (y := z) (by rw [← e0]; exact hl) x (setH_ok (by rw [← hE]; exact e1) x)
    rw [stH_at e] at this
    rw [show R.setH k x = { R with helds := R.helds.set i (k, x) } by unfold RefV.setH; rw [hb, e, show decide ((0 : Int) ≤ (i : Int)) = true from decide_eq_true (by omega)]; rfl]
    exact this
theorem step_rel {B : BookV} {R : RefV} (h : RelB B R) (b : BI B) {x : Act15} (ok : SaleOk x.s) : RelB (step15 B x) (stepR R x) := by
  unfold step15 stepR
  split
  · exact h.issue b.ex.bk ok x.A
  split
  · exact setO_rel h x.k x.o
  split
  · exact setH_rel h b x.k x.h
  exact h
theorem run_rel {self n : Int} (hs : 0 ≤ self ∧ self < n ∧ 2 ≤ n ∧ n ≤ 8) {acts : List Act15} (hA : ∀ x ∈ acts, SaleOk x.s ∧ OwnOk x.o) : ∀ i ≤ acts.length, RelB (run15 (bookNew self n) acts i) (runR (refNew self n) acts i)
  | 0, _ => new_rel self n
  | i + 1, hi => by
    have hin : acts.getD i act15Z ∈ acts := List.mem_of_getElem? (getD_some (by omega) act15Z)
    exact step_rel (run_rel hs hA i (by omega)) (runs_ok hs hA i (by omega)).1 (hA _ hin).1
structure RelQ (q : HR) (r : RR) : Prop where
  out : r.out = q.out
  e : r.e = q.e
  rel : RelB q.b r.r
theorem RelQ.mk0 {B : BookV} {R : RefV} (h : RelB B R) (o : List OutV) (e : Int) : RelQ ⟨o, e, B⟩ ⟨o, e, R⟩ := ⟨rfl, rfl, h⟩
theorem bcase2 {α β : Type} {p : α → β → Prop} (b : Bool) {x y : α} {z w : β} (h1 : b = true → p x z) (h2 : b = false → p y w) : p (bif b then x else y) (bif b then z else w) := by
  cases b
  · exact h2 rfl
  · exact h1 rfl
theorem use_rel {B : BookV} {R : RefV} (h : RelB B R) (b : BI B) (k : Kid) (cmd : Int) : RelQ (useQ B k cmd) (ruseQ R k cmd) := by
  unfold useQ ruseQ
  refine bcase2 _ (fun _ => .mk0 h _ _) fun _ => ?_
  rw [h.self]
  refine bcase2 (p := fun q r => RelQ q r) _ (fun _ => ?_) fun _ => ?_
  · unfold useOwn ruseOwn
    rw [h.own, h.self]
    show RelQ _ _
    cases hl : lkt B.owns k with
    | none => exact .mk0 h _ _
    | some y =>
      simp only [Option.isSome_some, Option.getD_some, Bool.not_true, cond_false]
      cases y.away || !decide (y.k.l.c = B.self) with
      | true => exact .mk0 h _ _
      | false =>
        cases !decide ((nextI y.k.s cmd).2 = 0) with
        | true => exact .mk0 h _ _
        | false => exact ⟨rfl, rfl, stO_rel h hl _⟩
  · unfold useHeld ruseHeld
    rw [h.held]
    cases hl : lkt B.helds k with
    | none => exact .mk0 h _ _
    | some y =>
      simp only [Option.isSome_some, Option.getD_some, Bool.not_true, cond_false]
      refine bcase2 _ (fun _ => .mk0 h _ _) fun _ => bcase2 _ (fun _ => .mk0 h _ _) fun _ => ⟨rfl, rfl, stH_rel h b hl _ (setH_at b hl _)⟩
theorem bill_rel {B : BookV} {R : RefV} (h : RelB B R) (b : BI B) (k : Kid) (amt : Int) : RelQ (billQ B k amt) (rbillQ R k amt) := by
  unfold billQ rbillQ
  rw [h.held]
  cases hl : lkt B.helds k with
  | none => exact .mk0 h _ _
  | some y =>
    simp only [Option.isSome_some, Option.getD_some, Bool.not_true, cond_false]
    exact bcase2 _ (fun _ => .mk0 h _ _) fun _ => bcase2 _ (fun _ => .mk0 h _ _) fun _ => bcase2 _ (fun _ => .mk0 h _ _) fun _ => ⟨rfl, rfl, stH_rel h b hl _ (setH_at b hl _)⟩
theorem hearB_rel {B : BookV} {R : RefV} (h : RelB B R) (b : BI B) (c : Int) (m : MsV) : RelQ (hearBQ B c m) (rhearBQ R c m) := by
  unfold hearBQ rhearBQ badHearB rbadHear
  rw [h.self, h.n]
  refine bcase2 _ (fun _ => .mk0 h _ _) fun _ => bcase2 _ (fun _ => ?_) fun _ => ⟨rfl, rfl, ?_⟩
  · unfold hbillQ rhbillQ
    rw [h.own]
    cases hl : lkt B.owns m.key with
    | none => exact .mk0 h _ _
    | some y =>
      simp only [Option.isSome_some, Option.getD_some, Bool.not_true, cond_false]
      exact bcase2 _ (fun _ => .mk0 h _ _) fun _ => bcase2 _ (fun _ => .mk0 h _ _) fun _ => bcase2 _ (fun _ => .mk0 h _ _) fun _ => ⟨rfl, rfl, stO_rel h hl _⟩
  · show RelB (hansB B c m) (rhansR R c m)
    unfold hansB rhansR isHeld
    rw [h.held]
    cases hl : lkt B.helds m.key with
    | none => exact h
    | some y =>
      simp only [Option.isSome_some, Option.getD_some, Bool.true_and]
      exact bcase2 (p := fun q r => RelB q r) _ (fun _ => stH_rel h b hl _ (setH_at b hl _)) fun _ => h
def rdoB (R : RefV) (x : Act18) : RR := if x.d = 0 then ruseQ R x.k x.cmd else if x.d = 1 then rbillQ R x.k x.amt else rhearBQ R x.frm x.m
theorem doB_rel {B : BookV} {R : RefV} (h : RelB B R) (b : BI B) (x : Act18) : RelQ (doB B x) (rdoB R x) := by
  unfold doB rdoB
  split
  · exact use_rel h b _ _
  split
  · exact bill_rel h b _ _
  exact hearB_rel h b _ _
end Go.Proofs.YtnkghdakjdhhdaaGreat
