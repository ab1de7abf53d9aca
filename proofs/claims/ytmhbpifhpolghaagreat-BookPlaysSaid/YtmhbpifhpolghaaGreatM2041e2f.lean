/- Pb7, Sm4, EaW5, Gr, StW, Bi4, BsW, Rf18, Pb8. -/
import Derived.Test.YtmhbpifhpolghaaGreatM2de6095
set_option maxRecDepth 100000
set_option linter.unusedVariables false
set_option linter.unusedSimpArgs false
set_option linter.unusedSectionVars false
section
namespace Go.Proofs.YtmhbpifhpolghaaGreat
open Go.RowKit Go.Lib Go.Tk Go.Shelf Go.Vc Go.Sx
def docT (d : DocV) (ta : Option Addr) (tc : Nat) : SV := .agg (docS d (.raw 0 10) (.val (.slice ta d.s.taxes.length tc)) (.raw 0 12))
def docTI (F : CF) (d : DocV) : Heap := [((0, 10), legR d.s.legs.length d.s.legs), ((0, 12), i64R d.vals.length d.vals), ((0, 9), .fam F)]
theorem copied_T (F : CF) {d : DocV} {ta : Option Addr} {tc : Nat} (ht : ∀ b v, Rd (F b v) ta (cellsL encTax d.s.taxes)) (ot : SlOk ta d.s.taxes.length tc) (sm : DocSmall d) : CallOK Tryz.prog CopiedF [docT d ta tc] (docTI F d) [] (.agg (docS d (.raw 1 0) (.raw 1 1) (.raw 1 2))) (docR d) := by
  have k1 := cloneL_raw (l := d.s.legs) rfl sm.nl
  have k2 := CallOK.mv 9 (cloneT0 F ht rfl ot sm.nt) rfl rfl rfl
  have k3 := cloneI_raw (l := d.vals) rfl sm.nv
  exact callOK_run 400 [hC 1 3 k1, hC 1 7 k2, hC 1 10 k3] (by kernel_rfl) (by kernel_rfl)
theorem setDocT_no (F : CF) {B : BookV} {d : DocV} {ta : Option Addr} {tc : Nat} (ht : TidOk d.t) (h : lkD B.docs d.t = none) : CallOK Tryz.prog SetDocF [.ptr 0 0 0, docT d ta tc] (docTI F d) (bkC B) (eN 4) (bkC B) := by
  refine shut (post := []) (bkX (post := []) fun L hL => ?_) rfl rfl rfl rfl
  have hn : lkt (docKV L) d.t = none := by
    have := lkD_kv d.t L
    rw [hL, h] at this
    cases e : lkt (docKV L) d.t with
    | none => rfl
    | some p => rw [e] at this; cases this
  have c1 := foundD_no L [] B ht hn
  have key : CallOK Tryz.prog SetDocF [.ptr 0 0 0, docT d ta tc] (docTI F d) (bkH (docsF L) B) (eN 4) (bkH (docsF L) B ++ []) := callOK_run 400 [hC 1 3 c1] (by kernel_rfl) (by kernel_rfl)
  exact key.post_mono fun ε R w hM => by
    have hM : Mem (_ :: docsF L (ε 0 1).1 (ε 0 1).2 :: _) w := hM
    have h1 := hM.front 1 rfl
    have h2 : Mem (docsX B.docs (ε 0 1).1 (ε 0 1).2 :: _) w := Mem.in_ex ⟨L, hL⟩ h1
    exact h2.front 1 rfl
theorem setDocT_ok (F : CF) {B : BookV} {d : DocV} {ta : Option Addr} {tc : Nat} (hr : ∀ b v, Rd (F b v) ta (cellsL encTax d.s.taxes)) (ot : SlOk ta d.s.taxes.length tc) (ht : TidOk d.t) {d0 : DocV} (h : lkD B.docs d.t = some d0) (hn : (B.docs.map (·.t)).Nodup) (sm : DocSmall d) : CallOK Tryz.prog SetDocF [.ptr 0 0 0, docT d ta tc] (docTI F d) (bkC B) (eN 0) (bkC (B.setD d)) := by
  refine shut (post := []) (bkX (post := []) fun L hL => ?_) rfl rfl rfl rfl
  obtain ⟨p0, hp0⟩ : ∃ p, lkt (docKV L) d.t = some p := by
    have := lkD_kv d.t L
    rw [hL, h] at this
    cases e : lkt (docKV L) d.t with
    | none => rw [e] at this; cases this
    | some p => exact ⟨p, rfl⟩
  have hnk : ((docKV L).map (·.1)).Nodup := by rw [docKV_map, hL]; exact hn
  have c1 := foundD_ok L [] B ht hp0
  have c2 := copied_T F hr ot sm
  have c3 := upd_docsL L d ht hnk (by rw [hp0]; rfl)
  rw [hL] at c3
  exact callOK_run 400 [hC 1 3 c1, hC 4 7 c2, hG 4 8 c3] (by kernel_rfl) (by kernel_rfl)
end Go.Proofs.YtmhbpifhpolghaaGreat
end
section
namespace Go.Proofs.YtmhbpifhpolghaaGreat
open Go.RowKit Go.Lib Go.Tk Go.Shelf Go.Vc Go.Sx Go.Maps
theorem eqO_r (m : Nat) (L M : OwnsV) : CallOK Tryz.prog EqO [.val (.map (some m)), .map 0 7] [((0, 7), ownsF M), ((0, 5), .fam fun _ _ => mapC kidK m (ents ownW L))] [] (.val (.bool (sameM L M))) [] :=
  CallOK.to_rd (rd := [((0, 7), ownsF M), ((0, 5), .fam fun _ _ => mapC kidK m (ents ownW L))]) (pre := []) (post := []) (eqO_w m L M).of_rd
theorem eqH_r (m : Nat) (L M : HeldsV) : CallOK Tryz.prog EqH [.val (.map (some m)), .map 0 7] [((0, 7), heldsF M), ((0, 6), .fam fun _ _ => mapC kidK m (ents heldW L))] [] (.val (.bool (sameM L M))) [] :=
  CallOK.to_rd (rd := [((0, 7), heldsF M), ((0, 6), .fam fun _ _ => mapC kidK m (ents heldW L))]) (pre := []) (post := []) (eqH_w m L M).of_rd
theorem eqD_r (m : Nat) (L M : List (DocV × DocA)) (ok1 : DocsOk L) (ok2 : DocsOk M) : CallOK Tryz.prog EqDF [.val (.map (some m)), .map 0 7, .fn (.func AlikeF) [] []] [((0, 11), .fam fun _ _ => rowsC L), ((0, 7), .fam (docsF M)), ((0, 12), .fam fun _ _ => mapC tidK m (ents docW (docKV L)))] [] (.val (.bool (sameM (dKV (L.map (·.1))) (dKV (M.map (·.1)))))) [] :=
  CallOK.to_rd (rd := [((0, 11), .fam fun _ _ => rowsC L), ((0, 7), .fam (docsF M)), ((0, 12), .fam fun _ _ => mapC tidK m (ents docW (docKV L)))]) (pre := []) (post := []) (eqD_w m L M ok1 ok2).of_rd
def SameBF : Nat := 21
def sameB (B C : BookV) : Bool := decide (B.self = C.self) && (decide (B.n = C.n) && (sameM (dKV B.docs) (dKV C.docs) && (sameM B.owns C.owns && sameM B.helds C.helds)))
def sameH (B C : BookV) (a : BkA) (L M : List (DocV × DocA)) : Heap := [((0, 20), oldB B a), ((0, 12), .fam fun _ _ => mapC tidK a.d (ents docW (docKV L))), ((0, 11), .fam fun _ _ => rowsC L), ((0, 5), .fam fun _ _ => mapC kidK a.o (ents ownW B.owns)), ((0, 6), .fam fun _ _ => mapC kidK a.h (ents heldW B.helds))] ++ bkH (docsF M) C
theorem same_open (B C : BookV) (a : BkA) {L M : List (DocV × DocA)} (hL : L.map (·.1) = B.docs) (hM : M.map (·.1) = C.docs) (ok1 : DocsOk L) (ok2 : DocsOk M) : CallOK Tryz.prog SameBF [.ptr 0 20 0, .ptr 0 0 0] (sameH B C a L M) [] (.val (.bool (sameB B C))) [] := by
  have c1 := eqD_r a.d L M ok1 ok2
  rw [hL, hM] at c1
  have c2 := eqO_r a.o B.owns C.owns
  have c3 := eqH_r a.h B.helds C.helds
  clear hL hM
  have hS : sameB B C = (decide (B.self = C.self) && (decide (B.n = C.n) && (sameM (dKV B.docs) (dKV C.docs) && (sameM B.owns C.owns && sameM B.helds C.helds)))) := rfl
  generalize sameM (dKV B.docs) (dKV C.docs) = b1 at *
  generalize sameM B.owns C.owns = b2 at *
  generalize sameM B.helds C.helds = b3 at *
  rw [hS]
  clear hS
  rcases Bool.eq_false_or_eq_true (decide (B.self = C.self)) with h1 | h1 <;> rw [h1]
  case inr => exact callOK_run 400 [hB 3 8 _ _ h1] (by kernel_rfl) (by kernel_rfl)
  rcases Bool.eq_false_or_eq_true (decide (B.n = C.n)) with h2 | h2 <;> rw [h2]
  case inr => exact callOK_run 400 [hB 3 8 _ _ h1, hB 3 18 _ _ h2] (by kernel_rfl) (by kernel_rfl)
  cases b1
  · exact callOK_run 400 [hB 3 8 _ _ h1, hB 3 18 _ _ h2, hC 3 29 c1] (by kernel_rfl) (by kernel_rfl)
  cases b2
  · exact callOK_run 400 [hB 3 8 _ _ h1, hB 3 18 _ _ h2, hC 3 29 c1, hC 3 40 c2] (by kernel_rfl) (by kernel_rfl)
  cases b3
  · exact callOK_run 400 [hB 3 8 _ _ h1, hB 3 18 _ _ h2, hC 3 29 c1, hC 3 40 c2, hC 3 51 c3] (by kernel_rfl) (by kernel_rfl)
  · exact callOK_run 400 [hB 3 8 _ _ h1, hB 3 18 _ _ h2, hC 3 29 c1, hC 3 40 c2, hC 3 51 c3] (by kernel_rfl) (by kernel_rfl)
structure DsOk (ds : List DocV) : Prop where
  sal : ∀ d ∈ ds, SaleOk d.s
  vl : ∀ d ∈ ds, d.vals.length ≤ 1073741824
theorem DsOk.docs {ds : List DocV} (h : DsOk ds) {L : List (DocV × DocA)} (hL : L.map (·.1) = ds) : DocsOk L := ⟨fun p hp => h.sal _ (hL ▸ List.mem_map_of_mem hp), fun p hp => h.vl _ (hL ▸ List.mem_map_of_mem hp)⟩
theorem same_w0 (B C : BookV) (ok1 : DsOk B.docs) (ok2 : DsOk C.docs) : CallOK Tryz.prog SameBF [.ptr 0 20 0, .ptr 0 0 0] [((0, 20), .fam (bookF B))] (bkH (docsX C.docs) C) (.val (.bool (sameB B C))) (bkH (docsX C.docs) C) := by
  intro ε R w hM
  have hM : Mem (bookF B (ε 0 20).1 (ε 0 20).2 :: boxE none (ε 0 0).1 #[.int .u8 C.self, .int .i64 C.n, .map (some (ε 0 1).1), .map (some (ε 0 2).1), .map (some (ε 0 3).1)] :: docsX C.docs (ε 0 1).1 (ε 0 1).2 :: mapT kidK ownW C.owns (ε 0 2).1 (ε 0 2).2 :: mapT kidK heldW C.helds (ε 0 3).1 (ε 0 3).2 :: R) w := hM
  obtain ⟨a, h⟩ := Mem.ex hM
  have h2 := h.all.front 1 rfl
  obtain ⟨⟨L, hL⟩, h3⟩ := Mem.ex h2
  have h4 := docs_split h3
  have h5 := h4.front 6 rfl
  obtain ⟨⟨M, hM'⟩, h6⟩ := Mem.ex h5
  have h7 := ((((((((h6.front 8 rfl).front 8 rfl).front 2 rfl).front 8 rfl).front 8 rfl).front 8 rfl).front 7 rfl).front 7 rfl).front 8 rfl
  refine ((same_open B C a hL hM' (ok1.docs hL) (ok2.docs hM')).of_rd.post_mono (post' := [((0, 20), .fam (bookF B))] ++ bkH (docsX C.docs) C) (fun ε R w hm => ?_)) ε R w h7
  have hm : Mem (boxE none (ε 0 20).1 #[.int .u8 B.self, .int .i64 B.n, .map (some a.d), .map (some a.o), .map (some a.h)] :: mapC tidK a.d (ents docW (docKV L)) :: rowsC L :: mapC kidK a.o (ents ownW B.owns) :: mapC kidK a.h (ents heldW B.helds) :: boxE none (ε 0 0).1 #[.int .u8 C.self, .int .i64 C.n, .map (some (ε 0 1).1), .map (some (ε 0 2).1), .map (some (ε 0 3).1)] :: docsF M (ε 0 1).1 (ε 0 1).2 :: mapT kidK ownW C.owns (ε 0 2).1 (ε 0 2).2 :: mapT kidK heldW C.helds (ε 0 3).1 (ε 0 3).2 :: R) w := hm
  have k1 := docs_shut (v := undef) (((hm.front 1 rfl).front 2 rfl).front 1 rfl)
  have k2 : Mem (docsX B.docs a.d undef :: _) w := Mem.in_ex ⟨L, hL⟩ k1
  have k3 := Mem.in_ex (f := fun y : BkA => allC [boxE none (ε 0 20).1 #[.int .u8 B.self, .int .i64 B.n, .map (some y.d), .map (some y.o), .map (some y.h)], docsX B.docs y.d undef, mapT kidK ownW B.owns y.o undef, mapT kidK heldW B.helds y.h undef]) a (Mem.in_all (l := [_, _, _, _]) (k2.front 1 rfl))
  have k4 : Mem (docsX C.docs (ε 0 1).1 (ε 0 1).2 :: _) w := Mem.in_ex ⟨M, hM'⟩ (k3.front 2 rfl)
  exact (((k4.front 1 rfl).front 2 rfl).front 1 rfl)
theorem same_c (B C : BookV) (ok1 : DsOk B.docs) (ok2 : DsOk C.docs) : CallOK Tryz.prog SameBF [.ptr 0 20 0, .ptr 0 0 0] [((0, 20), .fam (bookF B))] (bkC C) (.val (.bool (sameB B C))) (bkC C) :=
  shut (post := []) (B := C) (B' := C) (same_w0 B C ok1 ok2) rfl rfl rfl rfl
theorem sameB_self {B : BookV} (h1 : (B.docs.map (·.t)).Nodup) (h2 : (B.owns.map (·.1)).Nodup) (h3 : (B.helds.map (·.1)).Nodup) : sameB B B = true := by
  unfold sameB
  rw [sameM_self (L := dKV B.docs) (by unfold dKV; rw [List.map_map]; exact h1), sameM_self h2, sameM_self h3]
  simp
end Go.Proofs.YtmhbpifhpolghaaGreat
end
section
namespace Go.Proofs.YtmhbpifhpolghaaGreat
open Go.RowKit Go.Lib Go.Tk Go.Shelf Go.Vc Go.Sx
theorem ExOk.ds {B : BookV} (h : ExOk B) : DsOk B.docs := ⟨h.sal, fun d hd => (h.sm d hd).nv⟩
theorem ExOk.cl {B : BookV} (h : ExOk B) : ∀ d ∈ B.docs, TidOk d.t ∧ DocSmall d := fun d hd => ⟨tid_docs h.bk hd, h.sm d hd⟩
def stH (F : CF) (B : BookV) : Heap := [((0, 9), .fam F), ((1, 0), .fam (bookF B))]
theorem BIN.ds {B : BookV} (h : BIN B) : DsOk B.docs := ⟨h.bi.ex.sal, fun d hd => (h.bi.ex.sm d hd).nv⟩
theorem BIN.cl {B : BookV} (h : BIN B) : ∀ d ∈ B.docs, TidOk d.t ∧ DocSmall d := fun d hd => ⟨tid_docs h.bi.ex.bk hd, h.bi.ex.sm d hd⟩
theorem BIS.ds {B : BookV} (h : BIS B) : DsOk B.docs := ⟨h.bi.ex.sal, fun d hd => (h.bi.ex.sm d hd).nv⟩
theorem BIS.cl {B : BookV} (h : BIS B) : ∀ d ∈ B.docs, TidOk d.t ∧ DocSmall d := fun d hd => ⟨tid_docs h.bi.ex.bk hd, h.bi.ex.sm d hd⟩
theorem perm_of_sub {α : Type} : ∀ {l m : List α}, l.Nodup → (∀ x ∈ l, x ∈ m) → m.length ≤ l.length → l.Perm m
  | [], m, _, _, h => by
    cases m with
    | nil => exact .nil
    | cons y m => simp at h
  | x :: l, m, hn, hs, h => by
    obtain ⟨a, b, rfl⟩ := List.append_of_mem (hs x (List.mem_cons_self ..))
    rw [List.nodup_cons] at hn
    refine (List.Perm.cons x (perm_of_sub (m := a ++ b) hn.2 (fun y hy => ?_) ?_)).trans List.perm_middle.symm
    · have := hs y (List.mem_cons_of_mem _ hy)
      simp only [List.mem_append, List.mem_cons] at this ⊢
      rcases this with h1 | h1 | h1
      · exact .inl h1
      · subst h1; exact absurd hy hn.1
      · exact .inr h1
    · simp at h ⊢; omega
section
variable {κ α : Type} [DecidableEq κ] [DecidableEq α]
omit [DecidableEq κ] [DecidableEq α] in
theorem nodup_of_keys {l : List (κ × α)} (h : (l.map (·.1)).Nodup) : l.Nodup := List.Pairwise.of_map (f := fun p : κ × α => p.1) (fun a b h e => h (by rw [e])) h
theorem lkt_iff {l : List (κ × α)} (hl : (l.map (·.1)).Nodup) {k : κ} {v : α} : lkt l k = some v ↔ (k, v) ∈ l := ⟨lkt_mem, lkt_of hl⟩
theorem perm_of_lkt {l m : List (κ × α)} (hl : (l.map (·.1)).Nodup) (hm : (m.map (·.1)).Nodup) (h : ∀ k, lkt l k = lkt m k) : l.Perm m := by
  have sub : ∀ p, p ∈ l ↔ p ∈ m := fun p => by rw [← lkt_iff hl, ← lkt_iff hm, h]
  rcases Nat.le_total m.length l.length with g | g
  · exact perm_of_sub (nodup_of_keys hl) (fun x hx => (sub x).1 hx) g
  · exact (perm_of_sub (nodup_of_keys hm) (fun x hx => (sub x).2 hx) g).symm
theorem eq_of_keys {l m : List (κ × α)} (hk : l.map (·.1) = m.map (·.1)) (hl : (l.map (·.1)).Nodup) (h : ∀ k, lkt l k = lkt m k) : l = m := by
  have hm : (m.map (·.1)).Nodup := hk ▸ hl
  apply List.ext_getElem?
  intro i
  have e : (l.map (·.1))[i]? = (m.map (·.1))[i]? := by rw [hk]
  rw [List.getElem?_map, List.getElem?_map] at e
  cases h1 : l[i]? with
  | none => rw [h1] at e; cases h2 : m[i]? with
    | none => rfl
    | some q => rw [h2] at e; cases e
  | some p =>
    rw [h1] at e
    cases h2 : m[i]? with
    | none => rw [h2] at e; cases e
    | some q =>
      rw [h2] at e
      obtain ⟨k, v⟩ := p
      obtain ⟨k', v'⟩ := q
      have ek : k = k' := by injection e
      subst ek
      have e1 := lkt_of hl (List.mem_of_getElem? h1)
      have e2 := lkt_of hm (List.mem_of_getElem? h2)
      rw [h, e2] at e1
      cases e1; rfl
theorem sameM_perm2 {l m : List (κ × α)} (hl : (l.map (·.1)).Nodup) (hm : (m.map (·.1)).Nodup) (h : sameM l m = true) : l.Perm m := by
  unfold sameM at h
  rw [Bool.and_eq_true, decide_eq_true_eq, List.all_eq_true] at h
  refine perm_of_sub (nodup_of_keys hl) (fun x hx => ?_) (by omega)
  have := h.2 x hx
  rw [decide_eq_true_eq] at this
  exact lkt_mem this
theorem sameM_of_perm {l m : List (κ × α)} (hm : (m.map (·.1)).Nodup) (h : l.Perm m) : sameM l m = true := sameM_mk h.length_eq fun p hp => lkt_of hm (h.mem_iff.1 hp)
omit [DecidableEq α] in
theorem lkt_filter (f : κ → Bool) {k : κ} (hf : f k = true) : ∀ l : List (κ × α), lkt (l.filter fun p => f p.1) k = lkt l k
  | [] => rfl
  | p :: l => by
    have ih := lkt_filter f hf l
    rw [List.filter_cons]
    show lkt (if f p.1 = true then _ else _) k = if p.1 = k then some p.2 else lkt l k
    by_cases q : p.1 = k
    · rw [if_pos (by rw [q]; exact hf), if_pos q]
      show (if p.1 = k then some p.2 else _) = _
      rw [if_pos q]
    · rw [if_neg q, ← ih]
      split
      · show (if p.1 = k then some p.2 else _) = _
        rw [if_neg q]
      · rfl
end
theorem sortK_eq {l m : List Kid} (h1 : SortK l) (h2 : SortK m) (h : l.Perm m) : l = m := by
  rw [← sortBy_self swoK totK h1, ← sortBy_self swoK totK h2]
  exact sortBy_eq swoK totK h
structure KeyOk (R : RefV) : Prop where
  so : SortK (R.owns.map (·.1))
  sc : ∀ k ∈ R.owns.map (·.1), k.t.c = R.self
  at_ : ∀ t, ∃ c : Nat, c ≤ 4 ∧ (R.owns.map (·.1)).filter (fun k => rtEq k.t t) = (List.range c).map (fun j : Nat => (⟨t, (j : Int)⟩ : Kid))
theorem KeyOk.of {R S : RefV} (h : KeyOk R) (e : S.owns.map (·.1) = R.owns.map (·.1)) (es : S.self = R.self) : KeyOk S := ⟨by rw [e]; exact h.so, by rw [e, es]; exact h.sc, by rw [e]; exact h.at_⟩
theorem key_new (self n : Int) : KeyOk (refNew self n) := ⟨List.Pairwise.nil, (fun k hk => by cases hk), fun t => ⟨0, by omega, rfl⟩⟩
theorem setO_keys (R : RefV) (k : Kid) (o : OwnV) : (R.setO k o).owns.map (·.1) = R.owns.map (·.1) ∧ (R.setO k o).self = R.self := by
  unfold RefV.setO
  rcases rIx_cases R.owns k with ⟨e, -⟩ | ⟨i, z, e, hi, -⟩
  · rw [e]; exact ⟨rfl, rfl⟩
  rw [e, show decide ((0 : Int) ≤ (i : Int)) = true from decide_eq_true (by omega)]
  refine ⟨?_, rfl⟩
  show (R.owns.set i (k, o)).map (·.1) = _
  rw [List.map_set]
  have : (R.owns.map (·.1))[i]? = some k := by rw [List.getElem?_map, hi]; rfl
  apply List.ext_getElem?
  intro j
  rw [List.getElem?_set]
  by_cases q : i = j
  · subst q
    rw [if_pos rfl, this]
    have hil := (List.getElem?_eq_some_iff.1 this).1
    rw [if_pos hil]
  · rw [if_neg q]
theorem KeyOk.setO {R : RefV} (h : KeyOk R) (k : Kid) (o : OwnV) : KeyOk (R.setO k o) := h.of (setO_keys R k o).1 (setO_keys R k o).2
theorem setH_own (R : RefV) (k : Kid) (x : HeldV) : (R.setH k x).owns = R.owns ∧ (R.setH k x).self = R.self ∧ (R.setH k x).docs = R.docs ∧ (R.setH k x).n = R.n := by
  unfold RefV.setH
  cases R.badK k <;> cases decide (0 ≤ rIx R.helds k) <;> cases decide ((64 : Int) ≤ (R.helds.length : Int)) <;> exact ⟨rfl, rfl, rfl, rfl⟩
theorem setO_docsR (R : RefV) (k : Kid) (o : OwnV) : (R.setO k o).docs = R.docs := by unfold RefV.setO; cases decide (0 ≤ rIx R.owns k) <;> rfl
theorem KeyOk.setH {R : RefV} (h : KeyOk R) (k : Kid) (x : HeldV) : KeyOk (R.setH k x) := h.of (by rw [(setH_own R k x).1]) (setH_own R k x).2.1
theorem issR_keys (t : Tid) (s : SaleV) (vs : List Int) (L : List (Kid × OwnV)) : ∀ i : Nat, (issR t s vs L i).map (·.1) = L.map (·.1) ++ (List.range i).map (fun j : Nat => (⟨t, (j : Int)⟩ : Kid))
  | 0 => by show L.map _ = _; simp
  | i + 1 => by
    show (issR t s vs L i ++ [((⟨t, (i : Int)⟩ : Kid), ownNew (s.legs.getD i leg0) (vs.getD i 0))]).map (fun p : Kid × OwnV => p.1) = _
    rw [List.map_append, issR_keys t s vs L i, List.range_succ, List.map_append, List.append_assoc]; rfl
theorem range_sorted (t : Tid) (i : Nat) : SortK ((List.range i).map (fun j : Nat => (⟨t, (j : Int)⟩ : Kid))) := by
  unfold SortK
  rw [List.pairwise_map]
  refine List.Pairwise.imp (fun {a b} hab => ?_) (List.pairwise_lt_range (n := i))
  rw [sortK_lt]
  unfold ltK
  show ¬ (t.c < t.c ∨ _)
  have : (a : Int) < (b : Int) := by omega
  simp only [Int.lt_irrefl, false_or, true_and]
  omega
theorem KeyOk.issued {R : RefV} (h : KeyOk R) (hr : ∀ p ∈ R.owns, p.1.t.r ≤ (R.docs.length : Int)) {s : SaleV} (A : SaleA) (hl : (shareV s.fare (wsOf s)).length ≤ 4) : KeyOk (R.issued s A) := by
  have e : (R.issued s A).owns.map (·.1) = _ := issR_keys R.nextT s (shareV s.fare (wsOf s)) R.owns (shareV s.fare (wsOf s)).length
  generalize (shareV s.fare (wsOf s)).length = m at *
  have hn : ∀ k ∈ (List.range m).map (fun j : Nat => (⟨R.nextT, (j : Int)⟩ : Kid)), k.t = R.nextT := fun k hk => by
    obtain ⟨j, -, rfl⟩ := List.mem_map.1 hk; rfl
  have hr' : ∀ k ∈ R.owns.map (·.1), k.t.r ≤ (R.docs.length : Int) := fun k hk => by
    obtain ⟨p, hp, rfl⟩ := List.mem_map.1 hk; exact hr p hp
  refine ⟨?_, ?_, fun t => ?_⟩
  · rw [e]
    refine List.pairwise_append.2 ⟨h.so, range_sorted _ _, fun x hx y hy => ?_⟩
    rw [sortK_lt]
    have h1 := hr' x hx
    have h2 := h.sc x hx
    have h3 := hn y hy
    unfold ltK
    rw [h3]
    show ¬ (R.self < x.t.c ∨ _)
    have h4 : R.nextT.r = (R.docs.length : Int) + 1 := rfl
    have h5 : R.nextT.c = R.self := rfl
    rw [h4, h5]
    omega
  · rw [e]
    intro k hk
    rcases List.mem_append.1 hk with hk | hk
    · exact h.sc k hk
    · rw [hn k hk]; rfl
  · rw [e, List.filter_append]
    by_cases q : t = R.nextT
    · subst q
      have e1 : (R.owns.map (·.1)).filter (fun k => rtEq k.t R.nextT) = [] := by
        rw [List.filter_eq_nil_iff]
        intro k hk g
        have h1 := hr' k hk
        rw [rtEq_iff] at g
        rw [g] at h1
        have h4 : R.nextT.r = (R.docs.length : Int) + 1 := rfl
        omega
      have e2 : ((List.range m).map (fun j : Nat => (⟨R.nextT, (j : Int)⟩ : Kid))).filter (fun k => rtEq k.t R.nextT) = (List.range m).map (fun j : Nat => (⟨R.nextT, (j : Int)⟩ : Kid)) := by
        rw [List.filter_eq_self]
        intro k hk
        rw [rtEq_iff]; exact hn k hk
      exact ⟨m, hl, by rw [e1, e2]; rfl⟩
    · have e2 : ((List.range m).map (fun j : Nat => (⟨R.nextT, (j : Int)⟩ : Kid))).filter (fun k => rtEq k.t t) = [] := by
        rw [List.filter_eq_nil_iff]
        intro k hk g
        rw [rtEq_iff, hn k hk] at g
        exact q g.symm
      rw [e2, List.append_nil]
      exact h.at_ t
theorem rstL_eq (l : List (Kid × OwnV)) (t : Tid) : ∀ i, i ≤ l.length → rstL l t i = ((l.take i).filter (fun p => rtEq p.1.t t)).map (·.2.k.s)
  | 0, _ => by simp [rstL]
  | i + 1, h => by
    have ih := rstL_eq l t i (by omega)
    have hi : i < l.length := by omega
    have e : l.getD i mine0 = l[i] := by rw [List.getD_eq_getElem?_getD, List.getElem?_eq_getElem hi]; rfl
    unfold rstL
    rw [List.take_succ_eq_append_getElem hi, List.filter_append, List.map_append, ← ih, e]
    cases hg : rtEq (l[i]).1.t t with
    | true => rw [show List.filter (fun p : Kid × OwnV => rtEq p.1.t t) [l[i]] = [l[i]] by simp [hg]]; rfl
    | false => rw [show List.filter (fun p : Kid × OwnV => rtEq p.1.t t) [l[i]] = [] by simp [hg]]; simp
theorem keys_shape {l : List (Kid × OwnV)} {k : Kid} {ks : List Kid} (h : l.map (·.1) = k :: ks) : ∃ a m, l = (k, a) :: m ∧ m.map (·.1) = ks := by
  cases l with
  | nil => cases h
  | cons p m =>
    rw [List.map_cons] at h
    injection h with h1 h2
    exact ⟨p.2, m, by rw [← h1], h2⟩
theorem coup_eq {B : BookV} {R : RefV} (h : RelB B R) (hk : KeyOk R) (t : Tid) : (R.owns.filter (fun p => rtEq p.1.t t)).map (·.2) = coupL B t := by
  obtain ⟨c, hc, e⟩ := hk.at_ t
  rw [List.filter_map] at e
  have e : (R.owns.filter (fun p => rtEq p.1.t t)).map (·.1) = (List.range c).map (fun j : Nat => (⟨t, (j : Int)⟩ : Kid)) := e
  have lk : ∀ j : Int, lkt B.owns ⟨t, j⟩ = lkt (R.owns.filter (fun p => rtEq p.1.t t)) ⟨t, j⟩ := fun j => by
    have g := lkt_filter (fun k : Kid => rtEq k.t t) (k := ⟨t, j⟩) ((rtEq_iff _ _).2 rfl) R.owns
    rw [← h.own]; exact g.symm
  generalize R.owns.filter (fun p => rtEq p.1.t t) = fl at *
  unfold coupL
  rw [lk, lk, lk, lk]
  clear lk
  have hc : c = 0 ∨ c = 1 ∨ c = 2 ∨ c = 3 ∨ c = 4 := by omega
  have n0 : ∀ {i j : Int}, i ≠ j → (⟨t, i⟩ : Kid) ≠ ⟨t, j⟩ := fun h e => h (by injection e)
  rcases hc with rfl | rfl | rfl | rfl | rfl
  · have e : fl.map (·.1) = [] := e
    rw [List.map_eq_nil_iff] at e
    subst e; rfl
  · have e : fl.map (·.1) = [⟨t, 0⟩] := e
    obtain ⟨a, f1, rfl, e1⟩ := keys_shape e
    rw [List.map_eq_nil_iff] at e1
    subst e1
    simp [lkt]
  · have e : fl.map (·.1) = [⟨t, 0⟩, ⟨t, 1⟩] := e
    obtain ⟨a, f1, rfl, e1⟩ := keys_shape e
    obtain ⟨b, f2, rfl, e2⟩ := keys_shape e1
    rw [List.map_eq_nil_iff] at e2
    subst e2
    simp [lkt]
  · have e : fl.map (·.1) = [⟨t, 0⟩, ⟨t, 1⟩, ⟨t, 2⟩] := e
    obtain ⟨a, f1, rfl, e1⟩ := keys_shape e
    obtain ⟨b, f2, rfl, e2⟩ := keys_shape e1
    obtain ⟨c, f3, rfl, e3⟩ := keys_shape e2
    rw [List.map_eq_nil_iff] at e3
    subst e3
    simp [lkt]
  · have e : fl.map (·.1) = [⟨t, 0⟩, ⟨t, 1⟩, ⟨t, 2⟩, ⟨t, 3⟩] := e
    obtain ⟨a, f1, rfl, e1⟩ := keys_shape e
    obtain ⟨b, f2, rfl, e2⟩ := keys_shape e1
    obtain ⟨c, f3, rfl, e3⟩ := keys_shape e2
    obtain ⟨d, f4, rfl, e4⟩ := keys_shape e3
    rw [List.map_eq_nil_iff] at e4
    subst e4
    simp [lkt]
theorem status_eq {B : BookV} {R : RefV} (h : RelB B R) (hk : KeyOk R) (t : Tid) : rstL R.owns t R.owns.length = statusL B t := by
  rw [rstL_eq _ _ _ (Nat.le_refl _), List.take_of_length_le (Nat.le_refl _)]
  unfold statusL
  rw [← coup_eq h hk t, List.map_map]; rfl
theorem sumN_snoc {α : Type} (f : α → Nat) (l : List α) (x : α) : sumN f (l ++ [x]) = sumN f l + f x := by
  induction l with
  | nil => show f x + 0 = 0 + f x; omega
  | cons y l ih => show f y + sumN f (l ++ [x]) = f y + sumN f l + f x; rw [ih]; omega
theorem rOpO_eq (l : List (Kid × OwnV)) (c : Int) : ∀ i, i ≤ l.length → rOpO l c i = sumN (fun p : Kid × OwnV => cntO c p.2) (l.take i)
  | 0, _ => by simp [rOpO, sumN]
  | i + 1, h => by
    have hi : i < l.length := by omega
    have e : l.getD i mine0 = l[i] := by rw [List.getD_eq_getElem?_getD, List.getElem?_eq_getElem hi]; rfl
    unfold rOpO
    rw [List.take_succ_eq_append_getElem hi, sumN_snoc, rOpO_eq l c i (by omega), e]
theorem rOpH_eq (l : List (Kid × HeldV)) (c : Int) : ∀ i, i ≤ l.length → rOpH l c i = sumN (cntH c) (l.take i)
  | 0, _ => by simp [rOpH, sumN]
  | i + 1, h => by
    have hi : i < l.length := by omega
    have e : l.getD i other0 = l[i] := by rw [List.getD_eq_getElem?_getD, List.getElem?_eq_getElem hi]; rfl
    unfold rOpH
    rw [List.take_succ_eq_append_getElem hi, sumN_snoc, rOpH_eq l c i (by omega), e]
theorem open_eq {B : BookV} {R : RefV} (h : RelB B R) (n1 : (B.owns.map (·.1)).Nodup) (n2 : (B.helds.map (·.1)).Nodup) (c : Int) : rOpen R c = openN B c := by
  unfold rOpen openN
  rw [rOpO_eq _ _ _ (Nat.le_refl _), rOpH_eq _ _ _ (Nat.le_refl _), List.take_of_length_le (Nat.le_refl _), List.take_of_length_le (Nat.le_refl _)]
  have hn : (R.helds.map (·.1)).Nodup := by rw [h.keys]; exact ((sortBy_perm cfK _).nodup_iff).2 n2
  rw [sumN_perm (perm_of_lkt h.ownN n1 h.own), sumN_perm (perm_of_lkt hn n2 h.held)]
end Go.Proofs.YtmhbpifhpolghaaGreat
end
