/- Ex1, Ex2, Ex3, Ex4. -/
import Derived.Test.YtmhbpifhpolghaaGreatM81af217
set_option maxRecDepth 100000
set_option linter.unusedVariables false
set_option linter.unusedSimpArgs false
set_option linter.unusedSectionVars false
section
namespace Go.Proofs.YtmhbpifhpolghaaGreat
open Go.RowKit Go.Lib Go.Tk Go.Shelf Go.Vc Go.Sx
def coupL (B : BookV) (t : Tid) : List OwnV :=
  match lkt B.owns ⟨t, 0⟩ with
  | none => []
  | some a => match lkt B.owns ⟨t, 1⟩ with
    | none => [a]
    | some b => match lkt B.owns ⟨t, 2⟩ with
      | none => [a, b]
      | some c => match lkt B.owns ⟨t, 3⟩ with
        | none => [a, b, c]
        | some d => [a, b, c, d]
theorem coupL_cases (B : BookV) (t : Tid) : (coupL B t = [] ∧ lkt B.owns ⟨t, 0⟩ = none) ∨ (∃ a, coupL B t = [a] ∧ lkt B.owns ⟨t, 0⟩ = some a ∧ lkt B.owns ⟨t, 1⟩ = none) ∨
    (∃ a b, coupL B t = [a, b] ∧ lkt B.owns ⟨t, 0⟩ = some a ∧ lkt B.owns ⟨t, 1⟩ = some b ∧ lkt B.owns ⟨t, 2⟩ = none) ∨
    (∃ a b c, coupL B t = [a, b, c] ∧ lkt B.owns ⟨t, 0⟩ = some a ∧ lkt B.owns ⟨t, 1⟩ = some b ∧ lkt B.owns ⟨t, 2⟩ = some c ∧ lkt B.owns ⟨t, 3⟩ = none) ∨
    (∃ a b c d, coupL B t = [a, b, c, d] ∧ lkt B.owns ⟨t, 0⟩ = some a ∧ lkt B.owns ⟨t, 1⟩ = some b ∧ lkt B.owns ⟨t, 2⟩ = some c ∧ lkt B.owns ⟨t, 3⟩ = some d) := by
  unfold coupL
  cases h0 : lkt B.owns ⟨t, 0⟩ with
  | none => exact .inl ⟨rfl, rfl⟩
  | some a =>
    cases h1 : lkt B.owns ⟨t, 1⟩ with
    | none => exact .inr (.inl ⟨a, rfl, rfl, rfl⟩)
    | some b =>
      cases h2 : lkt B.owns ⟨t, 2⟩ with
      | none => exact .inr (.inr (.inl ⟨a, b, rfl, rfl, rfl, rfl⟩))
      | some c =>
        cases h3 : lkt B.owns ⟨t, 3⟩ with
        | none => exact .inr (.inr (.inr (.inl ⟨a, b, c, rfl, rfl, rfl, rfl, rfl⟩)))
        | some d => exact .inr (.inr (.inr (.inr ⟨a, b, c, d, rfl, rfl, rfl, rfl, rfl⟩)))
def statusL (B : BookV) (t : Tid) : List Int := (coupL B t).map (·.k.s)
def stS (l : List OwnV) : List SV := l.map fun o => .val (.int .u8 o.k.s)
def stR (l : List OwnV) : SC := .row 49 1 l.length (.deep (stS l)) []
def stC (l : List Int) : SC := .row 49 1 l.length (.shal (l.map (.int .u8))) []
theorem st_den (l : List OwnV) (ε : Env) (s k : Nat) : (stR l).den ε s k = (stC (l.map (·.k.s))).den ε s k := by
  have h : ∀ l : List OwnV, SV.dens ε (stS l) = (l.map (·.k.s)).map (.int .u8) := fun l => by
    induction l with
    | nil => rfl
    | cons x l ih => show _ :: SV.dens ε (stS l) = _; rw [ih]; rfl
  unfold stR stC
  simp only [SC.den, SL.den, h, List.length_map]
def StatusF : Nat := 55
theorem kidOk_at {t : Tid} (ht : TidOk t) {i : Int} (h0 : 0 ≤ i) (h1 : i ≤ 3) : KidOk ⟨t, i⟩ := ⟨ht, by show 0 ≤ i; omega, by show i ≤ 255; omega⟩
theorem status_d (B : BookV) {t : Tid} (ht : TidOk t) : CallOK Tryz.prog StatusF [.ptr 0 0 0, .agg (tidS t)] (bkC B) [] (.raw 1 0) [((1, 0), stR (coupL B t))] := by
  have c0 := own_c B (kidOk_at ht (i := 0) (by decide) (by decide))
  have c1 := own_c B (kidOk_at ht (i := 1) (by decide) (by decide))
  have c2 := own_c B (kidOk_at ht (i := 2) (by decide) (by decide))
  have c3 := own_c B (kidOk_at ht (i := 3) (by decide) (by decide))
  rcases coupL_cases B t with ⟨e, h0⟩ | ⟨a, e, h0, h1⟩ | ⟨a, b, e, h0, h1, h2⟩ | ⟨a, b, c, e, h0, h1, h2, h3⟩ | ⟨a, b, c, d, e, h0, h1, h2, h3⟩
  · rw [e]; rw [h0] at c0; exact callOK_runU 900 [hC 5 5 c0] (by kernel_rfl) (by kernel_rfl)
  · rw [e]; rw [h0] at c0; rw [h1] at c1; exact callOK_runU 900 [hC 5 5 c0, hC 5 5 c1] (by kernel_rfl) (by kernel_rfl)
  · rw [e]; rw [h0] at c0; rw [h1] at c1; rw [h2] at c2; exact callOK_runU 900 [hC 5 5 c0, hC 5 5 c1, hC 5 5 c2] (by kernel_rfl) (by kernel_rfl)
  · rw [e]; rw [h0] at c0; rw [h1] at c1; rw [h2] at c2; rw [h3] at c3; exact callOK_runU 900 [hC 5 5 c0, hC 5 5 c1, hC 5 5 c2, hC 5 5 c3] (by kernel_rfl) (by kernel_rfl)
  · rw [e]; rw [h0] at c0; rw [h1] at c1; rw [h2] at c2; rw [h3] at c3; exact callOK_runU 900 [hC 5 5 c0, hC 5 5 c1, hC 5 5 c2, hC 5 5 c3] (by kernel_rfl) (by kernel_rfl)
theorem status_c (B : BookV) {t : Tid} (ht : TidOk t) : CallOK Tryz.prog StatusF [.ptr 0 0 0, .agg (tidS t)] (bkC B) [] (.raw 1 0) [((1, 0), stC (statusL B t))] :=
  (status_d B ht).to_post fun ε => by simp only [hden, List.map_cons, List.map_nil, st_den]; rfl
def lkD (ds : List DocV) (t : Tid) : Option DocV := ds.find? fun d => decide (d.t = t)
theorem lkD_kv (t : Tid) : ∀ L : List (DocV × DocA), (lkt (docKV L) t).map (·.1) = lkD (L.map (·.1)) t
  | [] => rfl
  | p :: L => by
    show ((if p.1.t = t then some p else lkt (docKV L) t) : Option (DocV × DocA)).map (·.1) = _
    unfold lkD
    rw [List.map_cons, List.find?_cons]
    by_cases e : p.1.t = t
    · rw [if_pos e, decide_eq_true e]; rfl
    · rw [if_neg e, decide_eq_false e]; exact lkD_kv t L
def BdocsF : Nat := 44
def FoundD : Nat := 43
theorem bdocs_w (F : CF) (B : BookV) : CallOK Tryz.prog BdocsF [.ptr 0 0 0] (bkH F B) [] (.map 0 1) [] := callOK_run 400 [] (by kernel_rfl) (by kernel_rfl)
theorem foundD_no (L M : List (DocV × DocA)) (B : BookV) {t : Tid} (ht : TidOk t) (h : lkt (docKV L) t = none) : CallOK Tryz.prog FoundD [.ptr 0 0 0, .fn (.func BdocsF) [] [], .agg (tidS t)] (bkH (docsG L M) B) [] (.tup [.agg (docS doc0 nilS nilS nilS), eN 4]) [] := by
  have c1 := bdocs_w (docsG L M) B
  have c2 := look_docs L M ht
  rw [h] at c2
  exact callOK_run 400 [hC 4 2 c1, hG 4 4 c2] (by kernel_rfl) (by kernel_rfl)
theorem foundD_ok (L M : List (DocV × DocA)) (B : BookV) {t : Tid} (ht : TidOk t) {p : DocV × DocA} (h : lkt (docKV L) t = some p) : CallOK Tryz.prog FoundD [.ptr 0 0 0, .fn (.func BdocsF) [] [], .agg (tidS t)] (bkH (docsG L M) B) [] (.tup [.agg (docSA p.1 p.2), eN 0]) [] := by
  have c1 := bdocs_w (docsG L M) B
  have c2 := look_docs L M ht
  rw [h] at c2
  exact callOK_run 400 [hC 4 2 c1, hG 4 4 c2] (by kernel_rfl) (by kernel_rfl)
theorem cloneL_nil : CallOK Tryz.prog CloneL [nilS] [] [] nilS [] := callOK_run 400 [] (by kernel_rfl) (by kernel_rfl)
theorem cloneT_nil : CallOK Tryz.prog CloneT [nilS] [] [] nilS [] := callOK_run 400 [] (by kernel_rfl) (by kernel_rfl)
theorem cloneI_nil : CallOK Tryz.prog CloneI [nilS] [] [] nilS [] := callOK_run 400 [] (by kernel_rfl) (by kernel_rfl)
theorem copied_nil : CallOK Tryz.prog CopiedF [.agg (docS doc0 nilS nilS nilS)] [] [] (.agg (docS doc0 nilS nilS nilS)) [] := by
  have c1 := cloneL_nil
  have c2 := cloneT_nil
  have c3 := cloneI_nil
  exact callOK_run 400 [hC 1 3 c1, hC 1 7 c2, hC 1 10 c3] (by kernel_rfl) (by kernel_rfl)
def DocF : Nat := 53
theorem bkX {f : Nat} {args : List SV} {rd post : Heap} {ret : SV} {B B' : BookV} (h : ∀ L : List (DocV × DocA), L.map (·.1) = B.docs → CallOK Tryz.prog f args rd (bkH (docsF L) B) ret (bkH (docsX B'.docs) B' ++ post)) : CallOK Tryz.prog f args rd (bkH (docsX B.docs) B) ret (bkH (docsX B'.docs) B' ++ post) := by
  intro ε R w hM
  have hM : Mem ((hden ε rd ++ hden ε (bkH (docsX B.docs) B)) ++ R) w := by rw [← hden_append]; exact hM
  have hM1 : Mem (docsX B.docs (ε 0 1).1 (ε 0 1).2 :: (((SC.box none [.val (.int .u8 B.self), .val (.int .i64 B.n), .map 0 1, .map 0 2, .map 0 3]).den ε 0 0 :: (ownsF B.owns).den ε 0 2 :: (heldsF B.helds).den ε 0 3 :: []) ++ hden ε rd ++ R)) w := by
    refine mem_perm ?_ hM
    show ((hden ε rd ++ [_, docsX B.docs (ε 0 1).1 (ε 0 1).2, _, _]) ++ R).Perm _
    refine List.Perm.trans (List.Perm.append_right R List.perm_append_comm) ?_
    simp only [List.cons_append, List.nil_append, List.append_assoc]
    exact List.Perm.swap _ _ _
  obtain ⟨x, hM2⟩ := hM1.ex
  refine h x.1 x.2 ε R w ?_
  have : Mem ((hden ε rd ++ hden ε (bkH (docsF x.1) B)) ++ R) w := by
    refine mem_perm ?_ hM2
    show (docsF x.1 (ε 0 1).1 (ε 0 1).2 :: _).Perm ((hden ε rd ++ [_, docsF x.1 (ε 0 1).1 (ε 0 1).2, _, _]) ++ R)
    refine List.Perm.trans ?_ (List.Perm.append_right R List.perm_append_comm)
    simp only [List.cons_append, List.nil_append, List.append_assoc]
    exact List.Perm.swap _ _ _
  rw [← hden_append] at this
  exact this
theorem mem_kv {L : List (DocV × DocA)} {t : Tid} {p : DocV × DocA} (h : lkt (docKV L) t = some p) : p ∈ L ∧ p.1.t = t := by
  obtain ⟨q, hq, he⟩ := List.mem_map.1 (lkt_mem h)
  cases he
  exact ⟨hq, rfl⟩
theorem doc_no {B : BookV} {t : Tid} (ht : TidOk t) (h : lkD B.docs t = none) : CallOK Tryz.prog DocF [.ptr 0 0 0, .agg (tidS t)] [] (bkC B) (.tup [.agg (docS doc0 nilS nilS nilS), eN 4]) (bkC B) := by
  refine shut (post := []) (bkX (post := []) fun L hL => ?_) rfl rfl rfl rfl
  have hn : lkt (docKV L) t = none := by
    have := lkD_kv t L
    rw [hL, h] at this
    cases e : lkt (docKV L) t with
    | none => rfl
    | some p => rw [e] at this; cases this
  have c1 := foundD_no L [] B ht hn
  have c2 := copied_nil
  have key : CallOK Tryz.prog DocF [.ptr 0 0 0, .agg (tidS t)] [] (bkH (docsF L) B) (.tup [.agg (docS doc0 nilS nilS nilS), eN 4]) (bkH (docsF L) B ++ []) := callOK_run 400 [hC 1 2 c1, hC 2 1 c2] (by kernel_rfl) (by kernel_rfl)
  exact key.post_mono fun ε R w hM => by
    have hM : Mem (_ :: docsF L (ε 0 1).1 (ε 0 1).2 :: _) w := hM
    have h1 := hM.front 1 rfl
    have h2 : Mem (docsX B.docs (ε 0 1).1 (ε 0 1).2 :: _) w := Mem.in_ex ⟨L, hL⟩ h1
    exact h2.front 1 rfl
theorem doc_ok {B : BookV} {t : Tid} (ht : TidOk t) {d : DocV} (h : lkD B.docs t = some d) (sm : DocSmall d) : CallOK Tryz.prog DocF [.ptr 0 0 0, .agg (tidS t)] [] (bkC B) (.tup [.agg (docS d (.raw 1 0) (.raw 1 1) (.raw 1 2)), eN 0]) (bkC B ++ docR d) := by
  refine shut (bkX fun L hL => ?_) rfl rfl rfl rfl
  obtain ⟨p, hp, rfl⟩ : ∃ p, lkt (docKV L) t = some p ∧ p.1 = d := by
    have := lkD_kv t L
    rw [hL, h] at this
    cases e : lkt (docKV L) t with
    | none => rw [e] at this; cases this
    | some p => rw [e] at this; exact ⟨p, rfl, by simpa using this⟩
  have c1 := foundD_ok L [] B ht hp
  have c2 := copied_in L p (mem_kv hp).1 sm
  rw [hL] at c2
  exact callOK_run 400 [hC 1 2 c1, hC 2 1 c2] (by kernel_rfl) (by kernel_rfl)
theorem cloneL_raw {n : Nat} {l : List Leg} (hl : l.length = n) (hn : n ≤ 1073741824) : CallOK Tryz.prog CloneL [.raw 0 0] [((0, 0), legR n l)] [] (.raw 1 0) [((1, 0), legR n l)] :=
  callOK_row1 rfl rfl fun F a c hR ok => cloneL0 F hR hl ok hn
theorem cloneI_raw {n : Nat} {l : List Int} (hl : l.length = n) (hn : n ≤ 1073741824) : CallOK Tryz.prog CloneI [.raw 0 0] [((0, 0), i64R n l)] [] (.raw 1 0) [((1, 0), i64R n l)] :=
  callOK_row1 rfl rfl fun F a c hR ok => cloneI0 F hR hl ok hn
def docI (d : DocV) : Heap := [((0, 10), legR d.s.legs.length d.s.legs), ((0, 11), taxR d.s.taxes.length d.s.taxes), ((0, 12), i64R d.vals.length d.vals)]
def docRaw (d : DocV) : SV := .agg (docS d (.raw 0 10) (.raw 0 11) (.raw 0 12))
def putD (ds : List DocV) (d : DocV) : List DocV := ds.map fun x => if x.t = d.t then d else x
def BookV.setD (B : BookV) (d : DocV) : BookV := { B with docs := putD B.docs d }
def SetDocF : Nat := 14
def putDA (L : List (DocV × DocA)) (p : DocV × DocA) : List (DocV × DocA) := L.map fun x => if x.1.t = p.1.t then p else x
theorem putDA_fst (p : DocV × DocA) : ∀ L : List (DocV × DocA), (putDA L p).map (·.1) = putD (L.map (·.1)) p.1
  | [] => rfl
  | x :: L => by
    have ih := putDA_fst p L
    unfold putDA putD at ih ⊢
    simp only [List.map_cons, ih]
    by_cases e : x.1.t = p.1.t
    · rw [if_pos e, if_pos e]
    · rw [if_neg e, if_neg e]
theorem putDA_kv (p : DocV × DocA) : ∀ {L : List (DocV × DocA)}, ((docKV L).map (·.1)).Nodup → (lkt (docKV L) p.1.t).isSome = true → putt (docKV L) p.1.t p = docKV (putDA L p)
  | [], _, h => by cases h
  | x :: L, hn, h => by
    have hn : (x.1.t :: (docKV L).map (·.1)).Nodup := hn
    rw [List.nodup_cons] at hn
    show (if _ then _ else _) = _
    by_cases e : x.1.t = p.1.t
    · rw [if_pos e]
      have hL : putDA L p = L := by
        unfold putDA
        refine (List.map_congr_left fun y hy => ?_).trans (List.map_id L)
        have : y.1.t ≠ p.1.t := fun q => hn.1 (by rw [e, ← q]; exact List.mem_map_of_mem (f := (·.1)) (List.mem_map_of_mem (f := fun p : DocV × DocA => (p.1.t, p)) hy))
        rw [if_neg this]; rfl
      show _ = docKV ((if _ then _ else _) :: putDA L p)
      rw [if_pos e, hL]
      rfl
    · rw [if_neg e]
      have h' : (lkt (docKV L) p.1.t).isSome = true := by
        have h : ((if _ then _ else _) : Option _).isSome = true := h
        rwa [if_neg e] at h
      show _ :: putt (docKV L) p.1.t p = docKV ((if _ then _ else _) :: putDA L p)
      rw [if_neg e, putDA_kv p hn.2 h']; rfl
theorem upd_docsL (L : List (DocV × DocA)) (d : DocV) (ht : TidOk d.t) (hn : ((docKV L).map (·.1)).Nodup) (hs : (lkt (docKV L) d.t).isSome = true) :
    OpG Tryz.prog (isUp DT) upXYZ [.map 0 0, .agg (tidS d.t), .agg (docS d (.raw 0 1) (.raw 0 2) (.raw 0 3))] [] [((0, 0), .fam (docsF L)), ((0, 1), legR d.s.legs.length d.s.legs), ((0, 2), taxR d.s.taxes.length d.s.taxes), ((0, 3), i64R d.vals.length d.vals)] (.val undef) [((0, 0), .fam (docsX (putD (L.map (·.1)) d)))] := by
  intro o ho
  refine ⟨(upd_docs [] [(d, docA0)] (d, docA0) ht (List.Perm.refl _) o ho).1, fun ε ρ R w hx hM => ?_⟩
  have hM : Mem (docsF L (ε 0 0).1 (ε 0 0).2 :: rowC 48 3 (asSl (ε 0 1).2) d.s.legs.length (cellsL encLeg d.s.legs) :: rowC 172 2 (asSl (ε 0 2).2) d.s.taxes.length (cellsL encTax d.s.taxes) :: rowC 2 1 (asSl (ε 0 3).2) d.vals.length (d.vals.map (.int .i64)) :: R) w := hM
  obtain ⟨la, lc, hvl, okl⟩ := row_sl (hM.owns 1 rfl)
  obtain ⟨ta, tc, hvt, okt⟩ := row_sl (hM.owns 2 rfl)
  obtain ⟨va, vc, hvv, okv⟩ := row_sl (hM.owns 3 rfl)
  rw [hvl, hvt, hvv] at hM
  have hM2 := docs_join (p := (d, ⟨la, lc, ta, tc, va, vc⟩)) rfl rfl rfl hM
  have hp : (putt (docKV L) d.t (d, (⟨la, lc, ta, tc, va, vc⟩ : DocA))).Perm (docKV (putDA L (d, ⟨la, lc, ta, tc, va, vc⟩))) := by
    rw [putDA_kv (d, ⟨la, lc, ta, tc, va, vc⟩) hn hs]
  have hA : SV.dens ε [.map 0 0, .agg (tidS d.t), .agg (docS d (.raw 0 1) (.raw 0 2) (.raw 0 3))] = SV.dens ε [.map 0 0, .agg (tidS d.t), .agg (docSA d ⟨la, lc, ta, tc, va, vc⟩)] := by
    simp only [SV.dens, SV.den, docS, docSA, hvl, hvt, hvv]
  rw [hA] at hx
  have := (upd_docs L (putDA L (d, ⟨la, lc, ta, tc, va, vc⟩)) (d, ⟨la, lc, ta, tc, va, vc⟩) ht hp o ho).2 ε ρ R w hx hM2
  exact res_mono (fun u w' ⟨x, h1, h2⟩ => ⟨x, h1, by
    have h2 : Mem (docsF (putDA L (d, ⟨la, lc, ta, tc, va, vc⟩)) (eset ε 1 x 0 0).1 (eset ε 1 x 0 0).2 :: R) w' := h2
    have h3 : Mem (docsX (putD (L.map (·.1)) d) (eset ε 1 x 0 0).1 (eset ε 1 x 0 0).2 :: R) w' := Mem.in_ex ⟨putDA L (d, ⟨la, lc, ta, tc, va, vc⟩), putDA_fst _ L⟩ h2
    exact h3⟩) this
def freeO (o : OwnV) : Bool := !o.away && decide (o.k.s = 1)
def asO (o : OwnV) (s : Int) : OwnV := { o with k := { o.k with s := s } }
def turn1 (B : BookV) (k : Kid) (o : OwnV) (s : Int) : BookV := bif freeO o then B.setO k (asO o s) else B
theorem lkt_turn1 {B : BookV} {k k' : Kid} {o : OwnV} {s : Int} (h : k ≠ k') : lkt (turn1 B k o s).owns k' = lkt B.owns k' := by
  unfold turn1 BookV.setO
  cases freeO o <;> cases (lkt B.owns k).isSome <;> first | rfl | (show lkt (putt B.owns k _) k' = _; rw [lkt_put, if_neg h])
def turnL (s : Int) (t : Tid) : BookV → Int → List OwnV → BookV
  | B, _, [] => B
  | B, i, o :: l => turnL s t (turn1 B ⟨t, i⟩ o s) (i + 1) l
def turnB (B : BookV) (t : Tid) (s : Int) : BookV := turnL s t B 0 (coupL B t)
def i64V (n : Nat) (l : List Value) : SC := .row 2 1 n (.shal l) []
def OwnOk (o : OwnV) : Prop := -9223372036854775808 ≤ o.k.v ∧ o.k.v ≤ 9223372036854775807
theorem coupL_len (B : BookV) (t : Tid) : (coupL B t).length ≤ 4 := by
  rcases coupL_cases B t with ⟨e, h0⟩ | ⟨a, e, h0, h1⟩ | ⟨a, b, e, h0, h1, h2⟩ | ⟨a, b, c, e, h0, h1, h2, h3⟩ | ⟨a, b, c, x, e, h0, h1, h2, h3⟩ <;> rw [e] <;> simp
end Go.Proofs.YtmhbpifhpolghaaGreat
end
