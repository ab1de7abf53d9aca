/- Ex1, Ex2, Ex3, Ex4. -/
import Derived.Test.YtifapcpcemigdaaGreatM81af217
import Derived.Test.YtifapcpcemigdaaGreatM3e71795
set_option maxRecDepth 100000
set_option linter.unusedVariables false
set_option linter.unusedSimpArgs false
set_option linter.unusedSectionVars false
section
namespace Go.Proofs.YtifapcpcemigdaaGreat
open Go.RowKit Go.Lib Go.Tk Go.Shelf Go.Vc Go.Sx
def coupL (B : BookV) (t : Tid) : List OwnV :=
  match lkt B.owns ⟨t, 0⟩ with
  | none => []
  | some a => match lkt B.owns ⟨t, 1⟩ with
    | none => [a]
    | some b => match lkt B.owns ⟨t, 2⟩ with
      | none => [a, b]
      | some c => match lkt B.owns ⟨t, 3⟩ with
        | none => [a, b, c]
        | some d => [a, b, c, d]
theorem coupL_cases (B : BookV) (t : Tid) : (coupL B t = [] ∧ lkt B.owns ⟨t, 0⟩ = none) ∨ (∃ a, coupL B t = [a] ∧ lkt B.owns ⟨t, 0⟩ = some a ∧ lkt B.owns ⟨t, 1⟩ = none) ∨
    (∃ a b, coupL B t = [a, b] ∧ lkt B.owns ⟨t, 0⟩ = some a ∧ lkt B.owns ⟨t, 1⟩ = some b ∧ lkt B.owns ⟨t, 2⟩ = none) ∨
    (∃ a b c, coupL B t = [a, b, c] ∧ lkt B.owns ⟨t, 0⟩ = some a ∧ lkt B.owns ⟨t, 1⟩ = some b ∧ lkt B.owns ⟨t, 2⟩ = some c ∧ lkt B.owns ⟨t, 3⟩ = none) ∨
    (∃ a b c d, coupL B t = [a, b, c, d] ∧ lkt B.owns ⟨t, 0⟩ = some a ∧ lkt B.owns ⟨t, 1⟩ = some b ∧ lkt B.owns ⟨t, 2⟩ = some c ∧ lkt B.owns ⟨t, 3⟩ = some d) := by
  unfold coupL
  cases h0 : lkt B.owns ⟨t, 0⟩ with
  | none => exact .inl ⟨rfl, rfl⟩
  | some a =>
    cases h1 : lkt B.owns ⟨t, 1⟩ with
    | none => exact .inr (.inl ⟨a, rfl, rfl, rfl⟩)
    | some b =>
      cases h2 : lkt B.owns ⟨t, 2⟩ with
      | none => exact .inr (.inr (.inl ⟨a, b, rfl, rfl, rfl, rfl⟩))
      | some c =>
        cases h3 : lkt B.owns ⟨t, 3⟩ with
        | none => exact .inr (.inr (.inr (.inl ⟨a, b, c, rfl, rfl, rfl, rfl, rfl⟩)))
        | some d => exact .inr (.inr (.inr (.inr ⟨a, b, c, d, rfl, rfl, rfl, rfl, rfl⟩)))
def statusL (B : BookV) (t : Tid) : List Int := (coupL B t).map (·.k.s)
def stS (l : List OwnV) : List SV := l.map fun o => .val (.int .u8 o.k.s)
def stR (l : List OwnV) : SC := .row 44 1 l.length (.deep (stS l)) []
def stC (l : List Int) : SC := .row 44 1 l.length (.shal (l.map (.int .u8))) []
theorem st_den (l : List OwnV) (ε : Env) (s k : Nat) : (stR l).den ε s k = (stC (l.map (·.k.s))).den ε s k := by
  have h : ∀ l : List OwnV, SV.dens ε (stS l) = (l.map (·.k.s)).map (.int .u8) := fun l => by
    induction l with
    | nil => rfl
    | cons x l ih => show _ :: SV.dens ε (stS l) = _; rw [ih]; rfl
  unfold stR stC
  simp only [SC.den, SL.den, h, List.length_map]
def StatusF : Nat := 14
theorem kidOk_at {t : Tid} (ht : TidOk t) {i : Int} (h0 : 0 ≤ i) (h1 : i ≤ 3) : KidOk ⟨t, i⟩ := ⟨ht, by show 0 ≤ i; omega, by show i ≤ 255; omega⟩
theorem status_d (B : BookV) {t : Tid} (ht : TidOk t) : CallOK Tryz.prog StatusF [.ptr 0 0 0, .agg (tidS t)] (bkC B) [] (.raw 1 0) [((1, 0), stR (coupL B t))] := by
  have c0 := own_c B (kidOk_at ht (i := 0) (by decide) (by decide))
  have c1 := own_c B (kidOk_at ht (i := 1) (by decide) (by decide))
  have c2 := own_c B (kidOk_at ht (i := 2) (by decide) (by decide))
  have c3 := own_c B (kidOk_at ht (i := 3) (by decide) (by decide))
  rcases coupL_cases B t with ⟨e, h0⟩ | ⟨a, e, h0, h1⟩ | ⟨a, b, e, h0, h1, h2⟩ | ⟨a, b, c, e, h0, h1, h2, h3⟩ | ⟨a, b, c, d, e, h0, h1, h2, h3⟩
  · rw [e]; rw [h0] at c0; exact callOK_runU 900 [hC 5 5 c0] (by kernel_rfl) (by kernel_rfl)
  · rw [e]; rw [h0] at c0; rw [h1] at c1; exact callOK_runU 900 [hC 5 5 c0, hC 5 5 c1] (by kernel_rfl) (by kernel_rfl)
  · rw [e]; rw [h0] at c0; rw [h1] at c1; rw [h2] at c2; exact callOK_runU 900 [hC 5 5 c0, hC 5 5 c1, hC 5 5 c2] (by kernel_rfl) (by kernel_rfl)
  · rw [e]; rw [h0] at c0; rw [h1] at c1; rw [h2] at c2; rw [h3] at c3; exact callOK_runU 900 [hC 5 5 c0, hC 5 5 c1, hC 5 5 c2, hC 5 5 c3] (by kernel_rfl) (by kernel_rfl)
  · rw [e]; rw [h0] at c0; rw [h1] at c1; rw [h2] at c2; rw [h3] at c3; exact callOK_runU 900 [hC 5 5 c0, hC 5 5 c1, hC 5 5 c2, hC 5 5 c3] (by kernel_rfl) (by kernel_rfl)
theorem status_c (B : BookV) {t : Tid} (ht : TidOk t) : CallOK Tryz.prog StatusF [.ptr 0 0 0, .agg (tidS t)] (bkC B) [] (.raw 1 0) [((1, 0), stC (statusL B t))] :=
  (status_d B ht).to_post fun ε => by simp only [hden, List.map_cons, List.map_nil, st_den]; rfl
def lkD (ds : List DocV) (t : Tid) : Option DocV := ds.find? fun d => decide (d.t = t)
theorem lkD_kv (t : Tid) : ∀ L : List (DocV × DocA), (lkt (docKV L) t).map (·.1) = lkD (L.map (·.1)) t
  | [] => rfl
  | p :: L => by
    show ((if p.1.t = t then some p else lkt (docKV L) t) : Option (DocV × DocA)).map (·.1) = _
    unfold lkD
    rw [List.map_cons, List.find?_cons]
    by_cases e : p.1.t = t
    · rw [if_pos e, decide_eq_true e]; rfl
    · rw [if_neg e, decide_eq_false e]; exact lkD_kv t L
def BdocsF : Nat := 34
def FoundD : Nat := 33
theorem bdocs_w (F : CF) (B : BookV) : CallOK Tryz.prog BdocsF [.ptr 0 0 0] (bkH F B) [] (.map 0 1) [] := callOK_run 400 [] (by kernel_rfl) (by kernel_rfl)
theorem foundD_no (L M : List (DocV × DocA)) (B : BookV) {t : Tid} (ht : TidOk t) (h : lkt (docKV L) t = none) : CallOK Tryz.prog FoundD [.ptr 0 0 0, .fn (.func BdocsF) [] [], .agg (tidS t)] (bkH (docsG L M) B) [] (.tup [.agg (docS doc0 nilS nilS nilS), eN 4]) [] := by
  have c1 := bdocs_w (docsG L M) B
  have c2 := look_docs L M ht
  rw [h] at c2
  exact callOK_run 400 [hC 4 2 c1, hG 4 4 c2] (by kernel_rfl) (by kernel_rfl)
theorem foundD_ok (L M : List (DocV × DocA)) (B : BookV) {t : Tid} (ht : TidOk t) {p : DocV × DocA} (h : lkt (docKV L) t = some p) : CallOK Tryz.prog FoundD [.ptr 0 0 0, .fn (.func BdocsF) [] [], .agg (tidS t)] (bkH (docsG L M) B) [] (.tup [.agg (docSA p.1 p.2), eN 0]) [] := by
  have c1 := bdocs_w (docsG L M) B
  have c2 := look_docs L M ht
  rw [h] at c2
  exact callOK_run 400 [hC 4 2 c1, hG 4 4 c2] (by kernel_rfl) (by kernel_rfl)
theorem cloneL_nil : CallOK Tryz.prog CloneL [nilS] [] [] nilS [] := callOK_run 400 [] (by kernel_rfl) (by kernel_rfl)
theorem cloneT_nil : CallOK Tryz.prog CloneT [nilS] [] [] nilS [] := callOK_run 400 [] (by kernel_rfl) (by kernel_rfl)
theorem cloneI_nil : CallOK Tryz.prog CloneI [nilS] [] [] nilS [] := callOK_run 400 [] (by kernel_rfl) (by kernel_rfl)
theorem copied_nil : CallOK Tryz.prog CopiedF [.agg (docS doc0 nilS nilS nilS)] [] [] (.agg (docS doc0 nilS nilS nilS)) [] := by
  have c1 := cloneL_nil
  have c2 := cloneT_nil
  have c3 := cloneI_nil
  exact callOK_run 400 [hC 1 3 c1, hC 1 7 c2, hC 1 10 c3] (by kernel_rfl) (by kernel_rfl)
def DocF : Nat := 13
theorem bkX {f : Nat} {args : List SV} {rd post : Heap} {ret : SV} {B B' : BookV} (h : ∀ L : List (DocV × DocA), L.map (·.1) = B.docs → CallOK Tryz.prog f args rd (bkH (docsF L) B) ret (bkH (docsX B'.docs) B' ++ post)) : CallOK Tryz.prog f args rd (bkH (docsX B.docs) B) ret (bkH (docsX B'.docs) B' ++ post) := by
  intro ε R w hM
  have hM : Mem ((hden ε rd ++ hden ε (bkH (docsX B.docs) B)) ++ R) w := by rw [← hden_append]; exact hM
  have hM1 : Mem (docsX B.docs (ε 0 1).1 (ε 0 1).2 :: (((SC.box none [.val (.int .u8 B.self), .val (.int .i64 B.n), .map 0 1, .map 0 2, .map 0 3]).den ε 0 0 :: (ownsF B.owns).den ε 0 2 :: (heldsF B.helds).den ε 0 3 :: []) ++ hden ε rd ++ R)) w := by
    refine mem_perm ?_ hM
    show ((hden ε rd ++ [_, docsX B.docs (ε 0 1).1 (ε 0 1).2, _, _]) ++ R).Perm _
    refine List.Perm.trans (List.Perm.append_right R List.perm_append_comm) ?_
    simp only [List.cons_append, List.nil_append, List.append_assoc]
    exact List.Perm.swap _ _ _
  obtain ⟨x, hM2⟩ := hM1.ex
  refine h x.1 x.2 ε R w ?_
  have : Mem ((hden ε rd ++ hden ε (bkH (docsF x.1) B)) ++ R) w := by
    refine mem_perm ?_ hM2
    show (docsF x.1 (ε 0 1).1 (ε 0 1).2 :: _).Perm ((hden ε rd ++ [_, docsF x.1 (ε 0 1).1 (ε 0 1).2, _, _]) ++ R)
    refine List.Perm.trans ?_ (List.Perm.append_right R List.perm_append_comm)
    simp only [List.cons_append, List.nil_append, List.append_assoc]
    exact List.Perm.swap _ _ _
  rw [← hden_append] at this
  exact this
theorem mem_kv {L : List (DocV × DocA)} {t : Tid} {p : DocV × DocA} (h : lkt (docKV L) t = some p) : p ∈ L ∧ p.1.t = t := by
  obtain ⟨q, hq, he⟩ := List.mem_map.1 (lkt_mem h)
  cases he
  exact ⟨hq, rfl⟩
theorem doc_no {B : BookV} {t : Tid} (ht : TidOk t) (h : lkD B.docs t = none) : CallOK Tryz.prog DocF [.ptr 0 0 0, .agg (tidS t)] [] (bkC B) (.tup [.agg (docS doc0 nilS nilS nilS), eN 4]) (bkC B) := by
  refine shut (post := []) (bkX (post := []) fun L hL => ?_) rfl rfl rfl rfl
  have hn : lkt (docKV L) t = none := by
    have := lkD_kv t L
    rw [hL, h] at this
    cases e : lkt (docKV L) t with
    | none => rfl
    | some p => rw [e] at this; cases this
  have c1 := foundD_no L [] B ht hn
  have c2 := copied_nil
  have key : CallOK Tryz.prog DocF [.ptr 0 0 0, .agg (tidS t)] [] (bkH (docsF L) B) (.tup [.agg (docS doc0 nilS nilS nilS), eN 4]) (bkH (docsF L) B ++ []) := callOK_run 400 [hC 1 2 c1, hC 2 1 c2] (by kernel_rfl) (by kernel_rfl)
  exact key.post_mono fun ε R w hM => by
    have hM : Mem (_ :: docsF L (ε 0 1).1 (ε 0 1).2 :: _) w := hM
    have h1 := hM.front 1 rfl
    have h2 : Mem (docsX B.docs (ε 0 1).1 (ε 0 1).2 :: _) w := Mem.in_ex ⟨L, hL⟩ h1
    exact h2.front 1 rfl
theorem doc_ok {B : BookV} {t : Tid} (ht : TidOk t) {d : DocV} (h : lkD B.docs t = some d) (sm : DocSmall d) : CallOK Tryz.prog DocF [.ptr 0 0 0, .agg (tidS t)] [] (bkC B) (.tup [.agg (docS d (.raw 1 0) (.raw 1 1) (.raw 1 2)), eN 0]) (bkC B ++ docR d) := by
  refine shut (bkX fun L hL => ?_) rfl rfl rfl rfl
  obtain ⟨p, hp, rfl⟩ : ∃ p, lkt (docKV L) t = some p ∧ p.1 = d := by
    have := lkD_kv t L
    rw [hL, h] at this
    cases e : lkt (docKV L) t with
    | none => rw [e] at this; cases this
    | some p => rw [e] at this; exact ⟨p, rfl, by simpa using this⟩
  have c1 := foundD_ok L [] B ht hp
  have c2 := copied_in L p (mem_kv hp).1 sm
  rw [hL] at c2
  exact callOK_run 400 [hC 1 2 c1, hC 2 1 c2] (by kernel_rfl) (by kernel_rfl)
end Go.Proofs.YtifapcpcemigdaaGreat
end
section
namespace Go.Proofs.YtifapcpcemigdaaGreat
open Go.RowKit Go.Lib Go.Tk Go.Shelf Go.Vc Go.Sx
theorem cloneL_raw {n : Nat} {l : List Leg} (hl : l.length = n) (hn : n ≤ 1073741824) : CallOK Tryz.prog CloneL [.raw 0 0] [((0, 0), legR n l)] [] (.raw 1 0) [((1, 0), legR n l)] :=
  callOK_row1 rfl rfl fun F a c hR ok => cloneL0 F hR hl ok hn
theorem cloneT_raw {n : Nat} {l : List Tax} (hl : l.length = n) (hn : n ≤ 1073741824) : CallOK Tryz.prog CloneT [.raw 0 0] [((0, 0), taxR n l)] [] (.raw 1 0) [((1, 0), taxR n l)] :=
  callOK_row1 rfl rfl fun F a c hR ok => cloneT0 F hR hl ok hn
theorem cloneI_raw {n : Nat} {l : List Int} (hl : l.length = n) (hn : n ≤ 1073741824) : CallOK Tryz.prog CloneI [.raw 0 0] [((0, 0), i64R n l)] [] (.raw 1 0) [((1, 0), i64R n l)] :=
  callOK_row1 rfl rfl fun F a c hR ok => cloneI0 F hR hl ok hn
def docI (d : DocV) : Heap := [((0, 10), legR d.s.legs.length d.s.legs), ((0, 11), taxR d.s.taxes.length d.s.taxes), ((0, 12), i64R d.vals.length d.vals)]
def docRaw (d : DocV) : SV := .agg (docS d (.raw 0 10) (.raw 0 11) (.raw 0 12))
theorem copied_raw {d : DocV} (sm : DocSmall d) : CallOK Tryz.prog CopiedF [docRaw d] (docI d) [] (.agg (docS d (.raw 1 0) (.raw 1 1) (.raw 1 2))) (docR d) := by
  have k1 := cloneL_raw (l := d.s.legs) rfl sm.nl
  have k2 := cloneT_raw (l := d.s.taxes) rfl sm.nt
  have k3 := cloneI_raw (l := d.vals) rfl sm.nv
  exact callOK_run 400 [hC 1 3 k1, hC 1 7 k2, hC 1 10 k3] (by kernel_rfl) (by kernel_rfl)
def putD (ds : List DocV) (d : DocV) : List DocV := ds.map fun x => if x.t = d.t then d else x
def BookV.setD (B : BookV) (d : DocV) : BookV := { B with docs := putD B.docs d }
def SetDocF : Nat := 132
def putDA (L : List (DocV × DocA)) (p : DocV × DocA) : List (DocV × DocA) := L.map fun x => if x.1.t = p.1.t then p else x
theorem putDA_fst (p : DocV × DocA) : ∀ L : List (DocV × DocA), (putDA L p).map (·.1) = putD (L.map (·.1)) p.1
  | [] => rfl
  | x :: L => by
    have ih := putDA_fst p L
    unfold putDA putD at ih ⊢
    simp only [List.map_cons, ih]
    by_cases e : x.1.t = p.1.t
    · rw [if_pos e, if_pos e]
    · rw [if_neg e, if_neg e]
theorem putDA_kv (p : DocV × DocA) : ∀ {L : List (DocV × DocA)}, ((docKV L).map (·.1)).Nodup → (lkt (docKV L) p.1.t).isSome = true → putt (docKV L) p.1.t p = docKV (putDA L p)
  | [], _, h => by cases h
  | x :: L, hn, h => by
    have hn : (x.1.t :: (docKV L).map (·.1)).Nodup := hn
    rw [List.nodup_cons] at hn
    show (if _ then _ else _) = _
    by_cases e : x.1.t = p.1.t
    · rw [if_pos e]
      have hL : putDA L p = L := by
        unfold putDA
        refine (List.map_congr_left fun y hy => ?_).trans (List.map_id L)
        have : y.1.t ≠ p.1.t := fun q => hn.1 (by rw [e, ← q]; exact List.mem_map_of_mem (f := (·.1)) (List.mem_map_of_mem (f := fun p : DocV × DocA => (p.1.t, p)) hy))
        rw [if_neg this]; rfl
      show _ = docKV ((if _ then _ else _) :: putDA L p)
      rw [if_pos e, hL]
      rfl
    · rw [if_neg e]
      have h' : (lkt (docKV L) p.1.t).isSome = true := by
        have h : ((if _ then _ else _) : Option _).isSome = true := h
        rwa [if_neg e] at h
      show _ :: putt (docKV L) p.1.t p = docKV ((if _ then _ else _) :: putDA L p)
      rw [if_neg e, putDA_kv p hn.2 h']; rfl
theorem upd_docsL (L : List (DocV × DocA)) (d : DocV) (ht : TidOk d.t) (hn : ((docKV L).map (·.1)).Nodup) (hs : (lkt (docKV L) d.t).isSome = true) :
    OpG Tryz.prog (isUp DT) upXYZ [.map 0 0, .agg (tidS d.t), .agg (docS d (.raw 0 1) (.raw 0 2) (.raw 0 3))] [] [((0, 0), .fam (docsF L)), ((0, 1), legR d.s.legs.length d.s.legs), ((0, 2), taxR d.s.taxes.length d.s.taxes), ((0, 3), i64R d.vals.length d.vals)] (.val undef) [((0, 0), .fam (docsX (putD (L.map (·.1)) d)))] := by
  intro o ho
  refine ⟨(upd_docs [] [(d, docA0)] (d, docA0) ht (List.Perm.refl _) o ho).1, fun ε ρ R w hx hM => ?_⟩
  have hM : Mem (docsF L (ε 0 0).1 (ε 0 0).2 :: rowC 43 3 (asSl (ε 0 1).2) d.s.legs.length (cellsL encLeg d.s.legs) :: rowC 154 2 (asSl (ε 0 2).2) d.s.taxes.length (cellsL encTax d.s.taxes) :: rowC 2 1 (asSl (ε 0 3).2) d.vals.length (d.vals.map (.int .i64)) :: R) w := hM
  obtain ⟨la, lc, hvl, okl⟩ := row_sl (hM.owns 1 rfl)
  obtain ⟨ta, tc, hvt, okt⟩ := row_sl (hM.owns 2 rfl)
  obtain ⟨va, vc, hvv, okv⟩ := row_sl (hM.owns 3 rfl)
  rw [hvl, hvt, hvv] at hM
  have hM2 := docs_join (p := (d, ⟨la, lc, ta, tc, va, vc⟩)) rfl rfl rfl hM
  have hp : (putt (docKV L) d.t (d, (⟨la, lc, ta, tc, va, vc⟩ : DocA))).Perm (docKV (putDA L (d, ⟨la, lc, ta, tc, va, vc⟩))) := by
    rw [putDA_kv (d, ⟨la, lc, ta, tc, va, vc⟩) hn hs]
  have hA : SV.dens ε [.map 0 0, .agg (tidS d.t), .agg (docS d (.raw 0 1) (.raw 0 2) (.raw 0 3))] = SV.dens ε [.map 0 0, .agg (tidS d.t), .agg (docSA d ⟨la, lc, ta, tc, va, vc⟩)] := by
    simp only [SV.dens, SV.den, docS, docSA, hvl, hvt, hvv]
  rw [hA] at hx
  have := (upd_docs L (putDA L (d, ⟨la, lc, ta, tc, va, vc⟩)) (d, ⟨la, lc, ta, tc, va, vc⟩) ht hp o ho).2 ε ρ R w hx hM2
  exact res_mono (fun u w' ⟨x, h1, h2⟩ => ⟨x, h1, by
    have h2 : Mem (docsF (putDA L (d, ⟨la, lc, ta, tc, va, vc⟩)) (eset ε 1 x 0 0).1 (eset ε 1 x 0 0).2 :: R) w' := h2
    have h3 : Mem (docsX (putD (L.map (·.1)) d) (eset ε 1 x 0 0).1 (eset ε 1 x 0 0).2 :: R) w' := Mem.in_ex ⟨putDA L (d, ⟨la, lc, ta, tc, va, vc⟩), putDA_fst _ L⟩ h2
    exact h3⟩) this
theorem setDoc_ok {B : BookV} {d : DocV} (ht : TidOk d.t) {d0 : DocV} (h : lkD B.docs d.t = some d0) (hn : (B.docs.map (·.t)).Nodup) (sm : DocSmall d) : CallOK Tryz.prog SetDocF [.ptr 0 0 0, docRaw d] (docI d) (bkC B) (eN 0) (bkC (B.setD d)) := by
  refine shut (post := []) (bkX (post := []) fun L hL => ?_) rfl rfl rfl rfl
  obtain ⟨p0, hp0⟩ : ∃ p, lkt (docKV L) d.t = some p := by
    have := lkD_kv d.t L
    rw [hL, h] at this
    cases e : lkt (docKV L) d.t with
    | none => rw [e] at this; cases this
    | some p => exact ⟨p, rfl⟩
  have hnk : ((docKV L).map (·.1)).Nodup := by rw [docKV_map, hL]; exact hn
  have c1 := foundD_ok L [] B ht hp0
  have c2 := copied_raw sm
  have c3 := upd_docsL L d ht hnk (by rw [hp0]; rfl)
  rw [hL] at c3
  exact callOK_run 400 [hC 1 3 c1, hC 4 7 c2, hG 4 8 c3] (by kernel_rfl) (by kernel_rfl)
end Go.Proofs.YtifapcpcemigdaaGreat
end
section
namespace Go.Proofs.YtifapcpcemigdaaGreat
open Go.RowKit Go.Lib Go.Tk Go.Shelf Go.Vc Go.Sx
def MAddF : Nat := 72
def MSumF : Nat := 41
def GiveWF : Nat := 165
def PriceF : Nat := 127
theorem madd_w (a b : Int) : CallOK Tryz.prog MAddF [.val (.int .i64 a), .val (.int .i64 b)] [] [] (.tup [.val (.int .i64 (addI a b).1), eN (addI a b).2]) [] := callOK_pure fun ε w => add_any a b w
theorem tgive_w {v p : Int} (hv : v ≤ 9223372036854775807) (hp : p ≤ 9223372036854775807) : CallOK Tryz.prog GiveWF [.val (.int .i64 v), .val (.int .i64 p)] [] [] (.tup [.val (.int .i64 (giveV v p)), .val (.int .i64 (giveK v p))]) [] :=
  callOK_pure fun ε w => (give_any v p w hv hp).mono fun e w' ⟨h1, h2⟩ => ⟨h1, by subst h2; exact Below.refl _ _⟩
theorem msum_open (F : CF) {a : Option Addr} {n c : Nat} {xs : List Int} (hR : ∀ b v, Rd (F b v) a (xs.map (.int .i64))) (hn : xs.length = n) (hm : n ≤ 9223372036854775807) : CallOK Tryz.prog MSumF [.val (.slice a n c)] [((0, 0), .fam F)] [] (.tup [.val (.int .i64 (sumFrom 0 xs).1), eN (sumFrom 0 xs).2]) [] := by
  subst hn
  intro ε R w hM
  have hM : Mem (F (ε 0 0).1 (ε 0 0).2 :: R) w := hM
  refine (sum_any a c xs w ((hR _ _).row hM 0 rfl) hm).mono ?_
  rintro e w' ⟨rfl, hb⟩
  exact ⟨ε 1, rfl, by rw [eset_self]; exact hM.kept hb⟩
theorem price_F (F : CF) {s : SaleV} {A : SaleA} (ok : SaleOk s) (hl : ∀ b v, Rd (F b v) A.la (cellsL encLeg s.legs)) (ht : ∀ b v, Rd (F b v) A.ta (cellsL encTax s.taxes)) (h1 : A.la = none → A.lc = 0) (h2 : A.ta = none → A.tc = 0) :
    CallOK Tryz.prog PriceF [.agg (salS s (.val (.slice A.la s.legs.length A.lc)) (.val (.slice A.ta s.taxes.length A.tc)))] [((0, 9), .fam F)] [] (.tup [.val (.int .i64 (sumFrom 0 (priceL s)).1), eN (sumFrom 0 (priceL s)).2]) [] := by
  intro ε R w hM
  have hM : Mem (F (ε 0 9).1 (ε 0 9).2 :: R) w := hM
  have hs : SaleAt w s A := ⟨(hl _ _).row hM 0 rfl, (ht _ _).row hM 0 rfl, h1, h2⟩
  refine (price_any s A w hs ok).mono ?_
  rintro e w' ⟨rfl, hb⟩
  exact ⟨ε 1, rfl, by rw [eset_self]; exact hM.kept hb⟩
theorem callOK_rd {P : Program} {f : Nat} {args : List SV} {rd rd' pre post : Heap} {ret : SV} (he : ∀ ε, hden ε rd = hden ε rd') (h : CallOK P f args rd pre ret post) : CallOK P f args rd' pre ret post := fun ε R w hM => by
  rw [hden_append, ← he, ← hden_append] at hM
  refine (h ε R w hM).mono ?_
  rintro e w' ⟨x, h1, h2⟩
  exact ⟨x, h1, by rw [hden_append, ← he, ← hden_append]; exact h2⟩
def salRd (s : SaleV) : Heap := [((0, 10), legR s.legs.length s.legs), ((0, 11), taxR s.taxes.length s.taxes)]
theorem sal_rd (s : SaleV) (ε : Env) : hden ε [((0, 10), legD s.legs.length s.legs), ((0, 11), taxD s.taxes.length s.taxes)] = hden ε (salRd s) := by
  simp only [hden, List.map_cons, List.map_nil, salRd, legD, taxD, legR, taxR, SC.den, SL.den, legs_dens, taxes_dens]
theorem price_D {s : SaleV} (ok : SaleOk s) : CallOK Tryz.prog PriceF [.agg (salS s (.raw 0 10) (.raw 0 11))] [((0, 10), legD s.legs.length s.legs), ((0, 11), taxD s.taxes.length s.taxes)] [] (.tup [.val (.int .i64 (sumFrom 0 (priceL s)).1), eN (sumFrom 0 (priceL s)).2]) [] :=
  raw2 (args := fun x y => [.agg (salS s x y)]) (fun ε ε' x y x' y' h1 h2 h3 => by simp only [SV.dens, SV.den, salS, h1, h2]) (fun F A hl ht h1 h2 => price_F F ok hl ht (fun e => (h1.nil e).2) (fun e => (h2.nil e).2)) rfl rfl rfl
theorem price_R {s : SaleV} (ok : SaleOk s) : CallOK Tryz.prog PriceF [.agg (salS s (.raw 0 10) (.raw 0 11))] (salRd s) [] (.tup [.val (.int .i64 (sumFrom 0 (priceL s)).1), eN (sumFrom 0 (priceL s)).2]) [] := callOK_rd (sal_rd s) (price_D ok)
def repS (e : Int) (t : Tid) (amt : Int) (st : SV) : List SV := [eN e, .val (.int .u8 t.c), .val (.int .u64 t.r), .val (.int .i64 amt), st]
def FailedF : Nat := 129
def ToldF : Nat := 130
def FirstF : Nat := 128
theorem failed_w (e : Int) : CallOK Tryz.prog FailedF [eN e] [] [] (.tup [.agg (repS e tid0 0 nilS), eN e]) [] := callOK_run 400 [] (by kernel_rfl) (by kernel_rfl)
theorem told_w (B : BookV) {t : Tid} (ht : TidOk t) (amt : Int) : CallOK Tryz.prog ToldF [.ptr 0 0 0, .agg (tidS t), .val (.int .i64 amt)] (bkC B) [] (.tup [.agg (repS 0 t amt (.raw 1 0)), eN 0]) [((1, 0), stC (statusL B t))] := by
  have c1 := status_c B ht
  exact callOK_run 400 [hC 1 4 c1] (by kernel_rfl) (by kernel_rfl)
def errR (l : List SV) (n : Nat) : SC := .row 26 1 n (.deep l) []
def first2 (a b : Int) : Int := bif decide (a = 0) then b else a
theorem first2_w (a b : Int) : CallOK Tryz.prog FirstF [.raw 0 0] [((0, 0), errR [eN a, eN b] 2)] [] (eN (first2 a b)) [] := by
  unfold first2
  rcases Bool.eq_false_or_eq_true (decide (a = 0)) with e1 | e1
  · have f1 : (!decide (a = 0)) = false := by rw [e1]; rfl
    rw [e1]
    rcases Bool.eq_false_or_eq_true (decide (b = 0)) with e2 | e2
    · have f2 : (!decide (b = 0)) = false := by rw [e2]; rfl
      have z : b = 0 := of_decide_eq_true e2
      subst z
      exact callOK_runU 400 [hB 4 1 _ _ f1] (by kernel_rfl) (by kernel_rfl)
    · have f2 : (!decide (b = 0)) = true := by rw [e2]; rfl
      exact callOK_runU 400 [hB 4 1 _ _ f1, hB 4 1 _ _ f2] (by kernel_rfl) (by kernel_rfl)
  · have f1 : (!decide (a = 0)) = true := by rw [e1]; rfl
    rw [e1]
    exact callOK_runU 400 [hB 4 1 _ _ f1] (by kernel_rfl) (by kernel_rfl)
theorem first3_w (a b c : Int) : CallOK Tryz.prog FirstF [.raw 0 0] [((0, 0), errR [eN a, eN b, eN c] 3)] [] (eN (first2 a (first2 b c))) [] := by
  unfold first2
  rcases Bool.eq_false_or_eq_true (decide (a = 0)) with e1 | e1
  · have f1 : (!decide (a = 0)) = false := by rw [e1]; rfl
    rw [e1]
    rcases Bool.eq_false_or_eq_true (decide (b = 0)) with e2 | e2
    · have f2 : (!decide (b = 0)) = false := by rw [e2]; rfl
      rw [e2]
      rcases Bool.eq_false_or_eq_true (decide (c = 0)) with e3 | e3
      · have f3 : (!decide (c = 0)) = false := by rw [e3]; rfl
        have z : c = 0 := of_decide_eq_true e3
        subst z
        exact callOK_runU 400 [hB 4 1 _ _ f1, hB 4 1 _ _ f2] (by kernel_rfl) (by kernel_rfl)
      · have f3 : (!decide (c = 0)) = true := by rw [e3]; rfl
        exact callOK_runU 400 [hB 4 1 _ _ f1, hB 4 1 _ _ f2, hB 4 1 _ _ f3] (by kernel_rfl) (by kernel_rfl)
    · have f2 : (!decide (b = 0)) = true := by rw [e2]; rfl
      rw [e2]
      exact callOK_runU 400 [hB 4 1 _ _ f1, hB 4 1 _ _ f2] (by kernel_rfl) (by kernel_rfl)
  · have f1 : (!decide (a = 0)) = true := by rw [e1]; rfl
    rw [e1]
    exact callOK_runU 400 [hB 4 1 _ _ f1] (by kernel_rfl) (by kernel_rfl)
def freeO (o : OwnV) : Bool := !o.away && decide (o.k.s = 1)
def EfreeF : Nat := 136
theorem efree_w (o : OwnV) : CallOK Tryz.prog EfreeF [.agg (ownS o)] [] [] (.val (.bool (freeO o))) [] := by
  have c1 := free_w o.k.s
  unfold freeO
  rcases Bool.eq_false_or_eq_true o.away with e1 | e1 <;> rcases Bool.eq_false_or_eq_true (decide (o.k.s = 1)) with e2 | e2 <;> simp only [e1, e2] <;> exact callOK_run 400 [hB 1 1 _ _ e1, hC 1 7 c1, hB 1 7 _ _ e2] (by kernel_rfl) (by kernel_rfl)
def asO (o : OwnV) (s : Int) : OwnV := { o with k := { o.k with s := s } }
def turn1 (B : BookV) (k : Kid) (o : OwnV) (s : Int) : BookV := bif freeO o then B.setO k (asO o s) else B
def Turn1F : Nat := 166
def EachF : Nat := 134
def TurnF : Nat := 133
def turnRd (s : Int) : Heap := [((0, 1), .box none [.val (.int .u8 s)]), ((0, 2), .box none [.ptr 0 0 0])]
theorem turn1_w (B : BookV) {k : Kid} (hk : KidOk k) (o : OwnV) (s : Int) : CallOK Tryz.prog Turn1F [.agg (kidS k), .agg (ownS o), .ptr 0 1 0, .ptr 0 2 0] (turnRd s) (bkC B) noS (bkC (turn1 B k o s)) := by
  have c1 := efree_w o
  have c2 := setOwn_c B hk (asO o s)
  unfold turn1
  rcases Bool.eq_false_or_eq_true (freeO o) with e1 | e1 <;> simp only [e1] at c1 ⊢ <;> exact callOK_run 400 [hC 1 1 c1, hC 3 3 c2] (by kernel_rfl) (by kernel_rfl)
theorem lkt_turn1 {B : BookV} {k k' : Kid} {o : OwnV} {s : Int} (h : k ≠ k') : lkt (turn1 B k o s).owns k' = lkt B.owns k' := by
  unfold turn1 BookV.setO
  cases freeO o <;> cases (lkt B.owns k).isSome <;> first | rfl | (show lkt (putt B.owns k _) k' = _; rw [lkt_put, if_neg h])
def turnL (s : Int) (t : Tid) : BookV → Int → List OwnV → BookV
  | B, _, [] => B
  | B, i, o :: l => turnL s t (turn1 B ⟨t, i⟩ o s) (i + 1) l
def turnB (B : BookV) (t : Tid) (s : Int) : BookV := turnL s t B 0 (coupL B t)
def turnFn : SV := .fn (.func Turn1F) [] [.ptr 0 1 0, .ptr 0 2 0]
theorem each_turn (B : BookV) {t : Tid} (ht : TidOk t) (s : Int) : CallOK Tryz.prog EachF [.ptr 0 0 0, .agg (tidS t), turnFn] (turnRd s) (bkC B) noS (bkC (turnB B t s)) := by
  have st := status_d B ht
  have k0 := kidOk_at ht (i := 0) (by decide) (by decide)
  have k1 := kidOk_at ht (i := 1) (by decide) (by decide)
  have k2 := kidOk_at ht (i := 2) (by decide) (by decide)
  have k3 := kidOk_at ht (i := 3) (by decide) (by decide)
  have n01 : (⟨t, 0⟩ : Kid) ≠ ⟨t, 1⟩ := fun e => by cases e
  have n02 : (⟨t, 0⟩ : Kid) ≠ ⟨t, 2⟩ := fun e => by cases e
  have n03 : (⟨t, 0⟩ : Kid) ≠ ⟨t, 3⟩ := fun e => by cases e
  have n12 : (⟨t, 1⟩ : Kid) ≠ ⟨t, 2⟩ := fun e => by cases e
  have n13 : (⟨t, 1⟩ : Kid) ≠ ⟨t, 3⟩ := fun e => by cases e
  have n23 : (⟨t, 2⟩ : Kid) ≠ ⟨t, 3⟩ := fun e => by cases e
  have c0 := own_c B k0
  unfold turnB
  rcases coupL_cases B t with ⟨e, h0⟩ | ⟨a, e, h0, h1⟩ | ⟨a, b, e, h0, h1, h2⟩ | ⟨a, b, c, e, h0, h1, h2, h3⟩ | ⟨a, b, c, d, e, h0, h1, h2, h3⟩
  · rw [e] at st ⊢
    exact callOK_runU 900 [hC 1 2 st] (by kernel_rfl) (by kernel_rfl)
  · rw [e] at st ⊢
    rw [h0] at c0
    have t0 := turn1_w B k0 a s
    exact callOK_runU 900 [hC 1 2 st, hC 5 2 c0, hC 7 3 t0] (by kernel_rfl) (by kernel_rfl)
  · rw [e] at st ⊢
    rw [h0] at c0
    have t0 := turn1_w B k0 a s
    have c1 := own_c (turn1 B ⟨t, 0⟩ a s) k1
    rw [lkt_turn1 n01, h1] at c1
    have t1 := turn1_w (turn1 B ⟨t, 0⟩ a s) k1 b s
    exact callOK_runU 900 [hC 1 2 st, hC 5 2 c0, hC 7 3 t0, hC 5 2 c1, hC 7 3 t1] (by kernel_rfl) (by kernel_rfl)
  · rw [e] at st ⊢
    rw [h0] at c0
    have t0 := turn1_w B k0 a s
    have c1 := own_c (turn1 B ⟨t, 0⟩ a s) k1
    rw [lkt_turn1 n01, h1] at c1
    have t1 := turn1_w (turn1 B ⟨t, 0⟩ a s) k1 b s
    have c2 := own_c (turn1 (turn1 B ⟨t, 0⟩ a s) ⟨t, 1⟩ b s) k2
    rw [lkt_turn1 n12, lkt_turn1 n02, h2] at c2
    have t2 := turn1_w (turn1 (turn1 B ⟨t, 0⟩ a s) ⟨t, 1⟩ b s) k2 c s
    exact callOK_runU 900 [hC 1 2 st, hC 5 2 c0, hC 7 3 t0, hC 5 2 c1, hC 7 3 t1, hC 5 2 c2, hC 7 3 t2] (by kernel_rfl) (by kernel_rfl)
  · rw [e] at st ⊢
    rw [h0] at c0
    have t0 := turn1_w B k0 a s
    have c1 := own_c (turn1 B ⟨t, 0⟩ a s) k1
    rw [lkt_turn1 n01, h1] at c1
    have t1 := turn1_w (turn1 B ⟨t, 0⟩ a s) k1 b s
    have c2 := own_c (turn1 (turn1 B ⟨t, 0⟩ a s) ⟨t, 1⟩ b s) k2
    rw [lkt_turn1 n12, lkt_turn1 n02, h2] at c2
    have t2 := turn1_w (turn1 (turn1 B ⟨t, 0⟩ a s) ⟨t, 1⟩ b s) k2 c s
    have c3 := own_c (turn1 (turn1 (turn1 B ⟨t, 0⟩ a s) ⟨t, 1⟩ b s) ⟨t, 2⟩ c s) k3
    rw [lkt_turn1 n23, lkt_turn1 n13, lkt_turn1 n03, h3] at c3
    have t3 := turn1_w (turn1 (turn1 (turn1 B ⟨t, 0⟩ a s) ⟨t, 1⟩ b s) ⟨t, 2⟩ c s) k3 d s
    exact callOK_runU 900 [hC 1 2 st, hC 5 2 c0, hC 7 3 t0, hC 5 2 c1, hC 7 3 t1, hC 5 2 c2, hC 7 3 t2, hC 5 2 c3, hC 7 3 t3] (by kernel_rfl) (by kernel_rfl)
theorem turn_w (B : BookV) {t : Tid} (ht : TidOk t) (s : Int) : CallOK Tryz.prog TurnF [.ptr 0 0 0, .agg (tidS t), .val (.int .u8 s)] [] (bkC B) noS (bkC (turnB B t s)) := by
  have c1 := each_turn B ht s
  exact callOK_run 400 [hC 1 3 c1] (by kernel_rfl) (by kernel_rfl)
end Go.Proofs.YtifapcpcemigdaaGreat
end
section
namespace Go.Proofs.YtifapcpcemigdaaGreat
open Go.RowKit Go.Lib Go.Tk Go.Shelf Go.Vc Go.Sx
theorem msum_raw {xs : List Int} (hm : xs.length ≤ 9223372036854775807) : CallOK Tryz.prog MSumF [.raw 0 0] [((0, 0), i64R xs.length xs)] [] (.tup [.val (.int .i64 (sumFrom 0 xs).1), eN (sumFrom 0 xs).2]) [] :=
  callOK_row1 rfl rfl fun F a c hR ok => msum_open F hR rfl hm
structure GS where
  n : Nat
  gl : List Value
  m : Nat
  kl : List Value
  many : Int
def gstep (pen : Int) (o : OwnV) (σ : GS) : GS := bif freeO o then ⟨σ.n + 1, σ.gl ++ [.int .i64 (giveV o.k.v pen)], σ.m + 1, σ.kl ++ [.int .i64 (giveK o.k.v pen)], σ.many + 1⟩ else σ
def i64V (n : Nat) (l : List Value) : SC := .row 2 1 n (.shal l) []
def giftS (g k many e : Int) : List SV := [.val (.int .i64 g), .val (.int .i64 k), .val (.int .i64 many), eN e]
def giftRd (d : DocV) : Heap := [((0, 1), .box none (docS d (.raw 0 10) (.raw 0 11) (.raw 0 12)))]
def giftPre (σ : GS) : Heap := [((0, 2), .box none [.raw 0 5]), ((0, 5), i64V σ.n σ.gl), ((0, 3), .box none [.raw 0 6]), ((0, 6), i64V σ.m σ.kl), ((0, 4), .box none (giftS 0 0 σ.many 0))]
def giftPost (σ : GS) : Heap := [((0, 2), .box none [.raw 1 0]), ((1, 0), i64V σ.n σ.gl), ((0, 3), .box none [.raw 1 1]), ((1, 1), i64V σ.m σ.kl), ((0, 4), .box none (giftS 0 0 σ.many 0))]
def Gift1F : Nat := 164
def OwnOk (o : OwnV) : Prop := -9223372036854775808 ≤ o.k.v ∧ o.k.v ≤ 9223372036854775807
theorem gift1_w (d : DocV) (hp : d.s.pen ≤ 9223372036854775807) (k : Kid) {o : OwnV} (ho : OwnOk o) {σ : GS} (hn : σ.n + 1 ≤ 1073741824) (hm : σ.m + 1 ≤ 1073741824) (hc : 0 ≤ σ.many ∧ σ.many ≤ 100) :
    CallOK Tryz.prog Gift1F [.agg (kidS k), .agg (ownS o), .ptr 0 1 0, .ptr 0 2 0, .ptr 0 3 0, .ptr 0 4 0] (docI d ++ giftRd d) (giftPre σ) noS (giftPost (gstep d.s.pen o σ)) := by
  have c1 := efree_w o
  have c2 := tgive_w ho.2 hp
  have w1 : IntKind.i64.wrap (σ.many + 1) = σ.many + 1 := wr_i64 (by omega)
  unfold gstep
  rcases Bool.eq_false_or_eq_true (freeO o) with e1 | e1 <;> simp only [e1] at c1 ⊢ <;> exact callOK_run 400 [hC 1 1 c1, hC 2 6 c2, .opt 3 3 (.le _ hn), .opt 3 7 (.le _ hm), hI 4 2 IntKind.i64 _ _ w1] (by kernel_rfl) (by kernel_rfl)
def giftFn : SV := .fn (.func Gift1F) [] [.ptr 0 1 0, .ptr 0 2 0, .ptr 0 3 0, .ptr 0 4 0]
def gfold (pen : Int) : GS → List OwnV → GS
  | σ, [] => σ
  | σ, o :: l => gfold pen (gstep pen o σ) l
theorem gstep_le (pen : Int) (o : OwnV) (σ : GS) : (gstep pen o σ).n ≤ σ.n + 1 ∧ (gstep pen o σ).m ≤ σ.m + 1 ∧ σ.many ≤ (gstep pen o σ).many ∧ (gstep pen o σ).many ≤ σ.many + 1 := by
  unfold gstep
  cases freeO o
  · show σ.n ≤ _ ∧ σ.m ≤ _ ∧ σ.many ≤ σ.many ∧ σ.many ≤ _; omega
  · show σ.n + 1 ≤ _ ∧ σ.m + 1 ≤ _ ∧ σ.many ≤ σ.many + 1 ∧ σ.many + 1 ≤ _; omega
theorem each_gift (B : BookV) {d : DocV} (ht : TidOk d.t) (hp : d.s.pen ≤ 9223372036854775807) (ho : ∀ o ∈ coupL B d.t, OwnOk o) {σ : GS} (hn : σ.n ≤ 1000) (hm : σ.m ≤ 1000) (hc : σ.many = 0) :
    CallOK Tryz.prog EachF [.ptr 0 0 0, .agg (tidS d.t), giftFn] (bkC B ++ (docI d ++ giftRd d)) (giftPre σ) noS (giftPost (gfold d.s.pen σ (coupL B d.t))) := by
  have st := status_d B ht
  have k0 := kidOk_at ht (i := 0) (by decide) (by decide)
  have k1 := kidOk_at ht (i := 1) (by decide) (by decide)
  have k2 := kidOk_at ht (i := 2) (by decide) (by decide)
  have k3 := kidOk_at ht (i := 3) (by decide) (by decide)
  have c0 := own_c B k0
  have c1 := own_c B k1
  have c2 := own_c B k2
  have c3 := own_c B k3
  rcases coupL_cases B d.t with ⟨e, h0⟩ | ⟨a, e, h0, h1⟩ | ⟨a, b, e, h0, h1, h2⟩ | ⟨a, b, c, e, h0, h1, h2, h3⟩ | ⟨a, b, c, x, e, h0, h1, h2, h3⟩
  · rw [e] at st ho ⊢
    exact callOK_runU 900 [hC 1 2 st] (by kernel_rfl) (by kernel_rfl)
  · rw [e] at st ho ⊢
    rw [h0] at c0
    have t0 := gift1_w d hp ⟨d.t, 0⟩ (ho a (by simp)) (σ := σ) (by omega) (by omega) (by omega)
    exact callOK_runU 900 [hC 1 2 st, hC 5 2 c0, hC 7 3 t0] (by kernel_rfl) (by kernel_rfl)
  · rw [e] at st ho ⊢
    rw [h0] at c0
    rw [h1] at c1
    have t0 := gift1_w d hp ⟨d.t, 0⟩ (ho a (by simp)) (σ := σ) (by omega) (by omega) (by omega)
    have l0 := gstep_le d.s.pen a σ
    have t1 := gift1_w d hp ⟨d.t, 1⟩ (ho b (by simp)) (σ := gstep d.s.pen a σ) (by omega) (by omega) (by omega)
    exact callOK_runU 900 [hC 1 2 st, hC 5 2 c0, hC 7 3 t0, hC 5 2 c1, hC 7 3 t1] (by kernel_rfl) (by kernel_rfl)
  · rw [e] at st ho ⊢
    rw [h0] at c0
    rw [h1] at c1
    rw [h2] at c2
    have t0 := gift1_w d hp ⟨d.t, 0⟩ (ho a (by simp)) (σ := σ) (by omega) (by omega) (by omega)
    have l0 := gstep_le d.s.pen a σ
    have t1 := gift1_w d hp ⟨d.t, 1⟩ (ho b (by simp)) (σ := gstep d.s.pen a σ) (by omega) (by omega) (by omega)
    have l1 := gstep_le d.s.pen b (gstep d.s.pen a σ)
    have t2 := gift1_w d hp ⟨d.t, 2⟩ (ho c (by simp)) (σ := gstep d.s.pen b (gstep d.s.pen a σ)) (by omega) (by omega) (by omega)
    exact callOK_runU 900 [hC 1 2 st, hC 5 2 c0, hC 7 3 t0, hC 5 2 c1, hC 7 3 t1, hC 5 2 c2, hC 7 3 t2] (by kernel_rfl) (by kernel_rfl)
  · rw [e] at st ho ⊢
    rw [h0] at c0
    rw [h1] at c1
    rw [h2] at c2
    rw [h3] at c3
    have t0 := gift1_w d hp ⟨d.t, 0⟩ (ho a (by simp)) (σ := σ) (by omega) (by omega) (by omega)
    have l0 := gstep_le d.s.pen a σ
    have t1 := gift1_w d hp ⟨d.t, 1⟩ (ho b (by simp)) (σ := gstep d.s.pen a σ) (by omega) (by omega) (by omega)
    have l1 := gstep_le d.s.pen b (gstep d.s.pen a σ)
    have t2 := gift1_w d hp ⟨d.t, 2⟩ (ho c (by simp)) (σ := gstep d.s.pen b (gstep d.s.pen a σ)) (by omega) (by omega) (by omega)
    have l2 := gstep_le d.s.pen c (gstep d.s.pen b (gstep d.s.pen a σ))
    have t3 := gift1_w d hp ⟨d.t, 3⟩ (ho x (by simp)) (σ := gstep d.s.pen c (gstep d.s.pen b (gstep d.s.pen a σ))) (by omega) (by omega) (by omega)
    exact callOK_runU 900 [hC 1 2 st, hC 5 2 c0, hC 7 3 t0, hC 5 2 c1, hC 7 3 t1, hC 5 2 c2, hC 7 3 t2, hC 5 2 c3, hC 7 3 t3] (by kernel_rfl) (by kernel_rfl)
def freeL (B : BookV) (t : Tid) : List OwnV := (coupL B t).filter freeO
def giveL (B : BookV) (d : DocV) : List Int := d.left :: (freeL B d.t).map fun o => giveV o.k.v d.s.pen
def keepL (B : BookV) (d : DocV) : List Int := (freeL B d.t).map fun o => giveK o.k.v d.s.pen
theorem gfold_eq (pen : Int) : ∀ (l : List OwnV) (σ : GS), gfold pen σ l = ⟨σ.n + (l.filter freeO).length, σ.gl ++ (l.filter freeO).map (fun o => .int .i64 (giveV o.k.v pen)), σ.m + (l.filter freeO).length, σ.kl ++ (l.filter freeO).map (fun o => .int .i64 (giveK o.k.v pen)), σ.many + ((l.filter freeO).length : Int)⟩
  | [], σ => by simp [gfold]
  | o :: l, σ => by
    show gfold pen (gstep pen o σ) l = _
    rw [gfold_eq pen l]
    unfold gstep
    cases h : freeO o
    · simp [h]
    · simp only [h, cond_true, List.filter_cons_of_pos, List.length_cons, List.map_cons, List.append_assoc, List.cons_append, List.nil_append, GS.mk.injEq, true_and]
      refine ⟨by omega, by omega, by omega⟩
def gs0 (d : DocV) : GS := ⟨1, [.int .i64 d.left], 0, [], 0⟩
theorem gfold_0 (B : BookV) (d : DocV) : gfold d.s.pen (gs0 d) (coupL B d.t) = ⟨(giveL B d).length, (giveL B d).map (.int .i64), (keepL B d).length, (keepL B d).map (.int .i64), ((freeL B d.t).length : Int)⟩ := by
  rw [gfold_eq]
  simp only [gs0, giveL, keepL, freeL, List.length_cons, List.length_map, List.map_cons, List.map_map, List.cons_append, List.nil_append, GS.mk.injEq]
  refine ⟨by omega, rfl, by omega, rfl, by omega⟩
structure GiftV where
  g : Int
  k : Int
  many : Int
  e : Int
def giftV (B : BookV) (d : DocV) : GiftV := ⟨(sumFrom 0 (giveL B d)).1, (sumFrom 0 (keepL B d)).1, ((freeL B d.t).length : Int), first2 (sumFrom 0 (giveL B d)).2 (sumFrom 0 (keepL B d)).2⟩
def GiftsF : Nat := 131
theorem coupL_len (B : BookV) (t : Tid) : (coupL B t).length ≤ 4 := by
  rcases coupL_cases B t with ⟨e, h0⟩ | ⟨a, e, h0, h1⟩ | ⟨a, b, e, h0, h1, h2⟩ | ⟨a, b, c, e, h0, h1, h2, h3⟩ | ⟨a, b, c, x, e, h0, h1, h2, h3⟩ <;> rw [e] <;> simp
theorem freeL_len (B : BookV) (t : Tid) : (freeL B t).length ≤ 4 := Nat.le_trans (List.length_filter_le _ _) (coupL_len B t)
theorem gifts_w (B : BookV) {d : DocV} (ht : TidOk d.t) (hp : d.s.pen ≤ 9223372036854775807) (ho : ∀ o ∈ coupL B d.t, OwnOk o) :
    CallOK Tryz.prog GiftsF [.ptr 0 0 0, docRaw d] (bkC B ++ docI d) [] (.agg (giftS (giftV B d).g (giftV B d).k (giftV B d).many (giftV B d).e)) [] := by
  have c1 := each_gift B ht hp ho (σ := gs0 d) (by show (1 : Nat) ≤ 1000; decide) (by show (0 : Nat) ≤ 1000; decide) rfl
  rw [gfold_0] at c1
  have hl := freeL_len B d.t
  have lg : (giveL B d).length ≤ 5 := by unfold giveL; rw [List.length_cons, List.length_map]; omega
  have lk : (keepL B d).length ≤ 4 := by unfold keepL; rw [List.length_map]; omega
  have c2 := msum_raw (xs := giveL B d) (by omega)
  have c3 := msum_raw (xs := keepL B d) (by omega)
  have c4 := first2_w (sumFrom 0 (giveL B d)).2 (sumFrom 0 (keepL B d)).2
  unfold giftV
  generalize giveL B d = gl at *
  generalize keepL B d = kl at *
  generalize (freeL B d.t).length = fn at *
  refine callOK_intro (by kernel_rfl) fun eb R => ?_
  refine leaf_cut (rgK Tryz.prog GiftsF 3 []) [(0, .ptr 0 0 0), (3, .ptr 1 0 0), (4, .ptr 1 1 0), (5, .ptr 1 2 0), (6, .ptr 1 3 0), (7, .ptr 1 4 0)]
    ((bkC B ++ docI d) ++ [((1, 0), .box none (docS d (.raw 0 10) (.raw 0 11) (.raw 0 12))), ((1, 1), .box none (giftS 0 0 0 0)), ((1, 2), .box none (giftS 0 0 0 0)), ((1, 3), .box none [.raw 1 5]), ((1, 5), .row 2 1 1 (.deep [.val (.int .i64 d.left)]) []), ((1, 4), .box none [nilS])]) calNone false 400 [.stop 3] calNone_ok (by kernel_rfl) ?_
  refine go_open (X := Unit) (fun _ => ((bkC B ++ docI d) ++ [((1, 0), .box none (docS d (.raw 0 10) (.raw 0 11) (.raw 0 12))), ((1, 1), .box none (giftS 0 0 0 0)), ((1, 2), .box none (giftS 0 0 0 0)), ((1, 3), .box none [.raw 1 5]), ((1, 5), i64V 1 [.int .i64 d.left]), ((1, 4), .box none [nilS])]))
    (fun ε w hM => ⟨(), hM⟩) (fun _ => by kernel_rfl) fun _ => ?_
  exact leaf_end calNone false 400 [hC 3 4 c1, hC 5 1 c2, hC 6 1 c3, hC 7 3 c4] calNone_ok (by kernel_rfl)
end Go.Proofs.YtifapcpcemigdaaGreat
end
