/- Ex0, Ex1, Ex2, Ex3, Ex4, Ex5, Ex6, Ex7. -/
import Derived.Test.YtjeppnhkgiljpaaMc3bfa4b
import Derived.Test.YtjeppnhkgiljpaaSxQ
import Derived.Test.YtjeppnhkgiljpaaMf8d58ad
section
namespace Go.Proofs.Ytjeppnhkgiljpaa
set_option maxRecDepth 100000
open Go.RowKit Go.Lib Go.Tk Go.Shelf Go.Vc Go.Sx
set_option linter.unusedVariables false
set_option linter.unusedSimpArgs false

theorem callOK_pure {f : Nat} {args : List SV} {ret : SV} (h : ∀ ε w, Calls Try.prog f (SV.dens ε args).toArray w fun e w' => e = .returned (ret.den ε) ∧ Below w.heap.size w w') : CallOK Try.prog f args [] [] ret [] := by
  intro ε R w hM
  have hM : Mem R w := hM
  refine (h ε w).mono ?_
  rintro e w' ⟨rfl, hb⟩
  exact ⟨ε 1, by rw [eset_self], by rw [eset_self]; exact hM.kept hb⟩
/-- one argument that is a row of one's own -/
theorem callOK_row1 {f E size n : Nat} {xs : List Value} {ret : SV} {post : Heap} (hr : ret.ok no0 = true) (hp : hok no0 post = true)
    (h : ∀ (F : CF) (a : Option Addr) (c : Nat), (∀ b v, Rd (F b v) a xs) → SlOk a n c → CallOK Try.prog f [.val (.slice a n c)] [((0, 0), .fam F)] [] ret post) :
    CallOK Try.prog f [.raw 0 0] [((0, 0), .row E size n (.shal xs) [])] [] ret post := by
  intro ε R w hM
  have hM : Mem (rowC E size (asSl (ε 0 0).2) n xs :: R) w := hM
  obtain ⟨a, c, hv, hok⟩ := row_sl (hM.owns 0 rfl)
  have hA : (SV.dens ε [.raw 0 0]).toArray = (SV.dens ε [.val (.slice a n c)]).toArray := by simp only [SV.dens, SV.den]; rw [hv]
  rw [hA]
  rw [hv] at hM
  refine (h (fun _ _ => rowC E size (.slice a n c) n xs) a c (fun b v S w hS => rd_row _ _ hS) hok ε R w hM).mono ?_
  rintro e w' ⟨x, rfl, hm⟩
  refine ⟨x, rfl, ?_⟩
  have hm : Mem (rowC E size (.slice a n c) n xs :: (hden (eset ε 1 x) post ++ R)) w' := hm
  show Mem (rowC E size (asSl (eset ε 1 x 0 0).2) n xs :: (hden (eset ε 1 x) post ++ R)) w'
  rw [eset_ne (show (0 : Nat) ≠ 1 by decide), hv]
  exact hm
end Go.Proofs.Ytjeppnhkgiljpaa
end
section
namespace Go.Proofs.Ytjeppnhkgiljpaa
set_option maxRecDepth 100000
open Go.RowKit Go.Lib Go.Tk Go.Shelf Go.Vc Go.Sx
set_option linter.unusedVariables false
set_option linter.unusedSimpArgs false

/-! ### how a ticket's coupons stand -/
/-- the coupons of a ticket, in order -/
def coupL (B : BookV) (t : Tid) : List OwnV :=
  match lkt B.owns ⟨t, 0⟩ with
  | none => []
  | some a => match lkt B.owns ⟨t, 1⟩ with
    | none => [a]
    | some b => match lkt B.owns ⟨t, 2⟩ with
      | none => [a, b]
      | some c => match lkt B.owns ⟨t, 3⟩ with
        | none => [a, b, c]
        | some d => [a, b, c, d]
theorem coupL_cases (B : BookV) (t : Tid) : (coupL B t = [] ∧ lkt B.owns ⟨t, 0⟩ = none) ∨ (∃ a, coupL B t = [a] ∧ lkt B.owns ⟨t, 0⟩ = some a ∧ lkt B.owns ⟨t, 1⟩ = none) ∨
    (∃ a b, coupL B t = [a, b] ∧ lkt B.owns ⟨t, 0⟩ = some a ∧ lkt B.owns ⟨t, 1⟩ = some b ∧ lkt B.owns ⟨t, 2⟩ = none) ∨
    (∃ a b c, coupL B t = [a, b, c] ∧ lkt B.owns ⟨t, 0⟩ = some a ∧ lkt B.owns ⟨t, 1⟩ = some b ∧ lkt B.owns ⟨t, 2⟩ = some c ∧ lkt B.owns ⟨t, 3⟩ = none) ∨
    (∃ a b c d, coupL B t = [a, b, c, d] ∧ lkt B.owns ⟨t, 0⟩ = some a ∧ lkt B.owns ⟨t, 1⟩ = some b ∧ lkt B.owns ⟨t, 2⟩ = some c ∧ lkt B.owns ⟨t, 3⟩ = some d) := by
  unfold coupL
  cases h0 : lkt B.owns ⟨t, 0⟩ with
  | none => exact .inl ⟨rfl, rfl⟩
  | some a =>
    cases h1 : lkt B.owns ⟨t, 1⟩ with
    | none => exact .inr (.inl ⟨a, rfl, rfl, rfl⟩)
    | some b =>
      cases h2 : lkt B.owns ⟨t, 2⟩ with
      | none => exact .inr (.inr (.inl ⟨a, b, rfl, rfl, rfl, rfl⟩))
      | some c =>
        cases h3 : lkt B.owns ⟨t, 3⟩ with
        | none => exact .inr (.inr (.inr (.inl ⟨a, b, c, rfl, rfl, rfl, rfl, rfl⟩)))
        | some d => exact .inr (.inr (.inr (.inr ⟨a, b, c, d, rfl, rfl, rfl, rfl, rfl⟩)))
def statusL (B : BookV) (t : Tid) : List Int := (coupL B t).map (·.k.s)
def stS (l : List OwnV) : List SV := l.map fun o => .val (.int .u8 o.k.s)
def stR (l : List OwnV) : SC := .row 48 1 l.length (.deep (stS l)) []
def stC (l : List Int) : SC := .row 48 1 l.length (.shal (l.map (.int .u8))) []
theorem st_den (l : List OwnV) (ε : Env) (s k : Nat) : (stR l).den ε s k = (stC (l.map (·.k.s))).den ε s k := by
  have h : ∀ l : List OwnV, SV.dens ε (stS l) = (l.map (·.k.s)).map (.int .u8) := fun l => by
    induction l with
    | nil => rfl
    | cons x l ih => show _ :: SV.dens ε (stS l) = _; rw [ih]; rfl
  unfold stR stC
  simp only [SC.den, SL.den, h, List.length_map]
def StatusF : Nat := 62
theorem kidOk_at {t : Tid} (ht : TidOk t) {i : Int} (h0 : 0 ≤ i) (h1 : i ≤ 3) : KidOk ⟨t, i⟩ := ⟨ht, by show 0 ≤ i; omega, by show i ≤ 255; omega⟩
theorem status_d (B : BookV) {t : Tid} (ht : TidOk t) : CallOK Try.prog StatusF [.ptr 0 0 0, .agg (tidS t)] (bkC B) [] (.raw 1 0) [((1, 0), stR (coupL B t))] := by
  have c0 := own_c B (kidOk_at ht (i := 0) (by decide) (by decide))
  have c1 := own_c B (kidOk_at ht (i := 1) (by decide) (by decide))
  have c2 := own_c B (kidOk_at ht (i := 2) (by decide) (by decide))
  have c3 := own_c B (kidOk_at ht (i := 3) (by decide) (by decide))
  rcases coupL_cases B t with ⟨e, h0⟩ | ⟨a, e, h0, h1⟩ | ⟨a, b, e, h0, h1, h2⟩ | ⟨a, b, c, e, h0, h1, h2, h3⟩ | ⟨a, b, c, d, e, h0, h1, h2, h3⟩
  · rw [e]; rw [h0] at c0; exact callOK_runU 900 [hC 5 5 c0] (by kernel_rfl) (by kernel_rfl)
  · rw [e]; rw [h0] at c0; rw [h1] at c1; exact callOK_runU 900 [hC 5 5 c0, hC 5 5 c1] (by kernel_rfl) (by kernel_rfl)
  · rw [e]; rw [h0] at c0; rw [h1] at c1; rw [h2] at c2; exact callOK_runU 900 [hC 5 5 c0, hC 5 5 c1, hC 5 5 c2] (by kernel_rfl) (by kernel_rfl)
  · rw [e]; rw [h0] at c0; rw [h1] at c1; rw [h2] at c2; rw [h3] at c3; exact callOK_runU 900 [hC 5 5 c0, hC 5 5 c1, hC 5 5 c2, hC 5 5 c3] (by kernel_rfl) (by kernel_rfl)
  · rw [e]; rw [h0] at c0; rw [h1] at c1; rw [h2] at c2; rw [h3] at c3; exact callOK_runU 900 [hC 5 5 c0, hC 5 5 c1, hC 5 5 c2, hC 5 5 c3] (by kernel_rfl) (by kernel_rfl)
theorem status_c (B : BookV) {t : Tid} (ht : TidOk t) : CallOK Try.prog StatusF [.ptr 0 0 0, .agg (tidS t)] (bkC B) [] (.raw 1 0) [((1, 0), stC (statusL B t))] :=
  (status_d B ht).to_post fun ε => by simp only [hden, List.map_cons, List.map_nil, st_den]; rfl
/-! ### a document -/
def lkD (ds : List DocV) (t : Tid) : Option DocV := ds.find? fun d => decide (d.t = t)
theorem lkD_kv (t : Tid) : ∀ L : List (DocV × DocA), (lkt (docKV L) t).map (·.1) = lkD (L.map (·.1)) t
  | [] => rfl
  | p :: L => by
    show ((if p.1.t = t then some p else lkt (docKV L) t) : Option (DocV × DocA)).map (·.1) = _
    unfold lkD
    rw [List.map_cons, List.find?_cons]
    by_cases e : p.1.t = t
    · rw [if_pos e, decide_eq_true e]; rfl
    · rw [if_neg e, decide_eq_false e]; exact lkD_kv t L
def BdocsF : Nat := 64
def FoundD : Nat := 63
theorem bdocs_w (F : CF) (B : BookV) : CallOK Try.prog BdocsF [.ptr 0 0 0] (bkH F B) [] (.map 0 1) [] := callOK_run 400 [] (by kernel_rfl) (by kernel_rfl)
theorem foundD_no (L M : List (DocV × DocA)) (B : BookV) {t : Tid} (ht : TidOk t) (h : lkt (docKV L) t = none) : CallOK Try.prog FoundD [.ptr 0 0 0, .fn (.func BdocsF) [] [], .agg (tidS t)] (bkH (docsG L M) B) [] (.tup [.agg (docS doc0 nilS nilS nilS), eN 4]) [] := by
  have c1 := bdocs_w (docsG L M) B
  have c2 := look_docs L M ht
  rw [h] at c2
  exact callOK_run 400 [hC 4 2 c1, hG 4 4 c2] (by kernel_rfl) (by kernel_rfl)
theorem foundD_ok (L M : List (DocV × DocA)) (B : BookV) {t : Tid} (ht : TidOk t) {p : DocV × DocA} (h : lkt (docKV L) t = some p) : CallOK Try.prog FoundD [.ptr 0 0 0, .fn (.func BdocsF) [] [], .agg (tidS t)] (bkH (docsG L M) B) [] (.tup [.agg (docSA p.1 p.2), eN 0]) [] := by
  have c1 := bdocs_w (docsG L M) B
  have c2 := look_docs L M ht
  rw [h] at c2
  exact callOK_run 400 [hC 4 2 c1, hG 4 4 c2] (by kernel_rfl) (by kernel_rfl)
theorem cloneL_nil : CallOK Try.prog CloneL [nilS] [] [] nilS [] := callOK_run 400 [] (by kernel_rfl) (by kernel_rfl)
theorem cloneT_nil : CallOK Try.prog CloneT [nilS] [] [] nilS [] := callOK_run 400 [] (by kernel_rfl) (by kernel_rfl)
theorem cloneI_nil : CallOK Try.prog CloneI [nilS] [] [] nilS [] := callOK_run 400 [] (by kernel_rfl) (by kernel_rfl)
theorem copied_nil : CallOK Try.prog CopiedF [.agg (docS doc0 nilS nilS nilS)] [] [] (.agg (docS doc0 nilS nilS nilS)) [] := by
  have c1 := cloneL_nil
  have c2 := cloneT_nil
  have c3 := cloneI_nil
  exact callOK_run 400 [hC 1 3 c1, hC 1 7 c2, hC 1 10 c3] (by kernel_rfl) (by kernel_rfl)
def DocF : Nat := 28
/-- over whichever places of the documents' lists -/
theorem bkX {f : Nat} {args : List SV} {rd post : Heap} {ret : SV} {B B' : BookV} (h : ∀ L : List (DocV × DocA), L.map (·.1) = B.docs → CallOK Try.prog f args rd (bkH (docsF L) B) ret (bkH (docsX B'.docs) B' ++ post)) : CallOK Try.prog f args rd (bkH (docsX B.docs) B) ret (bkH (docsX B'.docs) B' ++ post) := by
  intro ε R w hM
  have hM : Mem ((hden ε rd ++ hden ε (bkH (docsX B.docs) B)) ++ R) w := by rw [← hden_append]; exact hM
  have hM1 : Mem (docsX B.docs (ε 0 1).1 (ε 0 1).2 :: (((SC.box none [.val (.int .u8 B.self), .val (.int .i64 B.n), .map 0 1, .map 0 2, .map 0 3]).den ε 0 0 :: (ownsF B.owns).den ε 0 2 :: (heldsF B.helds).den ε 0 3 :: []) ++ hden ε rd ++ R)) w := by
    refine mem_perm ?_ hM
    show ((hden ε rd ++ [_, docsX B.docs (ε 0 1).1 (ε 0 1).2, _, _]) ++ R).Perm _
    refine List.Perm.trans (List.Perm.append_right R List.perm_append_comm) ?_
    simp only [List.cons_append, List.nil_append, List.append_assoc]
    exact List.Perm.swap _ _ _
  obtain ⟨x, hM2⟩ := hM1.ex
  refine h x.1 x.2 ε R w ?_
  have : Mem ((hden ε rd ++ hden ε (bkH (docsF x.1) B)) ++ R) w := by
    refine mem_perm ?_ hM2
    show (docsF x.1 (ε 0 1).1 (ε 0 1).2 :: _).Perm ((hden ε rd ++ [_, docsF x.1 (ε 0 1).1 (ε 0 1).2, _, _]) ++ R)
    refine List.Perm.trans ?_ (List.Perm.append_right R List.perm_append_comm)
    simp only [List.cons_append, List.nil_append, List.append_assoc]
    exact List.Perm.swap _ _ _
  rw [← hden_append] at this
  exact this
theorem mem_kv {L : List (DocV × DocA)} {t : Tid} {p : DocV × DocA} (h : lkt (docKV L) t = some p) : p ∈ L ∧ p.1.t = t := by
  obtain ⟨q, hq, he⟩ := List.mem_map.1 (lkt_mem h)
  cases he
  exact ⟨hq, rfl⟩
theorem doc_no {B : BookV} {t : Tid} (ht : TidOk t) (h : lkD B.docs t = none) : CallOK Try.prog DocF [.ptr 0 0 0, .agg (tidS t)] [] (bkC B) (.tup [.agg (docS doc0 nilS nilS nilS), eN 4]) (bkC B) := by
  refine shut (post := []) (bkX (post := []) fun L hL => ?_) rfl rfl rfl rfl
  have hn : lkt (docKV L) t = none := by
    have := lkD_kv t L
    rw [hL, h] at this
    cases e : lkt (docKV L) t with
    | none => rfl
    | some p => rw [e] at this; cases this
  have c1 := foundD_no L [] B ht hn
  have c2 := copied_nil
  have key : CallOK Try.prog DocF [.ptr 0 0 0, .agg (tidS t)] [] (bkH (docsF L) B) (.tup [.agg (docS doc0 nilS nilS nilS), eN 4]) (bkH (docsF L) B ++ []) := callOK_run 400 [hC 1 2 c1, hC 2 1 c2] (by kernel_rfl) (by kernel_rfl)
  exact key.post_mono fun ε R w hM => by
    have hM : Mem (_ :: docsF L (ε 0 1).1 (ε 0 1).2 :: _) w := hM
    have h1 := hM.front 1 rfl
    have h2 : Mem (docsX B.docs (ε 0 1).1 (ε 0 1).2 :: _) w := Mem.in_ex ⟨L, hL⟩ h1
    exact h2.front 1 rfl
theorem doc_ok {B : BookV} {t : Tid} (ht : TidOk t) {d : DocV} (h : lkD B.docs t = some d) (sm : DocSmall d) : CallOK Try.prog DocF [.ptr 0 0 0, .agg (tidS t)] [] (bkC B) (.tup [.agg (docS d (.raw 1 0) (.raw 1 1) (.raw 1 2)), eN 0]) (bkC B ++ docR d) := by
  refine shut (bkX fun L hL => ?_) rfl rfl rfl rfl
  obtain ⟨p, hp, rfl⟩ : ∃ p, lkt (docKV L) t = some p ∧ p.1 = d := by
    have := lkD_kv t L
    rw [hL, h] at this
    cases e : lkt (docKV L) t with
    | none => rw [e] at this; cases this
    | some p => rw [e] at this; exact ⟨p, rfl, by simpa using this⟩
  have c1 := foundD_ok L [] B ht hp
  have c2 := copied_in L p (mem_kv hp).1 sm
  rw [hL] at c2
  exact callOK_run 400 [hC 1 2 c1, hC 2 1 c2] (by kernel_rfl) (by kernel_rfl)
end Go.Proofs.Ytjeppnhkgiljpaa
end
section
namespace Go.Proofs.Ytjeppnhkgiljpaa
set_option maxRecDepth 100000
open Go.RowKit Go.Lib Go.Tk Go.Shelf Go.Vc Go.Sx
set_option linter.unusedVariables false
set_option linter.unusedSimpArgs false

theorem cloneL_raw {n : Nat} {l : List Leg} (hl : l.length = n) (hn : n ≤ 1073741824) : CallOK Try.prog CloneL [.raw 0 0] [((0, 0), legR n l)] [] (.raw 1 0) [((1, 0), legR n l)] :=
  callOK_row1 rfl rfl fun F a c hR ok => cloneL0 F hR hl ok hn
theorem cloneT_raw {n : Nat} {l : List Tax} (hl : l.length = n) (hn : n ≤ 1073741824) : CallOK Try.prog CloneT [.raw 0 0] [((0, 0), taxR n l)] [] (.raw 1 0) [((1, 0), taxR n l)] :=
  callOK_row1 rfl rfl fun F a c hR ok => cloneT0 F hR hl ok hn
theorem cloneI_raw {n : Nat} {l : List Int} (hl : l.length = n) (hn : n ≤ 1073741824) : CallOK Try.prog CloneI [.raw 0 0] [((0, 0), i64R n l)] [] (.raw 1 0) [((1, 0), i64R n l)] :=
  callOK_row1 rfl rfl fun F a c hR ok => cloneI0 F hR hl ok hn
/-- a document's lists, handed in -/
def docI (d : DocV) : Heap := [((0, 10), legR d.s.legs.length d.s.legs), ((0, 11), taxR d.s.taxes.length d.s.taxes), ((0, 12), i64R d.vals.length d.vals)]
def docRaw (d : DocV) : SV := .agg (docS d (.raw 0 10) (.raw 0 11) (.raw 0 12))
theorem copied_raw {d : DocV} (sm : DocSmall d) : CallOK Try.prog CopiedF [docRaw d] (docI d) [] (.agg (docS d (.raw 1 0) (.raw 1 1) (.raw 1 2))) (docR d) := by
  have k1 := cloneL_raw (l := d.s.legs) rfl sm.nl
  have k2 := cloneT_raw (l := d.s.taxes) rfl sm.nt
  have k3 := cloneI_raw (l := d.vals) rfl sm.nv
  exact callOK_run 400 [hC 1 3 k1, hC 1 7 k2, hC 1 10 k3] (by kernel_rfl) (by kernel_rfl)
/-- a document in the place of the one of its ticket -/
def putD (ds : List DocV) (d : DocV) : List DocV := ds.map fun x => if x.t = d.t then d else x
def BookV.setD (B : BookV) (d : DocV) : BookV := { B with docs := putD B.docs d }
def SetDocF : Nat := 33
theorem setDoc_no {B : BookV} {d : DocV} (ht : TidOk d.t) (h : lkD B.docs d.t = none) : CallOK Try.prog SetDocF [.ptr 0 0 0, docRaw d] (docI d) (bkC B) (eN 4) (bkC B) := by
  refine shut (post := []) (bkX (post := []) fun L hL => ?_) rfl rfl rfl rfl
  have hn : lkt (docKV L) d.t = none := by
    have := lkD_kv d.t L
    rw [hL, h] at this
    cases e : lkt (docKV L) d.t with
    | none => rfl
    | some p => rw [e] at this; cases this
  have c1 := foundD_no L [] B ht hn
  have key : CallOK Try.prog SetDocF [.ptr 0 0 0, docRaw d] (docI d) (bkH (docsF L) B) (eN 4) (bkH (docsF L) B ++ []) := callOK_run 400 [hC 1 3 c1] (by kernel_rfl) (by kernel_rfl)
  exact key.post_mono fun ε R w hM => by
    have hM : Mem (_ :: docsF L (ε 0 1).1 (ε 0 1).2 :: _) w := hM
    have h1 := hM.front 1 rfl
    have h2 : Mem (docsX B.docs (ε 0 1).1 (ε 0 1).2 :: _) w := Mem.in_ex ⟨L, hL⟩ h1
    exact h2.front 1 rfl
/-- in the list that the map's is -/
def putDA (L : List (DocV × DocA)) (p : DocV × DocA) : List (DocV × DocA) := L.map fun x => if x.1.t = p.1.t then p else x
theorem putDA_fst (p : DocV × DocA) : ∀ L : List (DocV × DocA), (putDA L p).map (·.1) = putD (L.map (·.1)) p.1
  | [] => rfl
  | x :: L => by
    have ih := putDA_fst p L
    unfold putDA putD at ih ⊢
    simp only [List.map_cons, ih]
    by_cases e : x.1.t = p.1.t
    · rw [if_pos e, if_pos e]
    · rw [if_neg e, if_neg e]
theorem putDA_kv (p : DocV × DocA) : ∀ {L : List (DocV × DocA)}, ((docKV L).map (·.1)).Nodup → (lkt (docKV L) p.1.t).isSome = true → putt (docKV L) p.1.t p = docKV (putDA L p)
  | [], _, h => by cases h
  | x :: L, hn, h => by
    have hn : (x.1.t :: (docKV L).map (·.1)).Nodup := hn
    rw [List.nodup_cons] at hn
    show (if _ then _ else _) = _
    by_cases e : x.1.t = p.1.t
    · rw [if_pos e]
      have hL : putDA L p = L := by
        unfold putDA
        refine (List.map_congr_left fun y hy => ?_).trans (List.map_id L)
        have : y.1.t ≠ p.1.t := fun q => hn.1 (by rw [e, ← q]; exact List.mem_map_of_mem (f := (·.1)) (List.mem_map_of_mem (f := fun p : DocV × DocA => (p.1.t, p)) hy))
        rw [if_neg this]; rfl
      show _ = docKV ((if _ then _ else _) :: putDA L p)
      rw [if_pos e, hL]
      rfl
    · rw [if_neg e]
      have h' : (lkt (docKV L) p.1.t).isSome = true := by
        have h : ((if _ then _ else _) : Option _).isSome = true := h
        rwa [if_neg e] at h
      show _ :: putt (docKV L) p.1.t p = docKV ((if _ then _ else _) :: putDA L p)
      rw [if_neg e, putDA_kv p hn.2 h']; rfl
/-- a document whose lists lie in rows of one's own is set -/
theorem upd_docsL (L : List (DocV × DocA)) (d : DocV) (ht : TidOk d.t) (hn : ((docKV L).map (·.1)).Nodup) (hs : (lkt (docKV L) d.t).isSome = true) :
    OpG Try.prog (isUp DT) upXYZ [.map 0 0, .agg (tidS d.t), .agg (docS d (.raw 0 1) (.raw 0 2) (.raw 0 3))] [] [((0, 0), .fam (docsF L)), ((0, 1), legR d.s.legs.length d.s.legs), ((0, 2), taxR d.s.taxes.length d.s.taxes), ((0, 3), i64R d.vals.length d.vals)] (.val undef) [((0, 0), .fam (docsX (putD (L.map (·.1)) d)))] := by
  intro o ho
  refine ⟨(upd_docs [] [(d, docA0)] (d, docA0) ht (List.Perm.refl _) o ho).1, fun ε ρ R w hx hM => ?_⟩
  have hM : Mem (docsF L (ε 0 0).1 (ε 0 0).2 :: rowC 47 3 (asSl (ε 0 1).2) d.s.legs.length (cellsL encLeg d.s.legs) :: rowC 126 2 (asSl (ε 0 2).2) d.s.taxes.length (cellsL encTax d.s.taxes) :: rowC 2 1 (asSl (ε 0 3).2) d.vals.length (d.vals.map (.int .i64)) :: R) w := hM
  obtain ⟨la, lc, hvl, okl⟩ := row_sl (hM.owns 1 rfl)
  obtain ⟨ta, tc, hvt, okt⟩ := row_sl (hM.owns 2 rfl)
  obtain ⟨va, vc, hvv, okv⟩ := row_sl (hM.owns 3 rfl)
  rw [hvl, hvt, hvv] at hM
  have hM2 := docs_join (p := (d, ⟨la, lc, ta, tc, va, vc⟩)) rfl rfl rfl hM
  have hp : (putt (docKV L) d.t (d, (⟨la, lc, ta, tc, va, vc⟩ : DocA))).Perm (docKV (putDA L (d, ⟨la, lc, ta, tc, va, vc⟩))) := by
    rw [putDA_kv (d, ⟨la, lc, ta, tc, va, vc⟩) hn hs]
  have hA : SV.dens ε [.map 0 0, .agg (tidS d.t), .agg (docS d (.raw 0 1) (.raw 0 2) (.raw 0 3))] = SV.dens ε [.map 0 0, .agg (tidS d.t), .agg (docSA d ⟨la, lc, ta, tc, va, vc⟩)] := by
    simp only [SV.dens, SV.den, docS, docSA, hvl, hvt, hvv]
  rw [hA] at hx
  have := (upd_docs L (putDA L (d, ⟨la, lc, ta, tc, va, vc⟩)) (d, ⟨la, lc, ta, tc, va, vc⟩) ht hp o ho).2 ε ρ R w hx hM2
  exact res_mono (fun u w' ⟨x, h1, h2⟩ => ⟨x, h1, by
    have h2 : Mem (docsF (putDA L (d, ⟨la, lc, ta, tc, va, vc⟩)) (eset ε 1 x 0 0).1 (eset ε 1 x 0 0).2 :: R) w' := h2
    have h3 : Mem (docsX (putD (L.map (·.1)) d) (eset ε 1 x 0 0).1 (eset ε 1 x 0 0).2 :: R) w' := Mem.in_ex ⟨putDA L (d, ⟨la, lc, ta, tc, va, vc⟩), putDA_fst _ L⟩ h2
    exact h3⟩) this
theorem setDoc_ok {B : BookV} {d : DocV} (ht : TidOk d.t) {d0 : DocV} (h : lkD B.docs d.t = some d0) (hn : (B.docs.map (·.t)).Nodup) (sm : DocSmall d) : CallOK Try.prog SetDocF [.ptr 0 0 0, docRaw d] (docI d) (bkC B) (eN 0) (bkC (B.setD d)) := by
  refine shut (post := []) (bkX (post := []) fun L hL => ?_) rfl rfl rfl rfl
  obtain ⟨p0, hp0⟩ : ∃ p, lkt (docKV L) d.t = some p := by
    have := lkD_kv d.t L
    rw [hL, h] at this
    cases e : lkt (docKV L) d.t with
    | none => rw [e] at this; cases this
    | some p => exact ⟨p, rfl⟩
  have hnk : ((docKV L).map (·.1)).Nodup := by rw [docKV_map, hL]; exact hn
  have c1 := foundD_ok L [] B ht hp0
  have c2 := copied_raw sm
  have c3 := upd_docsL L d ht hnk (by rw [hp0]; rfl)
  rw [hL] at c3
  exact callOK_run 400 [hC 1 3 c1, hC 4 7 c2, hG 4 8 c3] (by kernel_rfl) (by kernel_rfl)
end Go.Proofs.Ytjeppnhkgiljpaa
end
section
namespace Go.Proofs.Ytjeppnhkgiljpaa
set_option maxRecDepth 100000
open Go.RowKit Go.Lib Go.Tk Go.Shelf Go.Vc Go.Sx
set_option linter.unusedVariables false
set_option linter.unusedSimpArgs false

/-! ### money -/
def MAddF : Nat := 32
def MSumF : Nat := 61
def GiveWF : Nat := 69
def PriceF : Nat := 24
theorem madd_w (a b : Int) : CallOK Try.prog MAddF [.val (.int .i64 a), .val (.int .i64 b)] [] [] (.tup [.val (.int .i64 (addI a b).1), eN (addI a b).2]) [] := callOK_pure fun ε w => add_any a b w
theorem tgive_w {v p : Int} (hv : v ≤ 9223372036854775807) (hp : p ≤ 9223372036854775807) : CallOK Try.prog GiveWF [.val (.int .i64 v), .val (.int .i64 p)] [] [] (.tup [.val (.int .i64 (giveV v p)), .val (.int .i64 (giveK v p))]) [] :=
  callOK_pure fun ε w => (give_any v p w hv hp).mono fun e w' ⟨h1, h2⟩ => ⟨h1, by subst h2; exact Below.refl _ _⟩
theorem msum_open (F : CF) {a : Option Addr} {n c : Nat} {xs : List Int} (hR : ∀ b v, Rd (F b v) a (xs.map (.int .i64))) (hn : xs.length = n) (hm : n ≤ 9223372036854775807) : CallOK Try.prog MSumF [.val (.slice a n c)] [((0, 0), .fam F)] [] (.tup [.val (.int .i64 (sumFrom 0 xs).1), eN (sumFrom 0 xs).2]) [] := by
  subst hn
  intro ε R w hM
  have hM : Mem (F (ε 0 0).1 (ε 0 0).2 :: R) w := hM
  refine (sum_any a c xs w ((hR _ _).row hM 0 rfl) hm).mono ?_
  rintro e w' ⟨rfl, hb⟩
  exact ⟨ε 1, rfl, by rw [eset_self]; exact hM.kept hb⟩
theorem price_F (F : CF) {s : SaleV} {A : SaleA} (ok : SaleOk s) (hl : ∀ b v, Rd (F b v) A.la (cellsL encLeg s.legs)) (ht : ∀ b v, Rd (F b v) A.ta (cellsL encTax s.taxes)) (h1 : A.la = none → A.lc = 0) (h2 : A.ta = none → A.tc = 0) :
    CallOK Try.prog PriceF [.agg (salS s (.val (.slice A.la s.legs.length A.lc)) (.val (.slice A.ta s.taxes.length A.tc)))] [((0, 9), .fam F)] [] (.tup [.val (.int .i64 (sumFrom 0 (priceL s)).1), eN (sumFrom 0 (priceL s)).2]) [] := by
  intro ε R w hM
  have hM : Mem (F (ε 0 9).1 (ε 0 9).2 :: R) w := hM
  have hs : SaleAt w s A := ⟨(hl _ _).row hM 0 rfl, (ht _ _).row hM 0 rfl, h1, h2⟩
  refine (price_any s A w hs ok).mono ?_
  rintro e w' ⟨rfl, hb⟩
  exact ⟨ε 1, rfl, by rw [eset_self]; exact hM.kept hb⟩
theorem callOK_rd {P : Program} {f : Nat} {args : List SV} {rd rd' pre post : Heap} {ret : SV} (he : ∀ ε, hden ε rd = hden ε rd') (h : CallOK P f args rd pre ret post) : CallOK P f args rd' pre ret post := fun ε R w hM => by
  rw [hden_append, ← he, ← hden_append] at hM
  refine (h ε R w hM).mono ?_
  rintro e w' ⟨x, h1, h2⟩
  exact ⟨x, h1, by rw [hden_append, ← he, ← hden_append]; exact h2⟩
def salRd (s : SaleV) : Heap := [((0, 10), legR s.legs.length s.legs), ((0, 11), taxR s.taxes.length s.taxes)]
theorem sal_rd (s : SaleV) (ε : Env) : hden ε [((0, 10), legD s.legs.length s.legs), ((0, 11), taxD s.taxes.length s.taxes)] = hden ε (salRd s) := by
  simp only [hden, List.map_cons, List.map_nil, salRd, legD, taxD, legR, taxR, SC.den, SL.den, legs_dens, taxes_dens]
theorem price_D {s : SaleV} (ok : SaleOk s) : CallOK Try.prog PriceF [.agg (salS s (.raw 0 10) (.raw 0 11))] [((0, 10), legD s.legs.length s.legs), ((0, 11), taxD s.taxes.length s.taxes)] [] (.tup [.val (.int .i64 (sumFrom 0 (priceL s)).1), eN (sumFrom 0 (priceL s)).2]) [] :=
  raw2 (args := fun x y => [.agg (salS s x y)]) (fun ε ε' x y x' y' h1 h2 h3 => by simp only [SV.dens, SV.den, salS, h1, h2]) (fun F A hl ht h1 h2 => price_F F ok hl ht (fun e => (h1.nil e).2) (fun e => (h2.nil e).2)) rfl rfl rfl
theorem price_R {s : SaleV} (ok : SaleOk s) : CallOK Try.prog PriceF [.agg (salS s (.raw 0 10) (.raw 0 11))] (salRd s) [] (.tup [.val (.int .i64 (sumFrom 0 (priceL s)).1), eN (sumFrom 0 (priceL s)).2]) [] := callOK_rd (sal_rd s) (price_D ok)
/-! ### replies -/
def repS (e : Int) (t : Tid) (amt : Int) (st : SV) : List SV := [eN e, .val (.int .u8 t.c), .val (.int .u64 t.r), .val (.int .i64 amt), st]
def FailedF : Nat := 26
def ToldF : Nat := 27
def FirstF : Nat := 25
theorem failed_w (e : Int) : CallOK Try.prog FailedF [eN e] [] [] (.tup [.agg (repS e tid0 0 nilS), eN e]) [] := callOK_run 400 [] (by kernel_rfl) (by kernel_rfl)
theorem told_w (B : BookV) {t : Tid} (ht : TidOk t) (amt : Int) : CallOK Try.prog ToldF [.ptr 0 0 0, .agg (tidS t), .val (.int .i64 amt)] (bkC B) [] (.tup [.agg (repS 0 t amt (.raw 1 0)), eN 0]) [((1, 0), stC (statusL B t))] := by
  have c1 := status_c B ht
  exact callOK_run 400 [hC 1 4 c1] (by kernel_rfl) (by kernel_rfl)
def errR (l : List SV) (n : Nat) : SC := .row 31 1 n (.deep l) []
def first2 (a b : Int) : Int := bif decide (a = 0) then b else a
theorem first2_w (a b : Int) : CallOK Try.prog FirstF [.raw 0 0] [((0, 0), errR [eN a, eN b] 2)] [] (eN (first2 a b)) [] := by
  unfold first2
  rcases Bool.eq_false_or_eq_true (decide (a = 0)) with e1 | e1
  · have f1 : (!decide (a = 0)) = false := by rw [e1]; rfl
    rw [e1]
    rcases Bool.eq_false_or_eq_true (decide (b = 0)) with e2 | e2
    · have f2 : (!decide (b = 0)) = false := by rw [e2]; rfl
      have z : b = 0 := of_decide_eq_true e2
      subst z
      exact callOK_runU 400 [hB 4 1 _ _ f1] (by kernel_rfl) (by kernel_rfl)
    · have f2 : (!decide (b = 0)) = true := by rw [e2]; rfl
      exact callOK_runU 400 [hB 4 1 _ _ f1, hB 4 1 _ _ f2] (by kernel_rfl) (by kernel_rfl)
  · have f1 : (!decide (a = 0)) = true := by rw [e1]; rfl
    rw [e1]
    exact callOK_runU 400 [hB 4 1 _ _ f1] (by kernel_rfl) (by kernel_rfl)
theorem first3_w (a b c : Int) : CallOK Try.prog FirstF [.raw 0 0] [((0, 0), errR [eN a, eN b, eN c] 3)] [] (eN (first2 a (first2 b c))) [] := by
  unfold first2
  rcases Bool.eq_false_or_eq_true (decide (a = 0)) with e1 | e1
  · have f1 : (!decide (a = 0)) = false := by rw [e1]; rfl
    rw [e1]
    rcases Bool.eq_false_or_eq_true (decide (b = 0)) with e2 | e2
    · have f2 : (!decide (b = 0)) = false := by rw [e2]; rfl
      rw [e2]
      rcases Bool.eq_false_or_eq_true (decide (c = 0)) with e3 | e3
      · have f3 : (!decide (c = 0)) = false := by rw [e3]; rfl
        have z : c = 0 := of_decide_eq_true e3
        subst z
        exact callOK_runU 400 [hB 4 1 _ _ f1, hB 4 1 _ _ f2] (by kernel_rfl) (by kernel_rfl)
      · have f3 : (!decide (c = 0)) = true := by rw [e3]; rfl
        exact callOK_runU 400 [hB 4 1 _ _ f1, hB 4 1 _ _ f2, hB 4 1 _ _ f3] (by kernel_rfl) (by kernel_rfl)
    · have f2 : (!decide (b = 0)) = true := by rw [e2]; rfl
      rw [e2]
      exact callOK_runU 400 [hB 4 1 _ _ f1, hB 4 1 _ _ f2] (by kernel_rfl) (by kernel_rfl)
  · have f1 : (!decide (a = 0)) = true := by rw [e1]; rfl
    rw [e1]
    exact callOK_runU 400 [hB 4 1 _ _ f1] (by kernel_rfl) (by kernel_rfl)
def freeO (o : OwnV) : Bool := !o.away && decide (o.k.s = 1)
def EfreeF : Nat := 31
theorem efree_w (o : OwnV) : CallOK Try.prog EfreeF [.agg (ownS o)] [] [] (.val (.bool (freeO o))) [] := by
  have c1 := free_w o.k.s
  unfold freeO
  rcases Bool.eq_false_or_eq_true o.away with e1 | e1 <;> rcases Bool.eq_false_or_eq_true (decide (o.k.s = 1)) with e2 | e2 <;> simp only [e1, e2] <;> exact callOK_run 400 [hB 1 1 _ _ e1, hC 1 7 c1, hB 1 7 _ _ e2] (by kernel_rfl) (by kernel_rfl)
/-! ### the free coupons of a ticket become something else -/
def asO (o : OwnV) (s : Int) : OwnV := { o with k := { o.k with s := s } }
def turn1 (B : BookV) (k : Kid) (o : OwnV) (s : Int) : BookV := bif freeO o then B.setO k (asO o s) else B
def Turn1F : Nat := 67
def EachF : Nat := 29
def TurnF : Nat := 34
def turnRd (s : Int) : Heap := [((0, 1), .box none [.val (.int .u8 s)]), ((0, 2), .box none [.ptr 0 0 0])]
theorem turn1_w (B : BookV) {k : Kid} (hk : KidOk k) (o : OwnV) (s : Int) : CallOK Try.prog Turn1F [.agg (kidS k), .agg (ownS o), .ptr 0 1 0, .ptr 0 2 0] (turnRd s) (bkC B) noS (bkC (turn1 B k o s)) := by
  have c1 := efree_w o
  have c2 := setOwn_c B hk (asO o s)
  unfold turn1
  rcases Bool.eq_false_or_eq_true (freeO o) with e1 | e1 <;> simp only [e1] at c1 ⊢ <;> exact callOK_run 400 [hC 1 1 c1, hC 3 3 c2] (by kernel_rfl) (by kernel_rfl)
theorem lkt_turn1 {B : BookV} {k k' : Kid} {o : OwnV} {s : Int} (h : k ≠ k') : lkt (turn1 B k o s).owns k' = lkt B.owns k' := by
  unfold turn1 BookV.setO
  cases freeO o <;> cases (lkt B.owns k).isSome <;> first | rfl | (show lkt (putt B.owns k _) k' = _; rw [lkt_put, if_neg h])
def turnL (s : Int) (t : Tid) : BookV → Int → List OwnV → BookV
  | B, _, [] => B
  | B, i, o :: l => turnL s t (turn1 B ⟨t, i⟩ o s) (i + 1) l
def turnB (B : BookV) (t : Tid) (s : Int) : BookV := turnL s t B 0 (coupL B t)
def turnFn : SV := .fn (.func Turn1F) [] [.ptr 0 1 0, .ptr 0 2 0]
theorem each_turn (B : BookV) {t : Tid} (ht : TidOk t) (s : Int) : CallOK Try.prog EachF [.ptr 0 0 0, .agg (tidS t), turnFn] (turnRd s) (bkC B) noS (bkC (turnB B t s)) := by
  have st := status_d B ht
  have k0 := kidOk_at ht (i := 0) (by decide) (by decide)
  have k1 := kidOk_at ht (i := 1) (by decide) (by decide)
  have k2 := kidOk_at ht (i := 2) (by decide) (by decide)
  have k3 := kidOk_at ht (i := 3) (by decide) (by decide)
  have n01 : (⟨t, 0⟩ : Kid) ≠ ⟨t, 1⟩ := fun e => by cases e
  have n02 : (⟨t, 0⟩ : Kid) ≠ ⟨t, 2⟩ := fun e => by cases e
  have n03 : (⟨t, 0⟩ : Kid) ≠ ⟨t, 3⟩ := fun e => by cases e
  have n12 : (⟨t, 1⟩ : Kid) ≠ ⟨t, 2⟩ := fun e => by cases e
  have n13 : (⟨t, 1⟩ : Kid) ≠ ⟨t, 3⟩ := fun e => by cases e
  have n23 : (⟨t, 2⟩ : Kid) ≠ ⟨t, 3⟩ := fun e => by cases e
  have c0 := own_c B k0
  unfold turnB
  rcases coupL_cases B t with ⟨e, h0⟩ | ⟨a, e, h0, h1⟩ | ⟨a, b, e, h0, h1, h2⟩ | ⟨a, b, c, e, h0, h1, h2, h3⟩ | ⟨a, b, c, d, e, h0, h1, h2, h3⟩
  · rw [e] at st ⊢
    exact callOK_runU 900 [hC 1 2 st] (by kernel_rfl) (by kernel_rfl)
  · rw [e] at st ⊢
    rw [h0] at c0
    have t0 := turn1_w B k0 a s
    exact callOK_runU 900 [hC 1 2 st, hC 5 2 c0, hC 7 3 t0] (by kernel_rfl) (by kernel_rfl)
  · rw [e] at st ⊢
    rw [h0] at c0
    have t0 := turn1_w B k0 a s
    have c1 := own_c (turn1 B ⟨t, 0⟩ a s) k1
    rw [lkt_turn1 n01, h1] at c1
    have t1 := turn1_w (turn1 B ⟨t, 0⟩ a s) k1 b s
    exact callOK_runU 900 [hC 1 2 st, hC 5 2 c0, hC 7 3 t0, hC 5 2 c1, hC 7 3 t1] (by kernel_rfl) (by kernel_rfl)
  · rw [e] at st ⊢
    rw [h0] at c0
    have t0 := turn1_w B k0 a s
    have c1 := own_c (turn1 B ⟨t, 0⟩ a s) k1
    rw [lkt_turn1 n01, h1] at c1
    have t1 := turn1_w (turn1 B ⟨t, 0⟩ a s) k1 b s
    have c2 := own_c (turn1 (turn1 B ⟨t, 0⟩ a s) ⟨t, 1⟩ b s) k2
    rw [lkt_turn1 n12, lkt_turn1 n02, h2] at c2
    have t2 := turn1_w (turn1 (turn1 B ⟨t, 0⟩ a s) ⟨t, 1⟩ b s) k2 c s
    exact callOK_runU 900 [hC 1 2 st, hC 5 2 c0, hC 7 3 t0, hC 5 2 c1, hC 7 3 t1, hC 5 2 c2, hC 7 3 t2] (by kernel_rfl) (by kernel_rfl)
  · rw [e] at st ⊢
    rw [h0] at c0
    have t0 := turn1_w B k0 a s
    have c1 := own_c (turn1 B ⟨t, 0⟩ a s) k1
    rw [lkt_turn1 n01, h1] at c1
    have t1 := turn1_w (turn1 B ⟨t, 0⟩ a s) k1 b s
    have c2 := own_c (turn1 (turn1 B ⟨t, 0⟩ a s) ⟨t, 1⟩ b s) k2
    rw [lkt_turn1 n12, lkt_turn1 n02, h2] at c2
    have t2 := turn1_w (turn1 (turn1 B ⟨t, 0⟩ a s) ⟨t, 1⟩ b s) k2 c s
    have c3 := own_c (turn1 (turn1 (turn1 B ⟨t, 0⟩ a s) ⟨t, 1⟩ b s) ⟨t, 2⟩ c s) k3
    rw [lkt_turn1 n23, lkt_turn1 n13, lkt_turn1 n03, h3] at c3
    have t3 := turn1_w (turn1 (turn1 (turn1 B ⟨t, 0⟩ a s) ⟨t, 1⟩ b s) ⟨t, 2⟩ c s) k3 d s
    exact callOK_runU 900 [hC 1 2 st, hC 5 2 c0, hC 7 3 t0, hC 5 2 c1, hC 7 3 t1, hC 5 2 c2, hC 7 3 t2, hC 5 2 c3, hC 7 3 t3] (by kernel_rfl) (by kernel_rfl)
theorem turn_w (B : BookV) {t : Tid} (ht : TidOk t) (s : Int) : CallOK Try.prog TurnF [.ptr 0 0 0, .agg (tidS t), .val (.int .u8 s)] [] (bkC B) noS (bkC (turnB B t s)) := by
  have c1 := each_turn B ht s
  exact callOK_run 400 [hC 1 3 c1] (by kernel_rfl) (by kernel_rfl)
end Go.Proofs.Ytjeppnhkgiljpaa
end
section
namespace Go.Proofs.Ytjeppnhkgiljpaa
set_option maxRecDepth 100000
open Go.RowKit Go.Lib Go.Tk Go.Shelf Go.Vc Go.Sx
set_option linter.unusedVariables false
set_option linter.unusedSimpArgs false

theorem msum_raw {xs : List Int} (hm : xs.length ≤ 9223372036854775807) : CallOK Try.prog MSumF [.raw 0 0] [((0, 0), i64R xs.length xs)] [] (.tup [.val (.int .i64 (sumFrom 0 xs).1), eN (sumFrom 0 xs).2]) [] :=
  callOK_row1 rfl rfl fun F a c hR ok => msum_open F hR rfl hm
/-- what was gathered: given, kept, how many -/
structure GS where
  n : Nat
  gl : List Value
  m : Nat
  kl : List Value
  many : Int
def gstep (pen : Int) (o : OwnV) (σ : GS) : GS := bif freeO o then ⟨σ.n + 1, σ.gl ++ [.int .i64 (giveV o.k.v pen)], σ.m + 1, σ.kl ++ [.int .i64 (giveK o.k.v pen)], σ.many + 1⟩ else σ
def i64V (n : Nat) (l : List Value) : SC := .row 2 1 n (.shal l) []
def giftS (g k many e : Int) : List SV := [.val (.int .i64 g), .val (.int .i64 k), .val (.int .i64 many), eN e]
def giftRd (d : DocV) : Heap := [((0, 1), .box none (docS d (.raw 0 10) (.raw 0 11) (.raw 0 12)))]
def giftPre (σ : GS) : Heap := [((0, 2), .box none [.raw 0 5]), ((0, 5), i64V σ.n σ.gl), ((0, 3), .box none [.raw 0 6]), ((0, 6), i64V σ.m σ.kl), ((0, 4), .box none (giftS 0 0 σ.many 0))]
def giftPost (σ : GS) : Heap := [((0, 2), .box none [.raw 1 0]), ((1, 0), i64V σ.n σ.gl), ((0, 3), .box none [.raw 1 1]), ((1, 1), i64V σ.m σ.kl), ((0, 4), .box none (giftS 0 0 σ.many 0))]
def Gift1F : Nat := 68
def OwnOk (o : OwnV) : Prop := -9223372036854775808 ≤ o.k.v ∧ o.k.v ≤ 9223372036854775807
theorem gift1_w (d : DocV) (hp : d.s.pen ≤ 9223372036854775807) (k : Kid) {o : OwnV} (ho : OwnOk o) {σ : GS} (hn : σ.n + 1 ≤ 1073741824) (hm : σ.m + 1 ≤ 1073741824) (hc : 0 ≤ σ.many ∧ σ.many ≤ 100) :
    CallOK Try.prog Gift1F [.agg (kidS k), .agg (ownS o), .ptr 0 1 0, .ptr 0 2 0, .ptr 0 3 0, .ptr 0 4 0] (docI d ++ giftRd d) (giftPre σ) noS (giftPost (gstep d.s.pen o σ)) := by
  have c1 := efree_w o
  have c2 := tgive_w ho.2 hp
  have w1 : IntKind.i64.wrap (σ.many + 1) = σ.many + 1 := wr_i64 (by omega)
  unfold gstep
  rcases Bool.eq_false_or_eq_true (freeO o) with e1 | e1 <;> simp only [e1] at c1 ⊢ <;> exact callOK_run 400 [hC 1 1 c1, hC 2 6 c2, .opt 3 3 (.le _ hn), .opt 3 7 (.le _ hm), hI 4 2 IntKind.i64 _ _ w1] (by kernel_rfl) (by kernel_rfl)
def giftFn : SV := .fn (.func Gift1F) [] [.ptr 0 1 0, .ptr 0 2 0, .ptr 0 3 0, .ptr 0 4 0]
def gfold (pen : Int) : GS → List OwnV → GS
  | σ, [] => σ
  | σ, o :: l => gfold pen (gstep pen o σ) l
theorem gstep_le (pen : Int) (o : OwnV) (σ : GS) : (gstep pen o σ).n ≤ σ.n + 1 ∧ (gstep pen o σ).m ≤ σ.m + 1 ∧ σ.many ≤ (gstep pen o σ).many ∧ (gstep pen o σ).many ≤ σ.many + 1 := by
  unfold gstep
  cases freeO o
  · show σ.n ≤ _ ∧ σ.m ≤ _ ∧ σ.many ≤ σ.many ∧ σ.many ≤ _; omega
  · show σ.n + 1 ≤ _ ∧ σ.m + 1 ≤ _ ∧ σ.many ≤ σ.many + 1 ∧ σ.many + 1 ≤ _; omega
theorem each_gift (B : BookV) {d : DocV} (ht : TidOk d.t) (hp : d.s.pen ≤ 9223372036854775807) (ho : ∀ o ∈ coupL B d.t, OwnOk o) {σ : GS} (hn : σ.n ≤ 1000) (hm : σ.m ≤ 1000) (hc : σ.many = 0) :
    CallOK Try.prog EachF [.ptr 0 0 0, .agg (tidS d.t), giftFn] (bkC B ++ (docI d ++ giftRd d)) (giftPre σ) noS (giftPost (gfold d.s.pen σ (coupL B d.t))) := by
  have st := status_d B ht
  have k0 := kidOk_at ht (i := 0) (by decide) (by decide)
  have k1 := kidOk_at ht (i := 1) (by decide) (by decide)
  have k2 := kidOk_at ht (i := 2) (by decide) (by decide)
  have k3 := kidOk_at ht (i := 3) (by decide) (by decide)
  have c0 := own_c B k0
  have c1 := own_c B k1
  have c2 := own_c B k2
  have c3 := own_c B k3
  rcases coupL_cases B d.t with ⟨e, h0⟩ | ⟨a, e, h0, h1⟩ | ⟨a, b, e, h0, h1, h2⟩ | ⟨a, b, c, e, h0, h1, h2, h3⟩ | ⟨a, b, c, x, e, h0, h1, h2, h3⟩
  · rw [e] at st ho ⊢
    exact callOK_runU 900 [hC 1 2 st] (by kernel_rfl) (by kernel_rfl)
  · rw [e] at st ho ⊢
    rw [h0] at c0
    have t0 := gift1_w d hp ⟨d.t, 0⟩ (ho a (by simp)) (σ := σ) (by omega) (by omega) (by omega)
    exact callOK_runU 900 [hC 1 2 st, hC 5 2 c0, hC 7 3 t0] (by kernel_rfl) (by kernel_rfl)
  · rw [e] at st ho ⊢
    rw [h0] at c0
    rw [h1] at c1
    have t0 := gift1_w d hp ⟨d.t, 0⟩ (ho a (by simp)) (σ := σ) (by omega) (by omega) (by omega)
    have l0 := gstep_le d.s.pen a σ
    have t1 := gift1_w d hp ⟨d.t, 1⟩ (ho b (by simp)) (σ := gstep d.s.pen a σ) (by omega) (by omega) (by omega)
    exact callOK_runU 900 [hC 1 2 st, hC 5 2 c0, hC 7 3 t0, hC 5 2 c1, hC 7 3 t1] (by kernel_rfl) (by kernel_rfl)
  · rw [e] at st ho ⊢
    rw [h0] at c0
    rw [h1] at c1
    rw [h2] at c2
    have t0 := gift1_w d hp ⟨d.t, 0⟩ (ho a (by simp)) (σ := σ) (by omega) (by omega) (by omega)
    have l0 := gstep_le d.s.pen a σ
    have t1 := gift1_w d hp ⟨d.t, 1⟩ (ho b (by simp)) (σ := gstep d.s.pen a σ) (by omega) (by omega) (by omega)
    have l1 := gstep_le d.s.pen b (gstep d.s.pen a σ)
    have t2 := gift1_w d hp ⟨d.t, 2⟩ (ho c (by simp)) (σ := gstep d.s.pen b (gstep d.s.pen a σ)) (by omega) (by omega) (by omega)
    exact callOK_runU 900 [hC 1 2 st, hC 5 2 c0, hC 7 3 t0, hC 5 2 c1, hC 7 3 t1, hC 5 2 c2, hC 7 3 t2] (by kernel_rfl) (by kernel_rfl)
  · rw [e] at st ho ⊢
    rw [h0] at c0
    rw [h1] at c1
    rw [h2] at c2
    rw [h3] at c3
    have t0 := gift1_w d hp ⟨d.t, 0⟩ (ho a (by simp)) (σ := σ) (by omega) (by omega) (by omega)
    have l0 := gstep_le d.s.pen a σ
    have t1 := gift1_w d hp ⟨d.t, 1⟩ (ho b (by simp)) (σ := gstep d.s.pen a σ) (by omega) (by omega) (by omega)
    have l1 := gstep_le d.s.pen b (gstep d.s.pen a σ)
    have t2 := gift1_w d hp ⟨d.t, 2⟩ (ho c (by simp)) (σ := gstep d.s.pen b (gstep d.s.pen a σ)) (by omega) (by omega) (by omega)
    have l2 := gstep_le d.s.pen c (gstep d.s.pen b (gstep d.s.pen a σ))
    have t3 := gift1_w d hp ⟨d.t, 3⟩ (ho x (by simp)) (σ := gstep d.s.pen c (gstep d.s.pen b (gstep d.s.pen a σ))) (by omega) (by omega) (by omega)
    exact callOK_runU 900 [hC 1 2 st, hC 5 2 c0, hC 7 3 t0, hC 5 2 c1, hC 7 3 t1, hC 5 2 c2, hC 7 3 t2, hC 5 2 c3, hC 7 3 t3] (by kernel_rfl) (by kernel_rfl)
/-! ### summed up -/
def freeL (B : BookV) (t : Tid) : List OwnV := (coupL B t).filter freeO
def giveL (B : BookV) (d : DocV) : List Int := d.left :: (freeL B d.t).map fun o => giveV o.k.v d.s.pen
def keepL (B : BookV) (d : DocV) : List Int := (freeL B d.t).map fun o => giveK o.k.v d.s.pen
theorem gfold_eq (pen : Int) : ∀ (l : List OwnV) (σ : GS), gfold pen σ l = ⟨σ.n + (l.filter freeO).length, σ.gl ++ (l.filter freeO).map (fun o => .int .i64 (giveV o.k.v pen)), σ.m + (l.filter freeO).length, σ.kl ++ (l.filter freeO).map (fun o => .int .i64 (giveK o.k.v pen)), σ.many + ((l.filter freeO).length : Int)⟩
  | [], σ => by simp [gfold]
  | o :: l, σ => by
    show gfold pen (gstep pen o σ) l = _
    rw [gfold_eq pen l]
    unfold gstep
    cases h : freeO o
    · simp [h]
    · simp only [h, cond_true, List.filter_cons_of_pos, List.length_cons, List.map_cons, List.append_assoc, List.cons_append, List.nil_append, GS.mk.injEq, true_and]
      refine ⟨by omega, by omega, by omega⟩
def gs0 (d : DocV) : GS := ⟨1, [.int .i64 d.left], 0, [], 0⟩
theorem gfold_0 (B : BookV) (d : DocV) : gfold d.s.pen (gs0 d) (coupL B d.t) = ⟨(giveL B d).length, (giveL B d).map (.int .i64), (keepL B d).length, (keepL B d).map (.int .i64), ((freeL B d.t).length : Int)⟩ := by
  rw [gfold_eq]
  simp only [gs0, giveL, keepL, freeL, List.length_cons, List.length_map, List.map_cons, List.map_map, List.cons_append, List.nil_append, GS.mk.injEq]
  refine ⟨by omega, rfl, by omega, rfl, by omega⟩
/-- gifts: given, kept, how many, an error -/
structure GiftV where
  g : Int
  k : Int
  many : Int
  e : Int
def giftV (B : BookV) (d : DocV) : GiftV := ⟨(sumFrom 0 (giveL B d)).1, (sumFrom 0 (keepL B d)).1, ((freeL B d.t).length : Int), first2 (sumFrom 0 (giveL B d)).2 (sumFrom 0 (keepL B d)).2⟩
def GiftsF : Nat := 35
theorem coupL_len (B : BookV) (t : Tid) : (coupL B t).length ≤ 4 := by
  rcases coupL_cases B t with ⟨e, h0⟩ | ⟨a, e, h0, h1⟩ | ⟨a, b, e, h0, h1, h2⟩ | ⟨a, b, c, e, h0, h1, h2, h3⟩ | ⟨a, b, c, x, e, h0, h1, h2, h3⟩ <;> rw [e] <;> simp
theorem freeL_len (B : BookV) (t : Tid) : (freeL B t).length ≤ 4 := Nat.le_trans (List.length_filter_le _ _) (coupL_len B t)
theorem gifts_w (B : BookV) {d : DocV} (ht : TidOk d.t) (hp : d.s.pen ≤ 9223372036854775807) (ho : ∀ o ∈ coupL B d.t, OwnOk o) :
    CallOK Try.prog GiftsF [.ptr 0 0 0, docRaw d] (bkC B ++ docI d) [] (.agg (giftS (giftV B d).g (giftV B d).k (giftV B d).many (giftV B d).e)) [] := by
  have c1 := each_gift B ht hp ho (σ := gs0 d) (by show (1 : Nat) ≤ 1000; decide) (by show (0 : Nat) ≤ 1000; decide) rfl
  rw [gfold_0] at c1
  have hl := freeL_len B d.t
  have lg : (giveL B d).length ≤ 5 := by unfold giveL; rw [List.length_cons, List.length_map]; omega
  have lk : (keepL B d).length ≤ 4 := by unfold keepL; rw [List.length_map]; omega
  have c2 := msum_raw (xs := giveL B d) (by omega)
  have c3 := msum_raw (xs := keepL B d) (by omega)
  have c4 := first2_w (sumFrom 0 (giveL B d)).2 (sumFrom 0 (keepL B d)).2
  unfold giftV
  generalize giveL B d = gl at *
  generalize keepL B d = kl at *
  generalize (freeL B d.t).length = fn at *
  refine callOK_intro (by kernel_rfl) fun eb R => ?_
  refine leaf_cut (rgK Try.prog GiftsF 3 []) [(0, .ptr 0 0 0), (3, .ptr 1 0 0), (4, .ptr 1 1 0), (5, .ptr 1 2 0), (6, .ptr 1 3 0), (7, .ptr 1 4 0)]
    ((bkC B ++ docI d) ++ [((1, 0), .box none (docS d (.raw 0 10) (.raw 0 11) (.raw 0 12))), ((1, 1), .box none (giftS 0 0 0 0)), ((1, 2), .box none (giftS 0 0 0 0)), ((1, 3), .box none [.raw 1 5]), ((1, 5), .row 2 1 1 (.deep [.val (.int .i64 d.left)]) []), ((1, 4), .box none [nilS])]) calNone false 400 [.stop 3] calNone_ok (by kernel_rfl) ?_
  refine go_open (X := Unit) (fun _ => ((bkC B ++ docI d) ++ [((1, 0), .box none (docS d (.raw 0 10) (.raw 0 11) (.raw 0 12))), ((1, 1), .box none (giftS 0 0 0 0)), ((1, 2), .box none (giftS 0 0 0 0)), ((1, 3), .box none [.raw 1 5]), ((1, 5), i64V 1 [.int .i64 d.left]), ((1, 4), .box none [nilS])]))
    (fun ε w hM => ⟨(), hM⟩) (fun _ => by kernel_rfl) fun _ => ?_
  exact leaf_end calNone false 400 [hC 3 4 c1, hC 5 1 c2, hC 6 1 c3, hC 7 3 c4] calNone_ok (by kernel_rfl)
end Go.Proofs.Ytjeppnhkgiljpaa
end
section
namespace Go.Proofs.Ytjeppnhkgiljpaa
set_option maxRecDepth 100000
open Go.RowKit Go.Lib Go.Tk Go.Shelf Go.Vc Go.Sx
set_option linter.unusedVariables false
set_option linter.unusedSimpArgs false

theorem sum_bound : ∀ (xs : List Int) (s : Int), -1125899906842624 ≤ s → s ≤ 1125899906842624 → -1125899906842624 ≤ (sumFrom s xs).1 ∧ (sumFrom s xs).1 ≤ 1125899906842624
  | [], s, h1, h2 => ⟨h1, h2⟩
  | x :: r, s, h1, h2 => by
    show _ ≤ (if (addI s x).2 = 0 then sumFrom (addI s x).1 r else (0, 7)).1 ∧ (if (addI s x).2 = 0 then sumFrom (addI s x).1 r else (0, 7)).1 ≤ _
    rcases addI_cases s x with ⟨e, -, -, h3, h4⟩ | ⟨e, -, -⟩
    · rw [if_pos e, h4]
      have := mayI_of h3
      exact sum_bound r _ this.1 this.2
    · rw [if_neg (by omega)]; omega
theorem lkD_mem {ds : List DocV} {t : Tid} {d : DocV} (h : lkD ds t = some d) : d ∈ ds ∧ d.t = t := ⟨List.mem_of_find?_eq_some h, by simpa using List.find?_some h⟩
theorem lkD_some {ds : List DocV} {t : Tid} (h : t ∈ ds.map (·.t)) : ∃ d, lkD ds t = some d := by
  obtain ⟨d, hd, rfl⟩ := List.mem_map.1 h
  cases e : lkD ds d.t with
  | some x => exact ⟨x, rfl⟩
  | none => have := List.find?_eq_none.1 e d hd; simp at this
theorem putD_t (ds : List DocV) (d : DocV) : (putD ds d).map (·.t) = ds.map (·.t) := by
  unfold putD
  rw [List.map_map]
  refine List.map_congr_left fun x _ => ?_
  show (if x.t = d.t then d else x).t = x.t
  by_cases e : x.t = d.t
  · rw [if_pos e, e]
  · rw [if_neg e]
theorem BookOk.nodup {B : BookV} (h : BookOk B) : (B.docs.map (·.t)).Nodup := by
  unfold List.Nodup
  rw [List.pairwise_iff_getElem]
  intro i j hi hj hij e
  rw [List.length_map] at hi hj
  rw [List.getElem_map, List.getElem_map] at e
  have h1 := h.docs i _ (List.getElem?_eq_getElem hi)
  have h2 := h.docs j _ (List.getElem?_eq_getElem hj)
  rw [h1, h2] at e
  have := congrArg Tid.r e
  simp only at this
  omega
/-- a book that an agent may do anything with -/
structure ExOk (B : BookV) : Prop where
  bk : BookOk B
  sal : ∀ d ∈ B.docs, SaleOk d.s
  sm : ∀ d ∈ B.docs, DocSmall d
  own : ∀ k o, lkt B.owns k = some o → OwnOk o
theorem ExOk.coup {B : BookV} (h : ExOk B) (t : Tid) : ∀ o ∈ coupL B t, OwnOk o := by
  rcases coupL_cases B t with ⟨e, h0⟩ | ⟨a, e, h0, h1⟩ | ⟨a, b, e, h0, h1, h2⟩ | ⟨a, b, c, e, h0, h1, h2, h3⟩ | ⟨a, b, c, x, e, h0, h1, h2, h3⟩ <;> rw [e] <;> intro o ho <;> simp only [List.mem_cons, List.not_mem_nil, or_false] at ho
  · subst ho; exact h.own _ _ h0
  · rcases ho with rfl | rfl
    · exact h.own _ _ h0
    · exact h.own _ _ h1
  · rcases ho with rfl | rfl | rfl
    · exact h.own _ _ h0
    · exact h.own _ _ h1
    · exact h.own _ _ h2
  · rcases ho with rfl | rfl | rfl | rfl
    · exact h.own _ _ h0
    · exact h.own _ _ h1
    · exact h.own _ _ h2
    · exact h.own _ _ h3
/-- what comes of an act: an error, a ticket, an amount, how its coupons stand, the book -/
structure XR where
  e : Int
  t : Tid
  amt : Int
  st : List Int
  b : BookV
def failX (e : Int) (B : BookV) : XR := ⟨e, tid0, 0, [], B⟩
def toldX (B : BookV) (t : Tid) (amt : Int) : XR := ⟨0, t, amt, statusL B t, B⟩
def xrV (q : XR) : SV := .tup [.agg (repS q.e q.t q.amt (.raw 1 0)), eN q.e]
def xrP (q : XR) : Heap := bkC q.b ++ [((1, 0), stC q.st)]
def priceI (s : SaleV) : Int := (sumFrom 0 (priceL s)).1
/-! ### Display -/
def exDisplay (B : BookV) (t : Tid) : XR := match lkD B.docs t with
  | none => failX 4 B
  | some d => toldX B t d.left
def DisplayF : Nat := 8
theorem display_w {B : BookV} (h : ExOk B) {t : Tid} (ht : TidOk t) : CallOK Try.prog DisplayF [.ptr 0 0 0, .agg (tidS t)] [] (bkC B) (xrV (exDisplay B t)) (xrP (exDisplay B t)) := by
  unfold exDisplay
  cases hl : lkD B.docs t with
  | none =>
    have c1 := doc_no ht hl
    have c2 := failed_w 4
    exact callOK_run 400 [hC 1 2 c1, hC 3 1 c2] (by kernel_rfl) (by kernel_rfl)
  | some d =>
    have c1 := doc_ok ht hl (h.sm d (lkD_mem hl).1)
    have c2 := told_w B ht d.left
    exact callOK_run 400 [hC 1 2 c1, hC 4 4 c2] (by kernel_rfl) (by kernel_rfl)
/-! ### Issue -/
def exIssue (B : BookV) (s : SaleV) : XR := bif decide (B.issE s = 0) then toldX (B.issued s) B.nextT (priceI s) else failX (B.issE s) B
def ExIssueF : Nat := 7
theorem issE_check {B : BookV} {s : SaleV} (h : B.issE s = 0) : checkE s B.n = 0 := by
  unfold BookV.issE at h
  cases g : decide ((32 : Int) ≤ (B.docs.length : Int)) with
  | true => rw [g] at h; cases h
  | false =>
    rw [g] at h
    have h : makeE B.self ((B.docs.length : Int) + 1) s B.n = 0 := h
    unfold makeE at h
    split at h
    · cases h
    · exact h
theorem issE_price {B : BookV} {s : SaleV} (h : B.issE s = 0) : (sumFrom 0 (priceL s)).2 = 0 := (check_shape (issE_check h)).2.2.2
theorem nextT_ok {B : BookV} (hb : BookOk B) : TidOk B.nextT := by
  have h1 := hb.self
  have h2 := hb.n
  have h3 := hb.many
  exact ⟨⟨by show 0 ≤ B.self; omega, by show B.self ≤ 255; omega⟩, by show 0 ≤ (B.docs.length : Int) + 1; omega, by show (B.docs.length : Int) + 1 ≤ _; omega⟩
theorem exIssue_F (F : CF) {B : BookV} (hb : BookOk B) {s : SaleV} {A : SaleA} (ok : SaleOk s) (hl : ∀ b v, Rd (F b v) A.la (cellsL encLeg s.legs)) (ht : ∀ b v, Rd (F b v) A.ta (cellsL encTax s.taxes)) (h1 : SlOk A.la s.legs.length A.lc) (h2 : SlOk A.ta s.taxes.length A.tc) :
    CallOK Try.prog ExIssueF [.ptr 0 0 0, .agg (salS s (.val (.slice A.la s.legs.length A.lc)) (.val (.slice A.ta s.taxes.length A.tc)))] [((0, 9), .fam F)] (bkC B) (xrV (exIssue B s)) (xrP (exIssue B s)) := by
  have c2 := price_F F ok hl ht (fun e => (h1.nil e).2) (fun e => (h2.nil e).2)
  unfold exIssue
  rcases Bool.eq_false_or_eq_true (decide (B.issE s = 0)) with e1 | e1
  · have hm : B.issE s = 0 := of_decide_eq_true e1
    have c1 := issue_okC F hb ok hl ht h1 h2 hm
    have hp := issE_price hm
    have c3 := first2_w 0 0
    have c4 := told_w (B.issued s) (nextT_ok hb) (priceI s)
    rw [hp] at c2
    rw [e1]
    exact callOK_run 400 [hC 1 2 c1, hC 2 1 c2, hC 3 3 c3, hC 6 4 c4] (by kernel_rfl) (by kernel_rfl)
  · have hm : B.issE s ≠ 0 := of_decide_eq_false e1
    have c1 := issue_noC F hb ok hl ht h1 h2 hm
    have c3 := first2_w (B.issE s) (sumFrom 0 (priceL s)).2
    have f1 : first2 (B.issE s) (sumFrom 0 (priceL s)).2 = B.issE s := by unfold first2; rw [e1]; rfl
    have c4 := failed_w (B.issE s)
    have g1 : (!decide (B.issE s = 0)) = true := by rw [e1]; rfl
    rw [f1] at c3
    rw [e1]
    exact callOK_run 400 [hC 1 2 c1, hC 2 1 c2, hC 3 3 c3, hB 4 1 _ _ g1, hC 5 1 c4] (by kernel_rfl) (by kernel_rfl)
/-! ### Void -/
def voidO (o : OwnV) : Bool := freeO o && decide (o.k.n = 0)
def voidL : Bool → List OwnV → Bool
  | b, [] => b
  | b, o :: l => voidL (b && voidO o) l
def Void1F : Nat := 30
def voidFn : SV := .fn (.func Void1F) [] [.ptr 0 1 0]
def boolB (b : Bool) : Heap := [((0, 1), .box none [.val (.bool b)])]
theorem void1_w (k : Kid) (o : OwnV) (b : Bool) : CallOK Try.prog Void1F [.agg (kidS k), .agg (ownS o), .ptr 0 1 0] [] (boolB b) noS (boolB (b && voidO o)) := by
  have c1 := efree_w o
  unfold voidO
  cases b
  · exact callOK_run 400 [] (by kernel_rfl) (by kernel_rfl)
  · rcases Bool.eq_false_or_eq_true (freeO o) with e1 | e1
    · rcases Bool.eq_false_or_eq_true (decide (o.k.n = 0)) with e2 | e2 <;> simp only [e1, e2] at c1 ⊢ <;> exact callOK_run 400 [hC 1 3 c1, hB 1 9 _ _ e2] (by kernel_rfl) (by kernel_rfl)
    · simp only [e1] at c1 ⊢; exact callOK_run 400 [hC 1 3 c1] (by kernel_rfl) (by kernel_rfl)
theorem each_void (B : BookV) {t : Tid} (ht : TidOk t) (y : Bool) : CallOK Try.prog EachF [.ptr 0 0 0, .agg (tidS t), voidFn] (bkC B) (boolB y) noS (boolB (voidL y (coupL B t))) := by
  have st := status_d B ht
  have c0 := own_c B (kidOk_at ht (i := 0) (by decide) (by decide))
  have c1 := own_c B (kidOk_at ht (i := 1) (by decide) (by decide))
  have c2 := own_c B (kidOk_at ht (i := 2) (by decide) (by decide))
  have c3 := own_c B (kidOk_at ht (i := 3) (by decide) (by decide))
  rcases coupL_cases B t with ⟨e, h0⟩ | ⟨a, e, h0, h1⟩ | ⟨a, b, e, h0, h1, h2⟩ | ⟨a, b, c, e, h0, h1, h2, h3⟩ | ⟨a, b, c, x, e, h0, h1, h2, h3⟩
  · rw [e] at st ⊢
    exact callOK_runU 900 [hC 1 2 st] (by kernel_rfl) (by kernel_rfl)
  · rw [e] at st ⊢
    rw [h0] at c0
    have t0 := void1_w ⟨t, 0⟩ a y
    exact callOK_runU 900 [hC 1 2 st, hC 5 2 c0, hC 7 3 t0] (by kernel_rfl) (by kernel_rfl)
  · rw [e] at st ⊢
    rw [h0] at c0
    rw [h1] at c1
    have t0 := void1_w ⟨t, 0⟩ a y
    have t1 := void1_w ⟨t, 1⟩ b (y && voidO a)
    exact callOK_runU 900 [hC 1 2 st, hC 5 2 c0, hC 7 3 t0, hC 5 2 c1, hC 7 3 t1] (by kernel_rfl) (by kernel_rfl)
  · rw [e] at st ⊢
    rw [h0] at c0
    rw [h1] at c1
    rw [h2] at c2
    have t0 := void1_w ⟨t, 0⟩ a y
    have t1 := void1_w ⟨t, 1⟩ b (y && voidO a)
    have t2 := void1_w ⟨t, 2⟩ c (y && voidO a && voidO b)
    exact callOK_runU 900 [hC 1 2 st, hC 5 2 c0, hC 7 3 t0, hC 5 2 c1, hC 7 3 t1, hC 5 2 c2, hC 7 3 t2] (by kernel_rfl) (by kernel_rfl)
  · rw [e] at st ⊢
    rw [h0] at c0
    rw [h1] at c1
    rw [h2] at c2
    rw [h3] at c3
    have t0 := void1_w ⟨t, 0⟩ a y
    have t1 := void1_w ⟨t, 1⟩ b (y && voidO a)
    have t2 := void1_w ⟨t, 2⟩ c (y && voidO a && voidO b)
    have t3 := void1_w ⟨t, 3⟩ x (y && voidO a && voidO b && voidO c)
    exact callOK_runU 900 [hC 1 2 st, hC 5 2 c0, hC 7 3 t0, hC 5 2 c1, hC 7 3 t1, hC 5 2 c2, hC 7 3 t2, hC 5 2 c3, hC 7 3 t3] (by kernel_rfl) (by kernel_rfl)
def tid0B (t : Tid) : Bool := decide (t.c = 0) && (decide (t.r = 0) && true)
def voidD (d : DocV) : DocV := { d with back := (addI d.back d.paid).1 }
def exVoidD (B : BookV) (t : Tid) (d : DocV) : XR :=
  bif !voidL (tid0B d.frm) (coupL B t) then failX 6 B
  else bif !decide ((addI d.back d.paid).2 = 0) then failX (addI d.back d.paid).2 B
  else toldX (turnB (B.setD (voidD d)) t 5) t (-priceI d.s)
def exVoid (B : BookV) (t : Tid) : XR := match lkD B.docs t with
  | none => failX 4 B
  | some d => exVoidD B t d
def VoidF : Nat := 9
theorem void_w {B : BookV} (h : ExOk B) {t : Tid} (ht : TidOk t) : CallOK Try.prog VoidF [.ptr 0 0 0, .agg (tidS t)] [] (bkC B) (xrV (exVoid B t)) (xrP (exVoid B t)) := by
  unfold exVoid
  cases hl : lkD B.docs t with
  | none =>
    have c1 := doc_no ht hl
    have c2 := failed_w 4
    exact callOK_run 400 [hC 1 2 c1, hC 3 1 c2] (by kernel_rfl) (by kernel_rfl)
  | some d =>
    obtain ⟨hd, rfl⟩ := lkD_mem hl
    have c1 := doc_ok ht hl (h.sm d hd)
    have c2 := each_void B ht (tid0B d.frm)
    have c3 := failed_w 6
    show CallOK _ _ _ _ _ (xrV (exVoidD B d.t d)) (xrP (exVoidD B d.t d))
    unfold exVoidD
    rcases Bool.eq_false_or_eq_true (voidL (tid0B d.frm) (coupL B d.t)) with e1 | e1
    · have c4 := madd_w d.back d.paid
      rcases Bool.eq_false_or_eq_true (decide ((addI d.back d.paid).2 = 0)) with e2 | e2
      · have g2 : (!decide ((addI d.back d.paid).2 = 0)) = false := by rw [e2]; rfl
        have c5 := setDoc_ok (d := voidD d) ht hl h.bk.nodup ⟨(h.sm d hd).nl, (h.sm d hd).nt, (h.sm d hd).nv⟩
        have c6 := turn_w (B.setD (voidD d)) ht 5
        have c7 := price_R (h.sal d hd)
        have bp := sum_bound (priceL d.s) 0 (by decide) (by decide)
        have w1 : IntKind.i64.wrap (0 - (sumFrom 0 (priceL d.s)).1) = -priceI d.s := by rw [wr_i64 (by omega)]; exact Int.zero_sub _
        have c8 := told_w (turnB (B.setD (voidD d)) d.t 5) ht (-priceI d.s)
        simp only [e1, e2] at c2 ⊢
        exact callOK_run 400 [hC 1 2 c1, hC 5 3 c2, hC 8 4 c4, hB 9 1 _ _ g2, hC 11 2 c5, hC 12 2 c6, hC 13 2 c7, hI 14 3 IntKind.i64 _ _ w1, hC 14 4 c8] (by kernel_rfl) (by kernel_rfl)
      · have g2 : (!decide ((addI d.back d.paid).2 = 0)) = true := by rw [e2]; rfl
        have c5 := failed_w (addI d.back d.paid).2
        simp only [e1, e2] at c2 ⊢
        exact callOK_run 400 [hC 1 2 c1, hC 5 3 c2, hC 8 4 c4, hB 9 1 _ _ g2, hC 10 1 c5] (by kernel_rfl) (by kernel_rfl)
    · simp only [e1] at c2 ⊢
      exact callOK_run 400 [hC 1 2 c1, hC 5 3 c2, hC 7 0 c3] (by kernel_rfl) (by kernel_rfl)
/-! ### Refund -/
def refD (B : BookV) (d : DocV) : DocV := { d with back := (addI d.back (giftV B d).g).1, kept := (addI d.kept (giftV B d).k).1, left := 0 }
def refE (B : BookV) (d : DocV) : Int := first2 (giftV B d).e (first2 (addI d.back (giftV B d).g).2 (addI d.kept (giftV B d).k).2)
def noneB (B : BookV) (d : DocV) : Bool := decide ((giftV B d).many = 0) && decide (d.left = 0)
def exRefundD (B : BookV) (t : Tid) (d : DocV) : XR :=
  bif noneB B d then failX 6 B
  else bif !decide (refE B d = 0) then failX (refE B d) B
  else toldX (turnB (B.setD (refD B d)) t 6) t (-(giftV B d).g)
def exRefund (B : BookV) (t : Tid) : XR := match lkD B.docs t with
  | none => failX 4 B
  | some d => exRefundD B t d
def RefundF : Nat := 10
theorem refund_w {B : BookV} (h : ExOk B) {t : Tid} (ht : TidOk t) : CallOK Try.prog RefundF [.ptr 0 0 0, .agg (tidS t)] [] (bkC B) (xrV (exRefund B t)) (xrP (exRefund B t)) := by
  unfold exRefund
  cases hl : lkD B.docs t with
  | none =>
    have c1 := doc_no ht hl
    have c2 := failed_w 4
    exact callOK_run 400 [hC 1 2 c1, hC 3 1 c2] (by kernel_rfl) (by kernel_rfl)
  | some d =>
    obtain ⟨hd, rfl⟩ := lkD_mem hl
    have c1 := doc_ok ht hl (h.sm d hd)
    have c2 := gifts_w B ht (h.sal d hd).pen.2 (h.coup d.t)
    have c3 := failed_w 6
    have bg := sum_bound (giveL B d) 0 (by decide) (by decide)
    show CallOK _ _ _ _ _ (xrV (exRefundD B d.t d)) (xrP (exRefundD B d.t d))
    have bg : -1125899906842624 ≤ (giftV B d).g ∧ (giftV B d).g ≤ 1125899906842624 := bg
    unfold exRefundD
    have big : noneB B d = false → CallOK Try.prog RefundF [.ptr 0 0 0, .agg (tidS d.t)] [] (bkC B) (xrV (bif !decide (refE B d = 0) then failX (refE B d) B else toldX (turnB (B.setD (refD B d)) d.t 6) d.t (-(giftV B d).g))) (xrP (bif !decide (refE B d = 0) then failX (refE B d) B else toldX (turnB (B.setD (refD B d)) d.t 6) d.t (-(giftV B d).g))) := fun hn => by
      have c4 := madd_w d.back (giftV B d).g
      have c5 := madd_w d.kept (giftV B d).k
      have c6 := first3_w (giftV B d).e (addI d.back (giftV B d).g).2 (addI d.kept (giftV B d).k).2
      have c6 : CallOK Try.prog FirstF [.raw 0 0] [((0, 0), errR [eN (giftV B d).e, eN (addI d.back (giftV B d).g).2, eN (addI d.kept (giftV B d).k).2] 3)] [] (eN (refE B d)) [] := c6
      have two : ∀ x, noneB B d = x → (decide ((giftV B d).many = 0) && decide (d.left = 0)) = x := fun x e => e
      have hn := two _ hn
      clear two
      rcases Bool.eq_false_or_eq_true (decide (refE B d = 0)) with e2 | e2
      · have g2 : (!decide (refE B d = 0)) = false := by rw [e2]; rfl
        have c7 := setDoc_ok (d := refD B d) ht hl h.bk.nodup ⟨(h.sm d hd).nl, (h.sm d hd).nt, (h.sm d hd).nv⟩
        have c8 := turn_w (B.setD (refD B d)) ht 6
        have w1 : IntKind.i64.wrap (0 - (giftV B d).g) = -(giftV B d).g := by rw [wr_i64 (by omega)]; exact Int.zero_sub _
        have c9 := told_w (turnB (B.setD (refD B d)) d.t 6) ht (-(giftV B d).g)
        simp only [e2]
        rcases Bool.eq_false_or_eq_true (decide ((giftV B d).many = 0)) with e3 | e3
        · rw [e3] at hn
          have e4 : decide (d.left = 0) = false := hn
          exact callOK_run 400 [hC 1 2 c1, hC 4 2 c2, hB 5 2 _ _ e3, hB 5 6 _ _ hn, hC 8 4 c4, hC 9 4 c5, hC 10 5 c6, hB 11 1 _ _ g2, hC 14 2 c7, hC 15 2 c8, hI 16 4 IntKind.i64 _ _ w1, hC 16 5 c9] (by kernel_rfl) (by kernel_rfl)
        · exact callOK_run 400 [hC 1 2 c1, hC 4 2 c2, hB 5 2 _ _ e3, hC 8 4 c4, hC 9 4 c5, hC 10 5 c6, hB 11 1 _ _ g2, hC 14 2 c7, hC 15 2 c8, hI 16 4 IntKind.i64 _ _ w1, hC 16 5 c9] (by kernel_rfl) (by kernel_rfl)
      · have g2 : (!decide (refE B d = 0)) = true := by rw [e2]; rfl
        have c7 := failed_w (refE B d)
        simp only [e2]
        rcases Bool.eq_false_or_eq_true (decide ((giftV B d).many = 0)) with e3 | e3
        · rw [e3] at hn
          have e4 : decide (d.left = 0) = false := hn
          exact callOK_run 400 [hC 1 2 c1, hC 4 2 c2, hB 5 2 _ _ e3, hB 5 6 _ _ hn, hC 8 4 c4, hC 9 4 c5, hC 10 5 c6, hB 11 1 _ _ g2, hC 12 1 c7] (by kernel_rfl) (by kernel_rfl)
        · exact callOK_run 400 [hC 1 2 c1, hC 4 2 c2, hB 5 2 _ _ e3, hC 8 4 c4, hC 9 4 c5, hC 10 5 c6, hB 11 1 _ _ g2, hC 12 1 c7] (by kernel_rfl) (by kernel_rfl)
    rcases Bool.eq_false_or_eq_true (noneB B d) with e1 | e1
    · rw [e1]
      unfold noneB at e1
      rw [Bool.and_eq_true] at e1
      obtain ⟨e3, e4⟩ := e1
      exact callOK_run 400 [hC 1 2 c1, hC 4 2 c2, hB 5 2 _ _ e3, hB 5 6 _ _ e4, hC 6 0 c3] (by kernel_rfl) (by kernel_rfl)
    · rw [e1]
      exact big e1
end Go.Proofs.Ytjeppnhkgiljpaa
end
section
namespace Go.Proofs.Ytjeppnhkgiljpaa
set_option maxRecDepth 100000
open Go.RowKit Go.Lib Go.Tk Go.Shelf Go.Vc Go.Sx
set_option linter.unusedVariables false
set_option linter.unusedSimpArgs false

theorem issE_many {B : BookV} {s : SaleV} (h : B.issE s = 0) : B.docs.length < 32 := by
  unfold BookV.issE at h
  cases g : decide ((32 : Int) ≤ (B.docs.length : Int)) with
  | true => rw [g] at h; cases h
  | false => have := of_decide_eq_false g; omega
theorem BookOk.issued {B : BookV} (hb : BookOk B) {s : SaleV} (h : B.issE s = 0) : BookOk (B.issued s) := by
  have hm := issE_many h
  refine ⟨hb.self, hb.n, fun i d hd => ?_, ?_⟩
  · have hd : (B.docs ++ [docMade B.nextT s])[i]? = some d := hd
    rw [List.getElem?_append] at hd
    by_cases hi : i < B.docs.length
    · rw [if_pos hi] at hd; exact hb.docs i d hd
    · rw [if_neg hi] at hd
      have hz : i - B.docs.length = 0 := by
        have := (List.getElem?_eq_some_iff.1 hd).1
        simp at this; omega
      rw [hz] at hd
      cases hd
      show B.nextT = _
      unfold BookV.nextT
      rw [show i = B.docs.length by omega]; rfl
  · show (B.docs ++ [docMade B.nextT s]).length ≤ 32
    rw [List.length_append]; simp; omega
theorem turn1_docs (B : BookV) (k : Kid) (o : OwnV) (s : Int) : (turn1 B k o s).docs = B.docs := by
  unfold turn1
  cases freeO o
  · rfl
  · exact setO_docs B k _
theorem turnL_docs (s : Int) (t : Tid) : ∀ (l : List OwnV) (B : BookV) (i : Int), (turnL s t B i l).docs = B.docs
  | [], B, i => rfl
  | o :: l, B, i => by
    show (turnL s t (turn1 B ⟨t, i⟩ o s) (i + 1) l).docs = _
    rw [turnL_docs s t l, turn1_docs]
theorem turnB_docs (B : BookV) (t : Tid) (s : Int) : (turnB B t s).docs = B.docs := turnL_docs s t _ B 0
theorem lkD_app {ds : List DocV} {t : Tid} {d x : DocV} (h : lkD ds t = some d) : lkD (ds ++ [x]) t = some d := by
  unfold lkD at h ⊢
  rw [List.find?_append, h]; rfl
def usedX (s : SaleV) (x : GiftV) : Int := if x.g < s.fare then x.g else s.fare
def exD1 (B : BookV) (d : DocV) (s : SaleV) : DocV := { d with kept := (addI d.kept (giftV B d).k).1, left := 0, dst := B.nextT }
def exD2 (B : BookV) (d : DocV) (s : SaleV) : DocV := { docMade B.nextT s with frm := d.t, credit := (giftV B d).g, paid := s.fare - usedX s (giftV B d), left := (giftV B d).g - usedX s (giftV B d) }
def exB2 (B : BookV) (d : DocV) (s : SaleV) : BookV := turnB ((B.issued s).setD (exD1 B d s)) d.t 7
def exE (B : BookV) (d : DocV) : Int := first2 (giftV B d).e (addI d.kept (giftV B d).k).2
def exExchangeD (B : BookV) (d : DocV) (s : SaleV) : XR :=
  bif noneB B d || !tid0B d.dst then failX 6 B
  else bif !decide (exE B d = 0) then failX (exE B d) B
  else bif !decide (B.issE s = 0) then failX (B.issE s) B
  else toldX ((exB2 B d s).setD (exD2 B d s)) B.nextT (priceI s - usedX s (giftV B d))
def exExchange (B : BookV) (t : Tid) (s : SaleV) : XR := match lkD B.docs t with
  | none => failX 4 B
  | some d => exExchangeD B d s
def ExchangeF : Nat := 11
theorem exchange_F (F : CF) {B : BookV} (h : ExOk B) {t : Tid} (ht : TidOk t) {s : SaleV} {A : SaleA} (ok : SaleOk s) (hl : ∀ b v, Rd (F b v) A.la (cellsL encLeg s.legs)) (hta : ∀ b v, Rd (F b v) A.ta (cellsL encTax s.taxes)) (h1 : SlOk A.la s.legs.length A.lc) (h2 : SlOk A.ta s.taxes.length A.tc) :
    CallOK Try.prog ExchangeF [.ptr 0 0 0, .agg (tidS t), .agg (salS s (.val (.slice A.la s.legs.length A.lc)) (.val (.slice A.ta s.taxes.length A.tc)))] [((0, 9), .fam F)] (bkC B) (xrV (exExchange B t s)) (xrP (exExchange B t s)) := by
  unfold exExchange
  cases hf : lkD B.docs t with
  | none =>
    have c1 := doc_no ht hf
    have c2 := failed_w 4
    exact callOK_run 400 [hC 1 2 c1, hC 3 1 c2] (by kernel_rfl) (by kernel_rfl)
  | some d =>
    obtain ⟨hd, rfl⟩ := lkD_mem hf
    have c1 := doc_ok ht hf (h.sm d hd)
    have c2 := gifts_w B ht (h.sal d hd).pen.2 (h.coup d.t)
    have c3 := failed_w 6
    have bg := sum_bound (giveL B d) 0 (by decide) (by decide)
    have bg : -1125899906842624 ≤ (giftV B d).g ∧ (giftV B d).g ≤ 1125899906842624 := bg
    show CallOK _ _ _ _ _ (xrV (exExchangeD B d s)) (xrP (exExchangeD B d s))
    unfold exExchangeD
    have big : noneB B d = false → tid0B d.dst = true → CallOK Try.prog ExchangeF [.ptr 0 0 0, .agg (tidS d.t), .agg (salS s (.val (.slice A.la s.legs.length A.lc)) (.val (.slice A.ta s.taxes.length A.tc)))] [((0, 9), .fam F)] (bkC B)
        (xrV (bif !decide (exE B d = 0) then failX (exE B d) B else bif !decide (B.issE s = 0) then failX (B.issE s) B else toldX ((exB2 B d s).setD (exD2 B d s)) B.nextT (priceI s - usedX s (giftV B d))))
        (xrP (bif !decide (exE B d = 0) then failX (exE B d) B else bif !decide (B.issE s = 0) then failX (B.issE s) B else toldX ((exB2 B d s).setD (exD2 B d s)) B.nextT (priceI s - usedX s (giftV B d)))) := fun hn hz => by
      have c5 := madd_w d.kept (giftV B d).k
      have c6 := first2_w (giftV B d).e (addI d.kept (giftV B d).k).2
      have c6 : CallOK Try.prog FirstF [.raw 0 0] [((0, 0), errR [eN (giftV B d).e, eN (addI d.kept (giftV B d).k).2] 2)] [] (eN (exE B d)) [] := c6
      have two : ∀ x, noneB B d = x → (decide ((giftV B d).many = 0) && decide (d.left = 0)) = x := fun x e => e
      have hn := two _ hn
      clear two
      have hz2 : (!tid0B d.dst) = false := by rw [hz]; rfl
      rcases Bool.eq_false_or_eq_true (decide (exE B d = 0)) with e2 | e2
      · have g2 : (!decide (exE B d = 0)) = false := by rw [e2]; rfl
        rcases Bool.eq_false_or_eq_true (decide (B.issE s = 0)) with e5 | e5
        · have hm : B.issE s = 0 := of_decide_eq_true e5
          have c7 := issue_okC F h.bk ok hl hta h1 h2 hm
          have hb1 := h.bk.issued hm
          have t2 := nextT_ok h.bk
          obtain ⟨-, -, hsh, hpr⟩ := check_shape (issE_check hm)
          obtain ⟨hS, -, l1, l4, f0, f1⟩ := shape_share ok hsh
          have hvl : (shareV s.fare (wsOf s)).length = s.legs.length := by rw [shareV_len hS, ws_len]
          have sm2 : DocSmall (exD2 B d s) := ⟨by have := ok.nl; show s.legs.length ≤ _; omega, by have := ok.nt; show s.taxes.length ≤ _; omega, by show (shareV s.fare (wsOf s)).length ≤ _; omega⟩
          have c8 := setDoc_ok (B := B.issued s) (d := exD1 B d s) ht (lkD_app hf) hb1.nodup ⟨(h.sm d hd).nl, (h.sm d hd).nt, (h.sm d hd).nv⟩
          have c9 := turn_w ((B.issued s).setD (exD1 B d s)) ht 7
          have hdt : (exB2 B d s).docs.map (·.t) = (B.issued s).docs.map (·.t) := by unfold exB2; rw [turnB_docs]; exact putD_t _ _
          obtain ⟨d3, hd3⟩ : ∃ x, lkD (exB2 B d s).docs (exD2 B d s).t = some x := lkD_some (by
            rw [hdt]
            show B.nextT ∈ (B.docs ++ [docMade B.nextT s]).map (·.t)
            rw [List.map_append]; exact List.mem_append_right _ (List.mem_singleton.2 rfl))
          have c10 := setDoc_ok (B := exB2 B d s) (d := exD2 B d s) t2 hd3 (by rw [hdt]; exact hb1.nodup) sm2
          have c11 := price_F F ok hl hta (fun e => (h1.nil e).2) (fun e => (h2.nil e).2)
          have bp := sum_bound (priceL s) 0 (by decide) (by decide)
          have c12 := told_w ((exB2 B d s).setD (exD2 B d s)) t2 (priceI s - usedX s (giftV B d))
          have bu : -1125899906842624 ≤ usedX s (giftV B d) ∧ usedX s (giftV B d) ≤ 1125899906842624 := by unfold usedX; split <;> omega
          have w1 : IntKind.i64.wrap (s.fare - usedX s (giftV B d)) = s.fare - usedX s (giftV B d) := wr_i64 (by omega)
          have w2 : IntKind.i64.wrap ((giftV B d).g - usedX s (giftV B d)) = (giftV B d).g - usedX s (giftV B d) := wr_i64 (by omega)
          have w3 : IntKind.i64.wrap ((sumFrom 0 (priceL s)).1 - usedX s (giftV B d)) = priceI s - usedX s (giftV B d) := wr_i64 (by omega)
          have w0 : (if (giftV B d).g < s.fare then (giftV B d).g else s.fare) = usedX s (giftV B d) := rfl
          simp only [e2, e5]
          rcases Bool.eq_false_or_eq_true (decide ((giftV B d).many = 0)) with e3 | e3
          · rw [e3] at hn
            have e4 : decide (d.left = 0) = false := hn
            exact callOK_run 600 [hC 1 2 c1, hC 4 2 c2, hB 5 2 _ _ e3, hB 5 6 _ _ hn, hB 5 12 _ _ hz2, hC 7 4 c5, hC 8 4 c6, hB 9 1 _ _ g2, hC 11 2 c7, hI 14 4 IntKind.i64 _ _ w0, hI 14 5 IntKind.i64 _ _ w0, hC 16 2 c8, hC 17 2 c9, hI 18 5 IntKind.i64 _ _ w0, hI 18 6 IntKind.i64 _ _ w1, hI 18 9 IntKind.i64 _ _ w0, hI 18 10 IntKind.i64 _ _ w2, hC 19 2 c10, hC 20 1 c11, hI 20 4 IntKind.i64 _ _ hpr, hI 21 4 IntKind.i64 _ _ w0, hI 21 5 IntKind.i64 _ _ w3, hC 21 6 c12] (by kernel_rfl) (by kernel_rfl)
          · exact callOK_run 600 [hC 1 2 c1, hC 4 2 c2, hB 5 2 _ _ e3, hB 5 12 _ _ hz2, hC 7 4 c5, hC 8 4 c6, hB 9 1 _ _ g2, hC 11 2 c7, hI 14 4 IntKind.i64 _ _ w0, hI 14 5 IntKind.i64 _ _ w0, hC 16 2 c8, hC 17 2 c9, hI 18 5 IntKind.i64 _ _ w0, hI 18 6 IntKind.i64 _ _ w1, hI 18 9 IntKind.i64 _ _ w0, hI 18 10 IntKind.i64 _ _ w2, hC 19 2 c10, hC 20 1 c11, hI 20 4 IntKind.i64 _ _ hpr, hI 21 4 IntKind.i64 _ _ w0, hI 21 5 IntKind.i64 _ _ w3, hC 21 6 c12] (by kernel_rfl) (by kernel_rfl)
        · have hm : B.issE s ≠ 0 := of_decide_eq_false e5
          have g5 : (!decide (B.issE s = 0)) = true := by rw [e5]; rfl
          have c7 := issue_noC F h.bk ok hl hta h1 h2 hm
          have c8 := failed_w (B.issE s)
          simp only [e2, e5]
          rcases Bool.eq_false_or_eq_true (decide ((giftV B d).many = 0)) with e3 | e3
          · rw [e3] at hn
            have e4 : decide (d.left = 0) = false := hn
            exact callOK_run 600 [hC 1 2 c1, hC 4 2 c2, hB 5 2 _ _ e3, hB 5 6 _ _ hn, hB 5 12 _ _ hz2, hC 7 4 c5, hC 8 4 c6, hB 9 1 _ _ g2, hC 11 2 c7, hB 12 1 _ _ g5, hC 13 1 c8] (by kernel_rfl) (by kernel_rfl)
          · exact callOK_run 600 [hC 1 2 c1, hC 4 2 c2, hB 5 2 _ _ e3, hB 5 12 _ _ hz2, hC 7 4 c5, hC 8 4 c6, hB 9 1 _ _ g2, hC 11 2 c7, hB 12 1 _ _ g5, hC 13 1 c8] (by kernel_rfl) (by kernel_rfl)
      · have g2 : (!decide (exE B d = 0)) = true := by rw [e2]; rfl
        have c7 := failed_w (exE B d)
        simp only [e2]
        rcases Bool.eq_false_or_eq_true (decide ((giftV B d).many = 0)) with e3 | e3
        · rw [e3] at hn
          have e4 : decide (d.left = 0) = false := hn
          exact callOK_run 600 [hC 1 2 c1, hC 4 2 c2, hB 5 2 _ _ e3, hB 5 6 _ _ hn, hB 5 12 _ _ hz2, hC 7 4 c5, hC 8 4 c6, hB 9 1 _ _ g2, hC 10 1 c7] (by kernel_rfl) (by kernel_rfl)
        · exact callOK_run 600 [hC 1 2 c1, hC 4 2 c2, hB 5 2 _ _ e3, hB 5 12 _ _ hz2, hC 7 4 c5, hC 8 4 c6, hB 9 1 _ _ g2, hC 10 1 c7] (by kernel_rfl) (by kernel_rfl)
    rcases Bool.eq_false_or_eq_true (noneB B d) with e1 | e1
    · rw [e1]
      unfold noneB at e1
      rw [Bool.and_eq_true] at e1
      obtain ⟨e3, e4⟩ := e1
      exact callOK_run 600 [hC 1 2 c1, hC 4 2 c2, hB 5 2 _ _ e3, hB 5 6 _ _ e4, hC 6 0 c3] (by kernel_rfl) (by kernel_rfl)
    · rcases Bool.eq_false_or_eq_true (tid0B d.dst) with e6 | e6
      · rw [e1, e6]
        exact big e1 e6
      · rw [e1, e6]
        have hz2 : (!tid0B d.dst) = true := by rw [e6]; rfl
        have two : ∀ x, noneB B d = x → (decide ((giftV B d).many = 0) && decide (d.left = 0)) = x := fun x e => e
        have hn := two _ e1
        clear two
        rcases Bool.eq_false_or_eq_true (decide ((giftV B d).many = 0)) with e3 | e3
        · rw [e3] at hn
          have e4 : decide (d.left = 0) = false := hn
          exact callOK_run 600 [hC 1 2 c1, hC 4 2 c2, hB 5 2 _ _ e3, hB 5 6 _ _ hn, hB 5 12 _ _ hz2, hC 6 0 c3] (by kernel_rfl) (by kernel_rfl)
        · exact callOK_run 600 [hC 1 2 c1, hC 4 2 c2, hB 5 2 _ _ e3, hB 5 12 _ _ hz2, hC 6 0 c3] (by kernel_rfl) (by kernel_rfl)
end Go.Proofs.Ytjeppnhkgiljpaa
end
section
namespace Go.Proofs.Ytjeppnhkgiljpaa
set_option maxRecDepth 100000
open Go.RowKit Go.Lib Go.Tk Go.Shelf Go.Vc Go.Sx
set_option linter.unusedVariables false
set_option linter.unusedSimpArgs false

theorem shareL_bds {t : Int} {ws : List Int} (hp : PosRow ws) (ha : 0 < ws.sum) (ht : 0 ≤ t) {i : Nat} (hi : i < ws.length) : 0 ≤ (shareL t ws).getD i 0 ∧ (shareL t ws).getD i 0 ≤ t + 1 := by
  rw [shareL_get _ _ _ hi]
  have hx := posrow_get hp hi
  have e : ws.getD i 0 = ws[i] := by simp [List.getD_eq_getElem?_getD, hi]
  have := wh_bd (t := t) (S := ws.sum) ht ha hx.1 (by rw [e]; exact le_sum ws (fun y hy => (hp y hy).1) _ (List.getElem_mem hi))
  split <;> omega
theorem share_bd {s : SaleV} (ok : SaleOk s) {n : Int} (h : checkE s n = 0) (i : Nat) : 0 ≤ (shareV s.fare (wsOf s)).getD i 0 ∧ (shareV s.fare (wsOf s)).getD i 0 ≤ 1125899906842625 := by
  obtain ⟨-, -, hsh, -⟩ := check_shape h
  obtain ⟨hS, ha, l1, l4, f0, f1⟩ := shape_share ok hsh
  have hv : shareV s.fare (wsOf s) = shareL s.fare (wsOf s) := by unfold shareV; rw [if_pos hS]
  rw [hv]
  by_cases hi : i < (wsOf s).length
  · have := shareL_bds (ws_pos ok) ha f0 hi
    omega
  · rw [List.getD_eq_getElem?_getD, List.getElem?_eq_none (by rw [shareL_len]; omega)]
    exact ⟨Int.le_refl _, by decide⟩
theorem issO_lk (t : Tid) (s : SaleV) (vs : List Int) (L : OwnsV) (k : Kid) : ∀ n, (∃ i : Nat, i < n ∧ k = ⟨t, (i : Int)⟩ ∧ lkt (issO t s vs L n) k = some (ownNew (s.legs.getD i leg0) (vs.getD i 0))) ∨ ((∀ i : Nat, i < n → k ≠ ⟨t, (i : Int)⟩) ∧ lkt (issO t s vs L n) k = lkt L k)
  | 0 => .inr ⟨fun i hi => absurd hi (Nat.not_lt_zero _), rfl⟩
  | n + 1 => by
    have ih := issO_lk t s vs L k n
    have e : issO t s vs L (n + 1) = putt (issO t s vs L n) ⟨t, (n : Int)⟩ (ownNew (s.legs.getD n leg0) (vs.getD n 0)) := rfl
    rw [e, lkt_put]
    by_cases hk : (⟨t, (n : Int)⟩ : Kid) = k
    · rw [if_pos hk]
      exact .inl ⟨n, Nat.lt_succ_self _, hk.symm, rfl⟩
    · rw [if_neg hk]
      rcases ih with ⟨i, hi, h1, h2⟩ | ⟨h1, h2⟩
      · exact .inl ⟨i, by omega, h1, h2⟩
      · exact .inr ⟨fun i hi => by
          by_cases q : i = n
          · subst q; exact fun e => hk e.symm
          · exact h1 i (by omega), h2⟩
theorem ExOk.issued {B : BookV} (h : ExOk B) {s : SaleV} (ok : SaleOk s) (hm : B.issE s = 0) : ExOk (B.issued s) := by
  have hc := issE_check hm
  obtain ⟨-, -, hsh, -⟩ := check_shape hc
  obtain ⟨hS, ha, l1, l4, f0, f1⟩ := shape_share ok hsh
  have hvl : (shareV s.fare (wsOf s)).length = s.legs.length := by rw [shareV_len hS, ws_len]
  have hd : ∀ d ∈ (B.issued s).docs, d ∈ B.docs ∨ d = docMade B.nextT s := fun d hd => by
    have hd : d ∈ B.docs ++ [docMade B.nextT s] := hd
    rcases List.mem_append.1 hd with q | q
    · exact .inl q
    · exact .inr (List.mem_singleton.1 q)
  refine ⟨h.bk.issued hm, fun d q => ?_, fun d q => ?_, fun k o ho => ?_⟩
  · rcases hd d q with q | rfl
    · exact h.sal d q
    · exact ok
  · rcases hd d q with q | rfl
    · exact h.sm d q
    · exact ⟨by have := ok.nl; show s.legs.length ≤ _; omega, by have := ok.nt; show s.taxes.length ≤ _; omega, by show (shareV s.fare (wsOf s)).length ≤ _; omega⟩
  · have ho : lkt (issO B.nextT s (shareV s.fare (wsOf s)) B.owns (shareV s.fare (wsOf s)).length) k = some o := ho
    rcases issO_lk B.nextT s (shareV s.fare (wsOf s)) B.owns k (shareV s.fare (wsOf s)).length with ⟨i, hi, -, h2⟩ | ⟨-, h2⟩
    · rw [h2] at ho
      cases ho
      have := share_bd ok hc i
      show -9223372036854775808 ≤ (shareV s.fare (wsOf s)).getD i 0 ∧ (shareV s.fare (wsOf s)).getD i 0 ≤ 9223372036854775807
      omega
    · rw [h2] at ho
      exact h.own k o ho
theorem ExOk.setD {B : BookV} (h : ExOk B) {d : DocV} (ok : SaleOk d.s) (sm : DocSmall d) : ExOk (B.setD d) := by
  have hd : ∀ x ∈ (B.setD d).docs, x ∈ B.docs ∨ x = d := fun x hx => by
    obtain ⟨y, hy, e⟩ := List.mem_map.1 (show x ∈ putD B.docs d from hx)
    by_cases q : y.t = d.t
    · rw [if_pos q] at e; exact .inr e.symm
    · rw [if_neg q] at e; exact .inl (e ▸ hy)
  refine ⟨⟨h.bk.self, h.bk.n, fun i x hx => ?_, ?_⟩, fun x q => ?_, fun x q => ?_, h.own⟩
  · have e := putD_t B.docs d
    have h1 : ((putD B.docs d).map (·.t))[i]? = some x.t := by rw [List.getElem?_map, show (putD B.docs d)[i]? = some x from hx]; rfl
    rw [e, List.getElem?_map] at h1
    cases h2 : B.docs[i]? with
    | none => rw [h2] at h1; cases h1
    | some y =>
      rw [h2] at h1
      have h3 := h.bk.docs i y h2
      show x.t = ⟨B.self, (i : Int) + 1⟩
      rw [← h3]
      simpa using h1.symm
  · show (putD B.docs d).length ≤ 32
    unfold putD; rw [List.length_map]; exact h.bk.many
  · rcases hd x q with q | rfl
    · exact h.sal x q
    · exact ok
  · rcases hd x q with q | rfl
    · exact h.sm x q
    · exact sm
theorem ExOk.turn1 {B : BookV} (h : ExOk B) {k : Kid} {o : OwnV} (ho : OwnOk o) (s : Int) : ExOk (turn1 B k o s) := by
  have hd := turn1_docs B k o s
  have hs : (Go.Proofs.Ytjeppnhkgiljpaa.turn1 B k o s).self = B.self ∧ (Go.Proofs.Ytjeppnhkgiljpaa.turn1 B k o s).n = B.n := by
    unfold Go.Proofs.Ytjeppnhkgiljpaa.turn1 BookV.setO
    cases freeO o <;> cases (lkt B.owns k).isSome <;> exact ⟨rfl, rfl⟩
  refine ⟨⟨by rw [hs.1, hs.2]; exact h.bk.self, by rw [hs.2]; exact h.bk.n, by rw [hd, hs.1]; exact h.bk.docs, by rw [hd]; exact h.bk.many⟩, by rw [hd]; exact h.sal, by rw [hd]; exact h.sm, fun k' x hx => ?_⟩
  unfold Go.Proofs.Ytjeppnhkgiljpaa.turn1 BookV.setO at hx
  cases hf : freeO o
  · rw [hf] at hx; exact h.own k' x hx
  · rw [hf] at hx
    cases hl : (lkt B.owns k).isSome
    · rw [hl] at hx; exact h.own k' x hx
    · rw [hl] at hx
      have hx : lkt (putt B.owns k (asO o s)) k' = some x := hx
      rw [lkt_put] at hx
      by_cases e : k = k'
      · rw [if_pos e] at hx; cases hx; exact ho
      · rw [if_neg e] at hx; exact h.own k' x hx
theorem ExOk.turnL (s : Int) (t : Tid) : ∀ (l : List OwnV) {B : BookV} (i : Int), ExOk B → (∀ o ∈ l, OwnOk o) → ExOk (turnL s t B i l)
  | [], B, i, h, _ => h
  | o :: l, B, i, h, hl => ExOk.turnL s t l (i + 1) (h.turn1 (k := ⟨t, i⟩) (hl o List.mem_cons_self) s) fun x hx => hl x (List.mem_cons_of_mem _ hx)
theorem ExOk.turnB {B : BookV} (h : ExOk B) (t : Tid) (s : Int) : ExOk (turnB B t s) := ExOk.turnL s t _ 0 h (h.coup t)
theorem exIssue_ok {B : BookV} (h : ExOk B) {s : SaleV} (ok : SaleOk s) : ExOk (exIssue B s).b := by
  unfold exIssue
  rcases Bool.eq_false_or_eq_true (decide (B.issE s = 0)) with e | e <;> rw [e]
  · exact h.issued ok (of_decide_eq_true e)
  · exact h
theorem exDisplay_ok {B : BookV} (h : ExOk B) (t : Tid) : ExOk (exDisplay B t).b := by
  unfold exDisplay
  cases lkD B.docs t <;> exact h
theorem exVoid_ok {B : BookV} (h : ExOk B) (t : Tid) : ExOk (exVoid B t).b := by
  unfold exVoid
  cases hf : lkD B.docs t with
  | none => exact h
  | some d =>
    have hd := (lkD_mem hf).1
    show ExOk (exVoidD B t d).b
    unfold exVoidD
    cases (!voidL (tid0B d.frm) (coupL B t))
    · cases (!decide ((addI d.back d.paid).2 = 0))
      · exact (h.setD (d := voidD d) (h.sal d hd) ⟨(h.sm d hd).nl, (h.sm d hd).nt, (h.sm d hd).nv⟩).turnB t 5
      · exact h
    · exact h
theorem exRefund_ok {B : BookV} (h : ExOk B) (t : Tid) : ExOk (exRefund B t).b := by
  unfold exRefund
  cases hf : lkD B.docs t with
  | none => exact h
  | some d =>
    have hd := (lkD_mem hf).1
    show ExOk (exRefundD B t d).b
    unfold exRefundD
    cases noneB B d
    · cases (!decide (refE B d = 0))
      · exact (h.setD (d := refD B d) (h.sal d hd) ⟨(h.sm d hd).nl, (h.sm d hd).nt, (h.sm d hd).nv⟩).turnB t 6
      · exact h
    · exact h
theorem exExchange_ok {B : BookV} (h : ExOk B) (t : Tid) {s : SaleV} (ok : SaleOk s) : ExOk (exExchange B t s).b := by
  unfold exExchange
  cases hf : lkD B.docs t with
  | none => exact h
  | some d =>
    have hd := (lkD_mem hf).1
    show ExOk (exExchangeD B d s).b
    unfold exExchangeD
    cases (noneB B d || !tid0B d.dst)
    · cases (!decide (exE B d = 0))
      · rcases Bool.eq_false_or_eq_true (decide (B.issE s = 0)) with e | e
        · have hm := of_decide_eq_true e
          rw [e]
          obtain ⟨-, -, hsh, -⟩ := check_shape (issE_check hm)
          obtain ⟨hS, ha, l1, l4, f0, f1⟩ := shape_share ok hsh
          have hvl : (shareV s.fare (wsOf s)).length = s.legs.length := by rw [shareV_len hS, ws_len]
          have h1 := ((h.issued ok hm).setD (d := exD1 B d s) (h.sal d hd) ⟨(h.sm d hd).nl, (h.sm d hd).nt, (h.sm d hd).nv⟩).turnB d.t 7
          exact h1.setD (d := exD2 B d s) ok ⟨by have := ok.nl; show s.legs.length ≤ _; omega, by have := ok.nt; show s.taxes.length ≤ _; omega, by show (shareV s.fare (wsOf s)).length ≤ _; omega⟩
        · rw [e]; exact h
      · exact h
    · exact h
theorem new_ex (self n : Int) (h : 0 ≤ self ∧ self < n ∧ 2 ≤ n ∧ n ≤ 8) : ExOk (bookNew self n) := ⟨book_new_ok self n h, (fun d hd => by cases hd), (fun d hd => by cases hd), (fun k o ho => by cases ho)⟩
end Go.Proofs.Ytjeppnhkgiljpaa
end
