/- Rf13, Tick19, Tb1, Tb2, Tb3, EbP4, EaP, EbW1, EbW2, EbW3, HoP4, PostPlain, BoxLoad, PostAct, Lw16f, Lw16n, Ex8, Ex9, EbW4, BkC1, BkC2, BkC3. -/
import Derived.Test.YtnkghdakjdhhdaaGreatM2658a54
import Derived.Test.YtnkghdakjdhhdaaGreatMcf6da5e
import Derived.Test.YtnkghdakjdhhdaaGreatM911b15a
import Derived.Test.YtnkghdakjdhhdaaGreatM79bafec
import Derived.Test.YtnkghdakjdhhdaaGreatM289763c
import Derived.Test.YtnkghdakjdhhdaaGreatM88b8626
import Derived.Test.YtnkghdakjdhhdaaGreatM3981284
import Derived.Test.YtnkghdakjdhhdaaGreatM64f4c37
import Derived.Shelf.SlicesQ.Load
import Derived.Test.YtnkghdakjdhhdaaGreatRows
import Derived.Test.YtnkghdakjdhhdaaGreatM533403a
import Derived.Shelf.SlMaps.Clone
set_option maxRecDepth 100000
set_option linter.unusedVariables false
set_option linter.unusedSimpArgs false
set_option linter.unusedSectionVars false
section
namespace Go.Proofs.YtnkghdakjdhhdaaGreat
open Go.RowKit Go.Lib Go.Tk Go.Shelf Go.Vc Go.Sx
def RefV.nextT (B : RefV) : Tid := ⟨B.self, (B.docs.length : Int) + 1⟩
def RefV.issE (B : RefV) (s : SaleV) : Int := bif decide ((32 : Int) ≤ (B.docs.length : Int)) then 3 else makeE B.self ((B.docs.length : Int) + 1) s B.n
def issR (t : Tid) (s : SaleV) (vs : List Int) (L : List (Kid × OwnV)) : Nat → List (Kid × OwnV)
  | 0 => L
  | i + 1 => issR t s vs L i ++ [(⟨t, (i : Int)⟩, ownNew (s.legs.getD i leg0) (vs.getD i 0))]
theorem issR_len (t : Tid) (s : SaleV) (vs : List Int) (L : List (Kid × OwnV)) : ∀ i, (issR t s vs L i).length = L.length + i
  | 0 => rfl
  | i + 1 => by
    have := issR_len t s vs L i
    show (issR t s vs L i ++ [_]).length = _
    rw [List.length_append, List.length_singleton]; omega
def RefV.issued (B : RefV) (s : SaleV) (A : SaleA) : RefV := { B with docs := B.docs ++ [(docMade B.nextT s, A)], owns := issR B.nextT s (shareV s.fare (wsOf s)) B.owns (shareV s.fare (wsOf s)).length }
def RIssueF : Nat := 22
def saleX (s : SaleV) (A : SaleA) : List SV := salS s (.val (.slice A.la s.legs.length A.lc)) (.val (.slice A.ta s.taxes.length A.tc))
theorem rissue_no (F : CF) {B : RefV} {s : SaleV} {A : SaleA} (ok : SaleOk s) (hs : 0 ≤ B.self ∧ B.self ≤ 255) (hd : B.docs.length ≤ 32) (hl : ∀ b v, Rd (F b v) A.la (cellsL encLeg s.legs)) (ht : ∀ b v, Rd (F b v) A.ta (cellsL encTax s.taxes)) (hm : B.issE s ≠ 0) :
    CallOK Tryz.prog RIssueF [.ptr 0 0 0, .agg (saleX s A)] [((0, 9), .fam F)] (rfC (rdX B.docs) B) (.tup [.agg (docS doc0 nilS nilS nilS), eN (B.issE s)]) (rfC (rdX B.docs) B) := by
  have c1 := len_rdX B.docs
  rcases Bool.eq_false_or_eq_true (decide ((32 : Int) ≤ (B.docs.length : Int))) with g1 | g1
  · have e : B.issE s = 3 := by unfold RefV.issE; rw [g1]; rfl
    rw [e]
    exact rshutN (n1 := (0, 1)) (n2 := (0, 2)) (n3 := (0, 3)) (post := []) (callOK_run 400 [hG 1 4 c1, hB 1 5 _ _ g1] (by kernel_rfl) (by kernel_rfl)) rfl rfl rfl rfl
  · have e : B.issE s = makeE B.self ((B.docs.length : Int) + 1) s B.n := by unfold RefV.issE; rw [g1]; rfl
    rw [e] at hm ⊢
    have c2 := rmake_no F ok (c := B.self) (r := (B.docs.length : Int) + 1) (n := B.n) hs hl ht hm
    have w1 : IntKind.i64.wrap ((B.docs.length : Int) + 1) = (B.docs.length : Int) + 1 := wr_i64 (by omega)
    have w2 : IntKind.u64.wrap ((B.docs.length : Int) + 1) = (B.docs.length : Int) + 1 := wr_u64 (by omega)
    have g2 : (!decide (makeE B.self ((B.docs.length : Int) + 1) s B.n = 0)) = true := by simpa using hm
    exact rshutN (n1 := (0, 1)) (n2 := (0, 2)) (n3 := (0, 3)) (post := []) (callOK_run 400 [hG 1 4 c1, hB 1 5 _ _ g1, hG 3 8 c1, hI 3 9 IntKind.i64 _ _ w1, hI 3 10 IntKind.u64 _ _ w2, hC 3 17 c2, hB 4 1 _ _ g2] (by kernel_rfl) (by kernel_rfl)) rfl rfl rfl rfl
theorem mine_len (x : Kid × OwnV) : (mineC x).length = 13 := rfl
theorem mine_one (x : Kid × OwnV) : ∀ u ∈ mineC x, u.oneCell' = true := fun u hu => by
  have : (mineC x).all (·.oneCell') = true := rfl
  exact List.all_eq_true.1 this u hu
theorem doc_len (p : DocV × DocA) : (docL p).length = 17 := rfl
theorem doc_one (p : DocV × DocA) : ∀ u ∈ docL p, u.oneCell' = true := fun u hu => by
  have : (docL p).all (·.oneCell') = true := rfl
  exact List.all_eq_true.1 this u hu
theorem rissue_ok (F : CF) {B : RefV} {s : SaleV} {A : SaleA} (ok : SaleOk s) (hs : 0 ≤ B.self ∧ B.self ≤ 255) (ho : B.owns.length ≤ 1000000) (hl : ∀ b v, Rd (F b v) A.la (cellsL encLeg s.legs)) (ht : ∀ b v, Rd (F b v) A.ta (cellsL encTax s.taxes)) (hm : B.issE s = 0) :
    CallOK Tryz.prog RIssueF [.ptr 0 0 0, .agg (saleX s A)] [((0, 9), .fam F)] (rfC (rdX B.docs) B) (.tup [.agg (docS (docMade B.nextT s) (.val (.slice A.la s.legs.length A.lc)) (.val (.slice A.ta s.taxes.length A.tc)) (.raw 1 0)), eN 0]) (rfC (rdX (B.issued s A).docs) (B.issued s A)) := by
  have c1 := len_rdX B.docs
  have g1 : decide ((32 : Int) ≤ (B.docs.length : Int)) = false := by
    cases h : decide ((32 : Int) ≤ (B.docs.length : Int)) with
    | false => rfl
    | true => unfold RefV.issE at hm; rw [h] at hm; cases hm
  have hm : makeE B.self ((B.docs.length : Int) + 1) s B.n = 0 := by unfold RefV.issE at hm; rw [g1] at hm; exact hm
  have c2 := rmake_ok F ok (c := B.self) (r := (B.docs.length : Int) + 1) (n := B.n) hs hl ht hm
  have hdl : B.docs.length < 32 := by have := of_decide_eq_false g1; omega
  have w1 : IntKind.i64.wrap ((B.docs.length : Int) + 1) = (B.docs.length : Int) + 1 := wr_i64 (by omega)
  have w2 : IntKind.u64.wrap ((B.docs.length : Int) + 1) = (B.docs.length : Int) + 1 := wr_u64 (by omega)
  have hck : checkE s B.n = 0 := by
    unfold makeE at hm
    split at hm
    · cases hm
    · exact hm
  obtain ⟨-, -, hsh, -⟩ := check_shape hck
  obtain ⟨hS, -, l1, l4, -, -⟩ := shape_share ok hsh
  have hvl : (shareV s.fare (wsOf s)).length = s.legs.length := by rw [shareV_len hS, ws_len]
  refine rshutN (n1 := (1, 4)) (n2 := (1, 5)) (n3 := (0, 3)) (post := []) (callOK_intro (by kernel_rfl) fun eb R => ?_) rfl rfl rfl rfl
  refine leaf_cut (rgK Tryz.prog RIssueF 6 []) [(0, .ptr 0 0 0), (3, .ptr 1 0 0), (4, .ptr 1 1 0), (6, .ptr 1 2 0)]
    ([((0, 9), .fam F)] ++ (rfS (rdX B.docs) B 0 ++ [((1, 0), .box none (saleX s A)), ((1, 1), .box none (docS doc0 nilS nilS nilS)), ((1, 2), .box none (docS (docMade B.nextT s) (.val (.slice A.la s.legs.length A.lc)) (.val (.slice A.ta s.taxes.length A.tc)) (.raw 1 3))), ((1, 3), i64R (shareV s.fare (wsOf s)).length (shareV s.fare (wsOf s)))]))
    calNone false 400 [hG 1 4 c1, hB 1 5 _ _ g1, hG 3 8 c1, hI 3 9 IntKind.i64 _ _ w1, hI 3 10 IntKind.u64 _ _ w2, hC 3 17 c2, .stop 6] calNone_ok (by kernel_rfl) ?_
  refine go_row (1, 3) 2 1 (shareV s.fare (wsOf s)).length ((shareV s.fare (wsOf s)).map (.int .i64)) (by kernel_rfl) fun va vc hva => ?_
  refine go_as [(0, .ptr 0 0 0), (3, .ptr 1 0 0), (4, .ptr 1 1 0), (6, .ptr 1 2 0)] ([((0, 9), .fam F)] ++ (rfS (rdX B.docs) B 0 ++ [((1, 0), .box none (saleX s A)), ((1, 1), .box none (docS doc0 nilS nilS nilS)), ((1, 2), .box none (docSA (docMade B.nextT s) ⟨A.la, A.lc, A.ta, A.tc, va, vc⟩)), ((1, 3), .fam fun _ _ => valsRow (docMade B.nextT s, ⟨A.la, A.lc, A.ta, A.tc, va, vc⟩))]))
    (by kernel_rfl) (by kernel_rfl) ?_
  refine go_open (X := { L : List (DocV × DocA) // L.map nrm = B.docs }) (fun x => [((0, 1), .fam fun _ v => rdQ x.1 0 v), ((1, 9), .fam fun _ _ => allC (x.1.map valsRow)), ((0, 9), .fam F), ((0, 0), .box none [.val (.int .u8 B.self), .val (.int .i64 B.n), .any 0 1, .any 0 2, .any 0 3]), ((0, 2), .fam (rownsF B.owns)), ((0, 3), .fam (rheldsF B.helds)), ((1, 0), .box none (saleX s A)), ((1, 1), .box none (docS doc0 nilS nilS nilS)), ((1, 2), .box none (docSA (docMade B.nextT s) ⟨A.la, A.lc, A.ta, A.tc, va, vc⟩)), ((0, 8), .fam fun _ _ => valsRow (docMade B.nextT s, ⟨A.la, A.lc, A.ta, A.tc, va, vc⟩))])
    (fun ε w hM => by
      have h1 := hM.front 2 rfl
      exact rd_open (b := 0) h1) (fun x => by kernel_rfl) ?_
  rintro ⟨L, hL⟩
  have hLl : L.length = B.docs.length := (List.length_map _).symm.trans (congrArg List.length hL)
  have q1 := q_app (P := Tryz.prog) (e := 0) (t := 77) (E := 67) (size := 17) (enc := docL) L (docMade B.nextT s, ⟨A.la, A.lc, A.ta, A.tc, va, vc⟩) (docSA (docMade B.nextT s) ⟨A.la, A.lc, A.ta, A.tc, va, vc⟩) (fun _ => rfl) (doc_one _) (doc_len _) Tryz.underlying77 (by kernel_rfl) (by omega)
  have q2 := q_put (P := Tryz.prog) (t := 77) (off := 2) (cs := [.val (.int .u8 B.self), .val (.int .i64 B.n), .any 0 1, .any 0 2, .any 0 3]) (cs' := [.val (.int .u8 B.self), .val (.int .i64 B.n), .any 0 9, .any 0 2, .any 0 3]) (E := 67) (size := 17) (enc := docL) (L ++ [(docMade B.nextT s, ⟨A.la, A.lc, A.ta, A.tc, va, vc⟩)]) (by kernel_rfl) (by show (2 + 1 : Nat) ≤ 5; omega) rfl rfl
  refine go_loop (X := { i : Nat // i ≤ s.legs.length }) 0 [] (fun x => ([(0, .ptr 0 0 0), (3, .ptr 1 0 0), (4, .ptr 1 1 0), (6, .ptr 1 2 0), (8, .val (.int .i64 (x.1 : Int)))],
      [((1, 4), .fam (rdQ (L ++ [(docMade B.nextT s, ⟨A.la, A.lc, A.ta, A.tc, va, vc⟩)]))), ((1, 9), .fam fun _ _ => allC (L.map valsRow)), ((0, 9), .fam F), ((0, 0), .box none [.val (.int .u8 B.self), .val (.int .i64 B.n), .any 1 4, .any 1 5, .any 0 3]), ((1, 5), .fam (rownsF (issR B.nextT s (shareV s.fare (wsOf s)) B.owns x.1))), ((0, 3), .fam (rheldsF B.helds)), ((1, 0), .box none (saleX s A)), ((1, 1), .box none (docS doc0 nilS nilS nilS)), ((1, 2), .box none (docSA (docMade B.nextT s) ⟨A.la, A.lc, A.ta, A.tc, va, vc⟩)), ((0, 8), .fam fun _ _ => valsRow (docMade B.nextT s, ⟨A.la, A.lc, A.ta, A.tc, va, vc⟩))]))
    (fun x => s.legs.length - x.1) ⟨0, Nat.zero_le _⟩ calNone false 400 [hG 6 7 q1, hG 6 10 q2] calNone_ok (by kernel_rfl) ?_
  rintro ⟨i, hi⟩ J hJ
  by_cases h : i < s.legs.length
  · have z0 : decide ((i : Int) < ((shareV s.fare (wsOf s)).length : Int)) = true := decide_eq_true (by omega)
    have hv : i < (shareV s.fare (wsOf s)).length := by omega
    have hR : ∀ b v, Rd ((fun (_ : Nat) (_ : Value) => valsRow (docMade B.nextT s, ⟨A.la, A.lc, A.ta, A.tc, va, vc⟩)) b v) va ((shareV s.fare (wsOf s)).map (.int .i64)) := fun _ _ => rd_row
    have q3 := idx_openG (P := Tryz.prog) (t := 65) (e := 2) (size := 1) (j := 8) (k := .i64) (cap := vc) (n := (shareV s.fare (wsOf s)).length) Tryz.underlying65 (by kernel_rfl) (by rw [List.length_map, Nat.mul_one]) hR hv
    have q4 := load_openG0 (P := Tryz.prog) (t := 2) (k := i * 1) (j := 8) (cs := [.val (.int .i64 ((shareV s.fare (wsOf s)).getD i 0))]) (u := .val (.int .i64 ((shareV s.fare (wsOf s)).getD i 0))) (by kernel_rfl) hR (fun ε q v hq => by
      cases q with
      | succ q => cases hq
      | zero =>
        cases hq
        show ((shareV s.fare (wsOf s)).map (Value.int .i64))[i * 1 + 0]? = _
        rw [Nat.mul_one, Nat.add_zero, List.getElem?_map, getD_some hv 0]; rfl) (by rw [List.length_map]; show 0 < (shareV s.fare (wsOf s)).length; omega)
    have q5 := idx_openG (P := Tryz.prog) (t := 61) (e := 31) (size := 3) (j := 9) (k := .i64) (cap := A.lc) (n := s.legs.length) Tryz.underlying61 (by kernel_rfl) (cellsL_len encLeg_len _) hl h
    have q6 := load_openG0 (P := Tryz.prog) (t := 31) (k := i * 3) (j := 9) (cs := legS' (s.legs.getD i leg0)) (u := .agg (legS' (s.legs.getD i leg0))) (by kernel_rfl) hl (legS_nth (getD_some h leg0)) (by rw [cellsL_len encLeg_len]; omega)
    have z1 : IntKind.u8.wrap (i : Int) = (i : Int) := wr_u8 (by omega)
    have z2 : IntKind.i64.wrap ((i : Int) + 1) = ((i + 1 : Nat) : Int) := by rw [wr_i64 (by omega)]; omega
    have q7 := q_app (P := Tryz.prog) (e := 0) (t := 78) (E := 85) (size := 13) (enc := mineC) (issR B.nextT s (shareV s.fare (wsOf s)) B.owns i) (⟨B.nextT, (i : Int)⟩, ownNew (s.legs.getD i leg0) ((shareV s.fare (wsOf s)).getD i 0)) (mineS (⟨B.nextT, (i : Int)⟩, ownNew (s.legs.getD i leg0) ((shareV s.fare (wsOf s)).getD i 0))) (fun _ => rfl) (mine_one _) (mine_len _) Tryz.underlying78 (by kernel_rfl) (by rw [issR_len]; omega)
    have q8 := q_put (P := Tryz.prog) (t := 78) (off := 3) (cs := [.val (.int .u8 B.self), .val (.int .i64 B.n), .any 0 1, .any 0 2, .any 0 3]) (cs' := [.val (.int .u8 B.self), .val (.int .i64 B.n), .any 0 1, .any 0 9, .any 0 3]) (E := 85) (size := 13) (enc := mineC) (issR B.nextT s (shareV s.fare (wsOf s)) B.owns (i + 1)) (by kernel_rfl) (by show (3 + 1 : Nat) ≤ 5; omega) rfl rfl
    have hJ' := hJ ⟨i + 1, h⟩ (by show _ - (i + 1) < _ - i; omega)
    clear hJ c1 c2 q1 q2
    exact leaf_next calNone false 400 [hB 8 4 _ _ z0, hI 10 8 IntKind.u8 _ _ z1, hG 10 13 q5, hG 10 14 q6, hG 10 18 q3, hG 10 19 q4, hG 10 24 q7, hG 10 27 q8, hI 9 1 IntKind.i64 _ _ z2] calNone_ok hJ' (by kernel_rfl)
  have he : i = (shareV s.fare (wsOf s)).length := by omega
  subst he
  have z0 : decide (((shareV s.fare (wsOf s)).length : Int) < ((shareV s.fare (wsOf s)).length : Int)) = false := decide_eq_false (by omega)
  clear hJ c1 c2 q1 q2
  refine leaf_cut (rgK Tryz.prog RIssueF 11 []) [(0, .ptr 0 0 0), (4, .ptr 1 1 0), (6, .ptr 1 2 0)]
      [((1, 4), .fam (rdQ (L ++ [(docMade B.nextT s, ⟨A.la, A.lc, A.ta, A.tc, va, vc⟩)]))), ((1, 9), .fam fun _ _ => allC (L.map valsRow)), ((0, 9), .fam F), ((0, 0), .box none [.val (.int .u8 B.self), .val (.int .i64 B.n), .any 1 4, .any 1 5, .any 0 3]), ((1, 5), .fam (rownsF (issR B.nextT s (shareV s.fare (wsOf s)) B.owns (shareV s.fare (wsOf s)).length))), ((0, 3), .fam (rheldsF B.helds)), ((1, 1), .box none (docS doc0 nilS nilS nilS)), ((1, 2), .box none (docSA (docMade B.nextT s) ⟨A.la, A.lc, A.ta, A.tc, va, vc⟩)), ((0, 8), .fam fun _ _ => valsRow (docMade B.nextT s, ⟨A.la, A.lc, A.ta, A.tc, va, vc⟩))]
      calNone false 400 [hB 8 4 _ _ z0, .stop 11] calNone_ok (by kernel_rfl) ?_
  refine go_open (X := Unit) (fun _ => [((1, 4), .fam (rdX (B.issued s A).docs)), ((0, 9), .fam F), ((0, 0), .box none [.val (.int .u8 B.self), .val (.int .i64 B.n), .any 1 4, .any 1 5, .any 0 3]), ((1, 5), .fam (rownsF (issR B.nextT s (shareV s.fare (wsOf s)) B.owns (shareV s.fare (wsOf s)).length))), ((0, 3), .fam (rheldsF B.helds)), ((1, 1), .box none (docS doc0 nilS nilS nilS)), ((1, 2), .box none (docSA (docMade B.nextT s) ⟨A.la, A.lc, A.ta, A.tc, va, vc⟩))])
    (fun ε w hM => by
      have h1 := hM.front 8 rfl
      have h2 := rd_more (b := (ε 1 4).1) (mem_perm (List.Perm.swap _ _ _) h1)
      rw [hL] at h2
      exact ⟨(), h2⟩) (fun _ => by kernel_rfl) ?_
  intro _
  refine go_raw 7 va (shareV s.fare (wsOf s)).length vc [(0, .ptr 0 0 0), (4, .ptr 1 1 0), (6, .ptr 1 2 0)] [((1, 4), .fam (rdX (B.issued s A).docs)), ((0, 9), .fam F), ((0, 0), .box none [.val (.int .u8 B.self), .val (.int .i64 B.n), .any 1 4, .any 1 5, .any 0 3]), ((1, 5), .fam (rownsF (issR B.nextT s (shareV s.fare (wsOf s)) B.owns (shareV s.fare (wsOf s)).length))), ((0, 3), .fam (rheldsF B.helds)), ((1, 1), .box none (docS doc0 nilS nilS nilS)), ((1, 2), .box none (docS (docMade B.nextT s) (.val (.slice A.la s.legs.length A.lc)) (.val (.slice A.ta s.taxes.length A.tc)) (.raw 1 7)))] (by kernel_rfl) (by kernel_rfl) (by kernel_rfl) (by kernel_rfl) (by kernel_rfl) (by kernel_rfl) ?_
  exact leaf_end calNone false 400 [] calNone_ok (by kernel_rfl)
end Go.Proofs.YtnkghdakjdhhdaaGreat
end
section
namespace Go.Proofs.YtnkghdakjdhhdaaGreat
open Go.RowKit Go.Lib Go.Tk Go.Sort Go.Shelf
def stB (s : Int) : Bool := decide (1 ≤ s) && decide (s ≤ 7)
end Go.Proofs.YtnkghdakjdhhdaaGreat
end
section
namespace Go.Proofs.YtnkghdakjdhhdaaGreat
open Go.RowKit Go.Lib Go.Tk
structure TDocV where
  c : Int
  r : Int
  s : SaleV
  vals : List Int
  fc : Int
  fr : Int
  tc : Int
  tr : Int
  cred : Int
  paid : Int
  back : Int
  kept : Int
  left : Int
structure TDocA where
  S : SaleA
  va : Option Addr
  vc : Nat
def tdocArr (d : TDocV) (D : TDocA) : Array Value :=
  #[.int .u8 d.c, .int .u64 d.r, .string d.s.name, .slice D.S.la d.s.legs.length D.S.lc, .int .i64 d.s.fare, .slice D.S.ta d.s.taxes.length D.S.tc, .int .i64 d.s.pen, .slice D.va d.vals.length D.vc, .int .u8 d.fc, .int .u64 d.fr, .int .u8 d.tc, .int .u64 d.tr, .int .i64 d.cred, .int .i64 d.paid, .int .i64 d.back, .int .i64 d.kept, .int .i64 d.left]
structure TDocAt (w : World) (d : TDocV) (D : TDocA) : Prop where
  sale : SaleAt w d.s D.S
  vals : Row w D.va (d.vals.map (.int .i64))
theorem TDocAt.kept {w w' : World} {d : TDocV} {D : TDocA} (h : TDocAt w d D) (hb : Below w.heap.size w w') : TDocAt w' d D := ⟨h.sale.kept hb, h.vals.kept hb⟩
def lessZ (z : List (Int × Int)) : List Int := (z.filter (fun p => decide (p.1 ≤ 4))).map (·.2)
def lessL (vals st : List Int) : List Int := lessZ (st.zip vals)
def subStep (s : Int × Int) (a : Int) : Int × Int := if s.2 = 0 then subI s.1 a else s
def subAll (s : Int × Int) (l : List Int) : Int × Int := l.foldl subStep s
def badSt (st : List Int) : Bool := st.any (fun s => !stB s)
def lessAll (d : TDocV) (st : List Int) : List Int := [d.back, d.kept, d.left] ++ lessL d.vals st
def balOk (d : TDocV) (st : List Int) (pl : Nat) : Prop := st.length = d.vals.length ∧ pl = d.vals.length ∧ badSt st = false
instance (d : TDocV) (st : List Int) (pl : Nat) : Decidable (balOk d st pl) := inferInstanceAs (Decidable (_ ∧ _ ∧ _))
def balI (d : TDocV) (st : List Int) (pl : Nat) : Int × Int := if balOk d st pl then subAll (sumFrom 0 [d.paid, d.cred]) (lessAll d st) else (0, 1)
theorem mem_less {vals st : List Int} {x : Int} (h : x ∈ lessL vals st) : x ∈ vals := by
  unfold lessL lessZ at h
  obtain ⟨p, hp, rfl⟩ := List.mem_map.1 h
  have h1 := (List.mem_filter.1 hp).1
  obtain ⟨a, b⟩ := p
  exact (List.of_mem_zip h1).2
end Go.Proofs.YtnkghdakjdhhdaaGreat
end
section
namespace Go.Proofs.YtnkghdakjdhhdaaGreat
open Go.RowKit Go.Lib Go.Tk Go.Sort Go.Shelf
def tdocBox (w : World) (b : Nat) (d : TDocV) (D : TDocA) : Prop := Box w b (tdocArr d D)
theorem tdocBox.kept {w w' : World} {b : Nat} {d : TDocV} {D : TDocA} (h : tdocBox w b d D) (hb : Below w.heap.size w w') : tdocBox w' b d D := Box.kept h hb
theorem tdocBox.vals {w : World} {b : Nat} {d : TDocV} {D : TDocA} (h : tdocBox w b d D) : w.cell? ⟨b, 7, none⟩ = some (.slice D.va d.vals.length D.vc) := Box.cell h 7 rfl
theorem tdocBox.cred {w : World} {b : Nat} {d : TDocV} {D : TDocA} (h : tdocBox w b d D) : w.cell? ⟨b, 12, none⟩ = some (.int .i64 d.cred) := Box.cell h 12 rfl
theorem tdocBox.paid {w : World} {b : Nat} {d : TDocV} {D : TDocA} (h : tdocBox w b d D) : w.cell? ⟨b, 13, none⟩ = some (.int .i64 d.paid) := Box.cell h 13 rfl
theorem tdocBox.back {w : World} {b : Nat} {d : TDocV} {D : TDocA} (h : tdocBox w b d D) : w.cell? ⟨b, 14, none⟩ = some (.int .i64 d.back) := Box.cell h 14 rfl
theorem tdocBox.left {w : World} {b : Nat} {d : TDocV} {D : TDocA} (h : tdocBox w b d D) : w.cell? ⟨b, 16, none⟩ = some (.int .i64 d.left) := Box.cell h 16 rfl
end Go.Proofs.YtnkghdakjdhhdaaGreat
end
section
namespace Go.Proofs.YtnkghdakjdhhdaaGreat
open Go.RowKit Go.Lib Go.Tk Go.Shelf Go.Vc Go.Sx
def toT (d : DocV) : TDocV := ⟨d.t.c, d.t.r, d.s, d.vals, d.frm.c, d.frm.r, d.dst.c, d.dst.r, d.credit, d.paid, d.back, d.kept, d.left⟩
end Go.Proofs.YtnkghdakjdhhdaaGreat
end
section
namespace Go.Proofs.YtnkghdakjdhhdaaGreat
open Go.RowKit Go.Lib Go.Tk Go.Shelf Go.Vc Go.Sx
theorem subAll_dn : ∀ (l : List Int) (x : Int), (∀ y ∈ l, 0 ≤ y) → l.sum ≤ x → x ≤ 1125899906842624 → subAll (x, 0) l = (x - l.sum, 0)
  | [], x, _, _, _ => by simp [subAll]
  | a :: l, x, h, hs, hx => by
    have ha := h a (by simp)
    have hl : ∀ y ∈ l, 0 ≤ y := fun y hy => h y (by simp [hy])
    have hn := sum_nonneg l hl
    rw [List.sum_cons] at hs
    have e : subStep (x, 0) a = (x - a, 0) := by
      unfold subStep subI
      have m1 : mayI x = true := by simp [mayI]; omega
      have m2 : mayI a = true := by simp [mayI]; omega
      have m3 : mayI (x - a) = true := by simp [mayI]; omega
      simp [m1, m2, m3]
    show subAll (subStep (x, 0) a) l = _
    rw [e, subAll_dn l (x - a) hl (by omega) (by omega), List.sum_cons]
    congr 1
    omega
theorem less_op : ∀ L : List OwnV, (lessL (L.map (·.k.v)) (L.map (·.k.s))).sum = opL L
  | [] => rfl
  | o :: L => by
    have ih := less_op L
    unfold lessL lessZ opL at ih ⊢
    rw [List.map_cons, List.map_cons, List.zip_cons_cons]
    by_cases h : o.k.s ≤ 4
    · rw [List.filter_cons_of_pos (by simp [h]), List.filter_cons_of_pos (by simp [h]), List.map_cons, List.map_cons, List.sum_cons, List.sum_cons, ih]
    · rw [List.filter_cons_of_neg (by simp [h]), List.filter_cons_of_neg (by simp [h]), ih]
theorem bal_val {d : DocV} {L : List OwnV} (h : DocI d L) (hb : d.paid + d.credit ≤ 1125899906842624) (h0 : 0 ≤ mD d L + d.credit) : balI (toT d) (L.map (·.k.s)) L.length = (mD d L + d.credit, 0) := by
  have hp := h.paid
  have hk := h.kept
  have hbk := h.back
  have hl := h.left
  have hlc := h.leftc
  have hv : (toT d).vals = L.map (·.k.v) := h.vals.symm
  have hok : balOk (toT d) (L.map (·.k.s)) L.length := by
    refine ⟨by rw [hv]; simp, by rw [hv]; simp, ?_⟩
    unfold badSt
    rw [List.any_eq_false]
    intro x hx
    obtain ⟨o, ho, rfl⟩ := List.mem_map.1 hx
    have := h.st o ho
    have e : stB o.k.s = true := by simp [stB]; omega
    rw [e]; decide
  unfold balI
  rw [if_pos hok]
  have e : sumFrom 0 [(toT d).paid, (toT d).cred] = (d.paid + d.credit, 0) := by
    rw [sumFrom_nn _ 0 (by decide) (by omega) (fun x hx => ?_)]
    · have : mayI (0 + [(toT d).paid, (toT d).cred].sum) = true := by simp [mayI, toT]; omega
      rw [if_pos this]
      simp [toT]
    · simp only [List.mem_cons, List.not_mem_nil, or_false] at hx
      rcases hx with rfl | rfl
      · exact hp
      · show 0 ≤ d.credit
        omega
  have hm : mD d L = d.paid - d.back - d.kept - d.left - opL L := rfl
  have hs : (lessAll (toT d) (L.map (·.k.s))).sum = d.back + d.kept + d.left + opL L := by
    unfold lessAll
    rw [hv, List.sum_append, less_op]
    simp [toT]; omega
  rw [e, subAll_dn, hs]
  · congr 1; omega
  · intro y hy
    unfold lessAll at hy
    rw [List.mem_append] at hy
    rcases hy with hy | hy
    · simp only [List.mem_cons, List.not_mem_nil, or_false] at hy
      rcases hy with rfl | rfl | rfl
      · exact hbk
      · exact hk
      · exact hl
    · have := mem_less hy
      rw [hv, h.vals] at this
      exact h.nn y this
  · rw [hs]; omega
  · exact hb
structure DocG (B : BookV) (d : DocV) (w : Int) : Prop where
  bal : balI (toT d) (statusL B d.t) (statusL B d.t).length = (w, 0)
  paid : 0 ≤ d.paid ∧ d.paid ≤ 35184372088832
  back : 0 ≤ d.back ∧ d.back ≤ 35184372088832
  kept : 0 ≤ d.kept ∧ d.kept ≤ 35184372088832
  left : 0 ≤ d.left ∧ d.left ≤ 35184372088832
  op : 0 ≤ opL (coupL B d.t) ∧ opL (coupL B d.t) ≤ 35184372088832
  leftc : d.left ≤ d.credit
  vals : (coupL B d.t).map (·.k.v) = d.vals
theorem docG_of {B : BookV} (h : EB B) {d : DocV} (hd : d ∈ B.docs) {w : Int} (e : mD d (coupL B d.t) + d.credit = w) (hw : 0 ≤ w) : DocG B d w := by
  have hi := h.ei.doc d hd
  have hr := doc_r h.ex.bk hd
  have hm := h.ex.bk.many
  have hb := hi.bnd
  have h32 : 1099511627776 * d.t.r ≤ 35184372088832 := by omega
  have := hi.paid
  have := hi.back
  have := hi.kept
  have := hi.left
  have hlc := hi.leftc
  have hop := opL_nn hi
  have hmd : mD d (coupL B d.t) = d.paid - d.back - d.kept - d.left - opL (coupL B d.t) := rfl
  refine ⟨?_, by omega, by omega, by omega, by omega, by omega, hlc, hi.vals⟩
  have := bal_val hi (by omega) (by omega)
  rw [e] at this
  unfold statusL
  rw [List.length_map]
  exact this
theorem EB.non {B : BookV} (h : EB B) {d : DocV} (hd : d ∈ B.docs) (h0 : d.dst = tid0) : DocG B d 0 := docG_of h hd (h.ei.non d hd h0) (Int.le_refl _)
theorem lkD_mem_eq {ds : List DocV} (hn : (ds.map (·.t)).Nodup) {n : DocV} (h : n ∈ ds) : lkD ds n.t = some n := by
  obtain ⟨x, hx⟩ := lkD_some (List.mem_map_of_mem (f := fun d : DocV => d.t) h)
  obtain ⟨h1, h2⟩ := lkD_mem hx
  rw [hx, nodup_eq hn h1 h h2]
theorem EB.lnk {B : BookV} (h : EB B) {d : DocV} (hd : d ∈ B.docs) (h0 : d.dst ≠ tid0) : ∃ n, lkD B.docs d.dst = some n ∧ n.frm = d.t ∧ 0 ≤ n.credit ∧ DocG B d n.credit := by
  obtain ⟨n, hn, e1, e2, e3⟩ := h.ei.lnk d hd h0
  have hc : 0 ≤ n.credit := by have := (h.ei.doc n hn).left; have := (h.ei.doc n hn).leftc; omega
  exact ⟨n, by rw [← e1]; exact lkD_mem_eq h.nodup hn, e2, hc, docG_of h hd e3 hc⟩
def paidB (d : DocV) : Int := d.paid - d.back
def restB (B : BookV) (d : DocV) : Int := d.kept + d.left + opL (coupL B d.t)
theorem sum_sub {α : Type} (f g h : α → Int) : ∀ l : List α, (∀ x, h x = f x - g x) → (l.map h).sum = (l.map f).sum - (l.map g).sum
  | [], _ => rfl
  | x :: l, e => by simp only [List.map_cons, List.sum_cons, sum_sub f g h l e, e x]; omega
theorem EB.total {B : BookV} (h : EB B) : (B.docs.map paidB).sum = (B.docs.map (restB B)).sum := by
  have := sum_sub paidB (restB B) (fun d => mD d (coupL B d.t)) B.docs fun d => by unfold mD paidB restB; omega
  rw [h.ei.tot] at this
  omega
end Go.Proofs.YtnkghdakjdhhdaaGreat
end
section
namespace Go.Proofs.YtnkghdakjdhhdaaGreat
open Go.RowKit Go.Lib Go.Tk Go.Shelf Go.Vc Go.Sx
structure EL (B : BookV) : Prop where
  ex : ExOk B
  ks : KeysIn B
  lf : ∀ d ∈ B.docs, 0 ≤ d.left ∧ d.left ≤ 1125899906842624
  ne : ∀ d ∈ B.docs, coupL B d.t ≠ []
theorem newL_ne {B : BookV} {s : SaleV} (ok : SaleOk s) (hm : B.issE s = 0) : newL s ≠ [] := by
  obtain ⟨-, -, hsh, -⟩ := check_shape (issE_check hm)
  obtain ⟨hS, ha, l1, l4, f0, f1⟩ := shape_share ok hsh
  intro e
  have := newL_len s
  rw [e, shareV_len hS, ws_len] at this
  simp at this
  omega
theorem EL.issued {B : BookV} (h : EL B) {s : SaleV} (ok : SaleOk s) (hm : B.issE s = 0) : EL (B.issued s) := by
  have m := made_i ok hm
  refine ⟨h.ex.issued ok hm, h.ks.issued s, fun d hd => ?_, fun d hd => ?_⟩
  · rcases List.mem_append.1 (show d ∈ B.docs ++ [docMade B.nextT s] from hd) with hd | hd
    · exact h.lf d hd
    · rw [List.mem_singleton.1 hd]; exact ⟨Int.le_refl _, by show (0 : Int) ≤ _; decide⟩
  · rcases List.mem_append.1 (show d ∈ B.docs ++ [docMade B.nextT s] from hd) with hd | hd
    · rw [coupL_issued_ne (nextT_fresh h.ex.bk d hd)]; exact h.ne d hd
    · rw [List.mem_singleton.1 hd]
      show coupL (B.issued s) B.nextT ≠ []
      rw [coupL_issued (h.ks.next h.ex.bk) m.vl]; exact newL_ne ok hm
end Go.Proofs.YtnkghdakjdhhdaaGreat
end
section
namespace Go.Proofs.YtnkghdakjdhhdaaGreat
open Go.RowKit Go.Lib Go.Tk Go.Shelf Go.Vc Go.Sx
end Go.Proofs.YtnkghdakjdhhdaaGreat
end
section
namespace Go.Proofs.YtnkghdakjdhhdaaGreat
open Go.RowKit Go.Lib Go.Tk Go.Shelf Go.Vc Go.Sx
end Go.Proofs.YtnkghdakjdhhdaaGreat
end
section
namespace Go.Proofs.YtnkghdakjdhhdaaGreat
open Go.RowKit Go.Lib Go.Tk Go.Shelf Go.Vc Go.Sx
theorem tid_nth {l : List Tid} {k : Nat} {t : Tid} (h : l[k]? = some t) : ∀ (ε : Env) (q : Nat) (v : SV), (tidS t)[q]? = some v → (cellsL tcL l)[k * 2 + q]? = some (v.den ε) :=
  cells_nth (enc := tcL) (encS := tidS) (fun _ _ => rfl) (fun _ => rfl) h
theorem tids_get {ds : List DocV} {k : Nat} {d : DocV} (h : ds[k]? = some d) : (ds.map (·.t))[k]? = some d.t := by rw [List.getElem?_map, h]; rfl
end Go.Proofs.YtnkghdakjdhhdaaGreat
end
section
namespace Go.Proofs.YtnkghdakjdhhdaaGreat
open Go.RowKit Go.Lib Go.Tk Go.Shelf Go.Vc Go.Sx
end Go.Proofs.YtnkghdakjdhhdaaGreat
end
section
namespace Go.Proofs.YtnkghdakjdhhdaaGreat
open Go.RowKit Go.Lib Go.Tk
structure Msg where
  k : Int
  tc : Int
  tr : Int
  ix : Int
  lc : Int
  lf : Int
  lx : Int
  v : Int
  st : Int
  nn : Int
  amt : Int
  cd : Int
deriving DecidableEq, Inhabited
structure BoxV where
  wait : List Msg
  given : Int
  last : Int
structure PostV where
  self : Int
  n : Int
  box : Nat → BoxV
def PostV.other (P : PostV) (c : Int) : Bool := decide (0 ≤ c) && decide (c < P.n) && !decide (c = P.self)
def PostV.put (P : PostV) (c : Nat) (X : BoxV) : PostV := { P with box := fun i => if i = c then X else P.box i }
def PostV.cs (P : PostV) : List Nat := (List.range P.n.toNat).filter fun c => P.other c
end Go.Proofs.YtnkghdakjdhhdaaGreat
end
section
namespace Go.Proofs.YtnkghdakjdhhdaaGreat
open Go.RowKit Go.Lib Go.Tk Go.Shelf
end Go.Proofs.YtnkghdakjdhhdaaGreat
end
section
namespace Go.Proofs.YtnkghdakjdhhdaaGreat
open Go.RowKit Go.Lib Go.Tk Go.WideShapes
theorem wfu8' {a : Int} (h : (Lit.int .u8 a).wf = true) : 0 ≤ a ∧ a ≤ 255 := by
  simpa [Lit.wf, IntKind.min, IntKind.max, IntKind.signed, IntKind.bits] using h
theorem wfu64' {a : Int} (h : (Lit.int .u64 a).wf = true) : 0 ≤ a ∧ a ≤ 18446744073709551615 := by
  simpa [Lit.wf, IntKind.min, IntKind.max, IntKind.signed, IntKind.bits] using h
variable {H : Type} {enc : TypeId × Value → H} {w : World} {base : Nat} {spare : Nat → Bool} {held : Bool}
end Go.Proofs.YtnkghdakjdhhdaaGreat
end
section
namespace Go.Proofs.YtnkghdakjdhhdaaGreat
open Go.RowKit Go.Lib Go.Tk Go.Shelf Go.Vc Go.Sx Go.WideShapes
section
variable {H : Type} {enc : TypeId × Value → H} {w : World} {base : Nat} {spare : Nat → Bool} {held : Bool}
end
end Go.Proofs.YtnkghdakjdhhdaaGreat
end
section
namespace Go.Proofs.YtnkghdakjdhhdaaGreat
open Go.RowKit Go.Lib Go.Tk Go.Shelf Go.Vc Go.Sx
end Go.Proofs.YtnkghdakjdhhdaaGreat
end
section
namespace Go.Proofs.YtnkghdakjdhhdaaGreat
open Go.RowKit Go.Lib Go.Tk Go.Shelf Go.Vc Go.Sx
end Go.Proofs.YtnkghdakjdhhdaaGreat
end
section
namespace Go.Proofs.YtnkghdakjdhhdaaGreat
open Go.RowKit Go.Lib Go.Tk Go.Shelf Go.Vc Go.Sx
def t11 : Tid := ⟨1, 1⟩
def t12 : Tid := ⟨1, 2⟩
end Go.Proofs.YtnkghdakjdhhdaaGreat
end
section
namespace Go.Proofs.YtnkghdakjdhhdaaGreat
open Go.RowKit Go.Lib Go.Tk Go.Shelf Go.Vc Go.Sx
theorem tid_docs {B : BookV} (h : BookOk B) {d : DocV} (hd : d ∈ B.docs) : TidOk d.t := by
  obtain ⟨j, hj, hjd⟩ := List.getElem_of_mem hd
  have e := h.docs j d (by rw [List.getElem?_eq_getElem hj, hjd])
  have hs := h.self
  have hn := h.n
  have hm := h.many
  rw [e]
  exact ⟨⟨by show 0 ≤ B.self; omega, by show B.self ≤ 255; omega⟩, by show 0 ≤ (j : Int) + 1; omega, by show (j : Int) + 1 ≤ _; omega⟩
theorem encTaxL_len (l : List Tax) : (cellsL encTax l).length = l.length * 2 := cellsL_len (enc := encTax) (size := 2) (fun _ => rfl) l
theorem slOk_row {w : World} {a : Option Addr} {xs : List Value} {n c : Nat} (hr : Row w a xs) (hx : a = none → xs.length = 0 → n = 0) (hn : a = none → c = 0) : SlOk a n c := ⟨fun e => ⟨hx e (by
  subst e
  cases hl : xs.length with
  | zero => rfl
  | succ k =>
    obtain ⟨b, off, h, -⟩ := hr 0 (by omega)
    cases h), hn e⟩⟩
theorem maxLen_le {n : Nat} (h : n ≤ maxLen) : n ≤ 9223372036854775807 := by unfold maxLen at h; omega
end Go.Proofs.YtnkghdakjdhhdaaGreat
end
section
namespace Go.Proofs.YtnkghdakjdhhdaaGreat
open Go.RowKit Go.Lib Go.Tk Go.Shelf Go.Vc Go.Sx Go.Maps
def CloneOF : Nat := 52
def CloneHF : Nat := 53
set_option maxHeartbeats 2000000 in
theorem cloneO_any (b : Nat) (es : Array MapEntry) (clock : Nat) (w : World) (hb : w.heap[b]? = some (.map es clock)) :
    Calls Tryz.prog CloneOF #[.map (some b)] w fun e w' => e = .returned (.map (some w.heap.size)) ∧ w' = w.alloc (.map es clock) := by
  unfold CloneOF
  have hq := fun w => run_eql_map_nil_sl (P := Tryz.prog) w 118 _ _ (some b) Tryz.underlying118
  go_enter Tryz.func52, Tryz.ntmps52
  go_wp2
  rw [run_callFunc_extern Tryz.func113 (by kernel_rfl) (by kernel_rfl) (by kernel_rfl) (e := Extern.MapsClone.clone) (by kernel_rfl), run_maps_clone_sl w 118 hb]
  simp only [Result.andThen]
  rw [Oper.upon_value]
  go_wp2
  rw [run_typeAssert_map_sl _ 118 _ _ _ _ Tryz.underlying118]
  simp only [Result.andThen]
  rw [Oper.upon_value]
  go_wp2
  go_ret
  exact ⟨rfl, rfl⟩
set_option maxHeartbeats 2000000 in
theorem cloneH_any (b : Nat) (es : Array MapEntry) (clock : Nat) (w : World) (hb : w.heap[b]? = some (.map es clock)) :
    Calls Tryz.prog CloneHF #[.map (some b)] w fun e w' => e = .returned (.map (some w.heap.size)) ∧ w' = w.alloc (.map es clock) := by
  unfold CloneHF
  have hq := fun w => run_eql_map_nil_sl (P := Tryz.prog) w 119 _ _ (some b) Tryz.underlying119
  go_enter Tryz.func53, Tryz.ntmps53
  go_wp2
  rw [run_callFunc_extern Tryz.func113 (by kernel_rfl) (by kernel_rfl) (by kernel_rfl) (e := Extern.MapsClone.clone) (by kernel_rfl), run_maps_clone_sl w 119 hb]
  simp only [Result.andThen]
  rw [Oper.upon_value]
  go_wp2
  rw [run_typeAssert_map_sl _ 119 _ _ _ _ Tryz.underlying119]
  simp only [Result.andThen]
  rw [Oper.upon_value]
  go_wp2
  go_ret
  exact ⟨rfl, rfl⟩
end Go.Proofs.YtnkghdakjdhhdaaGreat
end
section
namespace Go.Proofs.YtnkghdakjdhhdaaGreat
open Go.RowKit Go.Lib Go.Tk Go.Shelf Go.Vc Go.Sx Go.Maps
def rowsC (L : List (DocV × DocA)) : Chunk where
  at_ S w := ∀ p ∈ L, DocIn S w p
  stable hk hi h := fun p hp => (h p hp).stays hk hi
theorem docs_split {L : List (DocV × DocA)} {b : Nat} {v : Value} {R : List Chunk} {w : World} (h : Mem (docsF L b v :: R) w) : Mem (mapC tidK b (ents docW (docKV L)) :: rowsC L :: R) w := by
  have h1 : Mem (allC [mapC tidK b (ents docW (docKV L)), rowsC L] :: R) w := h.weaken fun S hS => by
    obtain ⟨⟨hb, hm⟩, Sd, g1, g2, -⟩ := hS
    refine ⟨fun i k => match i with | 0 => k = b | _ => Sd k, fun i k hi hk => ?_, fun i c hc => ?_, fun i j k hi hj hij hki hkj => ?_⟩
    · match i, hk with
      | 0, hk => exact hk ▸ hb
      | i + 1, hk => exact (g1 k hk).1
    · match i, hc with
      | 0, hc => cases hc; exact ⟨rfl, hm⟩
      | 1, hc => cases hc; exact g2
      | i + 2, hc => cases hc
    · match i, j, hij, hki, hkj with
      | 0, 0, hij, _, _ => exact hij rfl
      | 0, j + 1, _, hki, hkj => exact (g1 k hkj).2 hki
      | i + 1, 0, _, hki, hkj => exact (g1 k hki).2 hkj
      | i + 1, j + 1, hij, _, _ => simp at hi hj; exact hij (by omega)
  exact h1.all
theorem docs_shut {L : List (DocV × DocA)} {b : Nat} {v : Value} {R : List Chunk} {w : World} (h : Mem (mapC tidK b (ents docW (docKV L)) :: rowsC L :: R) w) : Mem (docsF L b v :: R) w := by
  refine mem_join (l := [mapC tidK b (ents docW (docKV L)), rowsC L]) h fun S hS => ?_
  obtain ⟨F, g1, g2, g3⟩ := hS
  have m0 := g2 0 _ rfl
  have m1 := g2 1 _ rfl
  refine ⟨⟨g1 0 b (by simp) m0.1, m0.2⟩, F 1, fun k hk => ⟨g1 1 k (by simp) hk, fun e => ?_⟩, m1, fun p hp => by cases hp⟩
  subst e
  exact g3 1 0 k (by simp) (by simp) (by decide) hk m0.1
end Go.Proofs.YtnkghdakjdhhdaaGreat
end
section
namespace Go.Proofs.YtnkghdakjdhhdaaGreat
open Go.RowKit Go.Lib Go.Tk Go.Shelf Go.Vc Go.Sx Go.Maps
theorem copied_rows (L : List (DocV × DocA)) (p : DocV × DocA) (hp : p ∈ L) (sm : DocSmall p.1) : CallOK Tryz.prog CopiedF [.agg (docSA p.1 p.2)] [((0, 5), .fam fun _ _ => rowsC L)] [] (.agg (docS p.1 (.raw 1 0) (.raw 1 1) (.raw 1 2))) (docR p.1) := by
  refine CallOK.mv 5 ?_ rfl rfl rfl
  intro ε R w hM
  have hM' : Mem (rowsC L :: R) w := hM
  have ok : SlOk p.2.la p.1.s.legs.length p.2.lc ∧ SlOk p.2.ta p.1.s.taxes.length p.2.tc ∧ SlOk p.2.va p.1.vals.length p.2.vc := hM'.of 0 rfl fun S hS => ⟨(hS p hp).okl, (hS p hp).okt, (hS p hp).okv⟩
  exact copied_w (fun _ _ => rowsC L) (fun b v S w h => (h p hp).legs) (fun b v S w h => (h p hp).taxes) (fun b v S w h => (h p hp).vals) ok.1 ok.2.1 ok.2.2 sm ε R w hM
theorem putt_new {κ α : Type} [DecidableEq κ] : ∀ (l : List (κ × α)) (k : κ) (a : α), (∀ p ∈ l, p.1 ≠ k) → putt l k a = l ++ [(k, a)]
  | [], _, _, _ => rfl
  | p :: l, k, a, h => by
    show (if _ then _ else _) = _
    rw [if_neg (h p List.mem_cons_self), putt_new l k a fun q hq => h q (List.mem_cons_of_mem _ hq)]
    rfl
theorem upd_docsN (ds : List DocV) (d : DocV) (ht : TidOk d.t) (hn : ∀ x ∈ ds, x.t ≠ d.t) :
    OpG Tryz.prog (isUp DT) upXYZ [.map 0 0, .agg (tidS d.t), .agg (docS d (.raw 0 1) (.raw 0 2) (.raw 0 3))] [] [((0, 0), .fam (docsX ds)), ((0, 1), legR d.s.legs.length d.s.legs), ((0, 2), taxR d.s.taxes.length d.s.taxes), ((0, 3), i64R d.vals.length d.vals)] (.val undef) [((0, 0), .fam (docsX (ds ++ [d])))] := by
  intro o ho
  refine ⟨(upd_docs [] [(d, docA0)] (d, docA0) ht (List.Perm.refl _) o ho).1, fun ε ρ R w hx hM => ?_⟩
  have hM : Mem (docsX ds (ε 0 0).1 (ε 0 0).2 :: rowC 31 3 (asSl (ε 0 1).2) d.s.legs.length (cellsL encLeg d.s.legs) :: rowC 189 2 (asSl (ε 0 2).2) d.s.taxes.length (cellsL encTax d.s.taxes) :: rowC 2 1 (asSl (ε 0 3).2) d.vals.length (d.vals.map (.int .i64)) :: R) w := hM
  obtain ⟨la, lc, hvl, okl⟩ := row_sl (hM.owns 1 rfl)
  obtain ⟨ta, tc, hvt, okt⟩ := row_sl (hM.owns 2 rfl)
  obtain ⟨va, vc, hvv, okv⟩ := row_sl (hM.owns 3 rfl)
  rw [hvl, hvt, hvv] at hM
  obtain ⟨⟨L, hL⟩, hM⟩ := Mem.ex hM
  have hM2 := docs_join (p := (d, ⟨la, lc, ta, tc, va, vc⟩)) rfl rfl rfl hM
  have hp : (putt (docKV L) d.t (d, (⟨la, lc, ta, tc, va, vc⟩ : DocA))).Perm (docKV (L ++ [(d, ⟨la, lc, ta, tc, va, vc⟩)])) := by
    rw [putt_new _ _ _ fun q hq => by
      obtain ⟨y, hy, rfl⟩ := List.mem_map.1 hq
      exact hn y.1 (by rw [← hL]; exact List.mem_map_of_mem hy)]
    unfold docKV
    rw [List.map_append]
    exact List.Perm.refl _
  have hA : SV.dens ε [.map 0 0, .agg (tidS d.t), .agg (docS d (.raw 0 1) (.raw 0 2) (.raw 0 3))] = SV.dens ε [.map 0 0, .agg (tidS d.t), .agg (docSA d ⟨la, lc, ta, tc, va, vc⟩)] := by
    simp only [SV.dens, SV.den, docS, docSA, hvl, hvt, hvv]
  rw [hA] at hx
  have := (upd_docs L (L ++ [(d, ⟨la, lc, ta, tc, va, vc⟩)]) (d, ⟨la, lc, ta, tc, va, vc⟩) ht hp o ho).2 ε ρ R w hx hM2
  exact res_mono (fun u w' ⟨x, h1, h2⟩ => ⟨x, h1, by
    have h2 : Mem (docsF (L ++ [(d, ⟨la, lc, ta, tc, va, vc⟩)]) (eset ε 1 x 0 0).1 (eset ε 1 x 0 0).2 :: R) w' := h2
    have h3 : Mem (docsX (ds ++ [d]) (eset ε 1 x 0 0).1 (eset ε 1 x 0 0).2 :: R) w' := Mem.in_ex ⟨L ++ [(d, ⟨la, lc, ta, tc, va, vc⟩)], by rw [List.map_append, hL]; rfl⟩ h2
    exact h3⟩) this
end Go.Proofs.YtnkghdakjdhhdaaGreat
end
