/- Bk4, Ho1, Ho2, Ho3. -/
import Derived.Test.YtnkghdakjdhhdaaGreatMcf6da5e
set_option maxRecDepth 100000
set_option linter.unusedVariables false
set_option linter.unusedSimpArgs false
set_option linter.unusedSectionVars false
section
namespace Go.Proofs.YtnkghdakjdhhdaaGreat
open Go.RowKit Go.Lib Go.Tk Go.Shelf Go.Vc Go.Sx
def CopiedF : Nat := 54
def docR (d : DocV) : Heap := [((1, 0), legR d.s.legs.length d.s.legs), ((1, 1), taxR d.s.taxes.length d.s.taxes), ((1, 2), i64R d.vals.length d.vals)]
structure DocSmall (d : DocV) : Prop where
  nl : d.s.legs.length ≤ 1073741824
  nt : d.s.taxes.length ≤ 1073741824
  nv : d.vals.length ≤ 1073741824
theorem copied_w (F : CF) {d : DocV} {a : DocA} (hl : ∀ b v, Rd (F b v) a.la (cellsL encLeg d.s.legs)) (ht : ∀ b v, Rd (F b v) a.ta (cellsL encTax d.s.taxes)) (hv : ∀ b v, Rd (F b v) a.va (d.vals.map (.int .i64)))
    (ol : SlOk a.la d.s.legs.length a.lc) (ot : SlOk a.ta d.s.taxes.length a.tc) (ov : SlOk a.va d.vals.length a.vc) (sm : DocSmall d) :
    CallOK Tryz.prog CopiedF [.agg (docSA d a)] [((0, 0), .fam F)] [] (.agg (docS d (.raw 1 0) (.raw 1 1) (.raw 1 2))) (docR d) := by
  have k1 := cloneL0 F hl rfl ol sm.nl
  have k2 := cloneT0 F ht rfl ot sm.nt
  have k3 := cloneI0 F hv rfl ov sm.nv
  exact callOK_run 400 [hC 1 3 k1, hC 1 7 k2, hC 1 10 k3] (by kernel_rfl) (by kernel_rfl)
theorem docs_ok {L M : List (DocV × DocA)} {p : DocV × DocA} (hp : p ∈ L ∨ p ∈ M) {b : Nat} {v : Value} {R : List Chunk} {w : World} (h : Mem (docsG L M b v :: R) w) : SlOk p.2.la p.1.s.legs.length p.2.lc ∧ SlOk p.2.ta p.1.s.taxes.length p.2.tc ∧ SlOk p.2.va p.1.vals.length p.2.vc := by
  refine h.of 0 rfl (φ := _) fun S hS => ?_
  obtain ⟨Sd, h1, h2, h3⟩ := hS.2
  have hd : DocIn Sd w p := hp.elim (h2 p) (h3 p)
  exact ⟨hd.okl, hd.okt, hd.okv⟩
theorem copied_in (L : List (DocV × DocA)) (p : DocV × DocA) (hp : p ∈ L) (sm : DocSmall p.1) : CallOK Tryz.prog CopiedF [.agg (docSA p.1 p.2)] [] [((0, 1), .fam (docsF L))] (.agg (docS p.1 (.raw 1 0) (.raw 1 1) (.raw 1 2))) (((0, 1), .fam (docsX (L.map (·.1)))) :: docR p.1) := by
  refine CallOK.mv2 1 ?_ rfl rfl rfl
  have hr := docs_rd (L := L) (M := []) (p := p) (.inl hp)
  intro ε R w hM
  have hM' : Mem (docsF L (ε 0 0).1 (ε 0 0).2 :: R) w := hM
  have ok := docs_ok (p := p) (.inl hp) hM'
  have h := (copied_w (docsF L) hr.1 hr.2.1 hr.2.2 ok.1 ok.2.1 ok.2.2 sm).of_rd
  refine (h.post_mono (post' := ((0, 0), .fam (docsX (L.map (·.1)))) :: docR p.1) ?_) ε R w hM
  intro ε R w hM
  have hM : Mem (docsF L (ε 0 0).1 (ε 0 0).2 :: (hden ε (docR p.1) ++ R)) w := hM
  exact Mem.in_ex ⟨L, rfl⟩ hM
structure BookOk (B : BookV) : Prop where
  self : 0 ≤ B.self ∧ B.self < B.n
  n : 2 ≤ B.n ∧ B.n ≤ 8
  docs : ∀ (i : Nat) (d : DocV), B.docs[i]? = some d → d.t = ⟨B.self, (i : Int) + 1⟩
  many : B.docs.length ≤ 32
def BookV.nextT (B : BookV) : Tid := ⟨B.self, (B.docs.length : Int) + 1⟩
def BookV.issE (B : BookV) (s : SaleV) : Int := bif decide ((32 : Int) ≤ (B.docs.length : Int)) then 3 else makeE B.self ((B.docs.length : Int) + 1) s B.n
def ownNew (l : Leg) (v : Int) : OwnV := ⟨⟨l, v, 1, 0⟩, false, 0, false, false⟩
def issO (t : Tid) (s : SaleV) (vs : List Int) (L : OwnsV) : Nat → OwnsV
  | 0 => L
  | i + 1 => putt (issO t s vs L i) ⟨t, (i : Int)⟩ (ownNew (s.legs.getD i leg0) (vs.getD i 0))
def BookV.issued (B : BookV) (s : SaleV) : BookV := { B with docs := B.docs ++ [docMade B.nextT s], owns := issO B.nextT s (shareV s.fare (wsOf s)) B.owns (shareV s.fare (wsOf s)).length }
def BookV.issue (B : BookV) (s : SaleV) : BookV := bif decide (B.issE s = 0) then B.issued s else B
def IssueF : Nat := 21
theorem issue_no (F : CF) {B : BookV} (hb : BookOk B) {s : SaleV} {A : SaleA} (ok : SaleOk s) (hl : ∀ b v, Rd (F b v) A.la (cellsL encLeg s.legs)) (ht : ∀ b v, Rd (F b v) A.ta (cellsL encTax s.taxes)) (h1 : SlOk A.la s.legs.length A.lc) (h2 : SlOk A.ta s.taxes.length A.tc) (hm : B.issE s ≠ 0) :
    CallOK Tryz.prog IssueF [.ptr 0 0 0, .agg (salS s (.val (.slice A.la s.legs.length A.lc)) (.val (.slice A.ta s.taxes.length A.tc)))] [((0, 9), .fam F)] (bkH (docsX B.docs) B) (.tup [.agg (docS doc0 nilS nilS nilS), eN (B.issE s)]) (bkH (docsX B.docs) B) := by
  have c1 := len_docsX B.docs
  rcases Bool.eq_false_or_eq_true (decide ((32 : Int) ≤ (B.docs.length : Int))) with g1 | g1
  · have e : B.issE s = 3 := by unfold BookV.issE; rw [g1]; rfl
    rw [e]
    exact callOK_run 400 [hG 3 4 c1, hB 3 5 _ _ g1] (by kernel_rfl) (by kernel_rfl)
  · have e : B.issE s = makeE B.self ((B.docs.length : Int) + 1) s B.n := by unfold BookV.issE; rw [g1]; rfl
    rw [e] at hm ⊢
    have c2 := (make_no F ok (c := B.self) (r := (B.docs.length : Int) + 1) (n := B.n) (by have := hb.self; have := hb.n; omega) hl ht (fun e => (h1.nil e).2) (fun e => (h2.nil e).2) hm).mv 9 rfl rfl rfl
    have := hb.many
    have w1 : IntKind.i64.wrap ((B.docs.length : Int) + 1) = (B.docs.length : Int) + 1 := wr_i64 (by omega)
    have w2 : IntKind.u64.wrap ((B.docs.length : Int) + 1) = (B.docs.length : Int) + 1 := wr_u64 (by omega)
    have g2 : (!decide (makeE B.self ((B.docs.length : Int) + 1) s B.n = 0)) = true := by simpa using hm
    exact callOK_run 400 [hG 3 4 c1, hB 3 5 _ _ g1, hG 5 8 c1, hI 5 9 IntKind.i64 _ _ w1, hI 5 10 IntKind.u64 _ _ w2, hC 5 17 c2, hB 6 1 _ _ g2] (by kernel_rfl) (by kernel_rfl)
theorem docKV_map (L : List (DocV × DocA)) : (docKV L).map (·.1) = (L.map (·.1)).map (·.t) := by simp [docKV]
theorem BookOk.fresh {B : BookV} (hb : BookOk B) {L : List (DocV × DocA)} (hL : L.map (·.1) = B.docs) (p : DocV × DocA) (hp : p.1.t = B.nextT) : (putt (docKV L) p.1.t p).Perm (docKV (L ++ [p])) := by
  have hn : p.1.t ∉ (docKV L).map (·.1) := fun h => by
    rw [docKV_map, hL] at h
    obtain ⟨d, hd, he⟩ := List.mem_map.1 h
    obtain ⟨i, hi⟩ := List.mem_iff_getElem?.1 hd
    have h1 := hb.docs i d hi
    have h2 := (List.getElem?_eq_some_iff.1 hi).1
    rw [he, hp] at h1
    have h3 := congrArg Tid.r h1
    simp only [BookV.nextT] at h3
    omega
  rw [putt_new _ _ hn]
  simp [docKV]
theorem issue_ok (F : CF) {B : BookV} (hb : BookOk B) {s : SaleV} {A : SaleA} (ok : SaleOk s) (hl : ∀ b v, Rd (F b v) A.la (cellsL encLeg s.legs)) (ht : ∀ b v, Rd (F b v) A.ta (cellsL encTax s.taxes)) (h1 : SlOk A.la s.legs.length A.lc) (h2 : SlOk A.ta s.taxes.length A.tc) (hm : B.issE s = 0) :
    CallOK Tryz.prog IssueF [.ptr 0 0 0, .agg (salS s (.val (.slice A.la s.legs.length A.lc)) (.val (.slice A.ta s.taxes.length A.tc)))] [((0, 9), .fam F)] (bkH (docsX B.docs) B) (.tup [.agg (docS (docMade B.nextT s) (.raw 1 0) (.raw 1 1) (.raw 1 2)), eN 0]) (bkH (docsX (B.issued s).docs) (B.issued s) ++ docR (docMade B.nextT s)) := by
  have c1 := len_docsX B.docs
  have g1 : decide ((32 : Int) ≤ (B.docs.length : Int)) = false := by
    cases h : decide ((32 : Int) ≤ (B.docs.length : Int)) with
    | false => rfl
    | true => unfold BookV.issE at hm; rw [h] at hm; cases hm
  have hm : makeE B.self ((B.docs.length : Int) + 1) s B.n = 0 := by unfold BookV.issE at hm; rw [g1] at hm; exact hm
  have hself : 0 ≤ B.self ∧ B.self ≤ 255 := by have := hb.self; have := hb.n; omega
  have c2 := (make_ok F ok (c := B.self) (r := (B.docs.length : Int) + 1) (n := B.n) hself hl ht h1 h2 hm).mv 9 rfl rfl rfl
  have hmany := hb.many
  have w1 : IntKind.i64.wrap ((B.docs.length : Int) + 1) = (B.docs.length : Int) + 1 := wr_i64 (by omega)
  have w2 : IntKind.u64.wrap ((B.docs.length : Int) + 1) = (B.docs.length : Int) + 1 := wr_u64 (by omega)
  have hck : checkE s B.n = 0 ∧ 1 ≤ (B.docs.length : Int) + 1 := by
    refine ⟨?_, by omega⟩
    unfold makeE at hm
    split at hm
    · cases hm
    · exact hm
  obtain ⟨-, -, hsh, -⟩ := check_shape hck.1
  obtain ⟨hS, -, l1, l4, -, -⟩ := shape_share ok hsh
  have hvl : (shareV s.fare (wsOf s)).length = s.legs.length := by rw [shareV_len hS, ws_len]
  have sm : DocSmall (docMade B.nextT s) := ⟨by have := ok.nl; show s.legs.length ≤ _; omega, by have := ok.nt; show s.taxes.length ≤ _; omega, by show (shareV s.fare (wsOf s)).length ≤ _; omega⟩
  have t0 : TidOk B.nextT := ⟨hself, by show 0 ≤ (B.docs.length : Int) + 1; omega, by show (B.docs.length : Int) + 1 ≤ _; omega⟩
  refine callOK_intro (by kernel_rfl) fun eb R => ?_
  refine leaf_cut (rgK Tryz.prog IssueF 8 []) [(0, .ptr 0 0 0), (3, .ptr 1 0 0), (4, .ptr 1 1 0), (6, .ptr 1 2 0)]
    ([((0, 9), .fam F)] ++ (bkH (docsX B.docs) B ++ [((1, 0), .box none (salS s (.val (.slice A.la s.legs.length A.lc)) (.val (.slice A.ta s.taxes.length A.tc)))), ((1, 1), .box none (docS doc0 nilS nilS nilS)), ((1, 2), .box none (docS (docMade B.nextT s) (.raw 1 3) (.raw 1 4) (.raw 1 5))), ((1, 3), legR s.legs.length s.legs), ((1, 4), taxR s.taxes.length s.taxes), ((1, 5), i64R (shareV s.fare (wsOf s)).length (shareV s.fare (wsOf s)))]))
    calNone false 400 [hG 3 4 c1, hB 3 5 _ _ g1, hG 5 8 c1, hI 5 9 IntKind.i64 _ _ w1, hI 5 10 IntKind.u64 _ _ w2, hC 5 17 c2, .stop 8] calNone_ok (by kernel_rfl) ?_
  refine go_row (1, 3) 31 3 s.legs.length (cellsL encLeg s.legs) (by kernel_rfl) fun la lc hla => ?_
  refine go_row (1, 4) 189 2 s.taxes.length (cellsL encTax s.taxes) (by kernel_rfl) fun ta tc hta => ?_
  refine go_row (1, 5) 2 1 (shareV s.fare (wsOf s)).length ((shareV s.fare (wsOf s)).map (.int .i64)) (by kernel_rfl) fun va vc hva => ?_
  have p : DocV × DocA := (docMade B.nextT s, ⟨la, lc, ta, tc, va, vc⟩)
  refine go_as [(0, .ptr 0 0 0), (3, .ptr 1 0 0), (4, .ptr 1 1 0), (6, .ptr 1 2 0)] ([((0, 9), .fam F)] ++ (bkH (docsX B.docs) B ++ [((1, 0), .box none (salS s (.val (.slice A.la s.legs.length A.lc)) (.val (.slice A.ta s.taxes.length A.tc)))), ((1, 1), .box none (docS doc0 nilS nilS nilS)), ((1, 2), .box none (docSA (docMade B.nextT s) ⟨la, lc, ta, tc, va, vc⟩)), ((1, 3), .fam fun _ _ => rowC 31 3 (.slice la s.legs.length lc) s.legs.length (cellsL encLeg s.legs)), ((1, 4), .fam fun _ _ => rowC 189 2 (.slice ta s.taxes.length tc) s.taxes.length (cellsL encTax s.taxes)), ((1, 5), .fam fun _ _ => rowC 2 1 (.slice va (shareV s.fare (wsOf s)).length vc) (shareV s.fare (wsOf s)).length ((shareV s.fare (wsOf s)).map (.int .i64)))]))
    (by kernel_rfl) (by kernel_rfl) ?_
  refine go_open (X := { L : List (DocV × DocA) // L.map (·.1) = B.docs }) (fun x => [((0, 1), .fam (docsG x.1 [(docMade B.nextT s, ⟨la, lc, ta, tc, va, vc⟩)])), ((0, 9), .fam F), ((0, 0), .box none [.val (.int .u8 B.self), .val (.int .i64 B.n), .map 0 1, .map 0 2, .map 0 3]), ((0, 2), ownsF B.owns), ((0, 3), heldsF B.helds), ((1, 0), .box none (salS s (.val (.slice A.la s.legs.length A.lc)) (.val (.slice A.ta s.taxes.length A.tc)))), ((1, 1), .box none (docS doc0 nilS nilS nilS)), ((1, 2), .box none (docSA (docMade B.nextT s) ⟨la, lc, ta, tc, va, vc⟩))])
    (fun ε w hM => by
      have m1 := (((hM.front 10 rfl).front 10 rfl).front 10 rfl).front 5 rfl
      obtain ⟨x, m2⟩ := m1.ex
      exact ⟨x, docs_join (p := (docMade B.nextT s, ⟨la, lc, ta, tc, va, vc⟩)) rfl rfl rfl m2⟩) (fun x => by kernel_rfl) ?_
  rintro ⟨L, hL⟩
  have hp := hb.fresh hL (docMade B.nextT s, ⟨la, lc, ta, tc, va, vc⟩) rfl
  have c3 := upd_docs L (L ++ [(docMade B.nextT s, ⟨la, lc, ta, tc, va, vc⟩)]) (docMade B.nextT s, ⟨la, lc, ta, tc, va, vc⟩) t0 hp
  have hmem : (docMade B.nextT s, (⟨la, lc, ta, tc, va, vc⟩ : DocA)) ∈ L ++ [(docMade B.nextT s, ⟨la, lc, ta, tc, va, vc⟩)] := List.mem_append_right _ (List.mem_singleton.2 rfl)
  have hrd := docs_rd (M := []) (.inl hmem)
  have hds : (L ++ [(docMade B.nextT s, (⟨la, lc, ta, tc, va, vc⟩ : DocA))]).map (·.1) = (B.issued s).docs := by rw [List.map_append, hL]; rfl
  have c4 := copied_in _ _ hmem sm
  rw [hds] at c4
  refine go_loop (X := { i : Nat // i ≤ s.legs.length }) 0 [] (fun x => ([(0, .ptr 0 0 0), (3, .ptr 1 0 0), (4, .ptr 1 1 0), (6, .ptr 1 2 0), (55, .val (.slice va (shareV s.fare (wsOf s)).length vc)), (56, .val (.int .i64 ((shareV s.fare (wsOf s)).length : Int))), (57, .val (.int .i64 (x.1 : Int)))],
      [((0, 1), .fam (docsF (L ++ [(docMade B.nextT s, ⟨la, lc, ta, tc, va, vc⟩)]))), ((0, 9), .fam F), ((0, 0), .box none [.val (.int .u8 B.self), .val (.int .i64 B.n), .map 0 1, .map 0 2, .map 0 3]), ((0, 2), ownsF (issO B.nextT s (shareV s.fare (wsOf s)) B.owns x.1)), ((0, 3), heldsF B.helds), ((1, 0), .box none (salS s (.val (.slice A.la s.legs.length A.lc)) (.val (.slice A.ta s.taxes.length A.tc)))), ((1, 1), .box none (docS doc0 nilS nilS nilS)), ((1, 2), .box none (docSA (docMade B.nextT s) ⟨la, lc, ta, tc, va, vc⟩))]))
    (fun x => s.legs.length - x.1) ⟨0, Nat.zero_le _⟩ calNone false 400 [hG 8 7 c3] calNone_ok (by kernel_rfl) ?_
  rintro ⟨i, hi⟩ J hJ
  by_cases h : i < s.legs.length
  · have q1 : decide ((i : Int) < ((shareV s.fare (wsOf s)).length : Int)) = true := decide_eq_true (by omega)
    have hv : i < (shareV s.fare (wsOf s)).length := by omega
    have q2 := idx_openG (P := Tryz.prog) (t := 65) (e := 2) (size := 1) (j := 1) (k := .i64) (cap := vc) (n := (shareV s.fare (wsOf s)).length) Tryz.underlying65 (by kernel_rfl) (by rw [List.length_map, Nat.mul_one]; rfl) hrd.2.2 hv
    have q3 := load_openG0 (P := Tryz.prog) (t := 2) (k := i * 1) (j := 1) (cs := [.val (.int .i64 ((shareV s.fare (wsOf s)).getD i 0))]) (u := .val (.int .i64 ((shareV s.fare (wsOf s)).getD i 0))) (by kernel_rfl) hrd.2.2 (fun ε q v hq => by
      cases q with
      | succ q => cases hq
      | zero =>
        cases hq
        show ((shareV s.fare (wsOf s)).map (Value.int .i64))[i * 1 + 0]? = _
        rw [Nat.mul_one, Nat.add_zero, List.getElem?_map, getD_some hv 0]; rfl) (by rw [List.length_map]; show 0 < (shareV s.fare (wsOf s)).length; omega)
    have q4 := idx_openG (P := Tryz.prog) (t := 61) (e := 31) (size := 3) (j := 9) (k := .i64) (cap := A.lc) (n := s.legs.length) Tryz.underlying61 (by kernel_rfl) (cellsL_len encLeg_len _) hl h
    have q5 := load_openG0 (P := Tryz.prog) (t := 31) (k := i * 3) (j := 9) (cs := legS' (s.legs.getD i leg0)) (u := .agg (legS' (s.legs.getD i leg0))) (by kernel_rfl) hl (legS_nth (getD_some h leg0)) (by rw [cellsL_len encLeg_len]; omega)
    have q6 : IntKind.u8.wrap (i : Int) = (i : Int) := wr_u8 (by omega)
    have q7 := upd_owns (issO B.nextT s (shareV s.fare (wsOf s)) B.owns i) (k := ⟨B.nextT, (i : Int)⟩) ⟨t0, by show 0 ≤ (i : Int); omega, by show (i : Int) ≤ 255; omega⟩ (ownNew (s.legs.getD i leg0) ((shareV s.fare (wsOf s)).getD i 0)) (List.Perm.refl _)
    have q8 : IntKind.i64.wrap ((i : Int) + 1) = ((i + 1 : Nat) : Int) := by rw [wr_i64 (by omega)]; omega
    exact leaf_next calNone false 400 [hB 10 0 _ _ q1, hG 11 1 q2, hG 11 2 q3, hI 12 7 IntKind.u8 _ _ q6, hG 12 12 q4, hG 12 13 q5, hG 12 17 q7, hI 13 0 IntKind.i64 _ _ q8] calNone_ok (hJ ⟨i + 1, h⟩ (by show _ - (i + 1) < _ - i; omega)) (by kernel_rfl)
  have he : i = (shareV s.fare (wsOf s)).length := by omega
  subst he
  have q1 : decide (((shareV s.fare (wsOf s)).length : Int) < ((shareV s.fare (wsOf s)).length : Int)) = false := decide_eq_false (by omega)
  exact leaf_end calNone false 400 [hB 10 0 _ _ q1, hC 14 1 c4] calNone_ok (by kernel_rfl)
end Go.Proofs.YtnkghdakjdhhdaaGreat
end
section
namespace Go.Proofs.YtnkghdakjdhhdaaGreat
open Go.RowKit Go.Lib Go.Tk Go.Shelf Go.Vc Go.Sx
def outsS : List OutV → List SV
  | [] => []
  | x :: l => outS x ++ outsS l
def outsR (l : List OutV) : SC := .row 53 13 l.length (.deep (outsS l)) []
def msR (m : MsV) : SC := .row 51 12 1 (.deep (msS m)) []
def outL (x : OutV) : List Value := .int .u8 x.dst :: msL x.m
def outsL : List OutV → List Value
  | [] => []
  | x :: l => outL x ++ outsL l
def outsC (l : List OutV) : SC := .row 53 13 l.length (.shal (outsL l)) []
theorem outs_dens (ε : Env) : ∀ l : List OutV, SV.dens ε (outsS l) = outsL l
  | [] => rfl
  | x :: l => by
    unfold outsS outsL
    rw [dens_append, outs_dens ε l]; rfl
theorem outs_den (l : List OutV) (ε : Env) (s k : Nat) : (outsR l).den ε s k = (outsC l).den ε s k := by
  unfold outsR outsC
  simp only [SC.den, SL.den, outs_dens]
theorem outs_of {P : Program} {f : Nat} {args : List SV} {rd pre H : Heap} {ret : SV} {l : List OutV} (h : CallOK P f args rd pre ret (H ++ [((1, 0), outsR l)])) : CallOK P f args rd pre ret (H ++ [((1, 0), outsC l)]) :=
  h.to_post fun ε => by
    rw [hden_append, hden_append]
    congr 1
    simp only [hden, List.map_cons, List.map_nil, outs_den]
structure HR where
  out : List OutV
  e : Int
  b : BookV
def HtellF : Nat := 88
def FreeF : Nat := 89
theorem htell_w (c : Int) (m : MsV) : CallOK Tryz.prog HtellF [.val (.int .u8 c), .raw 0 0] [((0, 0), msR m)] [] (.raw 1 0) [((1, 0), outsR [⟨c, m⟩])] := callOK_runU 400 [] (by kernel_rfl) (by kernel_rfl)
theorem free_w (s : Int) : CallOK Tryz.prog FreeF [.val (.int .u8 s)] [] [] (.val (.bool (decide (s = 1)))) [] := callOK_run 400 [] (by kernel_rfl) (by kernel_rfl)
def wantH (h : HeldV) : HeldV := { h with wanted := true }
def wantQ (B : BookV) (k : Kid) : HR :=
  bif (lkt B.helds k).isSome && (((lkt B.helds k).getD held0).here || ((lkt B.helds k).getD held0).wanted) then ⟨[], 6, B⟩
  else bif decide (B.setHE k = 0) then ⟨[⟨k.t.c, ⟨1, k, cpn0, 0, 0⟩⟩], 0, B.setH k (wantH ((lkt B.helds k).getD held0))⟩ else ⟨[], B.setHE k, B⟩
def WantF : Nat := 32
theorem want_w (F : CF) (B : BookV) {k : Kid} (hk : KidOk k) : CallOK Tryz.prog WantF [.ptr 0 0 0, .agg (kidS k)] [] (bkH F B) (.tup [.raw 1 0, eN (wantQ B k).e]) (bkH F (wantQ B k).b ++ [((1, 0), outsR (wantQ B k).out)]) := by
  have c1 := held_w F B hk
  have c2 := setHeld_w F B hk (wantH ((lkt B.helds k).getD held0))
  have c3 := htell_w k.t.c ⟨1, k, cpn0, 0, 0⟩
  have go : ∀ q, wantQ B k = q → CallOK Tryz.prog WantF [.ptr 0 0 0, .agg (kidS k)] [] (bkH F B) (.tup [.raw 1 0, eN q.e]) (bkH F q.b ++ [((1, 0), outsR q.out)]) → CallOK Tryz.prog WantF [.ptr 0 0 0, .agg (kidS k)] [] (bkH F B) (.tup [.raw 1 0, eN (wantQ B k).e]) (bkH F (wantQ B k).b ++ [((1, 0), outsR (wantQ B k).out)]) := fun q e h => e ▸ h
  have no2 : B.setHE k ≠ 0 → B.setH k (wantH ((lkt B.helds k).getD held0)) = B := fun e => by unfold BookV.setH; rw [decide_eq_false e]; rfl
  have fin : (((lkt B.helds k).isSome && (((lkt B.helds k).getD held0).here || ((lkt B.helds k).getD held0).wanted)) = false) → wantQ B k = bif decide (B.setHE k = 0) then ⟨[⟨k.t.c, ⟨1, k, cpn0, 0, 0⟩⟩], 0, B.setH k (wantH ((lkt B.helds k).getD held0))⟩ else ⟨[], B.setHE k, B⟩ := fun h => by unfold wantQ; rw [h]; rfl
  cases hl : lkt B.helds k with
  | none =>
    rw [hl] at c1 c2 no2 fin
    have f := fin rfl
    rcases Bool.eq_false_or_eq_true (decide (B.setHE k = 0)) with g | g
    · rw [g] at f
      have g0 := of_decide_eq_true g
      have g1 : (!decide (B.setHE k = 0)) = false := by rw [g]; rfl
      exact go _ f (callOK_run 400 [hC 3 2 c1, hC 7 3 c2, hI 7 3 IntKind.i64 _ _ g0, hC 10 6 c3] (by kernel_rfl) (by kernel_rfl))
    · rw [g] at f
      have g1 : (!decide (B.setHE k = 0)) = true := by rw [g]; rfl
      rw [no2 (of_decide_eq_false g)] at c2
      exact go _ f (callOK_run 400 [hC 3 2 c1, hC 7 3 c2, hB 8 1 _ _ g1] (by kernel_rfl) (by kernel_rfl))
  | some h =>
    rw [hl] at c1 c2 no2 fin
    have fin : (h.here || h.wanted) = false → wantQ B k = bif decide (B.setHE k = 0) then ⟨[⟨k.t.c, ⟨1, k, cpn0, 0, 0⟩⟩], 0, B.setH k (wantH h)⟩ else ⟨[], B.setHE k, B⟩ := fin
    have yes : (h.here || h.wanted) = true → wantQ B k = ⟨[], 6, B⟩ := fun e => by unfold wantQ; rw [hl]; show (bif true && (h.here || h.wanted) then _ else _) = _; rw [e]; rfl
    rcases Bool.eq_false_or_eq_true h.here with e1 | e1
    · exact go _ (yes (by rw [e1]; rfl)) (callOK_run 400 [hC 3 2 c1, hB 4 4 _ _ e1] (by kernel_rfl) (by kernel_rfl))
    rcases Bool.eq_false_or_eq_true h.wanted with e2 | e2
    · exact go _ (yes (by rw [e1, e2]; rfl)) (callOK_run 400 [hC 3 2 c1, hB 4 4 _ _ e1, hB 4 7 _ _ e2] (by kernel_rfl) (by kernel_rfl))
    have f := fin (by rw [e1, e2]; rfl)
    rcases Bool.eq_false_or_eq_true (decide (B.setHE k = 0)) with g | g
    · rw [g] at f
      have g1 : (!decide (B.setHE k = 0)) = false := by rw [g]; rfl
      exact go _ f (callOK_run 400 [hC 3 2 c1, hB 4 4 _ _ e1, hB 4 7 _ _ e2, hC 7 3 c2, hB 8 1 _ _ g1, hC 10 6 c3] (by kernel_rfl) (by kernel_rfl))
    · rw [g] at f
      have g1 : (!decide (B.setHE k = 0)) = true := by rw [g]; rfl
      rw [no2 (of_decide_eq_false g)] at c2
      exact go _ f (callOK_run 400 [hC 3 2 c1, hB 4 4 _ _ e1, hB 4 7 _ _ e2, hC 7 3 c2, hB 8 1 _ _ g1] (by kernel_rfl) (by kernel_rfl))
def goneH (h : HeldV) : HeldV := { h with here := false }
def GiveF : Nat := 90
def giveO (k : Kid) (h : HeldV) : OutV := ⟨k.t.c, ⟨5, k, h.k, 0, 0⟩⟩
theorem give_w (F : CF) (B : BookV) {k : Kid} (hk : KidOk k) (h : HeldV) : CallOK Tryz.prog GiveF [.ptr 0 0 0, .agg (kidS k), .agg (heldS h)] [] (bkH F B) (.raw 1 0) (bkH F (B.setH k (goneH h)) ++ [((1, 0), outsR [giveO k h])]) := by
  have c2 := setHeld_w F B hk (goneH h)
  have c3 := htell_w k.t.c ⟨5, k, h.k, 0, 0⟩
  exact callOK_run 400 [hC 2 3 c2, hC 3 8 c3] (by kernel_rfl) (by kernel_rfl)
def hearS (c : Int) (m : MsV) : List SV := .ptr 0 0 0 :: .val (.int .u8 c) :: msS m
def HrefuseF : Nat := 117
def HheldF : Nat := 118
def HawayF : Nat := 119
def refO (c : Int) (k : Kid) (e : Int) : OutV := ⟨c, ⟨3, k, cpn0, 0, e⟩⟩
theorem hrefuse_w (F : CF) (B : BookV) (c : Int) (m : MsV) (e : Int) : CallOK Tryz.prog HrefuseF [.agg (hearS c m), eN e] (bkH F B) [] (.raw 1 0) [((1, 0), outsR [refO c m.key e])] := by
  have c3 := htell_w c ⟨3, m.key, cpn0, 0, e⟩
  exact callOK_run 400 [hC 1 8 c3] (by kernel_rfl) (by kernel_rfl)
def isHeld (B : BookV) (c : Int) (k : Kid) : Bool := (lkt B.helds k).isSome && decide (k.t.c = c)
def isAway (B : BookV) (c : Int) (k : Kid) : Bool := (lkt B.owns k).isSome && (((lkt B.owns k).getD own0).away && decide (((lkt B.owns k).getD own0).dst = c))
theorem hheld_w (F : CF) (B : BookV) (c : Int) (m : MsV) (hk : KidOk m.key) : CallOK Tryz.prog HheldF [.agg (hearS c m)] (bkH F B) [] (.tup [.agg (heldS ((lkt B.helds m.key).getD held0)), .val (.bool (isHeld B c m.key))]) [] := by
  have c1 := held_w F B hk
  unfold isHeld
  cases hl : lkt B.helds m.key with
  | none =>
    rw [hl] at c1
    exact callOK_run 400 [hC 1 5 c1] (by kernel_rfl) (by kernel_rfl)
  | some h =>
    rw [hl] at c1
    rcases Bool.eq_false_or_eq_true (decide (m.key.t.c = c)) with e1 | e1 <;> simp only [e1] <;> exact callOK_run 400 [hC 1 5 c1, hB 2 11 _ _ e1] (by kernel_rfl) (by kernel_rfl)
theorem haway_w (F : CF) (B : BookV) (c : Int) (m : MsV) (hk : KidOk m.key) : CallOK Tryz.prog HawayF [.agg (hearS c m)] (bkH F B) [] (.tup [.agg (ownS ((lkt B.owns m.key).getD own0)), .val (.bool (isAway B c m.key))]) [] := by
  have c1 := own_w F B hk
  unfold isAway
  cases hl : lkt B.owns m.key with
  | none =>
    rw [hl] at c1
    exact callOK_run 400 [hC 1 5 c1] (by kernel_rfl) (by kernel_rfl)
  | some o =>
    rw [hl] at c1
    simp only [Option.getD_some]
    rcases Bool.eq_false_or_eq_true o.away with e1 | e1 <;> rcases Bool.eq_false_or_eq_true (decide (o.dst = c)) with e2 | e2 <;> simp only [e1, e2] <;> exact callOK_run 400 [hC 1 5 c1, hB 2 5 _ _ e1, hB 2 12 _ _ e2] (by kernel_rfl) (by kernel_rfl)
end Go.Proofs.YtnkghdakjdhhdaaGreat
end
section
namespace Go.Proofs.YtnkghdakjdhhdaaGreat
open Go.RowKit Go.Lib Go.Tk Go.Shelf Go.Vc Go.Sx
def givenO (o : OwnV) (c : Int) : OwnV := { o with k := { o.k with n := IntKind.u32.wrap (o.k.n + 1) }, away := true, dst := c }
def hwantQ (B : BookV) (c : Int) (k : Kid) : HR :=
  let o := (lkt B.owns k).getD own0
  bif !(lkt B.owns k).isSome then ⟨[refO c k 4], 0, B⟩
  else bif o.away then ⟨[refO c k 160], 0, B⟩
  else bif !decide (o.k.l.c = c) then ⟨[refO c k 1], 0, B⟩
  else bif !decide (o.k.s = 1) then ⟨[refO c k 6], 0, B⟩
  else bif decide (o.k.n = 4294967295) then ⟨[refO c k 3], 0, B⟩
  else ⟨[⟨c, ⟨2, k, (givenO o c).k, 0, 0⟩⟩], 0, B.setO k (givenO o c)⟩
def HwantF : Nat := 58
theorem hwant_w (F : CF) (B : BookV) (c : Int) (m : MsV) (hk : KidOk m.key) : CallOK Tryz.prog HwantF [.agg (hearS c m)] [] (bkH F B) (.raw 1 0) (bkH F (hwantQ B c m.key).b ++ [((1, 0), outsR (hwantQ B c m.key).out)]) := by
  have c1 := own_w F B hk
  have r1 := hrefuse_w F B c m 4
  have r2 := hrefuse_w F B c m 160
  have r3 := hrefuse_w F B c m 1
  have r4 := hrefuse_w F B c m 6
  have r5 := hrefuse_w F B c m 3
  unfold hwantQ
  cases hl : lkt B.owns m.key with
  | none =>
    rw [hl] at c1
    exact callOK_run 400 [hC 1 5 c1, hC 3 1 r1] (by kernel_rfl) (by kernel_rfl)
  | some o =>
    rw [hl] at c1
    have c2 := setOwn_w F B hk (givenO o c)
    have c3 := free_w o.k.s
    have c4 := htell_w c ⟨2, m.key, (givenO o c).k, 0, 0⟩
    simp only [Option.getD_some]
    rcases Bool.eq_false_or_eq_true o.away with e1 | e1
    · simp only [e1]; exact callOK_run 400 [hC 1 5 c1, hB 4 1 _ _ e1, hC 5 1 r2] (by kernel_rfl) (by kernel_rfl)
    rcases Bool.eq_false_or_eq_true (decide (o.k.l.c = c)) with e2 | e2
    · have e2' : (!decide (o.k.l.c = c)) = false := by rw [e2]; rfl
      rcases Bool.eq_false_or_eq_true (decide (o.k.s = 1)) with e3 | e3 <;> rcases Bool.eq_false_or_eq_true (decide (o.k.n = 4294967295)) with e4 | e4 <;> simp only [e1, e2, e3, e4] <;> exact callOK_run 400 [hC 1 5 c1, hB 4 1 _ _ e1, hB 6 6 _ _ e2', hC 8 3 c3, hB 8 3 _ _ e3, hC 9 1 r4, hB 10 3 _ _ e4, hC 14 6 c2, hC 15 9 c4, hC 11 1 r5] (by kernel_rfl) (by kernel_rfl)
    · have e2' : (!decide (o.k.l.c = c)) = true := by rw [e2]; rfl
      simp only [e1, e2]; exact callOK_run 400 [hC 1 5 c1, hB 4 1 _ _ e1, hB 6 6 _ _ e2', hC 7 1 r3] (by kernel_rfl) (by kernel_rfl)
def newH (k : Cpn) : HeldV := ⟨k, true, false, false, false⟩
def hgrantQ (B : BookV) (c : Int) (m : MsV) : HR :=
  let h := (lkt B.helds m.key).getD held0
  bif !decide (m.key.t.c = c) || isHeld B c m.key && (h.here || decide (m.k.n ≤ h.k.n)) then ⟨[], 0, B⟩
  else bif decide (B.setHE m.key = 3) then ⟨[], 3, B⟩ else ⟨[], 0, B.setH m.key (newH m.k)⟩
def HgrantF : Nat := 60
theorem hgrant_w (F : CF) (B : BookV) (c : Int) (m : MsV) (hk : KidOk m.key) : CallOK Tryz.prog HgrantF [.agg (hearS c m)] [] (bkH F B) (eN (hgrantQ B c m).e) (bkH F (hgrantQ B c m).b) := by
  have c1 := hheld_w F B c m hk
  have c2 := setHeld_w F B hk (newH m.k)
  have no2 : B.setHE m.key = 3 → B.setH m.key (newH m.k) = B := fun e => by unfold BookV.setH; rw [e]; rfl
  unfold hgrantQ
  rcases Bool.eq_false_or_eq_true (decide (m.key.t.c = c)) with e1 | e1
  · have e1' : (!decide (m.key.t.c = c)) = false := by rw [e1]; rfl
    rcases Bool.eq_false_or_eq_true (decide (B.setHE m.key = 3)) with e5 | e5
    · rw [no2 (of_decide_eq_true e5)] at c2
      rcases Bool.eq_false_or_eq_true (isHeld B c m.key) with e2 | e2 <;> rcases Bool.eq_false_or_eq_true ((lkt B.helds m.key).getD held0).here with e3 | e3 <;> rcases Bool.eq_false_or_eq_true (decide (m.k.n ≤ ((lkt B.helds m.key).getD held0).k.n)) with e4 | e4 <;> simp only [e1, e2, e3, e4, e5] <;> (have e6 := of_decide_eq_true e5) <;> exact callOK_run 400 [hC 1 1 c1, hB 1 4 _ _ e2, hB 2 7 _ _ e1', hB 2 12 _ _ e3, hB 2 21 _ _ e4, hC 4 9 c2, hI 4 9 IntKind.i64 _ _ e6] (by kernel_rfl) (by kernel_rfl)
    · rcases Bool.eq_false_or_eq_true (isHeld B c m.key) with e2 | e2 <;> rcases Bool.eq_false_or_eq_true ((lkt B.helds m.key).getD held0).here with e3 | e3 <;> rcases Bool.eq_false_or_eq_true (decide (m.k.n ≤ ((lkt B.helds m.key).getD held0).k.n)) with e4 | e4 <;> simp only [e1, e2, e3, e4, e5] <;> exact callOK_run 400 [hC 1 1 c1, hB 1 4 _ _ e2, hB 2 7 _ _ e1', hB 2 12 _ _ e3, hB 2 21 _ _ e4, hC 4 9 c2, hB 5 1 _ _ e5] (by kernel_rfl) (by kernel_rfl)
  · have e1' : (!decide (m.key.t.c = c)) = true := by rw [e1]; rfl
    simp only [e1]; exact callOK_run 400 [hC 1 1 c1, hB 2 7 _ _ e1'] (by kernel_rfl) (by kernel_rfl)
def notH (h : HeldV) : HeldV := { h with wanted := false }
def notO (o : OwnV) : OwnV := { o with asked := false }
def hrefH (B : BookV) (c : Int) (k : Kid) : BookV := bif isHeld B c k then B.setH k (notH ((lkt B.helds k).getD held0)) else B
def hrefB (B : BookV) (c : Int) (k : Kid) : BookV := bif isAway (hrefH B c k) c k then (hrefH B c k).setO k (notO ((lkt (hrefH B c k).owns k).getD own0)) else hrefH B c k
def HrefusedF : Nat := 62
def noS : SV := .tup []
theorem hrefused_w (F : CF) (B : BookV) (c : Int) (m : MsV) (hk : KidOk m.key) : CallOK Tryz.prog HrefusedF [.agg (hearS c m)] [] (bkH F B) noS (bkH F (hrefB B c m.key)) := by
  have c1 := hheld_w F B c m hk
  have c2 := setHeld_w F B hk (notH ((lkt B.helds m.key).getD held0))
  have c3 := haway_w F (hrefH B c m.key) c m hk
  have c4 := setOwn_w F (hrefH B c m.key) hk (notO ((lkt (hrefH B c m.key).owns m.key).getD own0))
  rcases Bool.eq_false_or_eq_true (isHeld B c m.key) with e1 | e1
  · have e : hrefH B c m.key = B.setH m.key (notH ((lkt B.helds m.key).getD held0)) := by unfold hrefH; rw [e1]; rfl
    unfold hrefB
    rw [e] at c3 c4 ⊢
    rcases Bool.eq_false_or_eq_true (isAway (B.setH m.key (notH ((lkt B.helds m.key).getD held0))) c m.key) with e2 | e2 <;> simp only [e2] <;> exact callOK_run 400 [hC 1 1 c1, hB 1 4 _ _ e1, hC 4 6 c2, hC 5 1 c3, hB 5 4 _ _ e2, hC 8 6 c4] (by kernel_rfl) (by kernel_rfl)
  · have e : hrefH B c m.key = B := by unfold hrefH; rw [e1]; rfl
    unfold hrefB
    rw [e] at c3 c4 ⊢
    rcases Bool.eq_false_or_eq_true (isAway B c m.key) with e2 | e2 <;> simp only [e2] <;> exact callOK_run 400 [hC 1 1 c1, hB 1 4 _ _ e1, hC 5 1 c3, hB 5 4 _ _ e2, hC 8 6 c4] (by kernel_rfl) (by kernel_rfl)
def hrecallQ (B : BookV) (c : Int) (k : Kid) : HR :=
  let h := (lkt B.helds k).getD held0
  bif !isHeld B c k || !h.here then ⟨[], 0, B⟩
  else bif !decide (h.k.s = 1) then ⟨[refO c k 6], 0, B⟩
  else ⟨[giveO k h], 0, B.setH k (goneH h)⟩
def HrecallF : Nat := 64
theorem hrecall_w (F : CF) (B : BookV) (c : Int) (m : MsV) (hk : KidOk m.key) : CallOK Tryz.prog HrecallF [.agg (hearS c m)] [] (bkH F B) (.raw 1 0) (bkH F (hrecallQ B c m.key).b ++ [((1, 0), outsR (hrecallQ B c m.key).out)]) := by
  have c1 := hheld_w F B c m hk
  have c2 := free_w ((lkt B.helds m.key).getD held0).k.s
  have c3 := hrefuse_w F B c m 6
  have c4 := give_w F B hk ((lkt B.helds m.key).getD held0)
  unfold hrecallQ
  rcases Bool.eq_false_or_eq_true (isHeld B c m.key) with e1 | e1 <;> rcases Bool.eq_false_or_eq_true ((lkt B.helds m.key).getD held0).here with e2 | e2 <;> rcases Bool.eq_false_or_eq_true (decide (((lkt B.helds m.key).getD held0).k.s = 1)) with e3 | e3 <;> simp only [e1, e2, e3] <;> exact callOK_run 400 [hC 1 1 c1, hB 1 4 _ _ e1, hB 2 4 _ _ e2, hC 4 3 c2, hB 4 3 _ _ e3, hC 5 1 c3, hC 6 6 c4] (by kernel_rfl) (by kernel_rfl)
def backO (o : OwnV) : OwnV := { o with away := false, asked := false }
def hretB (B : BookV) (c : Int) (m : MsV) : BookV := bif isAway B c m.key && decide (((lkt B.owns m.key).getD own0).k.n = m.k.n) then B.setO m.key (backO ((lkt B.owns m.key).getD own0)) else B
def HreturnedF : Nat := 66
theorem hreturned_w (F : CF) (B : BookV) (c : Int) (m : MsV) (hk : KidOk m.key) : CallOK Tryz.prog HreturnedF [.agg (hearS c m)] [] (bkH F B) noS (bkH F (hretB B c m)) := by
  have c1 := haway_w F B c m hk
  have c2 := setOwn_w F B hk (backO ((lkt B.owns m.key).getD own0))
  unfold hretB
  rcases Bool.eq_false_or_eq_true (isAway B c m.key) with e1 | e1 <;> rcases Bool.eq_false_or_eq_true (decide (((lkt B.owns m.key).getD own0).k.n = m.k.n)) with e2 | e2 <;> simp only [e1, e2] <;> exact callOK_run 400 [hC 1 1 c1, hB 1 4 _ _ e1, hB 2 9 _ _ e2, hC 4 6 c2] (by kernel_rfl) (by kernel_rfl)
end Go.Proofs.YtnkghdakjdhhdaaGreat
end
section
namespace Go.Proofs.YtnkghdakjdhhdaaGreat
open Go.RowKit Go.Lib Go.Tk Go.Shelf Go.Vc Go.Sx
def hearB (c : Int) (m : MsV) : Heap := [((0, 4), .box none (hearS c m))]
def Hear1 : Nat := 57
def Hear2 : Nat := 59
def Hear3 : Nat := 61
def Hear4 : Nat := 63
def Hear5 : Nat := 65
theorem hear1_w (F : CF) (B : BookV) (c : Int) (m : MsV) (hk : KidOk m.key) : CallOK Tryz.prog Hear1 [.ptr 0 4 0] (hearB c m) (bkH F B) (.tup [.raw 1 0, eN 0]) (bkH F (hwantQ B c m.key).b ++ [((1, 0), outsC (hwantQ B c m.key).out)]) := by
  have c1 := outs_of (hwant_w F B c m hk)
  exact callOK_run 400 [hC 1 1 c1] (by kernel_rfl) (by kernel_rfl)
theorem hear2_w (F : CF) (B : BookV) (c : Int) (m : MsV) (hk : KidOk m.key) : CallOK Tryz.prog Hear2 [.ptr 0 4 0] (hearB c m) (bkH F B) (.tup [nilS, eN (hgrantQ B c m).e]) (bkH F (hgrantQ B c m).b) := by
  have c1 := hgrant_w F B c m hk
  exact callOK_run 400 [hC 1 1 c1] (by kernel_rfl) (by kernel_rfl)
theorem hear3_w (F : CF) (B : BookV) (c : Int) (m : MsV) (hk : KidOk m.key) : CallOK Tryz.prog Hear3 [.ptr 0 4 0] (hearB c m) (bkH F B) (.tup [nilS, eN 0]) (bkH F (hrefB B c m.key)) := by
  have c1 := hrefused_w F B c m hk
  exact callOK_run 400 [hC 1 1 c1] (by kernel_rfl) (by kernel_rfl)
theorem hear4_w (F : CF) (B : BookV) (c : Int) (m : MsV) (hk : KidOk m.key) : CallOK Tryz.prog Hear4 [.ptr 0 4 0] (hearB c m) (bkH F B) (.tup [.raw 1 0, eN 0]) (bkH F (hrecallQ B c m.key).b ++ [((1, 0), outsC (hrecallQ B c m.key).out)]) := by
  have c1 := outs_of (hrecall_w F B c m hk)
  exact callOK_run 400 [hC 1 1 c1] (by kernel_rfl) (by kernel_rfl)
theorem hear5_w (F : CF) (B : BookV) (c : Int) (m : MsV) (hk : KidOk m.key) : CallOK Tryz.prog Hear5 [.ptr 0 4 0] (hearB c m) (bkH F B) (.tup [nilS, eN 0]) (bkH F (hretB B c m)) := by
  have c1 := hreturned_w F B c m hk
  exact callOK_run 400 [hC 1 1 c1] (by kernel_rfl) (by kernel_rfl)
def hearDo (B : BookV) (c : Int) (m : MsV) : HR :=
  bif decide (m.kind = 1) then hwantQ B c m.key else bif decide (m.kind = 2) then ⟨[], (hgrantQ B c m).e, (hgrantQ B c m).b⟩ else bif decide (m.kind = 3) then ⟨[], 0, hrefB B c m.key⟩ else bif decide (m.kind = 4) then hrecallQ B c m.key else ⟨[], 0, hretB B c m⟩
def badHear (B : BookV) (c : Int) (kind : Int) : Bool := !(decide (1 ≤ kind) && decide (kind ≤ 5)) || (decide (c = B.self) || decide (B.n ≤ c))
def hearQ (B : BookV) (c : Int) (m : MsV) : HR := bif badHear B c m.kind then ⟨[], 1, B⟩ else hearDo B c m
theorem hwant_e (B : BookV) (c : Int) (k : Kid) : (hwantQ B c k).e = 0 := by
  unfold hwantQ
  dsimp only
  cases (lkt B.owns k).isSome <;> cases ((lkt B.owns k).getD own0).away <;> cases decide (((lkt B.owns k).getD own0).k.l.c = c) <;> cases decide (((lkt B.owns k).getD own0).k.s = 1) <;> cases decide (((lkt B.owns k).getD own0).k.n = 4294967295) <;> rfl
theorem hrecall_e (B : BookV) (c : Int) (k : Kid) : (hrecallQ B c k).e = 0 := by
  unfold hrecallQ
  dsimp only
  cases isHeld B c k <;> cases ((lkt B.helds k).getD held0).here <;> cases decide (((lkt B.helds k).getD held0).k.s = 1) <;> rfl
def HearF : Nat := 14
def FNT : TypeId := 132
def hearEs : List (Value × SV × Nat) := [(.int .u8 5, .fn (.func Hear5) [] [.ptr 0 4 0], 0), (.int .u8 4, .fn (.func Hear4) [] [.ptr 0 4 0], 0), (.int .u8 3, .fn (.func Hear3) [] [.ptr 0 4 0], 0), (.int .u8 2, .fn (.func Hear2) [] [.ptr 0 4 0], 0), (.int .u8 1, .fn (.func Hear1) [] [.ptr 0 4 0], 0)]
theorem keyOf_u8 {x : Int} (h : 0 ≤ x ∧ x ≤ 255) : ∃ l, keyOf Tryz.prog 5 (.int .u8 x) = some l := ⟨_, Go.Maps.keyOf_int_mk Tryz.underlying5 (wf_u8 h)⟩
theorem hear_w (F : CF) (B : BookV) {c : Int} (hc : 0 ≤ c ∧ c ≤ 255) (m : MsV) (hm : 0 ≤ m.kind ∧ m.kind ≤ 255) (hk : KidOk m.key) : CallOK Tryz.prog HearF [.ptr 0 0 0, .val (.int .u8 c), .agg (msS m)] [] (bkH F B) (.tup [.raw 1 0, eN (hearQ B c m).e]) (bkH F (hearQ B c m).b ++ [((1, 0), outsC (hearQ B c m).out)]) := by
  obtain ⟨kind, key, k, amt, code⟩ := m
  have c1 := self_w F B
  have c2 := carr_w F B
  have w1 : IntKind.i64.wrap c = c := wr_i64 (by omega)
  have h1 := hear1_w F B c ⟨kind, key, k, amt, code⟩ hk
  have h2 := hear2_w F B c ⟨kind, key, k, amt, code⟩ hk
  have h3 := hear3_w F B c ⟨kind, key, k, amt, code⟩ hk
  have h4 := hear4_w F B c ⟨kind, key, k, amt, code⟩ hk
  have h5 := hear5_w F B c ⟨kind, key, k, amt, code⟩ hk
  have E1 := hwant_e B c key
  have E4 := hrecall_e B c key
  by_cases g : kind = 1 ∨ kind = 2 ∨ kind = 3 ∨ kind = 4 ∨ kind = 5
  · rcases Bool.eq_false_or_eq_true (decide (c = B.self)) with e1 | e1
    · have e : badHear B c kind = true := by unfold badHear; rw [e1, Bool.true_or, Bool.or_true]
      unfold hearQ
      simp only [e]
      rcases g with rfl | rfl | rfl | rfl | rfl <;> exact callOK_run 400 [hC 6 5 c1, hB 6 6 _ _ e1] (by kernel_rfl) (by kernel_rfl)
    rcases Bool.eq_false_or_eq_true (decide (B.n ≤ c)) with e2 | e2
    · have e : badHear B c kind = true := by unfold badHear; rw [e2, Bool.or_true, Bool.or_true]
      unfold hearQ
      simp only [e]
      rcases g with rfl | rfl | rfl | rfl | rfl <;> exact callOK_run 400 [hC 6 5 c1, hB 6 6 _ _ e1, hI 6 10 IntKind.i64 _ _ w1, hC 6 12 c2, hB 6 13 _ _ e2] (by kernel_rfl) (by kernel_rfl)
    have e : badHear B c kind = false := by
      unfold badHear; rw [e1, e2]
      rcases g with rfl | rfl | rfl | rfl | rfl <;> rfl
    unfold hearQ
    simp only [e]
    rcases g with rfl | rfl | rfl | rfl | rfl
    · show CallOK _ _ _ _ _ (.tup [.raw 1 0, eN (hwantQ B c key).e]) _
      rw [E1]
      exact callOK_run 400 [hC 6 5 c1, hB 6 6 _ _ e1, hI 6 10 IntKind.i64 _ _ w1, hC 6 12 c2, hB 6 13 _ _ e2, hC 8 1 h1] (by kernel_rfl) (by kernel_rfl)
    · exact callOK_run 400 [hC 6 5 c1, hB 6 6 _ _ e1, hI 6 10 IntKind.i64 _ _ w1, hC 6 12 c2, hB 6 13 _ _ e2, hC 8 1 h2] (by kernel_rfl) (by kernel_rfl)
    · exact callOK_run 400 [hC 6 5 c1, hB 6 6 _ _ e1, hI 6 10 IntKind.i64 _ _ w1, hC 6 12 c2, hB 6 13 _ _ e2, hC 8 1 h3] (by kernel_rfl) (by kernel_rfl)
    · show CallOK _ _ _ _ _ (.tup [.raw 1 0, eN (hrecallQ B c key).e]) _
      rw [E4]
      exact callOK_run 400 [hC 6 5 c1, hB 6 6 _ _ e1, hI 6 10 IntKind.i64 _ _ w1, hC 6 12 c2, hB 6 13 _ _ e2, hC 8 1 h4] (by kernel_rfl) (by kernel_rfl)
    · exact callOK_run 400 [hC 6 5 c1, hB 6 6 _ _ e1, hI 6 10 IntKind.i64 _ _ w1, hC 6 12 c2, hB 6 13 _ _ e2, hC 8 1 h5] (by kernel_rfl) (by kernel_rfl)
  · have e : badHear B c kind = true := by
      unfold badHear
      have : (decide (1 ≤ kind) && decide (kind ≤ 5)) = false := by
        rw [Bool.and_eq_false_iff, decide_eq_false_iff_not, decide_eq_false_iff_not]
        by_cases h : 1 ≤ kind
        · exact .inr (by omega)
        · exact .inl h
      rw [this]; rfl
    unfold hearQ
    simp only [e]
    have l1 := look_missG (P := Tryz.prog) (t := FNT) (c := true) (es := hearEs) (k := .u8) (x := kind) (ret := .tup [.val .nilFunc, .val (.bool false)]) (z := .nilFunc) Tryz.underlying132 Tryz.underlying5 (by kernel_rfl) (by kernel_rfl) (keyOf_u8 hm) (fun w => still_run (by kernel_rfl) w)
      (fun q hq e => g (by
        simp only [hearEs, List.mem_cons, List.not_mem_nil, or_false] at hq
        rcases hq with rfl | rfl | rfl | rfl | rfl <;> (cases e; simp)))
      (fun _ => rfl) (by rfl) (by kernel_rfl)
    exact callOK_run 400 [hG 5 3 l1] (by kernel_rfl) (by kernel_rfl)
end Go.Proofs.YtnkghdakjdhhdaaGreat
end
