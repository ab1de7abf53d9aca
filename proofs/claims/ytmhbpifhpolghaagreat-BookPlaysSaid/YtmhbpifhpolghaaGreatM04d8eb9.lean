/- Pb14, Pb15, Pb16, FsBookPlays. -/
import Derived.Test.YtmhbpifhpolghaaGreatM7904552
import Derived.Test.YtmhbpifhpolghaaGreatRows
import Derived.Test.YtmhbpifhpolghaaGreatChecked
import Derived.ProofKit
import Derived.OpenShut
import Derived.ShutString
import Derived.ChangeOld
import Derived.Below
set_option maxRecDepth 100000
set_option linter.unusedVariables false
set_option linter.unusedSimpArgs false
set_option linter.unusedSectionVars false
section
namespace Go.Proofs.YtmhbpifhpolghaaGreat
open Go.RowKit Go.Lib Go.Tk Go.Shelf Go.Vc Go.Sx
theorem sale0_ok : SaleOk doc0.s where
  name := by unfold maxLen; show (0 : Nat) ≤ _; omega
  legs := by intro l hl; cases hl
  taxes := by intro t ht; cases ht
  fare := by decide
  pen := by decide
  nl := by decide
  nt := by decide
theorem rd_none {c : Chunk} {a : Option Addr} : Rd c a [] := fun S w hw i hi => absurd hi (Nat.not_lt_zero _)
theorem rdocs_0 (G : CF) : CallOK Tryz.prog RDocsF [.agg (docS doc0 nilS nilS nilS), .agg (docS doc0 nilS nilS nilS)] [((0, 9), .fam G)] [] (.val (.bool true)) [] := by
  have h := rdocsG G (d := doc0) (e := doc0) (a := docA0) (a' := docA0) sale0_ok sale0_ok (by decide) (by decide) ⟨fun _ _ => rd_none, fun _ _ => rd_none, fun _ _ => rd_none⟩ ⟨fun _ _ => rd_none, fun _ _ => rd_none, fun _ _ => rd_none⟩
  rw [decide_eq_true rfl] at h
  exact h
theorem docMade_small {t : Tid} {s : SaleV} (ok : SaleOk s) (hv : (shareV s.fare (wsOf s)).length ≤ 4) : DocSmall (docMade t s) := ⟨by have := ok.nl; show s.legs.length ≤ _; omega, by have := ok.nt; show s.taxes.length ≤ _; omega, by show (shareV s.fare (wsOf s)).length ≤ _; omega⟩
section
variable {F : CF} {a : Option Addr} {n cap i : Nat} {S : BpX} {x : Act15} {ret : SV} {rp : Heap} {eb : Env} {R0 : List Chunk} {J : Act → World → Prop}
theorem bp_iss0 (ok : BpOk F S) (ha : Act15P S.G x) (g : x.d = 0) (hm : S.B.issE x.s ≠ 0) (hq : Go Tryz.prog BplF ret rp eb R0 .nrm (rgK Tryz.prog BplF 48 [J]) (bpSlT a n cap i) (bpH S ++ bpA x)) :
    Go Tryz.prog BplF ret rp eb R0 .nrm (rgK Tryz.prog BplF 16 [J]) (bpSlA a n cap i) (bpH S ++ bpA x) := by
  have hr : S.R.issE x.s ≠ 0 := by rw [ok.cur.rel.issE]; exact hm
  have c1 := issue_noC S.G ok.cur.bi.ex.bk ha.rd.ok ha.rd.hl ha.rd.ht ha.rd.h1 ha.rd.h2 hm
  have c2 := rissueQ_no S.G S.L (B := S.R) (by rw [← ok.cur.hL, List.length_map]) ha.rd.ok ok.cur.ri.hs ok.cur.ri.hd ha.rd.hl ha.rd.ht hr
  rw [ok.cur.rel.issE] at c2
  have c3 := rdocs_0 S.G
  have e0 : decide (x.d = 0) = true := decide_eq_true g
  have f0 : decide (S.B.issE x.s = S.B.issE x.s) = true := decide_eq_true rfl
  clear g hm hr ok ha
  generalize S.B.issE x.s = er at *
  exact leaf_cut (rgK Tryz.prog BplF 48 [J]) _ _ calNone false 400 [hB 18 0 _ _ e0, hC 19 3 c1, hC 20 3 c2, hB 21 2 _ _ f0, hC 21 6 c3, .stop 48] calNone_ok (by kernel_rfl) hq
def bpI (S : BpX) (x : Act15) (t : Tid) : Heap := [((1, 20), i64R (shareV x.s.fare (wsOf x.s)).length (shareV x.s.fare (wsOf x.s))), ((0, 9), .fam S.G), ((1, 1), .box none [.val (.int .u8 S.R.self), .val (.int .i64 S.R.n), .any 1 11, .any 1 12, .any 1 13]), ((1, 11), .famE [.raw 1 20] (rdE S.L (docMade t x.s) x.A)), ((1, 12), .fam (rownsF (S.R.issued x.s x.A).owns)), ((1, 13), .fam (rheldsF S.R.helds)), ((1, 0), .fam (bookF (S.B.issued x.s))), ((1, 2), .fam (bookF S.Bh)), ((1, 3), .fam (refF (rdQ S.Lh) S.Rh)), ((1, 5), .box none (act15X x)),
  ((1, 6), .box none (docS (docMade t x.s) (.raw 1 21) (.raw 1 22) (.raw 1 23))), ((1, 21), legR x.s.legs.length x.s.legs), ((1, 22), taxR x.s.taxes.length x.s.taxes), ((1, 23), i64R (shareV x.s.fare (wsOf x.s)).length (shareV x.s.fare (wsOf x.s))),
  ((1, 7), .box none (docS (docMade t x.s) (.val (.slice x.A.la x.s.legs.length x.A.lc)) (.val (.slice x.A.ta x.s.taxes.length x.A.tc)) (.raw 1 20)))]
def bpSlI (a : Option Addr) (n cap i : Nat) : Slots := bpSl a n cap i ++ [(13, .ptr 1 5 0), (14, .val (.bool true)), (15, .ptr 1 6 0), (16, eN 0), (17, .ptr 1 7 0), (18, eN 0)]
theorem bp_iss1 (ok : BpOk F S) (ha : Act15P S.G x) (g : x.d = 0) (hm : S.B.issE x.s = 0)
    (hq : ∀ (va : Option Addr) (vc : Nat), BpOk F ⟨fun b v => allC [valsRow (docMade S.B.nextT x.s, ⟨x.A.la, x.A.lc, x.A.ta, x.A.tc, va, vc⟩), S.G b v], S.B.issued x.s, S.L ++ [(docMade S.B.nextT x.s, ⟨x.A.la, x.A.lc, x.A.ta, x.A.tc, va, vc⟩)], S.R.issued x.s x.A, S.Bh, S.Lh, S.Rh⟩ →
      Go Tryz.prog BplF ret rp eb R0 .nrm (rgK Tryz.prog BplF 48 [J]) (bpSlT a n cap i) (bpH ⟨fun b v => allC [valsRow (docMade S.B.nextT x.s, ⟨x.A.la, x.A.lc, x.A.ta, x.A.tc, va, vc⟩), S.G b v], S.B.issued x.s, S.L ++ [(docMade S.B.nextT x.s, ⟨x.A.la, x.A.lc, x.A.ta, x.A.tc, va, vc⟩)], S.R.issued x.s x.A, S.Bh, S.Lh, S.Rh⟩ ++ bpA x)) :
    Go Tryz.prog BplF ret rp eb R0 .nrm (rgK Tryz.prog BplF 16 [J]) (bpSlA a n cap i) (bpH S ++ bpA x) := by
  have hr : S.R.issE x.s = 0 := by rw [ok.cur.rel.issE]; exact hm
  have c1 := issue_okC S.G ok.cur.bi.ex.bk ha.rd.ok ha.rd.hl ha.rd.ht ha.rd.h1 ha.rd.h2 hm
  have c2 := rissueQ_ok S.G S.L (B := S.R) (by rw [← ok.cur.hL, List.length_map]) ha.rd.ok ok.cur.ri.hs ok.cur.own_n ha.rd.hl ha.rd.ht hr
  unfold riP at c2
  have ht : S.R.nextT = S.B.nextT := ok.cur.rel.nextT
  rw [ht] at c2
  have hl4 := S.R.issE_ok ha.rd.ok hr
  have sm := docMade_small (t := S.B.nextT) ha.rd.ok (by omega)
  have e0 : decide (x.d = 0) = true := decide_eq_true g
  have step : ∀ (va : Option Addr) (vc : Nat), BpOk F ⟨fun b v => allC [valsRow (docMade S.B.nextT x.s, ⟨x.A.la, x.A.lc, x.A.ta, x.A.tc, va, vc⟩), S.G b v], S.B.issued x.s, S.L ++ [(docMade S.B.nextT x.s, ⟨x.A.la, x.A.lc, x.A.ta, x.A.tc, va, vc⟩)], S.R.issued x.s x.A, S.Bh, S.Lh, S.Rh⟩ ∧ DocRdG (fun b v => allC [valsRow (docMade S.B.nextT x.s, ⟨x.A.la, x.A.lc, x.A.ta, x.A.tc, va, vc⟩), S.G b v]) (docMade S.B.nextT x.s) ⟨x.A.la, x.A.lc, x.A.ta, x.A.tc, va, vc⟩ := fun va vc => by
    have ex : ExtF S.G (fun b v => allC [valsRow (docMade S.B.nextT x.s, ⟨x.A.la, x.A.lc, x.A.ta, x.A.tc, va, vc⟩), S.G b v]) := fun p xs h b v => rd_in (i := 1) rfl (h b v)
    have rd : DocRdG (fun b v => allC [valsRow (docMade S.B.nextT x.s, ⟨x.A.la, x.A.lc, x.A.ta, x.A.tc, va, vc⟩), S.G b v]) (docMade S.B.nextT x.s) ⟨x.A.la, x.A.lc, x.A.ta, x.A.tc, va, vc⟩ := ⟨ex _ _ ha.rd.hl, ex _ _ ha.rd.ht, fun b v => rd_in (i := 0) rfl rd_row⟩
    have nx := (ok.cur.ext ex).issued ha.rd.ok (A := x.A) hm (va := va) (vc := vc) (by rw [ht]; exact rd)
    rw [ht] at nx
    exact ⟨⟨fun p xs h => ex p xs (ok.ext p xs h), fun b v R w h => ok.back b v R w (Mem.tail (c := valsRow _) h.all), nx, ok.old.ext ex⟩, rd⟩
  have dok : SaleOk (docMade S.B.nextT x.s).s := ha.rd.ok
  have dnv := sm.nv
  clear g hm hr ok hl4 ht
  generalize S.B.nextT = t at *
  refine leaf_cut (rgK Tryz.prog BplF 21 [J]) (bpSlI a n cap i) (bpI S x t) calNone false 400 [hB 18 0 _ _ e0, hC 19 3 c1, hC 20 3 c2, .stop 21] calNone_ok (by kernel_rfl) ?_
  clear c1 c2 e0 ha
  refine go_row (1, 20) 2 1 (shareV x.s.fare (wsOf x.s)).length ((shareV x.s.fare (wsOf x.s)).map (.int .i64)) (by kernel_rfl) fun va vc hva => ?_
  obtain ⟨s1, s2⟩ := step va vc
  have hq := hq va vc s1
  clear step
  have c3 := rdocs_raw (fun b v => allC [valsRow (docMade t x.s, ⟨x.A.la, x.A.lc, x.A.ta, x.A.tc, va, vc⟩), S.G b v]) (d := docMade t x.s) (e := docMade t x.s) dok dok dnv dnv s2
  rw [decide_eq_true rfl] at c3
  refine go_open (X := Unit) (fun _ => bpH ⟨fun b v => allC [valsRow (docMade t x.s, ⟨x.A.la, x.A.lc, x.A.ta, x.A.tc, va, vc⟩), S.G b v], S.B.issued x.s, S.L ++ [(docMade t x.s, ⟨x.A.la, x.A.lc, x.A.ta, x.A.tc, va, vc⟩)], S.R.issued x.s x.A, S.Bh, S.Lh, S.Rh⟩ ++ (bpA x ++ [((1, 6), .box none (docS (docMade t x.s) (.raw 1 21) (.raw 1 22) (.raw 1 23))), ((1, 21), legR x.s.legs.length x.s.legs), ((1, 22), taxR x.s.taxes.length x.s.taxes), ((1, 23), i64R (shareV x.s.fare (wsOf x.s)).length (shareV x.s.fare (wsOf x.s))), ((1, 7), .box none (docSA (docMade t x.s) ⟨x.A.la, x.A.lc, x.A.ta, x.A.tc, va, vc⟩))])) (fun ε w hM => ⟨(), by
      have h1 : Mem (valsRow (docMade t x.s, ⟨x.A.la, x.A.lc, x.A.ta, x.A.tc, va, vc⟩) :: S.G (ε 0 9).1 (ε 0 9).2 :: _) w := hM
      have h2 := Mem.in_all (l := [_, _]) h1
      exact mem_perm (List.perm_middle (l₁ := [_, _, _, _])).symm h2⟩) (fun _ => by kernel_rfl) ?_
  intro _
  clear s1 s2 dok dnv sm
  show Go Tryz.prog BplF ret rp eb R0 .nrm (rgK Tryz.prog BplF 21 [J]) (bpSlI a n cap i) _
  exact leaf_cut (rgK Tryz.prog BplF 48 [J]) _ _ calNone false 400 [hC 21 6 c3, .stop 48] calNone_ok (by kernel_rfl) hq
end
section
variable {F : CF} {a : Option Addr} {n cap i : Nat} {S : BpX} {x : Act15} {ret : SV} {rp : Heap} {eb : Env} {R0 : List Chunk} {J : Act → World → Prop}
def bpD (x : Act15) : Heap := [((1, 8), .box none (docS x.dv (.raw 1 30) (.val (.slice x.da.ta x.dv.s.taxes.length x.da.tc)) (.raw 1 31)))]
theorem bp_over (sm : DocSmall x.dv) (hq : Go Tryz.prog BplF ret rp eb R0 .nrm (rgK Tryz.prog BplF 48 [J]) (bpSlT a n cap i) (bpH S ++ bpA x)) :
    Go Tryz.prog BplF ret rp eb R0 .nrm (rgK Tryz.prog BplF 32 [J]) (bpSlT a n cap i ++ [(19, .ptr 1 8 0)]) (bpH S ++ (bpA x ++ (bpD x ++ [((1, 30), legR x.dv.s.legs.length x.dv.s.legs), ((1, 31), i64R x.dv.vals.length x.dv.vals)]))) := by
  have nv := sm.nv
  have nl := sm.nl
  refine go_loop (X := { y : Nat × List Value // y.1 ≤ x.dv.vals.length ∧ y.2.length = x.dv.vals.length }) 1 [J] (fun y => (bpSlT a n cap i ++ [(19, .ptr 1 8 0), (22, .val (.int .i64 (y.1.1 : Int)))], bpH S ++ (bpA x ++ (bpD x ++ [((1, 30), legR x.dv.s.legs.length x.dv.s.legs), ((1, 31), .row 2 1 x.dv.vals.length (.shal y.1.2) [])])))) (fun y => x.dv.vals.length - y.1.1) ⟨(0, x.dv.vals.map (.int .i64)), Nat.zero_le _, by simp⟩ calNone false 400 [] calNone_ok (by kernel_rfl) ?_
  rintro ⟨⟨j, xs⟩, hj, hxs⟩ J1 hJ1
  dsimp only at hj hxs
  by_cases h : j < x.dv.vals.length
  · have z0 : decide ((j : Int) < (x.dv.vals.length : Int)) = true := decide_eq_true (by omega)
    have z9 : IntKind.i64.wrap ((j : Int) + 1) = ((j + 1 : Nat) : Int) := by rw [wr_i64 (by omega)]; omega
    have q1 := elt_sto (P := Tryz.prog) (E := 2) (size := 1) (n := x.dv.vals.length) (xs := xs) (t := 2) (b := j * 1) (j := 0) (u := .int .i64 99) (by kernel_rfl) rfl rfl (by omega)
    have hJ1' : ∀ ε a' w, Rel (ntOf Tryz.prog BplF) 1 eb R0 ⟨bpSlT a n cap i ++ [(19, .ptr 1 8 0), (22, .val (.int .i64 ((j + 1 : Nat) : Int)))], bpH S ++ (bpA x ++ (bpD x ++ [((1, 30), legR x.dv.s.legs.length x.dv.s.legs), ((1, 31), .row 2 1 x.dv.vals.length (.shal (over xs.toArray (j * 1 + 0) [.int .i64 99]).toList) [])])), 2⟩ ε a' w → J1 a' w := hJ1 ⟨(j + 1, (over xs.toArray (j * 1 + 0) [.int .i64 99]).toList), h, by rw [over_len _ _ _ (by omega)]; exact hxs⟩ (by show _ - (j + 1) < _ - j; omega)
    clear hq hJ1
    exact leaf_round (lpK Tryz.prog BplF 1 [J]) false 400 [hB 33 4 _ _ z0, .opt 35 3 (.at_ 0 _ _ _ ⟨rfl, h⟩), hG 35 4 q1, hI 34 1 IntKind.i64 _ _ z9] hJ1' (by kernel_rfl)
  have z0 : decide ((j : Int) < (x.dv.vals.length : Int)) = false := decide_eq_false (by omega)
  clear hJ1
  refine go_loop (X := { y : Nat × List Value // y.1 ≤ x.dv.s.legs.length ∧ y.2.length = x.dv.s.legs.length * 3 }) 2 [J] (fun y => (bpSlT a n cap i ++ [(19, .ptr 1 8 0), (23, .val (.int .i64 (y.1.1 : Int)))], bpH S ++ (bpA x ++ (bpD x ++ [((1, 30), .row 48 3 x.dv.s.legs.length (.shal y.1.2) [])])))) (fun y => x.dv.s.legs.length - y.1.1) ⟨(0, cellsL encLeg x.dv.s.legs), Nat.zero_le _, cellsL_len encLeg_len _⟩ calNone false 400 [hB 33 4 _ _ z0] calNone_ok (by kernel_rfl) ?_
  clear z0 h hj hxs
  rintro ⟨⟨q, ys⟩, hq2, hys⟩ J2 hJ2
  dsimp only at hq2 hys
  by_cases h : q < x.dv.s.legs.length
  · have z0 : decide ((q : Int) < (x.dv.s.legs.length : Int)) = true := decide_eq_true (by omega)
    have z9 : IntKind.i64.wrap ((q : Int) + 1) = ((q + 1 : Nat) : Int) := by rw [wr_i64 (by omega)]; omega
    have q1 := elt_sto (P := Tryz.prog) (E := 48) (size := 3) (n := x.dv.s.legs.length) (xs := ys) (t := 46) (b := q * 3) (j := 2) (u := .int .u32 99) (by kernel_rfl) rfl rfl (by omega)
    have hJ2' : ∀ ε a' w, Rel (ntOf Tryz.prog BplF) 1 eb R0 ⟨bpSlT a n cap i ++ [(19, .ptr 1 8 0), (23, .val (.int .i64 ((q + 1 : Nat) : Int)))], bpH S ++ (bpA x ++ (bpD x ++ [((1, 30), .row 48 3 x.dv.s.legs.length (.shal (over ys.toArray (q * 3 + 2) [.int .u32 99]).toList) [])])), 2⟩ ε a' w → J2 a' w := hJ2 ⟨(q + 1, (over ys.toArray (q * 3 + 2) [.int .u32 99]).toList), h, by rw [over_len _ _ _ (by omega)]; exact hys⟩ (by show _ - (q + 1) < _ - q; omega)
    clear hq hJ2
    exact leaf_round (lpK Tryz.prog BplF 2 [J]) false 400 [hB 37 5 _ _ z0, .opt 39 4 (.at_ 0 _ _ _ ⟨rfl, h⟩), hG 39 6 q1, hI 38 1 IntKind.i64 _ _ z9] hJ2' (by kernel_rfl)
  · have z0 : decide ((q : Int) < (x.dv.s.legs.length : Int)) = false := decide_eq_false (by omega)
    clear hJ2
    exact leaf_cut (rgK Tryz.prog BplF 48 [J]) _ _ calNone false 400 [hB 37 5 _ _ z0, .stop 48] calNone_ok (by kernel_rfl) hq
theorem rdoc_put (l : List (DocV × DocA)) {i : Nat} (h : i < l.length) (p : DocV × DocA) : (over (cellsL docL l).toArray (i * 17 + 0) (docL p)).toList = cellsL docL (l.set i p) := by
  have e : cellsL docL l = cellsL docL (l.take i) ++ (docL l[i] ++ cellsL docL (l.drop (i + 1))) := by
    conv => lhs; rw [← List.take_append_drop i l, List.drop_eq_getElem_cons h]
    rw [cellsL_append]
    congr 1
  have e2 : cellsL docL (l.set i p) = cellsL docL (l.take i) ++ (docL p ++ cellsL docL (l.drop (i + 1))) := by
    rw [List.set_eq_take_append_cons_drop, if_pos h, cellsL_append]
    congr 1
  have l1 : (cellsL docL (l.take i)).length = i * 17 := by rw [cellsL_len doc_len, List.length_take]; congr 1; omega
  unfold over
  rw [e, e2]
  simp only [Nat.add_zero]
  have t1 : (cellsL docL (l.take i) ++ (docL l[i] ++ cellsL docL (l.drop (i + 1)))).take (i * 17) = cellsL docL (l.take i) := by rw [← l1, List.take_left]
  have t2 : (cellsL docL (l.take i) ++ (docL l[i] ++ cellsL docL (l.drop (i + 1)))).drop (i * 17 + (docL p).length) = cellsL docL (l.drop (i + 1)) := by
    rw [← List.append_assoc]
    have l2 : (cellsL docL (l.take i) ++ docL l[i]).length = i * 17 + (docL p).length := by rw [List.length_append, l1]; rfl
    rw [← l2, List.drop_left]
  show (List.take (i * 17) _ ++ docL p ++ List.drop (i * 17 + (docL p).length) _) = _
  rw [t1, t2, List.append_assoc]
theorem bp_doc (ok : BpOk F S) (ha : Act15P S.G x) (g : x.d = 1)
    (hq : ∀ S' : BpX, BpOk F S' → Go Tryz.prog BplF ret rp eb R0 .nrm (rgK Tryz.prog BplF 48 [J]) (bpSlT a n cap i) (bpH S' ++ bpA x)) :
    Go Tryz.prog BplF ret rp eb R0 .nrm (rgK Tryz.prog BplF 16 [J]) (bpSlA a n cap i) (bpH S ++ bpA x) := by
  have e0 : decide (x.d = 0) = false := decide_eq_false (by omega)
  have e1 : decide (x.d = 1) = true := decide_eq_true g
  have k1 := app_nilG (P := Tryz.prog) (t := 40) (t' := 40) (e := 2) (e' := 2) (size := 1) (j := 9) (F := S.G) (a := x.da.va) (n := x.dv.vals.length) (cap := x.da.vc) (xs := x.dv.vals.map (.int .i64)) Tryz.underlying40 Tryz.underlying40 (by kernel_rfl) (by rw [List.length_map, Nat.mul_one]) (ints_one .i64 _) ha.da.v ha.sm.nv
  have k2 := app_nilG (P := Tryz.prog) (t := 33) (t' := 33) (e := 48) (e' := 48) (size := 3) (j := 9) (F := S.G) (a := x.da.la) (n := x.dv.s.legs.length) (cap := x.da.lc) (xs := cellsL encLeg x.dv.s.legs) Tryz.underlying33 Tryz.underlying33 (by kernel_rfl) (cellsL_len encLeg_len _) (legs_one _) ha.da.l ha.sm.nl
  have c2 := rdoc_w S.L S.R x.dv.t (by have := ok.cur.l32; omega)
  rcases tIx_lk S.G ok.cur x.dv.t with ⟨d1, d2⟩ | ⟨k, p, d1, hp, ht, d2⟩ <;> rw [d1] at c2
  · have c1 := setDocT_no S.G (ta := x.da.ta) (tc := x.da.tc) ha.dt d2
    have hq := hq S ok
    clear ok ha d1 d2 g
    exact leaf_cut (rgK Tryz.prog BplF 48 [J]) _ _ calNone false 400 [hB 18 0 _ _ e0, hB 22 0 _ _ e1, hG 24 3 k1, hG 25 4 k2, hC 26 2 c1, hC 27 3 c2, .stop 48] calNone_ok (by kernel_rfl) hq
  · have c1 := setDocT_ok S.G (ta := x.da.ta) (tc := x.da.tc) ha.da.t ha.sl.t ha.dt d2 ok.cur.bi.ex.bk.nodup ha.sm
    have hkl := (List.getElem?_eq_some_iff.1 hp).1
    have z0 : decide ((k : Int) < 0) = false := decide_eq_false (by omega)
    have q1 := q_idx (P := Tryz.prog) (t := 63) (i := k) (k := .i64) (E := 42) (size := 17) (enc := docL) S.L (fun _ => rfl) (by decide) (by kernel_rfl) hkl
    have q2 := q_store (P := Tryz.prog) (t := 42) (b := k * 17) (j := 0) (cs := docSA x.dv x.da) (us := docL (x.dv, x.da)) (E := 42) (size := 17) (enc := docL) S.L (S.L.set k (x.dv, x.da)) (by kernel_rfl) (fun _ => rfl) rfl (by rw [cellsL_len doc_len]; omega) (by rw [cellsL_len doc_len]; show k * 17 + 0 + 17 ≤ _; omega) (List.length_set ..) (rdoc_put _ hkl _)
    have hov := bp_over ha.sm (hq ⟨S.G, S.B.setD x.dv, S.L.set k (x.dv, x.da), { S.R with docs := (S.L.set k (x.dv, x.da)).map nrm }, S.Bh, S.Lh, S.Rh⟩ ⟨ok.ext, ok.back, ok.cur.setD hp ht ha.dok ha.sm ha.da, ok.old⟩)
    clear ok ha d1 d2 g hq hp ht hkl
    exact leaf_cut (rgK Tryz.prog BplF 32 [J]) _ _ calNone false 400 [hB 18 0 _ _ e0, hB 22 0 _ _ e1, hG 24 3 k1, hG 25 4 k2, hC 26 2 c1, hC 27 3 c2, hG 31 7 q1, hG 31 8 q2, .stop 32] calNone_ok (by kernel_rfl) hov
theorem bp_half (ok : BpOk F S) (hi : i ≤ 1000) (hn : n ≤ 1000) (hq : ∀ S' : BpX, BpOk F S' → S'.G = S.G → Go Tryz.prog BplF ret rp eb R0 .nrm (rgK Tryz.prog BplF 16 [J]) (bpSlA a n cap i) (bpH S' ++ bpA x)) :
    Go Tryz.prog BplF ret rp eb R0 .nrm (rgK Tryz.prog BplF 14 [J]) (bpSlA a n cap i) (bpH S ++ bpA x) := by
  have w1 : IntKind.i64.wrap (Int.tdiv (n : Int) 2) = ((n / 2 : Nat) : Int) := by
    rw [Int.tdiv_eq_ediv_of_nonneg (by omega), wr_i64 (by omega)]; omega
  rcases Bool.eq_false_or_eq_true (decide ((i : Int) = ((n / 2 : Nat) : Int))) with g | g
  · have c1 := clone_b S.B ok.cur.bi.ex.cl ok.cur.bi.ex.bk.nodup
    have c2 := rclone_w S.L S.R (by have := ok.cur.l32; omega) ok.cur.own_n ok.cur.held_n
    have hq := hq ⟨S.G, S.B, S.L, S.R, S.B, S.L, S.R⟩ ⟨ok.ext, ok.back, ok.cur, ok.cur⟩ rfl
    clear ok
    refine refM_close (n0 := (1, 1)) (H := bpZ S ++ bpA x) (by kernel_rfl) ?_
    refine leaf_cut (rgK Tryz.prog BplF 16 [J]) (bpSlA a n cap i) (((1, 1), .fam (refF (rdQ S.L) S.R)) :: (bpZ ⟨S.G, S.B, S.L, S.R, S.B, S.L, S.R⟩ ++ bpA x)) calNone false 400 [hI 14 3 IntKind.i64 _ _ w1, hB 14 4 _ _ g, hC 15 1 c1, hC 15 3 c2, .stop 16] calNone_ok (by kernel_rfl) ?_
    exact go_ref 1 11 12 13 (by kernel_rfl) (by kernel_rfl) (by kernel_rfl) (by kernel_rfl) hq
  · have hq := hq S ok rfl
    clear ok
    exact leaf_cut (rgK Tryz.prog BplF 16 [J]) _ _ calNone false 400 [hI 14 3 IntKind.i64 _ _ w1, hB 14 4 _ _ g, .stop 16] calNone_ok (by kernel_rfl) hq
end
theorem kid0_ok : KidOk kid0 := ⟨⟨by decide, by decide⟩, by decide, by decide⟩
theorem rsame15_end {F G : CF} (hb : ∀ b v R w, Mem (G b v :: R) w → Mem (F b v :: R) w) {L M : List (DocV × DocA)} {R S : RefV} {r : SV} (h : CallOK Tryz.prog RSame15F [.ptr 0 0 0, .ptr 0 20 0] (sm2H L M R S G) [] r []) :
    CallOK Tryz.prog RSame15F [.ptr 0 0 0, .ptr 0 20 0] [] (sm2H L M R S G) r (sm2H L M R S F) := by
  have h1 := h.of_rd
  rw [List.append_nil] at h1
  exact h1.post_mono fun ε Z w hM => by
    have h2 := hb _ _ _ _ (hM.front 8 rfl)
    exact mem_perm (List.perm_middle (l₁ := [_, _, _, _, _, _, _, _])).symm h2
section
variable {F : CF} {a : Option Addr} {n cap i : Nat} {S : BpX} {eb : Env} {R0 : List Chunk}
theorem bp_end (ok : BpOk F S) : Go Tryz.prog BplF (.val (.bool true)) ([((0, 9), .fam F)] ++ []) eb R0 .nrm (rgK Tryz.prog BplF 50 []) (bpSl a n cap i) (bpH S) := by
  have c1 := tells_o S.G ok.old kid0_ok
  have c2 := same_c S.Bh S.B ok.old.bi.ex.ds ok.cur.bi.ex.ds
  rw [sameB_eq ok.old ok.cur] at c2
  have c3 := rsame15_end ok.back (rsame15_o S.G (L := S.Lh) (M := S.L) (R := S.Rh) (S := S.R) ok.old.sal ok.cur.sal (by have := ok.old.l32; omega) ok.old.own_n ok.old.held_n)
  have c4 := clone_b S.B ok.cur.bi.ex.cl ok.cur.bi.ex.bk.nodup
  have c5 := same_c S.B S.B ok.cur.bi.ex.ds ok.cur.bi.ex.ds
  rw [sameB_self ok.cur.bi.ex.bk.nodup ok.cur.no ok.cur.nh] at c5
  have c9 := wakes15_w
  clear ok
  generalize refEqB S.Lh S.L S.Rh S.R = b at *
  refine go_open (X := Unit) (fun _ => (((1, 3), SC.fam (refF (rdQ S.Lh) S.Rh)) :: (rfM (rdQ S.L) S.R (1, 1) (1, 11) (1, 12) (1, 13) ++ [((0, 9), SC.fam S.G), ((1, 0), SC.fam (bookF S.B)), ((1, 2), SC.fam (bookF S.Bh))]) : Heap)) (fun ε w hM => ⟨(), by
    have h1 := hM.front 7 rfl
    exact h1⟩) (fun _ => by kernel_rfl) fun _ => ?_
  refine go_ref 3 14 15 16 (by kernel_rfl) (by kernel_rfl) (by kernel_rfl) (by kernel_rfl) ?_
  cases b
  · exact leaf_end calNone false 400 [hC 50 3 c1, hC 50 7 c2, hC 50 10 c3, hC 50 16 c4, hC 50 17 c5, hC 50 20 c9] calNone_ok (by kernel_rfl)
  · exact leaf_end calNone false 400 [hC 50 3 c1, hC 50 7 c2, hC 50 10 c3, hC 50 16 c4, hC 50 17 c5, hC 50 20 c9] calNone_ok (by kernel_rfl)
end
theorem greatX_all {x : Act15} (h : greatX x = false) : x.s.legs.length ≤ 20 ∧ x.s.taxes.length ≤ 20 ∧ x.dv.vals.length ≤ 20 ∧ x.dv.s.legs.length ≤ 20 ∧ x.dv.s.taxes.length ≤ 20 := by
  unfold greatX at h
  simp only [Bool.or_eq_false_iff, decide_eq_false_iff_not] at h
  omega
theorem greatB15_all {acts : List Act15} (h : greatB15 acts = false) : acts.length ≤ 150 ∧ ∀ x ∈ acts, x.s.legs.length ≤ 20 ∧ x.s.taxes.length ≤ 20 ∧ x.dv.vals.length ≤ 20 ∧ x.dv.s.legs.length ≤ 20 ∧ x.dv.s.taxes.length ≤ 20 := by
  unfold greatB15 at h
  rw [Bool.or_eq_false_iff] at h
  refine ⟨by have := of_decide_eq_false h.1; omega, fun x hx => ?_⟩
  have := List.any_eq_false.1 h.2 x hx
  exact greatX_all (by simpa using this)
theorem bplays_loop (F : CF) {self n : Int} (hk : 0 ≤ self ∧ self < n ∧ 2 ≤ n ∧ n ≤ 8) {a : Option Addr} {cap : Nat} {acts : List Act15} (hRa : ∀ b v, Rd (F b v) a (cellsL act15C acts)) (hl : acts.length ≤ 150) (hA : ∀ y ∈ acts, Act15P F y) {eb : Env} {R0 : List Chunk} :
    Go Tryz.prog BplF (.val (.bool true)) ([((0, 9), .fam F)] ++ []) eb R0 .nrm (rgK Tryz.prog BplF 10 []) [(2, .val (.slice a acts.length cap)), (7, .ptr 1 0 0), (9, .ptr 1 1 0), (10, .ptr 1 2 0), (11, .ptr 1 3 0)] (bpH ⟨F, bookNew self n, [], refNew self n, bookNew self n, [], refNew self n⟩) := by
  have g0 := Good.new F self n hk
  refine go_loop (X := { y : Nat × BpX // y.1 ≤ acts.length ∧ BpOk F y.2 }) 0 [] (fun y => (bpSl a acts.length cap y.1.1, bpH y.1.2)) (fun y => acts.length - y.1.1) ⟨(0, ⟨F, bookNew self n, [], refNew self n, bookNew self n, [], refNew self n⟩), Nat.zero_le _, fun _ _ h => h, fun _ _ _ _ h => h, g0, g0⟩ calNone false 400 [] calNone_ok (by kernel_rfl) ?_
  clear g0
  rintro ⟨⟨i, S⟩, hi, ok⟩ J hJ
  dsimp only at hi ok
  show Go Tryz.prog BplF (.val (.bool true)) ([((0, 9), .fam F)] ++ []) eb R0 .nrm (.code (lpB Tryz.prog BplF 0 []) :: .lp J :: lpK Tryz.prog BplF 0 []) (bpSl a acts.length cap i) (bpH S)
  by_cases h : i < acts.length
  · have z0 : decide ((i : Int) < (acts.length : Int)) = true := decide_eq_true (by omega)
    have hin : acts.getD i act15Z ∈ acts := List.mem_of_getElem? (getD_some h act15Z)
    have ha := hA _ hin
    have q1 := idx_openG (P := Tryz.prog) (t := AT15) (e := 57) (size := 46) (j := 9) (k := .i64) (cap := cap) (n := acts.length) Tryz.underlying22 (by kernel_rfl) (acts15_len acts) (ok.ext _ _ hRa) h
    have hpos : 0 < (cellsL act15C acts).length := by rw [acts15_len]; omega
    have q2 := load_openG0 (P := Tryz.prog) (t := 57) (k := i * 46) (j := 9) (u := .agg (act15X (acts.getD i act15Z))) (by kernel_rfl) (ok.ext _ _ hRa) (act15_nth h) hpos
    have tl : ∀ S' : BpX, BpOk F S' → Go Tryz.prog BplF (.val (.bool true)) ([((0, 9), .fam F)] ++ []) eb R0 .nrm (rgK Tryz.prog BplF 48 [J]) (bpSlT a acts.length cap i) (bpH S' ++ bpA (acts.getD i act15Z)) := fun S' ok' => bp_tell ok' ha.rd.k (by omega) (hJ ⟨(i + 1, S'), h, ok'⟩ (by show _ - (i + 1) < _ - i; omega))
    clear hJ
    generalize acts.getD i act15Z = x at *
    have fin : Go Tryz.prog BplF (.val (.bool true)) ([((0, 9), .fam F)] ++ []) eb R0 .nrm (rgK Tryz.prog BplF 14 [J]) (bpSlA a acts.length cap i) (bpH S ++ bpA x) := by
      refine bp_half ok (by omega) (by omega) fun S' ok' eG => ?_
      have ha' := ha.ext ok'.ext
      by_cases d0 : x.d = 0
      · by_cases hm : S'.B.issE x.s = 0
        · exact bp_iss1 ok' ha' d0 hm fun va vc ok2 => tl _ ok2
        · exact bp_iss0 ok' ha' d0 hm (tl _ ok')
      by_cases d1 : x.d = 1
      · exact bp_doc ok' ha' d1 tl
      by_cases d2 : x.d = 2
      · exact bp_own ok' ha' d2 (tl _ ⟨ok'.ext, ok'.back, ok'.cur.setO x.k ha.rd.o, ok'.old⟩)
      by_cases d3 : x.d = 3
      · exact bp_held ok' ha' d3 (tl _ ⟨ok'.ext, ok'.back, ok'.cur.setH ha.rd.k x.h, ok'.old⟩)
      · exact bp_look d0 d1 d2 d3 (tl _ ok')
    clear tl ok ha hA hin
    exact leaf_cut (rgK Tryz.prog BplF 14 [J]) _ _ calNone false 400 [hB 11 3 _ _ z0, hG 13 2 q1, hG 13 3 q2, .stop 14] calNone_ok (by kernel_rfl) fin
  · have e : i = acts.length := by omega
    subst e
    have z0 : decide ((acts.length : Int) < (acts.length : Int)) = false := decide_eq_false (by omega)
    have fin := bp_end (a := a) (n := acts.length) (cap := cap) (i := acts.length) (eb := eb) (R0 := R0) ok
    clear hJ ok
    exact leaf_cut (rgK Tryz.prog BplF 50 []) _ _ calNone false 400 [hB 11 3 _ _ z0, .stop 50] calNone_ok (by kernel_rfl) fin
theorem bplays_law (F : CF) {self n : Int} (hs : 0 ≤ self ∧ self ≤ 255) {a : Option Addr} {cap : Nat} {acts : List Act15} (hRa : ∀ b v, Rd (F b v) a (cellsL act15C acts)) (hl : acts.length ≤ 9223372036854775807) (hf : ∀ y ∈ acts, Lens y)
    (hA : greatB15 acts = false → ∀ y ∈ acts, Act15P F y) :
    CallOK Tryz.prog BplF [.val (.int .u8 self), .val (.int .i64 n), .val (.slice a acts.length cap)] [((0, 9), .fam F)] [] (.val (.bool true)) [] := by
  have c0 := great15_w F (cap := cap) hRa hl hf
  have c9 := wakes15_w
  rcases Bool.eq_false_or_eq_true (greatB15 acts) with g | g
  · rw [g] at c0
    exact callOK_run 400 [hC 1 1 c0, hC 2 0 c9] (by kernel_rfl) (by kernel_rfl)
  rw [g] at c0
  have hA := hA g
  have hlen := (greatB15_all g).1
  by_cases hb : bookE self n = 0
  case neg =>
    have c1 := new_noC hs hb
    have c2 := rnew_no (self := self) (n := n) hs (by
      unfold bookE at hb
      rcases Bool.eq_false_or_eq_true (decide (n < 2)) with e1 | e1
      · exact .inl (of_decide_eq_true e1)
      rcases Bool.eq_false_or_eq_true (decide (8 < n)) with e2 | e2
      · exact .inr (.inl (of_decide_eq_true e2))
      rcases Bool.eq_false_or_eq_true (decide (n ≤ self)) with e3 | e3
      · exact .inr (.inr (of_decide_eq_true e3))
      · rw [e1, e2, e3] at hb; exact absurd rfl hb)
    clear hb
    exact callOK_run 400 [hC 1 1 c0, hC 3 2 c1, hC 4 2 c2, hC 6 7 c9] (by kernel_rfl) (by kernel_rfl)
  have hk := bookE_ok hs.1 hb
  have c1 := new_okC hs hb
  have c2 := rnewQ_c (self := self) (n := n) ⟨hk.1, hk.2.1⟩ hk.2.2.1 hk.2.2.2
  have g0 := Good.new F self n hk
  have c3 := clone_b (bookNew self n) g0.bi.ex.cl g0.bi.ex.bk.nodup
  have c4 := rclone_w [] (refNew self n) (Nat.zero_le _) (Nat.zero_le _) (Nat.zero_le _)
  refine callOK_intro (by kernel_rfl) fun eb R0 => ?_
  have fin := bplays_loop F hk (cap := cap) hRa hlen hA (eb := eb) (R0 := R0)
  clear g0 hb hA hf hk
  generalize bookNew self n = B0 at *
  generalize refNew self n = W0 at *
  refine leaf_cut (rgK Tryz.prog BplF 10 []) [(2, .val (.slice a acts.length cap)), (7, .ptr 1 0 0), (9, .ptr 1 1 0), (10, .ptr 1 2 0), (11, .ptr 1 3 0)] (((1, 1), .fam (refF (rdQ []) W0)) :: bpZ ⟨F, B0, [], W0, B0, [], W0⟩) calNone false 400 [hC 1 1 c0, hC 3 2 c1, hC 4 2 c2, hC 9 1 c3, hC 9 3 c4, .stop 10] calNone_ok (by kernel_rfl) ?_
  exact go_ref 1 11 12 13 (by kernel_rfl) (by kernel_rfl) (by kernel_rfl) (by kernel_rfl) fin
theorem act15P_of {w : World} {x : Act15} (h : Act15In w x) (g : x.s.legs.length ≤ 20 ∧ x.s.taxes.length ≤ 20 ∧ x.dv.vals.length ≤ 20 ∧ x.dv.s.legs.length ≤ 20 ∧ x.dv.s.taxes.length ≤ 20) : Act15P (fun _ _ => oldC w) x where
  rd := act15Rd_of h (by omega) (by omega)
  da := ⟨fun _ _ => rd_old h.da.legs, fun _ _ => rd_old h.da.taxes, fun _ _ => rd_old h.dv⟩
  sl := ⟨slOk_row h.da.legs (fun _ e => by rw [cellsL_len encLeg_len] at e; omega) h.da.lnil, slOk_row h.da.taxes (fun _ e => by rw [encTaxL_len] at e; omega) h.da.tnil, slOk_row h.dv (fun _ e => by rw [List.length_map] at e; omega) h.dvn⟩
  dok := h.dok.small (by omega) (by omega)
  sm := ⟨by omega, by omega, by omega⟩
  dt := h.dt
theorem bplays15_any (self n : Int) (a : Option Addr) (l : List Act15) (c : Nat) (w : World) (hs : (Lit.int .u8 self).wf = true) (hn0 : (Lit.int .i64 n).wf = true) (hr : Row w a (cellsL act15C l)) (hn : a = none → c = 0) (hl : l.length ≤ maxLen) (ok : ∀ x ∈ l, Act15In w x) :
    Calls Tryz.prog BplF #[.int .u8 self, .int .i64 n, .slice a l.length c] w fun e w' => e = .returned (.bool true) ∧ Below w.heap.size w w' :=
  (bplays_law (fun _ _ => oldC w) (wfu8 hs) (cap := c) (fun _ _ => rd_old hr) (maxLen_le hl) (fun y hy => lens_of (ok y hy))
    (fun hg y hy => act15P_of (ok y hy) ((greatB15_all hg).2 y hy)) (fun _ _ => (0, undef)) [] w (Mem.old w)).mono fun e w' ⟨x, h, hm⟩ => ⟨h, (show Mem (oldC w :: []) w' from hm).below 0 rfl⟩
end Go.Proofs.YtmhbpifhpolghaaGreat
end
section
namespace Go.Proofs.YtmhbpifhpolghaaGreat.bookPlaysF
open Go
theorem closed : joinedFacts Tryz.pinned.checked.prog 3 Tryz.f3 Rows.bookPlaysSpec Rows.bookPlaysRow = true := by kernel_rfl
theorem inst : Tryz.f3.isInstance Tryz.pinned.checked.prog Rows.bookPlaysRow.origin Rows.bookPlaysRow.targs := of_decide_eq_true (by kernel_rfl)
theorem wrap : Tryz.f3.isWrapper Tryz.pinned.checked.prog Rows.bookPlaysRow.wrapper Rows.bookPlaysRow.mainSum := by
  unfold Func.isWrapper
  first | (rw [if_pos (by decide +kernel)]; kernel_rfl) | (rw [if_neg (by decide +kernel)]; exact ⟨rfl, rfl⟩)
end Go.Proofs.YtmhbpifhpolghaaGreat.bookPlaysF
end
