/- Rf17, Rf18, BpW, OpF, FsBillPlays. -/
import Derived.Test.YtnkghdakjdhhdaaGreatMcaf8710
import Derived.Test.YtnkghdakjdhhdaaGreatMc817215
import Derived.Test.YtnkghdakjdhhdaaGreatRlP
import Derived.Test.YtnkghdakjdhhdaaGreatM0eb1c47
import Derived.Test.YtnkghdakjdhhdaaGreatRows
import Derived.Test.YtnkghdakjdhhdaaGreatChecked
import Derived.ProofKit
import Derived.OpenShut
import Derived.ShutString
import Derived.ChangeOld
import Derived.Below
set_option maxRecDepth 100000
set_option linter.unusedVariables false
set_option linter.unusedSimpArgs false
set_option linter.unusedSectionVars false
section
namespace Go.Proofs.YtnkghdakjdhhdaaGreat
open Go.RowKit Go.Lib Go.Tk Go.Shelf Go.Vc Go.Sx
theorem rd_congr {P : Program} {f : Nat} {args : List SV} {rd rd' : Heap} {ret : SV} (he : ∀ ε, hden ε rd = hden ε rd') (h : CallOK P f args rd [] ret []) : CallOK P f args rd' [] ret [] := by
  intro ε R w hM
  rw [List.append_nil, ← he, ← List.append_nil rd] at hM
  refine (h ε R w hM).mono ?_
  rintro e w' ⟨x, h1, h2⟩
  refine ⟨x, h1, ?_⟩
  rw [List.append_nil] at h2 ⊢
  rw [← he]; exact h2
def RSame16F : Nat := 45
def outEq (a b : OutV) : Bool := decide (a.dst = b.dst) && ((decide (a.m.kind = b.m.kind) && ((((decide (a.m.key.t.c = b.m.key.t.c) && (decide (a.m.key.t.r = b.m.key.t.r) && true)) && (decide (a.m.key.i = b.m.key.i) && true))) && (((decide (a.m.k.l.c = b.m.k.l.c) && (decide (a.m.k.l.f = b.m.k.l.f) && (decide (a.m.k.l.x = b.m.k.l.x) && true))) && (decide (a.m.k.v = b.m.k.v) && (decide (a.m.k.s = b.m.k.s) && (decide (a.m.k.n = b.m.k.n) && true)))) && (decide (a.m.amt = b.m.amt) && (decide (a.m.code = b.m.code) && true))))) && true)
theorem outEq_self (a : OutV) : outEq a a = true := by unfold outEq; simp
theorem same16_0 : CallOK Tryz.prog RSame16F [.raw 0 0, .raw 0 1] [((0, 0), outsR []), ((0, 1), outsR [])] [] (.val (.bool true)) [] := callOK_runU 400 [] (by kernel_rfl) (by kernel_rfl)
theorem same16_1 (x : OutV) : CallOK Tryz.prog RSame16F [.raw 0 0, .raw 0 1] [((0, 0), outsR [x]), ((0, 1), outsR [x])] [] (.val (.bool true)) [] := by
  have e : (!outEq x x) = false := by rw [outEq_self]; rfl
  unfold outEq at e
  exact callOK_runU 400 [hB 6 8 _ _ e] (by kernel_rfl) (by kernel_rfl)
theorem outs_he (l : List OutV) (ε : Env) : hden ε [((0, 0), outsR l), ((0, 1), outsR l)] = hden ε [((0, 0), outsC l), ((0, 1), outsC l)] := by
  simp only [hden, List.map_cons, List.map_nil, outs_den]
theorem same16_w {l : List OutV} (h : l.length ≤ 1) : CallOK Tryz.prog RSame16F [.raw 0 0, .raw 0 1] [((0, 0), outsC l), ((0, 1), outsC l)] [] (.val (.bool true)) [] := by
  refine rd_congr (outs_he l) ?_
  rcases l with _ | ⟨x, _ | ⟨y, l⟩⟩
  · exact same16_0
  · exact same16_1 x
  · simp only [List.length_cons] at h; omega
def RSame06F : Nat := 78
theorem rsame06_w (G : CF) {a : Option Addr} {c : Nat} {l : List Int} (hR : ∀ b v, Rd (G b v) a (l.map (.int .i64))) (hl : l.length ≤ 1073741824) {n : Nat} (hn : n = l.length) :
    CallOK Tryz.prog RSame06F [.raw 0 12, .val (.slice a n c)] [((0, 12), i64R n l), ((0, 8), .fam G)] [] (.val (.bool true)) [] := by
  subst hn
  have n0 : (!decide ((l.length : Int) = (l.length : Int))) = false := by simp
  refine callOK_intro (by kernel_rfl) fun eb R => ?_
  refine go_loop (X := { i : Nat // i ≤ l.length }) 0 [] (fun y => ([(0, .raw 0 12), (1, .val (.slice a l.length c)), (5, .val (.int .i64 (y.1 : Int)))], [((0, 12), i64R l.length l), ((0, 8), .fam G)])) (fun y => l.length - y.1) ⟨0, Nat.zero_le _⟩ calNone false 400 [hB 1 4 _ _ n0] calNone_ok (by kernel_rfl) ?_
  rintro ⟨i, hi⟩ J hJ
  by_cases h : i < l.length
  · have z0 : decide ((i : Int) < (l.length : Int)) = true := decide_eq_true (by omega)
    have z9 : IntKind.i64.wrap ((i : Int) + 1) = ((i + 1 : Nat) : Int) := by rw [wr_i64 (by omega)]; omega
    have nth : ∀ (ε : Env) (q : Nat) (v : SV), ([.val (.int .i64 (l.getD i 0))] : List SV)[q]? = some v → (l.map (Value.int .i64))[i * 1 + q]? = some (v.den ε) := fun ε q v hq => by
      cases q with
      | succ q => cases hq
      | zero =>
        cases hq
        rw [Nat.mul_one, Nat.add_zero, List.getElem?_map, getD_some h 0]; rfl
    have q1 := load_eltG (P := Tryz.prog) (t := 2) (cs := [.val (.int .i64 (l.getD i 0))]) (n := l.length) (p := 0) (j := 0) (b := i * 1) (E := 2) (size := 1) (u := .val (.int .i64 (l.getD i 0))) (xs := l.map (.int .i64)) (by kernel_rfl) nth
    have q2 := idx_openG (P := Tryz.prog) (t := 65) (e := 2) (size := 1) (j := 8) (k := .i64) (cap := c) (n := l.length) Tryz.underlying65 (by kernel_rfl) (by rw [List.length_map, Nat.mul_one]) hR h
    have q3 := load_openG0 (P := Tryz.prog) (t := 2) (k := i * 1) (j := 8) (cs := [.val (.int .i64 (l.getD i 0))]) (u := .val (.int .i64 (l.getD i 0))) (by kernel_rfl) hR nth (by rw [List.length_map]; omega)
    have e1 : (!decide (l.getD i 0 = l.getD i 0)) = false := by simp
    have hJ' := hJ ⟨i + 1, h⟩ (by show _ - (i + 1) < _ - i; omega)
    clear hJ n0
    exact leaf_round (lpK Tryz.prog RSame06F 0 []) false 400 [hB 4 3 _ _ z0, .opt 6 2 (.at_ 0 _ _ _ ⟨rfl, h⟩), hG 6 3 q1, hG 6 6 q2, hG 6 7 q3, hB 6 8 _ _ e1, hI 5 1 IntKind.i64 _ _ z9] hJ' (by kernel_rfl)
  · have he : i = l.length := by omega
    subst he
    have z0 : decide ((l.length : Int) < (l.length : Int)) = false := decide_eq_false (by omega)
    clear hJ n0
    exact leaf_end calNone false 400 [hB 4 3 _ _ z0] calNone_ok (by kernel_rfl)
def RSame09F : Nat := 77
def rsH (F : CF) (s : SaleV) (A : SaleA) : Heap := [((0, 10), legR s.legs.length s.legs), ((0, 11), taxR s.taxes.length s.taxes), ((0, 9), .fam F), ((1, 0), .box none (salS s (.raw 0 10) (.raw 0 11))), ((1, 1), .box none (salS s (.val (.slice A.la s.legs.length A.lc)) (.val (.slice A.ta s.taxes.length A.tc))))]
theorem rsame09_tax (F : CF) {s : SaleV} {A : SaleA} (ok : SaleOk s) (ht : ∀ b v, Rd (F b v) A.ta (cellsL encTax s.taxes)) {eb : Env} {R : List Chunk} {ret : Heap} :
    Go Tryz.prog RSame09F (.val (.bool true)) ([((0, 10), legR s.legs.length s.legs), ((0, 11), taxR s.taxes.length s.taxes), ((0, 9), .fam F)] ++ []) eb R .nrm (rgK Tryz.prog RSame09F 8 []) [(2, .ptr 1 0 0), (3, .ptr 1 1 0)] (rsH F s A) := by
  have nt := ok.nt
  refine go_loop (X := { i : Nat // i ≤ s.taxes.length }) 1 [] (fun y => ([(2, .ptr 1 0 0), (3, .ptr 1 1 0), (6, .val (.int .i64 (y.1 : Int)))], rsH F s A)) (fun y => s.taxes.length - y.1) ⟨0, Nat.zero_le _⟩ calNone false 400 [] calNone_ok (by kernel_rfl) ?_
  rintro ⟨i, hi⟩ J hJ
  by_cases h : i < s.taxes.length
  · have z0 : decide ((i : Int) < (s.taxes.length : Int)) = true := decide_eq_true (by omega)
    have z9 : IntKind.i64.wrap ((i : Int) + 1) = ((i + 1 : Nat) : Int) := by rw [wr_i64 (by omega)]; omega
    have hpos : 0 < (cellsL encTax s.taxes).length := by rw [cellsL_len encTax_len]; omega
    have q1 := load_eltG (P := Tryz.prog) (t := 189) (cs := taxS' (s.taxes.getD i rtax0)) (n := s.taxes.length) (p := 0) (j := 0) (b := i * 2) (E := 189) (size := 2) (u := .agg (taxS' (s.taxes.getD i rtax0))) (xs := cellsL encTax s.taxes) (by kernel_rfl) (taxS_nth (getD_some h rtax0))
    have q2 := idx_openG (P := Tryz.prog) (t := 62) (e := 189) (size := 2) (j := 9) (k := .i64) (cap := A.tc) (n := s.taxes.length) Tryz.underlying62 (by kernel_rfl) (cellsL_len encTax_len _) ht h
    have q3 := load_openG0 (P := Tryz.prog) (t := 189) (k := i * 2) (j := 9) (u := .agg (taxS' (s.taxes.getD i rtax0))) (by kernel_rfl) ht (taxS_nth (getD_some h rtax0)) hpos
    have hJ' := hJ ⟨i + 1, h⟩ (by show _ - (i + 1) < _ - i; omega)
    clear hJ
    generalize s.taxes.getD i rtax0 = x at *
    have e1 : (!(decide (x.code = x.code) && (decide (x.amt = x.amt) && true))) = false := by simp
    exact leaf_round (lpK Tryz.prog RSame09F 1 []) false 400 [hB 9 4 _ _ z0, .opt 11 3 (.at_ 0 _ _ _ ⟨rfl, h⟩), hG 11 4 q1, hG 11 8 q2, hG 11 9 q3, hB 11 10 _ _ e1, hI 10 1 IntKind.i64 _ _ z9] hJ' (by kernel_rfl)
  · have he : i = s.taxes.length := by omega
    subst he
    have z0 : decide ((s.taxes.length : Int) < (s.taxes.length : Int)) = false := decide_eq_false (by omega)
    clear hJ
    exact leaf_end calNone false 400 [hB 9 4 _ _ z0] calNone_ok (by kernel_rfl)
theorem rsame09_w (F : CF) {s : SaleV} {A : SaleA} (ok : SaleOk s) (hl : ∀ b v, Rd (F b v) A.la (cellsL encLeg s.legs)) (ht : ∀ b v, Rd (F b v) A.ta (cellsL encTax s.taxes)) :
    CallOK Tryz.prog RSame09F [.agg (salS s (.raw 0 10) (.raw 0 11)), .agg (salS s (.val (.slice A.la s.legs.length A.lc)) (.val (.slice A.ta s.taxes.length A.tc)))] [((0, 10), legR s.legs.length s.legs), ((0, 11), taxR s.taxes.length s.taxes), ((0, 9), .fam F)] [] (.val (.bool true)) [] := by
  have nl := ok.nl
  have n1 : (!(s.name.toList == s.name.toList)) = false := by simp
  have n2 : (!decide (s.fare = s.fare)) = false := by simp
  have n3 : (!decide (s.pen = s.pen)) = false := by simp
  have n4 : (!decide ((s.legs.length : Int) = (s.legs.length : Int))) = false := by simp
  have n5 : (!decide ((s.taxes.length : Int) = (s.taxes.length : Int))) = false := by simp
  refine callOK_intro (by kernel_rfl) fun eb R => ?_
  have fin := rsame09_tax F (A := A) ok ht (eb := eb) (R := R) (ret := [])
  refine go_loop (X := { i : Nat // i ≤ s.legs.length }) 0 [] (fun y => ([(2, .ptr 1 0 0), (3, .ptr 1 1 0), (5, .val (.int .i64 (y.1 : Int)))], rsH F s A)) (fun y => s.legs.length - y.1) ⟨0, Nat.zero_le _⟩ calNone false 400 [hB 1 4 _ _ n1, hB 1 10 _ _ n2, hB 1 17 _ _ n3, hB 1 26 _ _ n4, hB 1 35 _ _ n5] calNone_ok (by kernel_rfl) ?_
  clear n1 n2 n3 n4 n5
  rintro ⟨i, hi⟩ J hJ
  by_cases h : i < s.legs.length
  · have z0 : decide ((i : Int) < (s.legs.length : Int)) = true := decide_eq_true (by omega)
    have z9 : IntKind.i64.wrap ((i : Int) + 1) = ((i + 1 : Nat) : Int) := by rw [wr_i64 (by omega)]; omega
    have hpos : 0 < (cellsL encLeg s.legs).length := by rw [cellsL_len encLeg_len]; omega
    have q1 := load_eltG (P := Tryz.prog) (t := 31) (cs := legS' (s.legs.getD i leg0)) (n := s.legs.length) (p := 0) (j := 0) (b := i * 3) (E := 31) (size := 3) (u := .agg (legS' (s.legs.getD i leg0))) (xs := cellsL encLeg s.legs) (by kernel_rfl) (legS_nth (getD_some h leg0))
    have q2 := idx_openG (P := Tryz.prog) (t := 61) (e := 31) (size := 3) (j := 9) (k := .i64) (cap := A.lc) (n := s.legs.length) Tryz.underlying61 (by kernel_rfl) (cellsL_len encLeg_len _) hl h
    have q3 := load_openG0 (P := Tryz.prog) (t := 31) (k := i * 3) (j := 9) (u := .agg (legS' (s.legs.getD i leg0))) (by kernel_rfl) hl (legS_nth (getD_some h leg0)) hpos
    have hJ' := hJ ⟨i + 1, h⟩ (by show _ - (i + 1) < _ - i; omega)
    clear hJ fin
    generalize s.legs.getD i leg0 = x at *
    have e1 : (!(decide (x.c = x.c) && (decide (x.f = x.f) && (decide (x.x = x.x) && true)))) = false := by simp
    exact leaf_round (lpK Tryz.prog RSame09F 0 []) false 400 [hB 4 4 _ _ z0, .opt 6 3 (.at_ 0 _ _ _ ⟨rfl, h⟩), hG 6 4 q1, hG 6 8 q2, hG 6 9 q3, hB 6 10 _ _ e1, hI 5 1 IntKind.i64 _ _ z9] hJ' (by kernel_rfl)
  · have he : i = s.legs.length := by omega
    subst he
    have z0 : decide ((s.legs.length : Int) < (s.legs.length : Int)) = false := decide_eq_false (by omega)
    clear hJ
    exact leaf_cut (rgK Tryz.prog RSame09F 8 []) _ _ calNone false 400 [hB 4 4 _ _ z0, .stop 8] calNone_ok (by kernel_rfl) fin
def RDocsF : Nat := 23
theorem rdocs_w (F G : CF) {d : DocV} {a : DocA} (ok : SaleOk d.s) (hv : d.vals.length ≤ 1073741824) (h1 : ∀ b v, Rd (F b v) a.la (cellsL encLeg d.s.legs)) (h2 : ∀ b v, Rd (F b v) a.ta (cellsL encTax d.s.taxes)) (h3 : ∀ b v, Rd (G b v) a.va (d.vals.map (.int .i64))) :
    CallOK Tryz.prog RDocsF [.agg (docS d (.raw 0 10) (.raw 0 11) (.raw 0 12)), .agg (docSA d a)] [((0, 10), legR d.s.legs.length d.s.legs), ((0, 11), taxR d.s.taxes.length d.s.taxes), ((0, 12), i64R d.vals.length d.vals), ((0, 9), .fam F), ((0, 8), .fam G)] [] (.val (.bool true)) [] := by
  have c1 := rsame09_w F (A := ⟨a.la, a.lc, a.ta, a.tc⟩) ok h1 h2
  have c2 := rsame06_w G (c := a.vc) h3 hv rfl
  have n1 : (decide (d.t.c = d.t.c) && (decide (d.t.r = d.t.r) && true)) = true := by simp
  have n2 : (decide (d.frm.c = d.frm.c) && (decide (d.frm.r = d.frm.r) && true)) = true := by simp
  have n3 : (decide (d.dst.c = d.dst.c) && (decide (d.dst.r = d.dst.r) && true)) = true := by simp
  have n4 : decide (d.credit = d.credit) = true := by simp
  have n5 : decide (d.paid = d.paid) = true := by simp
  have n6 : decide (d.back = d.back) = true := by simp
  have n7 : decide (d.kept = d.kept) = true := by simp
  have n8 : decide (d.left = d.left) = true := by simp
  exact callOK_run 400 [hB 1 4 _ _ n1, hC 1 10 c1, hC 1 17 c2, hB 1 24 _ _ n2, hB 1 31 _ _ n3, hB 1 38 _ _ n4, hB 1 45 _ _ n5, hB 1 52 _ _ n6, hB 1 59 _ _ n7, hB 1 66 _ _ n8] (by kernel_rfl) (by kernel_rfl)
end Go.Proofs.YtnkghdakjdhhdaaGreat
end
section
namespace Go.Proofs.YtnkghdakjdhhdaaGreat
open Go.RowKit Go.Lib Go.Tk Go.Shelf Go.Vc Go.Sx
def DocsRd (F : CF) (l : List (DocV × SaleA)) : Prop := ∀ p ∈ l, (∀ b v, Rd (F b v) p.2.la (cellsL encLeg p.1.s.legs)) ∧ (∀ b v, Rd (F b v) p.2.ta (cellsL encTax p.1.s.taxes))
theorem rd_all {l : List Chunk} {c : Chunk} (h : c ∈ l) {a : Option Addr} {xs : List Value} (hr : Rd c a xs) : Rd (allC l) a xs := fun S w hw => by
  obtain ⟨i, hi⟩ := List.mem_iff_getElem?.1 h
  obtain ⟨F, -, h2, -⟩ := hw
  exact hr _ w (h2 i c hi)
def Alike16F : Nat := 46
def poolF (L : List (DocV × DocA)) : CF := fun _ _ => allC (L.map valsRow)
def alRd (F : CF) (R : RefV) (L : List (DocV × DocA)) : Heap := rfM (rdQ L) R (0, 20) (0, 21) (0, 22) (0, 23) ++ [((0, 8), .fam (poolF L)), ((0, 9), .fam F)]
def alH (F : CF) (B : BookV) (R : RefV) (L : List (DocV × DocA)) : Heap := alRd F R L ++ bkC B
theorem alike_keys (F : CF) {B : BookV} {R : RefV} {L : List (DocV × DocA)} (h : RelB B R) (eB : BIS B) (hko : ∀ k ∈ keysL B, KidOk k) (nd : (keysL B).Nodup) {eb : Env} {R0 : List Chunk} :
    Go Tryz.prog Alike16F (.val (.bool true)) (alRd F R L ++ bkC B) eb R0 .nrm (rgK Tryz.prog Alike16F 17 []) [(0, .ptr 0 0 0), (1, .ptr 0 20 0), (6, .raw 1 2)] (alH F B R L ++ [((1, 2), kidR (keysL B))]) := by
  have hl64 : (keysL B).length ≤ 64 := by rw [keysL_len]; exact eB.bi.hl
  have hat : ∀ k (hk : k < (keysL B).length), ∃ v, R.helds[k]? = some ((keysL B).getD k kid0, v) ∧ (lkt B.helds ((keysL B).getD k kid0)) = some v := fun k hk => by
    have hkl : k < R.helds.length := by
      have := congrArg List.length h.keys
      rw [List.length_map] at this
      omega
    have e1 : (R.helds.map (·.1))[k]? = some ((keysL B).getD k kid0) := by rw [h.keys]; exact getD_some hk kid0
    rw [List.getElem?_map, List.getElem?_eq_getElem hkl] at e1
    have e2 : R.helds[k].1 = (keysL B).getD k kid0 := by simpa using e1
    refine ⟨R.helds[k].2, by rw [List.getElem?_eq_getElem hkl, ← e2], ?_⟩
    rw [← h.held, ← e2]
    exact lkt_of (by rw [h.keys]; exact nd) (by exact List.getElem_mem hkl)
  have hlen : R.helds.length = (keysL B).length := by
    have := congrArg List.length h.keys
    rw [List.length_map] at this
    exact this
  generalize keysL B = l at *
  refine go_loop (X := { k : Nat // k ≤ l.length }) 2 [] (fun y => ([(0, .ptr 0 0 0), (1, .ptr 0 20 0), (6, .raw 1 2), (13, .val (.int .i64 (y.1 : Int)))], alH F B R L ++ [((1, 2), kidR l)])) (fun y => l.length - y.1) ⟨0, Nat.zero_le _⟩ calNone false 400 [] calNone_ok (by kernel_rfl) ?_
  rintro ⟨k, hk⟩ J hJ
  by_cases hl : k < l.length
  · have z0 : decide ((k : Int) < (l.length : Int)) = true := decide_eq_true (by omega)
    have ho := hko _ (List.mem_of_getElem? (getD_some hl kid0))
    obtain ⟨v, hv1, hv2⟩ := hat k hl
    have q1 := load_eltG (P := Tryz.prog) (t := 27) (cs := kidS (l.getD k kid0)) (n := l.length) (p := 0) (j := 0) (b := k * 3) (E := 27) (size := 3) (u := .agg (kidS (l.getD k kid0))) (xs := cellsL kcL l) (by kernel_rfl) (cells_nth (enc := kcL) (encS := kidS) (fun _ _ => rfl) (fun _ => rfl) (getD_some hl kid0))
    have c3 := held_c B ho
    rw [hv2] at c3
    have q2 := hidx R.helds (i := k) (by omega)
    have q3 := hload R.helds hv1 (t := 27) (j := 0) (u := .agg (kidS (l.getD k kid0))) (by kernel_rfl)
    have q4 := hload R.helds hv1 (t := 69) (j := 3) (u := .agg (heldS v)) (by kernel_rfl)
    have z9 : IntKind.i64.wrap ((k : Int) + 1) = ((k + 1 : Nat) : Int) := by rw [wr_i64 (by omega)]; omega
    have hJ' := hJ ⟨k + 1, hl⟩ (by show _ - (k + 1) < _ - k; omega)
    clear hJ hat hv1 hv2
    generalize l.getD k kid0 = key at *
    have f1 : (!kidEq key key) = false := by rw [(kidEq_iff _ _).2 rfl]; rfl
    have f2 : (!heldEq v v) = false := by rw [(heldEq_iff _ _).2 rfl]; rfl
    unfold kidEq at f1
    unfold heldEq cpnEq legEq at f2
    exact leaf_round (lpK Tryz.prog Alike16F 2 []) false 400 [hB 18 3 _ _ z0, .opt 20 3 (.at_ 0 _ _ _ ⟨rfl, hl⟩), hG 20 4 q1, hC 20 5 c3, .opt 21 5 (.at_ 0 _ _ _ ⟨rfl, hl⟩), hG 21 6 q1, hG 21 12 q2, hG 21 14 q3, hB 21 15 _ _ f1, hG 21 24 q2, hG 21 26 q4, hB 21 27 _ _ f2, hI 19 1 IntKind.i64 _ _ z9] hJ' (by kernel_rfl)
  · have he : k = l.length := by omega
    subst he
    have z0 : decide ((l.length : Int) < (l.length : Int)) = false := decide_eq_false (by omega)
    clear hJ hat
    exact leaf_end calNone false 400 [hB 18 3 _ _ z0] calNone_ok (by kernel_rfl)
theorem alike_owns (F : CF) {B : BookV} {R : RefV} {L : List (DocV × DocA)} (h : RelB B R) (hn : R.owns.length ≤ 1000000) {eb : Env} {R0 : List Chunk} {kl : List Kid}
    (fin : Go Tryz.prog Alike16F (.val (.bool true)) (alRd F R L ++ bkC B) eb R0 .nrm (rgK Tryz.prog Alike16F 17 []) [(0, .ptr 0 0 0), (1, .ptr 0 20 0), (6, .raw 1 2)] (alH F B R L ++ [((1, 2), kidR kl)])) :
    Go Tryz.prog Alike16F (.val (.bool true)) (alRd F R L ++ bkC B) eb R0 .nrm (rgK Tryz.prog Alike16F 11 []) [(0, .ptr 0 0 0), (1, .ptr 0 20 0), (6, .raw 1 2)] (alH F B R L ++ [((1, 2), kidR kl)]) := by
  have ql := q_len (P := Tryz.prog) (E := 85) (size := 13) (enc := mineC) R.owns
  refine go_loop (X := { k : Nat // k ≤ R.owns.length }) 1 [] (fun y => ([(0, .ptr 0 0 0), (1, .ptr 0 20 0), (6, .raw 1 2), (10, .val (.int .i64 (y.1 : Int)))], alH F B R L ++ [((1, 2), kidR kl)])) (fun y => R.owns.length - y.1) ⟨0, Nat.zero_le _⟩ calNone false 400 [] calNone_ok (by kernel_rfl) ?_
  rintro ⟨k, hk⟩ J hJ
  by_cases hl : k < R.owns.length
  · have z0 : decide ((k : Int) < (R.owns.length : Int)) = true := decide_eq_true (by omega)
    have hx := List.getElem?_eq_getElem hl
    have hin : R.owns[k] ∈ R.owns := List.getElem_mem hl
    have hv : lkt B.owns R.owns[k].1 = some R.owns[k].2 := by rw [← h.own]; exact lkt_of h.ownN hin
    have ho := (h.ownK _ hin).1
    have z9 : IntKind.i64.wrap ((k : Int) + 1) = ((k + 1 : Nat) : Int) := by rw [wr_i64 (by omega)]; omega
    have hJ' := hJ ⟨k + 1, hl⟩ (by show _ - (k + 1) < _ - k; omega)
    clear hJ fin
    generalize R.owns[k] = x at *
    obtain ⟨key, v⟩ := x
    have c3 := own_c B ho
    rw [hv] at c3
    have q2 := oidx R.owns (i := k) hl
    have q3 := oload R.owns hx (t := 27) (j := 0) (u := .agg (kidS key)) (by kernel_rfl)
    have q4 := oload R.owns hx (t := 43) (j := 3) (u := .agg (ownS v)) (by kernel_rfl)
    have f2 : (!ownEq v v) = false := by rw [(ownEq_iff _ _).2 rfl]; rfl
    unfold ownEq cpnEq legEq at f2
    clear hx hin hv
    exact leaf_round (lpK Tryz.prog Alike16F 1 []) false 400 [hG 12 5 ql, hB 12 6 _ _ z0, hG 14 6 q2, hG 14 8 q3, hC 14 9 c3, hG 15 9 q2, hG 15 11 q4, hB 15 12 _ _ f2, hI 13 1 IntKind.i64 _ _ z9] hJ' (by kernel_rfl)
  · have he : k = R.owns.length := by omega
    subst he
    have z0 : decide ((R.owns.length : Int) < (R.owns.length : Int)) = false := decide_eq_false (by omega)
    clear hJ
    exact leaf_cut (rgK Tryz.prog Alike16F 17 []) _ _ calNone false 400 [hG 12 5 ql, hB 12 6 _ _ z0, .stop 17] calNone_ok (by kernel_rfl) fin
theorem alike_o (F : CF) {B : BookV} {R : RefV} {L : List (DocV × DocA)} (hL : L.map nrm = R.docs) (h : RelB B R) (eB : BIS B) (hd : DocsRd F R.docs) (hn : R.owns.length ≤ 1000000) (hko : ∀ k ∈ keysL B, KidOk k) (nd : (keysL B).Nodup) :
    CallOK Tryz.prog Alike16F [.ptr 0 0 0, .ptr 0 20 0] (alRd F R L) (bkC B) (.val (.bool true)) (bkC B) := by
  have c1 := tickets_c eB.bi.ex.bk
  have c2 := keys_c (B := B) (by have := eB.bi.hl; omega)
  have hm := eB.bi.ex.bk.many
  have lB : (B.docs.map (·.t)).length = B.docs.length := List.length_map _
  have hLl : L.length = B.docs.length := by rw [← h.dlen, ← hL, List.length_map]
  have ql := q_len (P := Tryz.prog) (E := 67) (size := 17) (enc := docL) L
  have qh := q_len (P := Tryz.prog) (E := 148) (size := 13) (enc := otherC) R.helds
  have n1 : (!decide (((B.docs.map (·.t)).length : Int) = (L.length : Int))) = false := by rw [lB, hLl]; simp
  have n2 : (!decide (((keysL B).length : Int) = (R.helds.length : Int))) = false := by rw [keysL_len, h.hlen]; simp
  refine callOK_intro (by kernel_rfl) fun eb R0 => ?_
  have fin := alike_owns F (L := L) h hn (alike_keys F (L := L) h eB hko nd (eb := eb) (R0 := R0))
  generalize keysL B = kl at *
  refine go_loop (X := { k : Nat // k ≤ B.docs.length }) 0 [] (fun y => ([(0, .ptr 0 0 0), (1, .ptr 0 20 0), (5, .raw 1 1), (6, .raw 1 2), (7, .val (.int .i64 (y.1 : Int)))], alH F B R L ++ [((1, 2), kidR kl), ((1, 1), tidR (B.docs.map (·.t)))])) (fun y => B.docs.length - y.1) ⟨0, Nat.zero_le _⟩ calNone false 400 [hC 1 1 c1, hC 2 1 c2, hG 3 6 ql, hB 3 7 _ _ n1, hG 3 15 qh, hB 3 16 _ _ n2] calNone_ok (by kernel_rfl) ?_
  clear n1 n2 ql qh c1 c2
  rintro ⟨k, hk⟩ J hJ
  by_cases hl : k < B.docs.length
  · have z0 : decide ((k : Int) < ((B.docs.map (·.t)).length : Int)) = true := decide_eq_true (by omega)
    have hd0 := List.getElem?_eq_getElem hl
    have hkL : k < L.length := by omega
    have hx := List.getElem?_eq_getElem hkL
    have hin := List.getElem_mem hkL
    have e1 : L[k].1 = B.docs[k] := by
      have e2 : (L.map nrm)[k]? = R.docs[k]? := by rw [hL]
      have e3 : (R.docs.map (·.1))[k]? = B.docs[k]? := by rw [h.docs]
      rw [List.getElem?_map, ← e2, List.getElem?_map, hx, hd0] at e3
      simpa [nrm] using e3
    have hr := hd (nrm L[k]) (by rw [← hL]; exact List.mem_map_of_mem hin)
    have hp : ∀ b v, Rd (poolF L b v) L[k].2.va (L[k].1.vals.map (.int .i64)) := fun _ _ => rd_all (List.mem_map_of_mem hin) rd_row
    generalize L[k] = p at *
    obtain ⟨d, a⟩ := p
    have e1 : d = B.docs[k] := e1
    rw [← e1] at hd0
    have hmem := List.mem_of_getElem? hd0
    have t0 := tid_docs eB.bi.ex.bk hmem
    have hkl : k < (B.docs.map (·.t)).length := by omega
    have q1 := load_eltG (P := Tryz.prog) (t := 25) (cs := tidS d.t) (n := (B.docs.map (·.t)).length) (p := 0) (j := 0) (b := k * 2) (E := 25) (size := 2) (u := .agg (tidS d.t)) (by kernel_rfl) (tid_nth (tids_get hd0))
    have c1 := doc_ok t0 (lkD_mem_eq eB.bi.ex.bk.nodup hmem) (eB.bi.ex.sm d hmem)
    have q2 := q_idx (P := Tryz.prog) (t := 77) (i := k) (k := .i64) (E := 67) (size := 17) (enc := docL) L (fun _ => rfl) (by decide) (by kernel_rfl) hkL
    have q3 := q_load (P := Tryz.prog) (t := 67) (b := k * 17) (j := 0) (cs := docSA d a) (u := .agg (docSA d a)) (E := 67) (size := 17) (enc := docL) L (by kernel_rfl) (cells_nth (enc := docL) (encS := fun x => docSA x.1 x.2) (fun _ _ => rfl) (fun _ => rfl) hx)
    have c2 := rdocs_w F (poolF L) (d := d) (a := a) (eB.bi.ex.sal d hmem) (eB.bi.ex.sm d hmem).nv hr.1 hr.2 hp
    have z9 : IntKind.i64.wrap ((k : Int) + 1) = ((k + 1 : Nat) : Int) := by rw [wr_i64 (by omega)]; omega
    have hJ' := hJ ⟨k + 1, hl⟩ (by show _ - (k + 1) < _ - k; omega)
    clear hJ fin hr hp e1 hx hd0
    exact leaf_round (lpK Tryz.prog Alike16F 0 []) false 400 [hB 6 3 _ _ z0, .opt 8 3 (.at_ 0 _ _ _ ⟨rfl, hkl⟩), hG 8 4 q1, hC 8 5 c1, hG 9 9 q2, hG 9 10 q3, hC 9 11 c2, hI 7 1 IntKind.i64 _ _ z9] hJ' (by kernel_rfl)
  · have he : k = B.docs.length := by omega
    subst he
    have z0 : decide ((B.docs.length : Int) < ((B.docs.map (·.t)).length : Int)) = false := decide_eq_false (by omega)
    clear hJ
    exact leaf_cut (rgK Tryz.prog Alike16F 11 []) _ _ calNone false 400 [hB 6 3 _ _ z0, .stop 11] calNone_ok (by kernel_rfl) fin
end Go.Proofs.YtnkghdakjdhhdaaGreat
end
section
namespace Go.Proofs.YtnkghdakjdhhdaaGreat
open Go.RowKit Go.Lib Go.Tk Go.Shelf Go.Vc Go.Sx
structure KeepR (R R' : RefV) : Prop where
  docs : R'.docs = R.docs
  owns : R'.owns.length = R.owns.length
theorem KeepR.refl (R : RefV) : KeepR R R := ⟨rfl, rfl⟩
theorem KeepR.stO (R : RefV) (k : Kid) (o : OwnV) : KeepR R (R.stO k o) := ⟨rfl, List.length_set ..⟩
theorem KeepR.stH (R : RefV) (k : Kid) (o : HeldV) : KeepR R (R.stH k o) := ⟨rfl, rfl⟩
theorem bcaseK {R : RefV} (b : Bool) {x y : RR} (h1 : KeepR R x.r) (h2 : KeepR R y.r) : KeepR R (bif b then x else y).r := by
  cases b
  · exact h2
  · exact h1
theorem rdoB_keep (R : RefV) (x : Act18) : KeepR R (rdoB R x).r := by
  unfold rdoB
  split
  · unfold ruseQ
    refine bcaseK _ (.refl R) (bcaseK _ ?_ ?_)
    · unfold ruseOwn
      exact bcaseK _ (.refl R) (bcaseK _ (.refl R) (bcaseK _ (.refl R) (.stO R _ _)))
    · unfold ruseHeld
      exact bcaseK _ (.refl R) (bcaseK _ (.refl R) (bcaseK _ (.refl R) (.stH R _ _)))
  split
  · unfold rbillQ
    exact bcaseK _ (.refl R) (bcaseK _ (.refl R) (bcaseK _ (.refl R) (bcaseK _ (.refl R) (.stH R _ _))))
  · unfold rhearBQ
    refine bcaseK _ (.refl R) (bcaseK _ ?_ ?_)
    · unfold rhbillQ
      exact bcaseK _ (.refl R) (bcaseK _ (.refl R) (bcaseK _ (.refl R) (bcaseK _ (.refl R) (.stO R _ _))))
    · unfold rhansR
      show KeepR R (bif _ then _ else _)
      cases ((lkt R.helds x.m.key).isSome && decide (x.m.key.t.c = x.frm)) && ((lkt R.helds x.m.key).getD held0).billed
      · exact .refl R
      · exact .stH R _ _
theorem stepR_rd {F : CF} {R : RefV} (h : DocsRd F R.docs) {x : Act15} (ha : Act15Rd F x) : DocsRd F (stepR R x).docs := by
  unfold stepR
  split
  · unfold RefV.issue
    cases decide (R.issE x.s = 0)
    · exact h
    · intro p hp
      have hp : p ∈ R.docs ++ [(docMade R.nextT x.s, x.A)] := hp
      rcases List.mem_append.1 hp with hp | hp
      · exact h p hp
      · rw [List.mem_singleton] at hp
        subst hp
        exact ⟨ha.hl, ha.ht⟩
  split
  · unfold RefV.setO
    cases decide (0 ≤ rIx R.owns x.k) <;> exact h
  split
  · unfold RefV.setH
    cases R.badK x.k
    · cases decide (0 ≤ rIx R.helds x.k)
      · cases decide ((64 : Int) ≤ (R.helds.length : Int)) <;> exact h
      · exact h
    · exact h
  exact h
theorem runR_rd {F : CF} {self n : Int} {acts : List Act15} (hA : ∀ x ∈ acts, Act15Rd F x) : ∀ i ≤ acts.length, DocsRd F (runR (refNew self n) acts i).docs
  | 0, _ => fun p hp => by cases hp
  | i + 1, hi => stepR_rd (runR_rd hA i (by omega)) (hA _ (List.mem_of_getElem? (getD_some (by omega) act15Z)))
theorem ref_shut {R : RefV} {L : List (DocV × DocA)} (n0 n1 n2 n3 : Nm) (ε : Env) (Z : List Chunk) (w : World) (h : Mem (hden ε (rfM (rdQ L) R n0 n1 n2 n3) ++ (allC (L.map valsRow) :: Z)) w) : Mem (refF (rdX (L.map nrm)) R (ε n0.1 n0.2).1 (ε n0.1 n0.2).2 :: Z) w := by
  have h1 : Mem (boxE none (ε n0.1 n0.2).1 #[.int .u8 R.self, .int .i64 R.n, (ε n1.1 n1.2).2, (ε n2.1 n2.2).2, (ε n3.1 n3.2).2] :: rdQ L 0 (ε n1.1 n1.2).2 :: rownsF R.owns 0 (ε n2.1 n2.2).2 :: rheldsF R.helds 0 (ε n3.1 n3.2).2 :: allC (L.map valsRow) :: Z) w := h
  have h2 := (h1.front 4 rfl).front 2 rfl
  have h3 := rd_shut (b := 0) h2
  have h4 : Mem ([boxE none (ε n0.1 n0.2).1 #[.int .u8 R.self, .int .i64 R.n, (ε n1.1 n1.2).2, (ε n2.1 n2.2).2, (ε n3.1 n3.2).2], rdX (L.map nrm) 0 (ε n1.1 n1.2).2, rownsF R.owns 0 (ε n2.1 n2.2).2, rheldsF R.helds 0 (ε n3.1 n3.2).2] ++ Z) w := mem_perm (List.Perm.swap _ _ _) h3
  exact Mem.in_ex ⟨(ε n1.1 n1.2).2, (ε n2.1 n2.2).2, (ε n3.1 n3.2).2⟩ h4.in_all
def BplaysF : Nat := 6
def bpSl (a : Option Addr) (n cap i : Nat) : Slots := stSl a n cap i ++ [(10, .ptr 1 1 0)]
def bpH (F D : CF) (B : BookV) (R : RefV) : Heap := stH F B ++ [((1, 1), .fam (refF D R))]
def bpSl2 (a : Option Addr) (n cap i : Nat) (e : Int) : Slots := bpSl a n cap i ++ [(12, .ptr 1 5 0), (13, .raw 1 7), (14, .raw 1 8), (15, eN e), (16, eN e)]
def bpOut (x : Act18) (o : List OutV) : Heap := [((1, 5), .box none (act18S x)), ((1, 7), outsC o), ((1, 8), outsC o)]
theorem bplays_do (F D : CF) {a : Option Addr} {cap i : Nat} {acts : List Act18} (hR : ∀ b v, Rd (F b v) a (cellsL act18L acts)) (hi : i < acts.length) {x : Act18} (hx : acts.getD i act180 = x) (ok : Act18W x) {B : BookV} {R : RefV} (eB : BIS B) (hr : RelB B R) (ho : R.owns.length ≤ 1000000) {eb : Env} {R0 : List Chunk} {J : Act → World → Prop} {ret : SV} {rp : Heap}
    (hq : Go Tryz.prog BplaysF ret rp eb R0 .nrm (rgK Tryz.prog BplaysF 21 [J]) (bpSl2 a acts.length cap i (doB B x).e) (bpH F D (doB B x).b (rdoB R x).r ++ bpOut x (doB B x).out)) :
    Go Tryz.prog BplaysF ret rp eb R0 .nrm (rgK Tryz.prog BplaysF 9 [J]) (bpSl a acts.length cap i) (bpH F D B R) := by
  have q1 := idx_openG (P := Tryz.prog) (t := AT18b) (e := 102) (size := 19) (j := 9) (k := .i64) (cap := cap) (n := acts.length) Tryz.underlying99 (by kernel_rfl) (cellsL_len act18_len acts) hR hi
  have hpos : 0 < (cellsL act18L acts).length := by rw [cellsL_len act18_len]; omega
  have q2 := load_openG0 (P := Tryz.prog) (t := 102) (k := i * 19) (j := 9) (u := .agg (act18S (acts.getD i act180))) (by kernel_rfl) hR (act18_nth hi act180) hpos
  rw [hx] at q2
  have hh : R.helds.length ≤ 1000000 := by rw [hr.hlen]; have := eB.bi.hl; omega
  obtain ⟨e1, e2, -⟩ := doB_rel hr eB.bi x
  unfold doB at hq e1 e2
  unfold rdoB at hq e1 e2
  by_cases g0 : x.d = 0
  · rw [if_pos g0] at hq e1 e2
    rw [if_pos g0] at hq e1 e2
    have e0 : decide (x.d = 0) = true := decide_eq_true g0
    have c1 := use_c B ok.k ok.cmd (fun o h => eB.os _ o h) (fun o h => eB.hs _ o h)
    have c2 := ruse_w D (R := R) x.k ho hh x.cmd
    rw [e1, e2] at c2
    clear e1 e2
    generalize useQ B x.k x.cmd = q at *
    generalize (ruseQ R x.k x.cmd).r = r at *
    exact leaf_cut (rgK Tryz.prog BplaysF 21 [J]) _ _ calNone false 400 [hG 9 2 q1, hG 9 3 q2, hI 12 1 IntKind.i64 _ _ g0, hC 16 5 c1, hC 17 5 c2, .stop 21] calNone_ok (by kernel_rfl) hq
  have e0 : decide (x.d = 0) = false := decide_eq_false g0
  rw [if_neg g0] at hq e1 e2
  rw [if_neg g0] at hq e1 e2
  by_cases g1 : x.d = 1
  · rw [if_pos g1] at hq e1 e2
    rw [if_pos g1] at hq e1 e2
    have e3 : decide (x.d = 1) = true := decide_eq_true g1
    have c1 := bill_c B ok.k x.amt
    have c2 := rbill_w D (R := R) x.k hh x.amt
    rw [e1, e2] at c2
    clear e1 e2
    generalize billQ B x.k x.amt = q at *
    generalize (rbillQ R x.k x.amt).r = r at *
    exact leaf_cut (rgK Tryz.prog BplaysF 21 [J]) _ _ calNone false 400 [hG 9 2 q1, hG 9 3 q2, hI 12 1 IntKind.i64 _ _ g1, hC 19 5 c1, hC 20 5 c2, .stop 21] calNone_ok (by kernel_rfl) hq
  have e3 : decide (x.d = 1) = false := decide_eq_false g1
  rw [if_neg g1] at hq e1 e2
  rw [if_neg g1] at hq e1 e2
  have c1 := hearB_c B ok.frm x.m ok.kind ok.key
  have c2 := rhear18_w D (R := R) ho hh ok.frm x.m
  rw [e1, e2] at c2
  clear e1 e2
  generalize hearBQ B x.frm x.m = q at *
  generalize (rhearBQ R x.frm x.m).r = r at *
  exact leaf_cut (rgK Tryz.prog BplaysF 21 [J]) _ _ calNone false 400 [hG 9 2 q1, hG 9 3 q2, hB 15 0 _ _ e0, hB 18 0 _ _ e3, hC 13 5 c1, hC 14 5 c2, .stop 21] calNone_ok (by kernel_rfl) hq
theorem bplays_act (F : CF) {a : Option Addr} {n cap i : Nat} (hi : i ≤ 1000) {x : Act18} {B : BookV} {R : RefV} {l0 : List (DocV × SaleA)} (hl0 : R.docs = l0) {e : Int} {o : List OutV} (hone : o.length ≤ 1) (eB : BIS B) (hr : RelB B R) (hd : DocsRd F l0) (ho : R.owns.length ≤ 1000000) {eb : Env} {R0 : List Chunk} {J : Act → World → Prop}
    (hJ : ∀ ε a' w, Rel (ntOf Tryz.prog BplaysF) 1 eb R0 ⟨bpSl a n cap (i + 1), bpH F (rdX l0) B R, 2⟩ ε a' w → J a' w) :
    Go Tryz.prog BplaysF (.val (.bool true)) ([((0, 9), .fam F)] ++ []) eb R0 .nrm (rgK Tryz.prog BplaysF 21 [J]) (bpSl2 a n cap i e) (bpH F (rdX l0) B R ++ bpOut x o) := by
  refine go_open (X := { u : Unit // ((B.owns.map (·.1)).Nodup ∧ (B.helds.map (·.1)).Nodup) ∧ ∀ p ∈ B.helds, KidOk p.1 }) (fun _ => (((1, 1), .fam (refF (rdX l0) R)) :: (stH F B ++ bpOut x o))) (fun ε w hM => by
    have h1 := Mem.front (c := bookF B (ε 1 0).1 (ε 1 0).2) hM 1 rfl
    have h2 := Mem.front (c := refF (rdX l0) R (ε 1 1).1 (ε 1 1).2) hM 2 rfl
    exact ⟨⟨(), book_facts h1, book_keys h1⟩, h2⟩) (fun _ => by kernel_rfl) ?_
  rintro ⟨-, ⟨nd1, nd2⟩, hko⟩
  have hko' : ∀ k ∈ keysL B, KidOk k := fun k hk => by
    obtain ⟨p, hp, rfl⟩ := List.mem_map.1 ((sortBy_perm cfK (B.helds.map (·.1))).mem_iff.1 hk)
    exact hko p hp
  have ndk : (keysL B).Nodup := by
    unfold keysL
    exact ((sortBy_perm cfK (B.helds.map (·.1))).nodup_iff).2 nd2
  refine go_ref 1 11 12 13 (by kernel_rfl) (by kernel_rfl) (by kernel_rfl) (by kernel_rfl) ?_
  refine go_open (X := { L : List (DocV × DocA) // L.map nrm = l0 }) (fun y => (rfM (rdQ y.1) R (1, 1) (1, 11) (1, 12) (1, 13) ++ ([((0, 8), .fam (poolF y.1))] ++ (stH F B ++ bpOut x o)))) (fun ε w hM => by
    have h1 : Mem (boxE none (ε 1 1).1 #[.int .u8 R.self, .int .i64 R.n, (ε 1 11).2, (ε 1 12).2, (ε 1 13).2] :: rdX l0 0 (ε 1 11).2 :: rownsF R.owns 0 (ε 1 12).2 :: rheldsF R.helds 0 (ε 1 13).2 :: (hden ε (stH F B ++ bpOut x o) ++ R0)) w := hM
    obtain ⟨y, h2⟩ := rd_open (h1.front 1 rfl)
    exact ⟨y, ((((h2.front 1 rfl).front 4 rfl).front 4 rfl).front 3 rfl).front 4 rfl⟩) (fun y => by kernel_rfl) ?_
  rintro ⟨L, hL⟩
  have c1 := alike_o F (L := L) (hL.trans hl0.symm) hr eB (by rw [hl0]; exact hd) ho hko' ndk
  have c2 := same16_w hone
  have c3 := mine18_w x.m.kind
  have n0 : (!decide (e = e)) = false := by simp
  have z9 : IntKind.i64.wrap ((i : Int) + 1) = ((i + 1 : Nat) : Int) := by rw [wr_i64 (by omega)]; omega
  have fin : Go Tryz.prog BplaysF (.val (.bool true)) ([((0, 9), .fam F)] ++ []) eb R0 .nrm (rgK Tryz.prog BplaysF 8 [J]) (bpSl a n cap i) (rfM (rdQ L) R (1, 1) (1, 11) (1, 12) (1, 13) ++ ([((0, 8), .fam (poolF L))] ++ stH F B)) := by
    refine go_open (X := Unit) (fun _ => ((1, 1), .fam (refF (rdX l0) R)) :: stH F B) (fun ε w hM => ⟨(), by
      have h1 : Mem (hden ε (rfM (rdQ L) R (1, 1) (1, 11) (1, 12) (1, 13)) ++ (allC (L.map valsRow) :: (hden ε (stH F B) ++ R0))) w := hM
      have h2 := ref_shut (1, 1) (1, 11) (1, 12) (1, 13) ε _ w h1
      rw [hL] at h2
      exact h2⟩) (fun _ => by kernel_rfl) ?_
    intro _
    clear c1 c2 c3
    exact leaf_round (lpK Tryz.prog BplaysF 0 []) false 400 [hI 8 1 IntKind.i64 _ _ z9] hJ (by kernel_rfl)
  clear hJ z9
  rcases Bool.eq_false_or_eq_true (decide (6 ≤ x.m.kind)) with g1 | g1
  · rcases Bool.eq_false_or_eq_true (decide (x.m.kind ≤ 8)) with g2 | g2
    · rw [g1, g2] at c3
      exact leaf_cut (rgK Tryz.prog BplaysF 8 [J]) _ _ calNone false 400 [hB 21 2 _ _ n0, hC 21 6 c2, hC 21 12 c1, hC 21 19 c3, hB 21 23 _ _ g1, hB 21 28 _ _ g2, .stop 8] calNone_ok (by kernel_rfl) fin
    · rw [g1, g2] at c3
      exact leaf_cut (rgK Tryz.prog BplaysF 8 [J]) _ _ calNone false 400 [hB 21 2 _ _ n0, hC 21 6 c2, hC 21 12 c1, hC 21 19 c3, hB 21 23 _ _ g1, hB 21 28 _ _ g2, .stop 8] calNone_ok (by kernel_rfl) fin
  · rw [g1, Bool.false_and] at c3
    exact leaf_cut (rgK Tryz.prog BplaysF 8 [J]) _ _ calNone false 400 [hB 21 2 _ _ n0, hC 21 6 c2, hC 21 12 c1, hC 21 19 c3, hB 21 23 _ _ g1, .stop 8] calNone_ok (by kernel_rfl) fin
def runRo (R : RefV) (acts : List Act18) : Nat → RefV
  | 0 => R
  | i + 1 => (rdoB (runRo R acts i) (acts.getD i act180)).r
theorem runRo_ok {B : BookV} {R : RefV} (eB : BIS B) (h : RelB B R) (acts : List Act18) : ∀ i, RelB (runBo B acts i) (runRo R acts i) ∧ KeepR R (runRo R acts i)
  | 0 => ⟨h, .refl R⟩
  | i + 1 => by
    obtain ⟨h1, h2⟩ := runRo_ok eB h acts i
    have h3 := (doB_rel h1 (runBo_bis eB acts i).bi (acts.getD i act180)).rel
    have h4 := rdoB_keep (runRo R acts i) (acts.getD i act180)
    exact ⟨h3, ⟨h4.docs.trans h2.docs, h4.owns.trans h2.owns⟩⟩
theorem bplays_law (F : CF) {self n : Int} (hs : 0 ≤ self ∧ self ≤ 255) {a b : Option Addr} {cap cap2 : Nat} {l : List Act15} {acts : List Act18} (hRa : ∀ b v, Rd (F b v) a (cellsL act15C l)) (hRb : ∀ b' v, Rd (F b' v) b (cellsL act18L acts)) (hl : l.length ≤ 9223372036854775807) (hm : acts.length ≤ 9223372036854775807)
    (hf : ∀ x ∈ l, x.s.legs.length ≤ 9223372036854775807 ∧ x.s.taxes.length ≤ 9223372036854775807 ∧ x.s.name.size ≤ 9223372036854775807) (hA : grB l acts.length = false → ∀ x ∈ l, Act15Rd F x ∧ StI x.o.k.s ∧ StI x.h.k.s) (hW : ∀ x ∈ acts, Act18W x) :
    CallOK Tryz.prog BplaysF [.val (.int .u8 self), .val (.int .i64 n), .val (.slice a l.length cap), .val (.slice b acts.length cap2)] [((0, 9), .fam F)] [] (.val (.bool true)) [] := by
  have c0 := great18_w F (b := b) (m := acts.length) (cap := cap) (cap2 := cap2) hRa hl hm hf
  have c9 := wakes18_w
  rcases Bool.eq_false_or_eq_true (grB l acts.length) with g | g <;> rw [g] at c0
  · exact callOK_run 400 [hC 1 2 c0, hC 2 0 c9] (by kernel_rfl) (by kernel_rfl)
  have hA := hA g
  have hlen := grB_no g
  by_cases he : bookE self n = 0
  case neg =>
    have c1 := built_no (self := self) (n := n) hs he (a := a) (m := l.length) (cap := cap)
    exact callOK_run 400 [hC 1 2 c0, hC 3 3 c1, hC 5 0 c9] (by kernel_rfl) (by kernel_rfl)
  have hk := bookE_ok hs.1 he
  have c1 := built_ok F hs he (cap := cap) hRa (by omega) (fun x hx => (hA x hx).1)
  have eB := run_bis hk (acts := l) (fun x hx => ⟨(hA x hx).1.ok, (hA x hx).1.o, (hA x hx).2⟩) l.length (Nat.le_refl _)
  have hr := run_rel hk (acts := l) (fun x hx => ⟨(hA x hx).1.ok, (hA x hx).1.o⟩) l.length (Nat.le_refl _)
  have ri := (runs_ok hk (acts := l) (fun x hx => ⟨(hA x hx).1.ok, (hA x hx).1.o⟩) l.length (Nat.le_refl _)).2
  have hd := runR_rd (F := F) (self := self) (n := n) (fun x hx => (hA x hx).1) l.length (Nat.le_refl _)
  generalize run15 (bookNew self n) l l.length = B0 at *
  generalize runR (refNew self n) l l.length = R0 at *
  have ho : R0.owns.length ≤ 1000000 := by have := ri.ho; have := ri.hd; omega
  refine callOK_intro (by kernel_rfl) fun eb Z => ?_
  refine go_loop (X := { i : Nat // i ≤ acts.length }) 0 [] (fun x => (bpSl b acts.length cap2 x.1, bpH F (rdX R0.docs) (runBo B0 acts x.1) (runRo R0 acts x.1))) (fun x => acts.length - x.1) ⟨0, Nat.zero_le _⟩ calNone false 400 [hC 1 2 c0, hC 3 3 c1] calNone_ok (by kernel_rfl) ?_
  rintro ⟨i, hi⟩ J hJ
  by_cases h : i < acts.length
  · have z0 : decide ((i : Int) < (acts.length : Int)) = true := decide_eq_true (by omega)
    have hin : acts.getD i act180 ∈ acts := List.mem_of_getElem? (getD_some h act180)
    have hop := doB_hop (runBo B0 acts i) (acts.getD i act180)
    obtain ⟨r1, r2⟩ := runRo_ok eB hr acts i
    obtain ⟨s1, s2⟩ := runRo_ok eB hr acts (i + 1)
    have fin := bplays_do F (rdX R0.docs) (cap := cap2) hRb h rfl (hW _ hin) (runBo_bis eB acts i) r1 (by rw [r2.owns]; exact ho) (eb := eb) (R0 := Z) (J := J) (bplays_act F (by omega) s2.docs hop.one (runBo_bis eB acts (i + 1)) s1 hd (by rw [s2.owns]; exact ho) (hJ ⟨i + 1, h⟩ (by show _ - (i + 1) < _ - i; omega)))
    clear hJ c0 c1 hA
    exact leaf_cut (rgK Tryz.prog BplaysF 9 [J]) _ _ calNone false 400 [hB 7 3 _ _ z0, .stop 9] calNone_ok (by kernel_rfl) fin
  · have z0 : decide ((acts.length : Int) < (acts.length : Int)) = false := decide_eq_false (by omega)
    have e : i = acts.length := by omega
    subst e
    clear hJ c0 c1 hA
    exact leaf_end calNone false 400 [hB 7 3 _ _ z0, hC 23 0 c9] calNone_ok (by kernel_rfl)
end Go.Proofs.YtnkghdakjdhhdaaGreat
end
section
namespace Go.Proofs.YtnkghdakjdhhdaaGreat
open Go.RowKit Go.Lib Go.Tk Go.Shelf Go.Vc Go.Sx Go.WideShapes
theorem bplays_any (self n : Int) (a : Option Addr) (l : List Act15) (c : Nat) (b : Option Addr) (m : List Act18) (c2 : Nat) (w : World) (hs : (Lit.int .u8 self).wf = true) (hn0 : (Lit.int .i64 n).wf = true) (hr : Row w a (cellsL act15C l)) (hn : a = none → c = 0) (hl : l.length ≤ maxLen) (ok : ∀ x ∈ l, Act15In w x)
    (hr2 : Row w b (cellsL act18L m)) (hn2 : b = none → c2 = 0) (hl2 : m.length ≤ maxLen) (ok2 : ∀ x ∈ m, Act18W x) :
    Calls Tryz.prog BplaysF #[.int .u8 self, .int .i64 n, .slice a l.length c, .slice b m.length c2] w fun e w' => e = .returned (.bool true) ∧ Below w.heap.size w w' :=
  (bplays_law (fun _ _ => oldC w) (wfu8 hs) (cap := c) (cap2 := c2) (fun _ _ => rd_old hr) (fun _ _ => rd_old hr2) (maxLen_le hl) (maxLen_le hl2) (fun y hy => lens3_of (ok y hy))
    (fun hg y hy => ⟨act15Rd_of (ok y hy) (by have := ((grB_no hg).2.2 y hy).1; omega) (by have := ((grB_no hg).2.2 y hy).2; omega), (ok y hy).os, (ok y hy).hs⟩) ok2 (fun _ _ => (0, undef)) [] w (Mem.old w)).mono fun e w' ⟨x, h, hm⟩ => ⟨h, (show Mem (oldC w :: []) w' from hm).below 0 rfl⟩
end Go.Proofs.YtnkghdakjdhhdaaGreat
end
section
namespace Go.Proofs.YtnkghdakjdhhdaaGreat.billPlaysF
open Go
theorem closed : joinedFacts Tryz.pinned.checked.prog 6 Tryz.f6 Rows.billPlaysSpec Rows.billPlaysRow = true := by kernel_rfl
theorem inst : Tryz.f6.isInstance Tryz.pinned.checked.prog Rows.billPlaysRow.origin Rows.billPlaysRow.targs := of_decide_eq_true (by kernel_rfl)
theorem wrap : Tryz.f6.isWrapper Tryz.pinned.checked.prog Rows.billPlaysRow.wrapper Rows.billPlaysRow.mainSum := by
  unfold Func.isWrapper
  first | (rw [if_pos (by decide +kernel)]; kernel_rfl) | (rw [if_neg (by decide +kernel)]; exact ⟨rfl, rfl⟩)
end Go.Proofs.YtnkghdakjdhhdaaGreat.billPlaysF
end
