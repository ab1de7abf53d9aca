/- ONCE (law 17), the walk: no more is paid back than was paid. -/
import Derived.Test.YtlekbdpdlalhbaaGreatMbfb25a9
namespace Go.Proofs.YtlekbdpdlalhbaaGreat
set_option maxRecDepth 100000
open Go.RowKit Go.Lib Go.Tk Go.Shelf Go.Vc Go.Sx
set_option linter.unusedVariables false
set_option linter.unusedSimpArgs false

def OnceF17 : Nat := 6
def act1S (s : SaleV) (A : SaleA) : List SV := .val (.int .i64 0) :: .val (.int .u8 0) :: .val (.int .u64 0) :: salS s (.val (.slice A.la s.legs.length A.lc)) (.val (.slice A.ta s.taxes.length A.tc))
theorem great17_one (s : SaleV) (A : SaleA) : CallOK Tryz.prog Great17F [nilS, .raw 0 5] [((0, 5), .row 100 8 1 (.deep (act1S s A)) [])] [] (.val (.bool (greatS s))) [] := by
  rcases Bool.eq_false_or_eq_true (decide ((20 : Int) < (s.legs.length : Int))) with g1 | g1
  · rw [show greatS s = true by unfold greatS; rw [g1]; rfl]
    exact callOK_runU 900 [hB 11 7 _ _ g1] (by kernel_rfl) (by kernel_rfl)
  rcases Bool.eq_false_or_eq_true (decide ((20 : Int) < (s.taxes.length : Int))) with g2 | g2
  · rw [show greatS s = true by unfold greatS; rw [g1, g2]; rfl]
    exact callOK_runU 900 [hB 11 7 _ _ g1, hB 11 16 _ _ g2] (by kernel_rfl) (by kernel_rfl)
  rcases Bool.eq_false_or_eq_true (decide ((200 : Int) < (s.name.size : Int))) with g3 | g3
  · rw [show greatS s = true by unfold greatS; rw [g1, g2, g3]; rfl]
    exact callOK_runU 900 [hB 11 7 _ _ g1, hB 11 16 _ _ g2, hB 11 26 _ _ g3] (by kernel_rfl) (by kernel_rfl)
  rw [show greatS s = false by unfold greatS; rw [g1, g2, g3]; rfl]
  exact callOK_runU 900 [hB 11 7 _ _ g1, hB 11 16 _ _ g2, hB 11 26 _ _ g3] (by kernel_rfl) (by kernel_rfl)
def onceSl17 (a : Option Addr) (n cap i : Nat) : Slots := [(1, .val (.slice a n cap)), (5, .ptr 1 0 0), (9, .val (.int .i64 (i : Int)))]
def onceDl17 (B : BookV) (k : Nat) : Slots := [(11, .val (.int .i64 (sumK (·.paid) B.docs k))), (12, .val (.int .i64 (sumK (·.back) B.docs k))), (13, .raw 1 1), (14, .val (.int .i64 (k : Int)))]
def not0 (x : Act17) : Act17 := { x with d := if x.d = 0 then 3 else x.d }
theorem EB.once {B : BookV} (h : EB B) : sumK (·.back) B.docs B.docs.length ≤ sumK (·.paid) B.docs B.docs.length := by
  rw [sumK_all, sumK_all]
  have e := sum_sub (·.paid) (·.back) paidB B.docs fun d => rfl
  have := h.total
  have hn : 0 ≤ (B.docs.map (restB B)).sum := by
    refine sum_nonneg _ fun x hx => ?_
    obtain ⟨d, hd, rfl⟩ := List.mem_map.1 hx
    have hi := h.ei.doc d hd
    have := hi.kept
    have := hi.left
    have := opL_nn hi
    unfold restB; omega
  omega
/-- from the act on -/
theorem once17_act (F : CF) {a : Option Addr} {n cap i : Nat} (hi : i ≤ 1000) {x : Act17} (ha : ActRd F x) (hf : x.s.fare < 1099511627776)
    {eb : Env} {R : List Chunk} {J : Act → World → Prop} {B : BookV} (eB : EB B)
    (hJ : ∀ ε a' w, Rel (ntOf Tryz.prog OnceF17) 1 eb R ⟨onceSl17 a n cap (i + 1), balH F (doX B x).b, 2⟩ ε a' w → J a' w) :
    Go Tryz.prog OnceF17 (.val (.bool true)) ([((0, 9), .fam F)] ++ []) eb R .nrm (rgK Tryz.prog OnceF17 17 [J]) (onceSl17 a n cap i ++ [(10, .ptr 1 2 0)]) (balH F B ++ [((1, 2), .box none (act17X x x.d))]) := by
  have c1 := do17_w F eB.ex ha
  have eB' := doX_eb eB ha.ok hf
  have c2 := tickets_c eB'.ex.bk
  generalize eC : (doX B x).b = C at *
  have c1' : CallOK Tryz.prog Do17F [.ptr 0 0 0, .agg (act17X x x.d)] [((0, 9), .fam F)] (bkC B) (xrV (doX B x)) (bkC C ++ [((1, 0), stC (doX B x).st)]) := by rw [← eC]; exact c1
  clear c1
  have hmany := eB'.ex.bk.many
  refine go_loop (X := { k : Nat // k ≤ C.docs.length }) 1 [J] (fun x => (onceSl17 a n cap i ++ onceDl17 C x.1, balH F C ++ [((1, 1), tidR (C.docs.map (·.t)))])) (fun x => C.docs.length - x.1) ⟨0, Nat.zero_le _⟩ calNone false 400 [hC 17 2 c1', hC 19 1 c2] calNone_ok (by kernel_rfl) ?_
  rintro ⟨k, hk⟩ J2 hJ2
  have hlen : (C.docs.map (·.t)).length = C.docs.length := List.length_map _
  by_cases h : k < C.docs.length
  · have z0 : decide ((k : Int) < ((C.docs.map (·.t)).length : Int)) = true := decide_eq_true (by omega)
    have hk' := List.getElem?_eq_getElem h
    generalize C.docs[k] = d at hk'
    have hd := List.mem_of_getElem? hk'
    have ht := tid_nth (tids_get hk')
    have hkl : k < (C.docs.map (·.t)).length := by rw [List.length_map]; exact h
    have t0 := tid_docs eB'.ex.bk hd
    have hf : lkD C.docs d.t = some d := lkD_mem_eq eB'.nodup hd
    have hs := eB'.ex.sm d hd
    have c3 := doc_ok t0 hf hs
    have q1 := load_eltG (P := Tryz.prog) (t := 25) (cs := tidS d.t) (n := (C.docs.map (·.t)).length) (p := 0) (j := 0) (b := k * 2) (E := 25) (size := 2) (u := .agg (tidS d.t)) (by kernel_rfl) ht
    have pb := sumK_bd (f := (·.paid)) (ds := C.docs) (M := 35184372088832) (by decide) (fun x hx => by
      obtain ⟨w', g'⟩ := eB'.docG hx
      have := g'.paid
      omega) k (by omega)
    have bb := sumK_bd (f := (·.back)) (ds := C.docs) (M := 35184372088832) (by decide) (fun x hx => by
      obtain ⟨w', g'⟩ := eB'.docG hx
      have := g'.back
      omega) k (by omega)
    obtain ⟨w', g'⟩ := eB'.docG hd
    have gp := g'.paid
    have gb := g'.back
    have w1 : IntKind.i64.wrap (sumK (·.paid) C.docs k + d.paid) = sumK (·.paid) C.docs (k + 1) := by rw [sumK_succ hk', wrap_in (by omega)]
    have w2 : IntKind.i64.wrap (sumK (·.back) C.docs k + d.back) = sumK (·.back) C.docs (k + 1) := by rw [sumK_succ hk', wrap_in (by omega)]
    have w3 : IntKind.i64.wrap ((k : Int) + 1) = ((k + 1 : Nat) : Int) := by rw [wr_i64 (by omega)]; omega
    exact leaf_round (lpK Tryz.prog OnceF17 1 [J]) false 400 [hB 21 3 _ _ z0, .opt 23 3 (.at_ 0 _ _ _ ⟨rfl, hkl⟩), hG 23 4 q1, hC 23 5 c3, hI 24 3 IntKind.i64 _ _ w1, hI 25 3 IntKind.i64 _ _ w2, hI 22 1 IntKind.i64 _ _ w3] (hJ2 ⟨k + 1, h⟩ (by show _ - (k + 1) < _ - k; omega)) (by kernel_rfl)
  · have he : k = C.docs.length := by omega
    subst he
    have z0 : decide ((C.docs.length : Int) < ((C.docs.map (·.t)).length : Int)) = false := decide_eq_false (by omega)
    have z1 : decide (sumK (·.paid) C.docs C.docs.length < sumK (·.back) C.docs C.docs.length) = false := decide_eq_false (by have := eB'.once; omega)
    have z2 : IntKind.i64.wrap ((i : Int) + 1) = ((i + 1 : Nat) : Int) := by rw [wr_i64 (by omega)]; omega
    exact leaf_round (lpK Tryz.prog OnceF17 0 []) false 400 [hB 21 3 _ _ z0, hB 26 2 _ _ z1, hI 11 1 IntKind.i64 _ _ z2] hJ (by kernel_rfl)
theorem not0_rd {F : CF} {x : Act17} (h : ActRd F x) : ActRd F (not0 x) := ⟨h.ok, h.t, h.hl, h.ht, h.h1, h.h2⟩
def runO (B : BookV) (acts : List Act17) : Nat → BookV
  | 0 => B
  | i + 1 => (doX (runO B acts i) (not0 (acts.getD i act17Z))).b
theorem once17_law (F : CF) {s : SaleV} {A : SaleA} {a : Option Addr} {cap : Nat} {acts : List Act17} (hRa : ∀ b v, Rd (F b v) a (cellsL act17C acts)) (hl : acts.length ≤ 9223372036854775807)
    (hf : ∀ x ∈ acts, x.s.legs.length ≤ 9223372036854775807 ∧ x.s.taxes.length ≤ 9223372036854775807 ∧ x.s.name.size ≤ 9223372036854775807) (hA : greatM acts = false → ∀ x ∈ acts, ActRd F x)
    (ok : greatS s = false → SaleOk s) (hls : ∀ b v, Rd (F b v) A.la (cellsL encLeg s.legs)) (hts : ∀ b v, Rd (F b v) A.ta (cellsL encTax s.taxes)) (h1 : SlOk A.la s.legs.length A.lc) (h2 : SlOk A.ta s.taxes.length A.tc) :
    CallOK Tryz.prog OnceF17 [.agg (salS s (.val (.slice A.la s.legs.length A.lc)) (.val (.slice A.ta s.taxes.length A.tc))), .val (.slice a acts.length cap)] [((0, 9), .fam F)] [] (.val (.bool true)) [] := by
  have c0 := great17_w F (cap := cap) hRa hl hf
  have c8 := great17_one s A
  have c9 := wakes17_w
  rcases Bool.eq_false_or_eq_true (greatM acts) with g | g
  · rw [g] at c0
    exact callOK_run 400 [hC 1 1 c0, hC 2 0 c9] (by kernel_rfl) (by kernel_rfl)
  rw [g] at c0
  have hA := hA g
  have hlen := (greatM_no g).1
  rcases Bool.eq_false_or_eq_true (greatS s) with g2 | g2
  · rw [g2] at c8
    exact callOK_run 400 [hC 1 1 c0, hC 1 6 c8, hC 2 0 c9] (by kernel_rfl) (by kernel_rfl)
  rw [g2] at c8
  have ok := ok g2
  rcases Bool.eq_false_or_eq_true (decide ((1099511627776 : Int) ≤ s.fare)) with e0 | e0
  · exact callOK_run 400 [hC 1 1 c0, hC 1 6 c8, hB 1 11 _ _ e0, hC 2 0 c9] (by kernel_rfl) (by kernel_rfl)
  have hfare : s.fare < 1099511627776 := by have := of_decide_eq_false e0; omega
  have c1 := new_okC (self := 1) (n := 3) (by decide) (by decide)
  have hb0 := new_eb 1 3 (by decide)
  have c2 := exIssue_F F hb0.ex.bk ok hls hts h1 h2
  have hb1 := exIssue_b hb0 ok hfare
  generalize hq : exIssue (bookNew 1 3) s = q at *
  obtain ⟨qe, qt, qa, qs, qb⟩ := q
  have hb1 : EB qb := hb1
  rcases Bool.eq_false_or_eq_true (!decide (qe = 0)) with e1 | e1
  · exact callOK_run 400 [hC 1 1 c0, hC 1 6 c8, hB 1 11 _ _ e0, hC 3 0 c1, hC 6 2 c2, hB 7 1 _ _ e1, hC 8 0 c9] (by kernel_rfl) (by kernel_rfl)
  refine callOK_intro (by kernel_rfl) fun eb R => ?_
  refine go_loop (X := { i : Nat // i ≤ acts.length ∧ EB (runO qb acts i) }) 0 [] (fun x => (onceSl17 a acts.length cap x.1, balH F (runO qb acts x.1))) (fun x => acts.length - x.1) ⟨0, Nat.zero_le _, hb1⟩ calNone false 400 [hC 1 1 c0, hC 1 6 c8, hB 1 11 _ _ e0, hC 3 0 c1, hC 6 2 c2, hB 7 1 _ _ e1] calNone_ok (by kernel_rfl) ?_
  rintro ⟨i, hi, eB⟩ J hJ
  by_cases h : i < acts.length
  · have z0 : decide ((i : Int) < (acts.length : Int)) = true := decide_eq_true (by omega)
    have q1 := idx_openG (P := Tryz.prog) (t := AT17) (e := 100) (size := 8) (j := 9) (k := .i64) (cap := cap) (n := acts.length) Tryz.underlying97 (by kernel_rfl) (acts17_len acts) hRa h
    have hpos : 0 < (cellsL act17C acts).length := by rw [acts17_len]; omega
    have nth := act17_nth h
    have q2 := load_openG2 (P := Tryz.prog) (t := 2) (k := i * 8) (j := 9) (u := .val (.int .i64 (acts.getD i act17Z).s.fare)) 3 2 (by kernel_rfl) hRa nth hpos
    have q3 := load_openG0 (P := Tryz.prog) (t := 100) (k := i * 8) (j := 9) (u := .agg (act17X (acts.getD i act17Z) (acts.getD i act17Z).d)) (by kernel_rfl) hRa nth hpos
    have hin : acts.getD i act17Z ∈ acts := List.mem_of_getElem? (getD_some h act17Z)
    have hrd := not0_rd (hA _ hin)
    have hnx : runO qb acts (i + 1) = (doX (runO qb acts i) (not0 (acts.getD i act17Z))).b := rfl
    have hJ' := fun eB' => hJ ⟨i + 1, h, eB'⟩ (by show _ - (i + 1) < _ - i; omega)
    clear hJ
    simp only [hnx] at hJ'
    clear hnx
    generalize acts.getD i act17Z = x at *
    rcases Bool.eq_false_or_eq_true (decide ((1099511627776 : Int) ≤ x.s.fare)) with e | e
    · exact leaf_end calNone false 400 [hB 10 3 _ _ z0, hG 12 2 q1, hG 12 5 q2, hB 12 6 _ _ e, hC 13 0 c9] calNone_ok (by kernel_rfl)
    have hfx : (not0 x).s.fare < 1099511627776 := by have := of_decide_eq_false e; show x.s.fare < _; omega
    have eB' := doX_eb eB hrd.ok hfx
    have fin := once17_act F (a := a) (n := acts.length) (cap := cap) (i := i) (eb := eb) (R := R) (J := J) (by omega) hrd hfx eB (hJ' eB')
    clear hJ'
    rcases Bool.eq_false_or_eq_true (decide (x.d = 0)) with e2 | e2
    · have e3 : not0 x = { x with d := 3 } := by unfold not0; rw [if_pos (of_decide_eq_true e2)]
      rw [e3] at fin
      exact leaf_cut (rgK Tryz.prog OnceF17 17 [J]) _ _ calNone false 400 [hB 10 3 _ _ z0, hG 12 2 q1, hG 12 5 q2, hB 12 6 _ _ e, hG 14 2 q1, hG 14 3 q3, hB 15 2 _ _ e2, .stop 17] calNone_ok (by kernel_rfl) fin
    · have e3 : not0 x = x := by unfold not0; rw [if_neg (of_decide_eq_false e2)]
      rw [e3] at fin
      exact leaf_cut (rgK Tryz.prog OnceF17 17 [J]) _ _ calNone false 400 [hB 10 3 _ _ z0, hG 12 2 q1, hG 12 5 q2, hB 12 6 _ _ e, hG 14 2 q1, hG 14 3 q3, hB 15 2 _ _ e2, .stop 17] calNone_ok (by kernel_rfl) fin
  · have z0 : decide ((i : Int) < (acts.length : Int)) = false := decide_eq_false (by omega)
    exact leaf_end calNone false 400 [hB 10 3 _ _ z0, hC 28 0 c9] calNone_ok (by kernel_rfl)
theorem once17_any (s : SaleV) (A : SaleA) (a : Option Addr) (l : List Act17) (c : Nat) (w : World) (at0 : SaleAt w s A) (sw : SaleW s) (hr : Row w a (cellsL act17C l)) (hn : a = none → c = 0) (hl : l.length ≤ maxLen) (ok : ∀ x ∈ l, Act17In w x) :
    Calls Tryz.prog OnceF17 #[saleAgg s A, .slice a l.length c] w fun e w' => e = .returned (.bool true) ∧ Below w.heap.size w w' :=
  (once17_law (fun _ _ => oldC w) (s := s) (A := A) (cap := c) (fun _ _ => rd_old hr) (maxLen_le hl) (fun x hx => ⟨maxLen_le (ok x hx).ok.nl, maxLen_le (ok x hx).ok.nt, maxLen_le (ok x hx).ok.name⟩)
    (fun hg x hx => actRd_of (ok x hx) (by have := ((greatM_no hg).2 x hx).1; omega) (by have := ((greatM_no hg).2 x hx).2; omega))
    (fun hg => by
      unfold greatS at hg
      simp only [Bool.or_eq_false_iff, decide_eq_false_iff_not] at hg
      exact sw.small (by omega) (by omega))
    (fun _ _ => rd_old at0.legs) (fun _ _ => rd_old at0.taxes) (slOk_row at0.legs (fun _ e => by rw [cellsL_len encLeg_len] at e; omega) at0.lnil) (slOk_row at0.taxes (fun _ e => by rw [encTaxL_len] at e; omega) at0.tnil)
    (fun _ _ => (0, undef)) [] w (Mem.old w)).mono fun e w' ⟨x, h, hm⟩ => ⟨h, (show Mem (oldC w :: []) w' from hm).below 0 rfl⟩
end Go.Proofs.YtlekbdpdlalhbaaGreat
