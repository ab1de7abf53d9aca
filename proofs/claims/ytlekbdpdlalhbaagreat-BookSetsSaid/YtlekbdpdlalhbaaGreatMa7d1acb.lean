/- EbW1, EbW2, EbW3. -/
import Derived.Test.YtlekbdpdlalhbaaGreatMd40ffb6
import Derived.Test.YtlekbdpdlalhbaaGreatM4f78b84
import Derived.Test.YtlekbdpdlalhbaaGreatEaP
section
namespace Go.Proofs.YtlekbdpdlalhbaaGreat
set_option maxRecDepth 100000
open Go.RowKit Go.Lib Go.Tk Go.Shelf Go.Vc Go.Sx
set_option linter.unusedVariables false
set_option linter.unusedSimpArgs false

def Do17F : Nat := 43
def Bal17F : Nat := 60

def act17X (x : Act17) (d : Int) : List SV := .val (.int .i64 d) :: .val (.int .u8 x.t.c) :: .val (.int .u64 x.t.r) :: salS x.s (.val (.slice x.A.la x.s.legs.length x.A.lc)) (.val (.slice x.A.ta x.s.taxes.length x.A.tc))
structure ActRd (F : CF) (x : Act17) : Prop where
  ok : SaleOk x.s
  t : TidOk x.t
  hl : ∀ b v, Rd (F b v) x.A.la (cellsL encLeg x.s.legs)
  ht : ∀ b v, Rd (F b v) x.A.ta (cellsL encTax x.s.taxes)
  h1 : SlOk x.A.la x.s.legs.length x.A.lc
  h2 : SlOk x.A.ta x.s.taxes.length x.A.tc
theorem do17_w (F : CF) {B : BookV} (h : ExOk B) {x : Act17} (a : ActRd F x) : CallOK Tryz.prog Do17F [.ptr 0 0 0, .agg (act17X x x.d)] [((0, 9), .fam F)] (bkC B) (xrV (doX B x)) (xrP (doX B x)) := by
  have c1 := exIssue_F F h.bk a.ok a.hl a.ht a.h1 a.h2
  have c2 := display_w h a.t
  have c3 := void_w h a.t
  have c4 := refund_w h a.t
  have c5 := exchange_F F h a.t a.ok a.hl a.ht a.h1 a.h2
  unfold doX
  by_cases g0 : x.d = 0
  · rw [if_pos g0]
    have e0 : decide (x.d = 0) = true := decide_eq_true g0
    exact callOK_run 400 [hI 1 1 IntKind.i64 _ _ g0, hC 3 3 c1] (by kernel_rfl) (by kernel_rfl)
  rw [if_neg g0]
  have e0 : decide (x.d = 0) = false := decide_eq_false g0
  by_cases g1 : x.d = 1
  · rw [if_pos g1]
    have e1 : decide (x.d = 1) = true := decide_eq_true g1
    exact callOK_run 400 [hI 1 1 IntKind.i64 _ _ g1, hC 5 3 c2] (by kernel_rfl) (by kernel_rfl)
  rw [if_neg g1]
  have e1 : decide (x.d = 1) = false := decide_eq_false g1
  by_cases g2 : x.d = 2
  · rw [if_pos g2]
    have e2 : decide (x.d = 2) = true := decide_eq_true g2
    exact callOK_run 400 [hI 1 1 IntKind.i64 _ _ g2, hC 7 3 c3] (by kernel_rfl) (by kernel_rfl)
  rw [if_neg g2]
  have e2 : decide (x.d = 2) = false := decide_eq_false g2
  by_cases g3 : x.d = 3
  · rw [if_pos g3]
    have e3 : decide (x.d = 3) = true := decide_eq_true g3
    exact callOK_run 400 [hI 1 1 IntKind.i64 _ _ g3, hC 9 3 c4] (by kernel_rfl) (by kernel_rfl)
  rw [if_neg g3]
  have e3 : decide (x.d = 3) = false := decide_eq_false g3
  exact callOK_run 400 [hB 2 0 _ _ e0, hB 4 0 _ _ e1, hB 6 0 _ _ e2, hB 8 0 _ _ e3, hC 10 5 c5] (by kernel_rfl) (by kernel_rfl)
theorem bal17_w {B : BookV} {d : DocV} {w : Int} (ht : TidOk d.t) (hv : d.vals.length ≤ 1000) (hb : balI (toT d) (statusL B d.t) (statusL B d.t).length = (w, 0)) :
    CallOK Tryz.prog Bal17F [.ptr 0 0 0, docRaw d] (bkC B ++ docI d) [] (.tup [.val (.int .i64 w), .val (.bool true)]) [] := by
  have hlen : (statusL B d.t).length ≤ 4 := by unfold statusL; rw [List.length_map]; exact coupL_len B d.t
  have c1 := status_c B ht
  obtain ⟨n, hn⟩ : ∃ n, (statusL B d.t).length = n := ⟨_, rfl⟩
  have c2 := tbal_w (d := d) (st := statusL B d.t) (n := n) hn (by omega) hv (by omega)
  rw [hn] at hb
  rw [hb] at c2
  unfold stC at c1
  rw [hn] at c1
  rcases (show n = 0 ∨ n = 1 ∨ n = 2 ∨ n = 3 ∨ n = 4 by omega) with rfl | rfl | rfl | rfl | rfl
  · exact callOK_run 400 [hC 1 3 c1, hC 2 5 c2] (by kernel_rfl) (by kernel_rfl)
  · exact callOK_run 400 [hC 1 3 c1, hC 2 5 c2] (by kernel_rfl) (by kernel_rfl)
  · exact callOK_run 400 [hC 1 3 c1, hC 2 5 c2] (by kernel_rfl) (by kernel_rfl)
  · exact callOK_run 400 [hC 1 3 c1, hC 2 5 c2] (by kernel_rfl) (by kernel_rfl)
  · exact callOK_run 400 [hC 1 3 c1, hC 2 5 c2] (by kernel_rfl) (by kernel_rfl)
end Go.Proofs.YtlekbdpdlalhbaaGreat
end
section
namespace Go.Proofs.YtlekbdpdlalhbaaGreat
set_option maxRecDepth 100000
open Go.RowKit Go.Lib Go.Tk Go.Shelf Go.Vc Go.Sx
set_option linter.unusedVariables false
set_option linter.unusedSimpArgs false

def greatS (s : SaleV) : Bool := decide ((20 : Int) < (s.legs.length : Int)) || (decide ((20 : Int) < (s.taxes.length : Int)) || decide ((200 : Int) < (s.name.size : Int)))
def Great17F : Nat := 40
def AT17 : TypeId := 97
theorem act17X_den (x : Act17) (ε : Env) : SV.dens ε (act17X x x.d) = act17C x := rfl
theorem act17_nth {acts : List Act17} {i : Nat} (h : i < acts.length) : ∀ (ε : Env) (q : Nat) (v : SV), (act17X (acts.getD i act17Z) (acts.getD i act17Z).d)[q]? = some v → (cellsL act17C acts)[i * 8 + q]? = some (v.den ε) :=
  cells_nth (enc := act17C) (encS := fun x => act17X x x.d) act17X_den (fun _ => rfl) (getD_some h act17Z)
theorem acts17_len (acts : List Act17) : (cellsL act17C acts).length = acts.length * 8 := cellsL_len (enc := act17C) (fun _ => rfl) acts
def greatM (acts : List Act17) : Bool := decide ((100 : Int) < (acts.length : Int)) || acts.any fun x => greatS x.s
theorem great17_w (F : CF) {a : Option Addr} {cap : Nat} {acts : List Act17} (hR : ∀ b v, Rd (F b v) a (cellsL act17C acts)) (hl : acts.length ≤ 9223372036854775807) (hf : ∀ x ∈ acts, x.s.legs.length ≤ 9223372036854775807 ∧ x.s.taxes.length ≤ 9223372036854775807 ∧ x.s.name.size ≤ 9223372036854775807) :
    CallOK Tryz.prog Great17F [nilS, .val (.slice a acts.length cap)] [((0, 9), .fam F)] [] (.val (.bool (greatM acts))) [] := by
  rcases Bool.eq_false_or_eq_true (decide ((100 : Int) < (acts.length : Int))) with g | g
  · rw [show greatM acts = true by unfold greatM; rw [g]; rfl]
    exact callOK_run 400 [hB 1 6 _ _ g] (by kernel_rfl) (by kernel_rfl)
  have hl100 : acts.length ≤ 100 := by have := of_decide_eq_false g; omega
  refine callOK_intro (by kernel_rfl) fun eb R => ?_
  refine go_loop (X := Unit) 0 [] (fun _ => ([(0, nilS), (1, .val (.slice a acts.length cap)), (5, .val (.int .i64 0))], [((0, 9), .fam F)])) (fun _ => 0) () calNone false 400 [hB 1 6 _ _ g] calNone_ok (by kernel_rfl) ?_
  rintro ⟨⟩ J0 hJ0
  refine go_loop (X := { i : Nat // i ≤ acts.length ∧ ∀ j, j < i → greatS (acts.getD j act17Z).s = false }) 1 [] (fun x => ([(1, .val (.slice a acts.length cap)), (6, .val (.int .i64 (x.1 : Int)))], [((0, 9), .fam F)])) (fun x => acts.length - x.1) ⟨0, Nat.zero_le _, fun j hj => absurd hj (Nat.not_lt_zero _)⟩ calNone false 400 [] calNone_ok (by kernel_rfl) ?_
  rintro ⟨i, hi, hd⟩ J hJ
  by_cases h : i < acts.length
  · have hin : acts.getD i act17Z ∈ acts := List.mem_of_getElem? (getD_some h act17Z)
    have hb := hf _ hin
    have q0 : decide ((i : Int) < (acts.length : Int)) = true := decide_eq_true (by omega)
    have q1 := idx_openG (P := Tryz.prog) (t := AT17) (e := 100) (size := 8) (j := 9) (k := .i64) (cap := cap) (n := acts.length) Tryz.underlying97 (by kernel_rfl) (acts17_len acts) hR h
    have hpos : 0 < (cellsL act17C acts).length := by rw [acts17_len]; omega
    have nth := act17_nth h
    have q2 := load_openG2 (P := Tryz.prog) (t := 56) (k := i * 8) (j := 9) (u := .val (.slice (acts.getD i act17Z).A.la (acts.getD i act17Z).s.legs.length (acts.getD i act17Z).A.lc)) 3 1 (by kernel_rfl) hR nth hpos
    have q3 := load_openG2 (P := Tryz.prog) (t := 57) (k := i * 8) (j := 9) (u := .val (.slice (acts.getD i act17Z).A.ta (acts.getD i act17Z).s.taxes.length (acts.getD i act17Z).A.tc)) 3 3 (by kernel_rfl) hR nth hpos
    have q4 := load_openG2 (P := Tryz.prog) (t := 9) (k := i * 8) (j := 9) (u := .val (.string (acts.getD i act17Z).s.name)) 3 0 (by kernel_rfl) hR nth hpos
    have q5 : IntKind.i64.wrap ((i : Int) + 1) = ((i + 1 : Nat) : Int) := by rw [wr_i64 (by omega)]; omega
    have bad : greatS (acts.getD i act17Z).s = true → greatM acts = true := fun e => by
      unfold greatM
      rw [List.any_eq_true.2 ⟨_, hin, e⟩, Bool.or_true]
    have good : greatS (acts.getD i act17Z).s = false → ∀ j, j < i + 1 → greatS (acts.getD j act17Z).s = false := fun e j hj => by
      by_cases q : j = i
      · subst q; exact e
      · exact hd j (by omega)
    generalize hx : acts.getD i act17Z = x at *
    rcases Bool.eq_false_or_eq_true (decide ((20 : Int) < (x.s.legs.length : Int))) with g1 | g1
    · rw [bad (by unfold greatS; rw [g1]; rfl)]
      exact leaf_end calNone false 400 [hB 9 3 _ _ q0, hG 11 2 q1, hG 11 5 q2, hB 11 7 _ _ g1] calNone_ok (by kernel_rfl)
    rcases Bool.eq_false_or_eq_true (decide ((20 : Int) < (x.s.taxes.length : Int))) with g2 | g2
    · rw [bad (by unfold greatS; rw [g1, g2]; rfl)]
      exact leaf_end calNone false 400 [hB 9 3 _ _ q0, hG 11 2 q1, hG 11 5 q2, hB 11 7 _ _ g1, hG 11 11 q1, hG 11 14 q3, hB 11 16 _ _ g2] calNone_ok (by kernel_rfl)
    rcases Bool.eq_false_or_eq_true (decide ((200 : Int) < (x.s.name.size : Int))) with g3 | g3
    · rw [bad (by unfold greatS; rw [g1, g2, g3]; rfl)]
      exact leaf_end calNone false 400 [hB 9 3 _ _ q0, hG 11 2 q1, hG 11 5 q2, hB 11 7 _ _ g1, hG 11 11 q1, hG 11 14 q3, hB 11 16 _ _ g2, hG 11 21 q1, hG 11 24 q4, hB 11 26 _ _ g3] calNone_ok (by kernel_rfl)
    have gg : greatS x.s = false := by unfold greatS; rw [g1, g2, g3]; rfl
    exact leaf_next calNone false 400 [hB 9 3 _ _ q0, hG 11 2 q1, hG 11 5 q2, hB 11 7 _ _ g1, hG 11 11 q1, hG 11 14 q3, hB 11 16 _ _ g2, hG 11 21 q1, hG 11 24 q4, hB 11 26 _ _ g3, hI 10 1 IntKind.i64 _ _ q5] calNone_ok (hJ ⟨i + 1, h, good gg⟩ (by show _ - (i + 1) < _ - i; omega)) (by kernel_rfl)
  · have q0 : decide ((i : Int) < (acts.length : Int)) = false := decide_eq_false (by omega)
    have e : greatM acts = false := by
      unfold greatM
      rw [g, Bool.false_or, List.any_eq_false]
      intro x hx
      obtain ⟨j, hj, rfl⟩ := List.getElem_of_mem hx
      have := hd j (by omega)
      rw [List.getD_eq_getElem?_getD, List.getElem?_eq_getElem hj] at this
      simpa using this
    rw [e]
    exact leaf_end calNone false 400 [hB 9 3 _ _ q0] calNone_ok (by kernel_rfl)
/-- what no great acts are -/
theorem greatM_no {acts : List Act17} (h : greatM acts = false) : acts.length ≤ 100 ∧ ∀ x ∈ acts, x.s.legs.length ≤ 20 ∧ x.s.taxes.length ≤ 20 := by
  unfold greatM at h
  rw [Bool.or_eq_false_iff] at h
  refine ⟨by have := of_decide_eq_false h.1; omega, fun x hx => ?_⟩
  have := List.any_eq_false.1 h.2 x hx
  unfold greatS at this
  simp only [Bool.or_eq_true, decide_eq_true_eq, not_or] at this
  omega
end Go.Proofs.YtlekbdpdlalhbaaGreat
end
section
namespace Go.Proofs.YtlekbdpdlalhbaaGreat
set_option maxRecDepth 100000
open Go.RowKit Go.Lib Go.Tk Go.Shelf Go.Vc Go.Sx
set_option linter.unusedVariables false
set_option linter.unusedSimpArgs false

def BalF17 : Nat := 10
def balSl (a : Option Addr) (n cap : Nat) (b : Option Addr) (m cap2 i : Nat) : Slots := [(0, .val (.slice a n cap)), (1, .val (.slice b m cap2)), (5, .ptr 1 0 0), (7, .val (.int .i64 (i : Int)))]
def balDl (B : BookV) (k : Nat) : Slots := [(8, .raw 1 1), (9, .val (.int .i64 (sumK paidB B.docs k))), (10, .val (.int .i64 (sumK (restB B) B.docs k))), (11, .val (.int .i64 (k : Int)))]
def balH (F : CF) (B : BookV) : Heap := [((0, 9), .fam F), ((1, 0), .fam (bookF B))]
def docBx (d : DocV) : Heap := [((1, 2), .box none (docS d (.raw 1 10) (.raw 1 11) (.raw 1 12))), ((1, 10), legR d.s.legs.length d.s.legs), ((1, 11), taxR d.s.taxes.length d.s.taxes), ((1, 12), i64R d.vals.length d.vals)]
theorem tid_nth {l : List Tid} {k : Nat} {t : Tid} (h : l[k]? = some t) : ∀ (ε : Env) (q : Nat) (v : SV), (tidS t)[q]? = some v → (cellsL tcL l)[k * 2 + q]? = some (v.den ε) :=
  cells_nth (enc := tcL) (encS := tidS) (fun _ _ => rfl) (fun _ => rfl) h
theorem tids_get {ds : List DocV} {k : Nat} {d : DocV} (h : ds[k]? = some d) : (ds.map (·.t))[k]? = some d.t := by rw [List.getElem?_map, h]; rfl
theorem st_nth {L : List OwnV} {j : Nat} (h : j < L.length) : ∀ (ε : Env) (q : Nat) (v : SV), ([.val (.int .u8 (L.getD j own0).k.s)] : List SV)[q]? = some v → ((L.map (·.k.s)).map (Value.int .u8))[j * 1 + q]? = some (v.den ε) := by
  intro ε q v hv
  cases q with
  | zero =>
    cases hv
    rw [Nat.mul_one, Nat.add_zero, List.getElem?_map, List.getElem?_map, getD_some h own0]; rfl
  | succ q => cases hv
theorem va_nth {L : List OwnV} {vs : List Int} {j : Nat} (e : L.map (·.k.v) = vs) (h : j < L.length) : ∀ (ε : Env) (q : Nat) (v : SV), ([.val (.int .i64 (L.getD j own0).k.v)] : List SV)[q]? = some v → (vs.map (Value.int .i64))[j * 1 + q]? = some (v.den ε) := by
  intro ε q v hv
  cases q with
  | zero =>
    cases hv
    rw [← e, Nat.mul_one, Nat.add_zero, List.getElem?_map, List.getElem?_map, getD_some h own0]; rfl
  | succ q => cases hv
theorem wrap_in {x : Int} (h : -9223372036854775808 ≤ x ∧ x ≤ 9223372036854775807) : IntKind.i64.wrap x = x := wr_i64 h
/-- behind the look at a document: sums -/
theorem bal_sums (F : CF) {a b : Option Addr} {n cap m cap2 i : Nat} {eb : Env} {R : List Chunk} {J J2 : Act → World → Prop} {B : BookV} (eB : EB B) {k : Nat} {d : DocV} (hk : B.docs[k]? = some d) {w : Int} (g : DocG B d w)
    (hJ : ∀ ε a' w, Rel (ntOf Tryz.prog BalF17) 1 eb R ⟨balSl a n cap b m cap2 i ++ balDl B (k + 1), balH F B ++ [((1, 1), tidR (B.docs.map (·.t)))], 2⟩ ε a' w → J2 a' w) :
    Go Tryz.prog BalF17 (.val (.bool true)) ([((0, 9), .fam F)] ++ []) eb R .nrm (rgK Tryz.prog BalF17 27 [J, J2])
      (balSl a n cap b m cap2 i ++ balDl B k ++ [(12, .ptr 1 2 0), (14, .val (.int .i64 w)), (15, .val (.bool true)), (16, .val (.int .i64 w))]) (balH F B ++ [((1, 1), tidR (B.docs.map (·.t)))] ++ docBx d) := by
  have hd := List.mem_of_getElem? hk
  have hlt : k < B.docs.length := by
    rcases Nat.lt_or_ge k B.docs.length with h | h
    · exact h
    · rw [List.getElem?_eq_none h] at hk; cases hk
  have hmany := eB.ex.bk.many
  have ht := tid_nth (tids_get hk)
  have hlen : (B.docs.map (·.t)).length = B.docs.length := List.length_map _
  have hkl : k < (B.docs.map (·.t)).length := by omega
  obtain ⟨gb, gp, gbk, gk, gl, go, glc, gv⟩ := g
  have t0 : TidOk d.t := by
    obtain ⟨j, hj, hjd⟩ := List.getElem_of_mem hd
    have e := eB.ex.bk.docs j d (by rw [List.getElem?_eq_getElem hj, hjd])
    have hs := eB.ex.bk.self
    have hn := eB.ex.bk.n
    rw [e]
    exact ⟨⟨by show 0 ≤ B.self; omega, by show B.self ≤ 255; omega⟩, by show 0 ≤ (j : Int) + 1; omega, by show (j : Int) + 1 ≤ _; omega⟩
  have pb := sumK_bd (f := paidB) (ds := B.docs) (M := 35184372088832) (by decide) (fun x hx => by
    obtain ⟨w', g'⟩ := eB.docG hx
    have := g'.paid
    have := g'.back
    unfold paidB; omega) k (by omega)
  have rb := sumK_bd (f := restB B) (ds := B.docs) (M := 105553116266496) (by decide) (fun x hx => by
    obtain ⟨w', g'⟩ := eB.docG hx
    have := g'.kept
    have := g'.left
    have := g'.op
    unfold restB; omega) k (by omega)
  have sp := sumK_succ (f := paidB) hk
  have sr := sumK_succ (f := restB B) hk
  have n0 : (!decide (w = w)) = false := by simp
  have n1 : decide (d.paid < 0) = false := decide_eq_false (by omega)
  have n2 : decide (d.back < 0) = false := decide_eq_false (by omega)
  have n3 : decide (d.kept < 0) = false := decide_eq_false (by omega)
  have n4 : decide (d.left < 0) = false := decide_eq_false (by omega)
  have n5 : decide (d.credit < d.left) = false := decide_eq_false (by omega)
  have w1 : IntKind.i64.wrap (sumK paidB B.docs k + d.paid) = sumK paidB B.docs k + d.paid := wrap_in (by omega)
  have w2 : IntKind.i64.wrap (sumK paidB B.docs k + d.paid - d.back) = sumK paidB B.docs (k + 1) := by rw [sp, wrap_in (by omega)]; unfold paidB; omega
  have w3 : IntKind.i64.wrap (sumK (restB B) B.docs k + d.kept) = sumK (restB B) B.docs k + d.kept := wrap_in (by omega)
  have w4 : IntKind.i64.wrap (sumK (restB B) B.docs k + d.kept + d.left) = sumK (restB B) B.docs k + d.kept + d.left + opT (coupL B d.t) 0 := by rw [wrap_in (by omega)]; exact (Int.add_zero _).symm
  have sr := hid sr
  clear sp
  have c1 := status_c B t0
  have q1 := load_eltG (P := Tryz.prog) (t := 25) (cs := tidS d.t) (n := (B.docs.map (·.t)).length) (p := 0) (j := 0) (b := k * 2) (E := 25) (size := 2) (u := .agg (tidS d.t)) (by kernel_rfl) ht
  have hL4 := coupL_len B d.t
  have hsl : (statusL B d.t).length = (coupL B d.t).length := List.length_map _
  have hvl : d.vals.length = (coupL B d.t).length := by rw [← gv]; exact List.length_map _
  have cvn : ∀ o ∈ coupL B d.t, 0 ≤ o.k.v := (eB.ei.doc d hd).cv
  refine go_loop (X := { j : Nat // j ≤ (coupL B d.t).length }) 2 [J, J2] (fun x => (balSl a n cap b m cap2 i ++ [(8, .raw 1 1), (9, .val (.int .i64 (sumK paidB B.docs (k + 1)))), (10, .val (.int .i64 (sumK (restB B) B.docs k + d.kept + d.left + opT (coupL B d.t) x.1))), (11, .val (.int .i64 (k : Int))), (12, .ptr 1 2 0), (19, .raw 1 3), (20, .val (.int .i64 (x.1 : Int)))], balH F B ++ [((1, 1), tidR (B.docs.map (·.t)))] ++ docBx d ++ [((1, 3), stC (statusL B d.t))]))
    (fun x => (coupL B d.t).length - x.1) ⟨0, Nat.zero_le _⟩ calNone false 400 [hB 27 5 _ _ n0, hB 27 10 _ _ n1, hB 27 15 _ _ n2, hB 27 20 _ _ n3, hB 27 25 _ _ n4, hB 27 32 _ _ n5, hI 29 3 IntKind.i64 _ _ w1, hI 29 6 IntKind.i64 _ _ w2, hI 30 3 IntKind.i64 _ _ w3, hI 30 6 IntKind.i64 _ _ w4, .opt 31 3 (.at_ 0 _ _ _ ⟨rfl, hkl⟩), hG 31 4 q1, hC 31 5 c1] calNone_ok (by kernel_rfl) ?_
  rintro ⟨j, hj⟩ J3 hJ3
  by_cases h : j < (coupL B d.t).length
  · have z0 : decide ((j : Int) < ((statusL B d.t).length : Int)) = true := decide_eq_true (by omega)
    have z1 : j < (statusL B d.t).length := by omega
    have z2 := load_eltG (P := Tryz.prog) (t := 32) (cs := [.val (.int .u8 ((coupL B d.t).getD j own0).k.s)]) (n := (statusL B d.t).length) (p := 0) (j := 0) (b := j * 1) (E := 32) (size := 1) (u := .val (.int .u8 ((coupL B d.t).getD j own0).k.s)) (xs := (statusL B d.t).map (.int .u8)) (by kernel_rfl) (st_nth h)
    have z3 : j < d.vals.length := by omega
    have z4 := load_eltG (P := Tryz.prog) (t := 2) (cs := [.val (.int .i64 ((coupL B d.t).getD j own0).k.v)]) (n := d.vals.length) (p := 0) (j := 0) (b := j * 1) (E := 2) (size := 1) (u := .val (.int .i64 ((coupL B d.t).getD j own0).k.v)) (xs := d.vals.map (.int .i64)) (by kernel_rfl) (va_nth gv h)
    have z5 : IntKind.i64.wrap ((j : Int) + 1) = ((j + 1 : Nat) : Int) := by rw [wr_i64 (by omega)]; omega
    have ob := opT_bd cvn (j := j) (by omega)
    have ob2 := opT_bd cvn (j := j + 1) (by omega)
    rcases Bool.eq_false_or_eq_true (decide (((coupL B d.t).getD j own0).k.s ≤ 4)) with e | e
    · have eo : opT (coupL B d.t) (j + 1) = opT (coupL B d.t) j + ((coupL B d.t).getD j own0).k.v := by show _ + (bif _ then _ else _) = _; rw [e]; rfl
      have z6 : IntKind.i64.wrap (sumK (restB B) B.docs k + d.kept + d.left + opT (coupL B d.t) j + ((coupL B d.t).getD j own0).k.v) = sumK (restB B) B.docs k + d.kept + d.left + opT (coupL B d.t) (j + 1) := by
        rw [wrap_in (by omega)]; omega
      exact leaf_round (lpK Tryz.prog BalF17 2 [J, J2]) false 400 [hB 33 3 _ _ z0, .opt 35 2 (.at_ 0 _ _ _ ⟨rfl, z1⟩), hG 35 3 z2, hB 35 4 _ _ e, .opt 36 4 (.at_ 0 _ _ _ ⟨rfl, z3⟩), hG 36 5 z4, hI 36 6 IntKind.i64 _ _ z6, hI 34 1 IntKind.i64 _ _ z5] (hJ3 ⟨j + 1, h⟩ (by show _ - (j + 1) < _ - j; omega)) (by kernel_rfl)
    · have eo : opT (coupL B d.t) (j + 1) = opT (coupL B d.t) j := by show _ + (bif _ then _ else _) = _; rw [e]; exact Int.add_zero _
      rw [← eo]
      exact leaf_round (lpK Tryz.prog BalF17 2 [J, J2]) false 400 [hB 33 3 _ _ z0, .opt 35 2 (.at_ 0 _ _ _ ⟨rfl, z1⟩), hG 35 3 z2, hB 35 4 _ _ e, hI 34 1 IntKind.i64 _ _ z5] (hJ3 ⟨j + 1, h⟩ (by show _ - (j + 1) < _ - j; omega)) (by kernel_rfl)
  · have he : j = (coupL B d.t).length := by omega
    subst he
    have z0 : decide (((coupL B d.t).length : Int) < ((statusL B d.t).length : Int)) = false := decide_eq_false (by omega)
    have z1 : sumK (restB B) B.docs k + d.kept + d.left + opT (coupL B d.t) (coupL B d.t).length = sumK (restB B) B.docs (k + 1) := by rw [opT_all, sr.out]; unfold restB; omega
    have z2 : IntKind.i64.wrap ((k : Int) + 1) = ((k + 1 : Nat) : Int) := by rw [wr_i64 (by omega)]; omega
    rw [z1]
    exact leaf_round (lpK Tryz.prog BalF17 1 [J]) false 400 [hB 33 3 _ _ z0, hI 18 1 IntKind.i64 _ _ z2] hJ (by kernel_rfl)
end Go.Proofs.YtlekbdpdlalhbaaGreat
end
