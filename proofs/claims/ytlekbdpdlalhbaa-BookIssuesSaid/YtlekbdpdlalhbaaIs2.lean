/- ISSUES (law 15), the walk: each ticket is its own. -/
import Derived.Test.YtlekbdpdlalhbaaM31d3a03
namespace Go.Proofs.Ytlekbdpdlalhbaa
set_option maxRecDepth 100000
open Go.RowKit Go.Lib Go.Tk Go.Shelf Go.Vc Go.Sx
set_option linter.unusedVariables false
set_option linter.unusedSimpArgs false

def IssuesF15 : Nat := 3
structure IB (B : BookV) : Prop where
  ex : ExOk B
  ks : KeysIn B
structure SalRd (F : CF) (x : SalX) : Prop where
  ok : SaleOk x.s
  hl : ∀ b v, Rd (F b v) x.A.la (cellsL encLeg x.s.legs)
  ht : ∀ b v, Rd (F b v) x.A.ta (cellsL encTax x.s.taxes)
  h1 : SlOk x.A.la x.s.legs.length x.A.lc
  h2 : SlOk x.A.ta x.s.taxes.length x.A.tc
theorem IB.issue {B : BookV} (h : IB B) {s : SaleV} (ok : SaleOk s) : IB (B.issue s) := by
  unfold BookV.issue
  rcases Bool.eq_false_or_eq_true (decide (B.issE s = 0)) with e | e <;> rw [e]
  · exact ⟨h.ex.issued ok (of_decide_eq_true e), h.ks.issued s⟩
  · exact h
def isSl (self n : Int) (a : Option Addr) (m cap i : Nat) (B : BookV) : Slots := [(0, .val (.int .u8 B.self)), (1, .val (.int .i64 B.n)), (2, .val (.slice a m cap)), (7, .ptr 1 0 0), (9, .val (.int .u64 (B.docs.length : Int))), (10, .val (.int .i64 (i : Int)))]
def isH (F : CF) (B : BookV) : Heap := [((0, 9), .fam F), ((1, 0), .fam (bookF B))]
def sumV (l : List Int) : Nat → Int
  | 0 => 0
  | i + 1 => sumV l i + l.getD i 0
theorem sumV_cons (x : Int) (l : List Int) : ∀ i, sumV (x :: l) (i + 1) = x + sumV l i
  | 0 => by simp [sumV]
  | i + 1 => by
    show sumV (x :: l) (i + 1) + _ = x + (sumV l i + _)
    rw [sumV_cons x l i, List.getD_cons_succ]; omega
theorem sumV_all : ∀ l : List Int, sumV l l.length = l.sum
  | [] => rfl
  | x :: l => by rw [List.length_cons, sumV_cons, sumV_all l, List.sum_cons]
theorem sumV_bd {l : List Int} (h : ∀ x ∈ l, 0 ≤ x) : ∀ {i : Nat}, i ≤ l.length → 0 ≤ sumV l i ∧ sumV l i ≤ l.sum := by
  induction l with
  | nil => intro i hi; simp at hi; subst hi; exact ⟨Int.le_refl _, Int.le_refl _⟩
  | cons x l ih =>
    intro i hi
    have hx := h x List.mem_cons_self
    have hl := sum_nonneg l fun y hy => h y (List.mem_cons_of_mem _ hy)
    cases i with
    | zero => exact ⟨Int.le_refl _, by show (0 : Int) ≤ _; rw [List.sum_cons]; omega⟩
    | succ i =>
      have := ih (fun y hy => h y (List.mem_cons_of_mem _ hy)) (i := i) (by simpa using hi)
      rw [sumV_cons, List.sum_cons]; omega
theorem issE_less {B : BookV} {s : SaleV} (h : B.issE s = 0) : makeE B.self ((B.docs.length : Int) + 1) s B.n = 0 := by
  unfold BookV.issE at h
  rcases Bool.eq_false_or_eq_true (decide ((32 : Int) ≤ (B.docs.length : Int))) with g | g
  · rw [g] at h; cases h
  · rw [g] at h; exact h
/-- a ticket that was sold: its coupons -/
theorem issues_coup (F : CF) {self n : Int} {a : Option Addr} {cap i : Nat} {sals : List SalX} (hR : ∀ b v, Rd (F b v) a (cellsL salC sals)) (hi : i < sals.length) (hi2 : i ≤ 1000) {x : SalX} (hx : sals.getD i salZ = x) (ha : SalRd F x)
    {eb : Env} {R : List Chunk} {J : Act → World → Prop} {B : BookV} (eB : IB B) (hm : B.issE x.s = 0)
    (hJ : ∀ ε a' w, Rel (ntOf Try.prog IssuesF15) 1 eb R ⟨isSl self n a sals.length cap (i + 1) (B.issued x.s), isH F (B.issued x.s), 2⟩ ε a' w → J a' w) :
    Go Try.prog IssuesF15 (.val (.bool true)) ([((0, 9), .fam F)] ++ []) eb R .nrm (rgK Try.prog IssuesF15 26 [J])
      ([(0, .val (.int .u8 B.self)), (1, .val (.int .i64 B.n)), (2, .val (.slice a sals.length cap)), (7, .ptr 1 0 0), (9, .val (.int .u64 ((B.docs.length : Int) + 1))), (10, .val (.int .i64 (i : Int))), (12, .ptr 1 2 0), (14, .ptr 1 3 0), (15, .ptr 1 4 0)])
      (isH F (B.issued x.s) ++ [((1, 2), .box none (docS (docMade B.nextT x.s) (.raw 1 10) (.raw 1 11) (.raw 1 12))), ((1, 12), i64R (shareV x.s.fare (wsOf x.s)).length (shareV x.s.fare (wsOf x.s))), ((1, 3), .box none (tidS B.nextT)), ((1, 4), .box none (docS (docMade B.nextT x.s) (.raw 1 20) (.raw 1 21) (.raw 1 22))), ((1, 22), i64R (shareV x.s.fare (wsOf x.s)).length (shareV x.s.fare (wsOf x.s)))]) := by
  have m := made_i ha.ok hm
  obtain ⟨-, -, hsh, -⟩ := check_shape (issE_check hm)
  obtain ⟨hS, hap, l1, l4, f0, f1⟩ := shape_share ha.ok hsh
  have hvl : (shareV x.s.fare (wsOf x.s)).length = x.s.legs.length := by rw [shareV_len hS, ws_len]
  have hn : (shareV x.s.fare (wsOf x.s)).length ≤ 4 := m.vl
  have t0 := nextT_ok eB.ex.bk
  have hco := coupL_issued (s := x.s) (eB.ks.next eB.ex.bk) m.vl
  have hget : ∀ k, k < (shareV x.s.fare (wsOf x.s)).length → lkt (B.issued x.s).owns ⟨B.nextT, (k : Int)⟩ = some (ownNew (x.s.legs.getD k leg0) ((shareV x.s.fare (wsOf x.s)).getD k 0)) := fun k hk => by
    have h1 := coupL_get (B := B.issued x.s) (t := B.nextT) (i := k) (by rw [hco, newL_len]; exact hk)
    rw [hco, newL_get hk] at h1
    exact h1
  have c9 := status_c (B.issued x.s) t0
  have hst : (statusL (B.issued x.s) B.nextT).length = (shareV x.s.fare (wsOf x.s)).length := by unfold statusL; rw [List.length_map, hco, newL_len]
  have sb := fun k hk => sumV_bd (l := shareV x.s.fare (wsOf x.s)) m.nn (i := k) hk
  have sall := sumV_all (shareV x.s.fare (wsOf x.s))
  rw [m.vs] at sall
  rw [m.vs] at sb
  have q1 := idx_openG (P := Try.prog) (t := 22) (e := 32) (size := 5) (j := 9) (k := .i64) (cap := cap) (n := sals.length) Try.underlying22 (by kernel_rfl) (sals_len sals) hR hi
  have hpos : 0 < (cellsL salC sals).length := by rw [sals_len]; omega
  have nth := salX_nth hi
  have q2 := load_openG (P := Try.prog) (t := 29) (k := i * 5) (j := 9) (u := .val (.slice (sals.getD i salZ).A.la (sals.getD i salZ).s.legs.length (sals.getD i salZ).A.lc)) 1 (by kernel_rfl) hR nth hpos
  have q3 := load_openG (P := Try.prog) (t := 2) (k := i * 5) (j := 9) (u := .val (.int .i64 (sals.getD i salZ).s.fare)) 2 (by kernel_rfl) hR nth hpos
  rw [hx] at q2 q3
  have hlen1 : (B.issued x.s).docs.length = B.docs.length + 1 := by show (B.docs ++ [_]).length = _; rw [List.length_append]; rfl
  have hself1 : (B.issued x.s).self = B.self := rfl
  have hn1 : (B.issued x.s).n = B.n := rfl
  have hJ : ∀ ε a' w, Rel (ntOf Try.prog IssuesF15) 1 eb R ⟨[(0, .val (.int .u8 B.self)), (1, .val (.int .i64 B.n)), (2, .val (.slice a sals.length cap)), (7, .ptr 1 0 0), (9, .val (.int .u64 ((B.docs.length : Int) + 1))), (10, .val (.int .i64 ((i + 1 : Nat) : Int)))], isH F (B.issued x.s), 2⟩ ε a' w → J a' w := by
    have h := hJ
    unfold isSl at h
    rw [hlen1] at h
    exact h
  have z9 : IntKind.i64.wrap ((i : Int) + 1) = ((i + 1 : Nat) : Int) := by rw [wr_i64 (by omega)]; omega
  clear hlen1 hself1 hn1 hco
  generalize hC : B.issued x.s = C at *
  clear hC
  generalize shareV x.s.fare (wsOf x.s) = vs at *
  generalize hT : B.nextT = T at *
  clear hT
  have hvl' := hid hvl
  clear hvl
  refine go_loop (X := { k : Nat // k ≤ vs.length }) 1 [J] (fun y => ([(0, .val (.int .u8 B.self)), (1, .val (.int .i64 B.n)), (2, .val (.slice a sals.length cap)), (7, .ptr 1 0 0), (9, .val (.int .u64 ((B.docs.length : Int) + 1))), (10, .val (.int .i64 (i : Int))), (12, .ptr 1 2 0), (14, .ptr 1 3 0), (15, .ptr 1 4 0), (17, .val (.int .i64 (sumV vs y.1))), (18, .val (.int .i64 (y.1 : Int)))],
      isH F C ++ [((1, 2), .box none (docS (docMade T x.s) (.raw 1 10) (.raw 1 11) (.raw 1 12))), ((1, 12), i64R vs.length vs), ((1, 3), .box none (tidS T)), ((1, 4), .box none (docS (docMade T x.s) (.raw 1 20) (.raw 1 21) (.raw 1 22))), ((1, 22), i64R vs.length vs)])) (fun y => vs.length - y.1) ⟨0, Nat.zero_le _⟩ calNone false 400 [] calNone_ok (by kernel_rfl) ?_
  rintro ⟨k, hk⟩ J2 hJ2
  by_cases h : k < vs.length
  · have z0 : decide ((k : Int) < (vs.length : Int)) = true := decide_eq_true (by omega)
    have z1 : IntKind.u8.wrap (k : Int) = (k : Int) := wr_u8 (by omega)
    have hlg : k < x.s.legs.length := by have := hvl'.out; omega
    have c1 := own_c C (k := ⟨T, (k : Int)⟩) (kidOk_at t0 (by omega) (by omega))
    rw [hget k h] at c1
    have q4 := load_eltG (P := Try.prog) (t := 2) (cs := [.val (.int .i64 (vs.getD k 0))]) (n := vs.length) (p := 0) (j := 0) (b := k * 1) (E := 2) (size := 1) (u := .val (.int .i64 (vs.getD k 0))) (xs := vs.map (.int .i64)) (by kernel_rfl) (i64_nth h)
    have q5 := idx_openG (P := Try.prog) (t := 29) (e := 47) (size := 3) (j := 9) (k := .i64) (cap := x.A.lc) (n := x.s.legs.length) Try.underlying29 (by kernel_rfl) (cellsL_len encLeg_len _) ha.hl hlg
    have q6 := load_openG0 (P := Try.prog) (t := 47) (k := k * 3) (j := 9) (cs := legS' (x.s.legs.getD k leg0)) (u := .agg (legS' (x.s.legs.getD k leg0))) (by kernel_rfl) ha.hl (legS_nth (getD_some hlg leg0)) (by rw [cellsL_len encLeg_len]; omega)
    have n1 : (!decide (vs.getD k 0 = vs.getD k 0)) = false := by simp
    have e1 : (!ownEq (ownNew (x.s.legs.getD k leg0) (vs.getD k 0)) (ownNew (x.s.legs.getD k leg0) (vs.getD k 0))) = false := by rw [(ownEq_iff _ _).2 rfl]; rfl
    unfold ownEq cpnEq legEq at e1
    have b1 := sb k (by omega)
    have b2 := sb (k + 1) (by omega)
    have z2 : IntKind.i64.wrap (sumV vs k + vs.getD k 0) = sumV vs (k + 1) := by
      have : sumV vs (k + 1) = sumV vs k + vs.getD k 0 := rfl
      rw [this] at b2 ⊢
      exact wrap_in (by omega)
    have z3 : IntKind.i64.wrap ((k : Int) + 1) = ((k + 1 : Nat) : Int) := by rw [wr_i64 (by omega)]; omega
    have hJ2' := hJ2 ⟨k + 1, h⟩ (by show _ - (k + 1) < _ - k; omega)
    clear hget sb sall b1 b2
    exact leaf_round (lpK Try.prog IssuesF15 1 [J]) false 400 [hB 28 4 _ _ z0, hI 30 3 IntKind.u8 _ _ z1, hC 30 5 c1, .opt 31 6 (.at_ 0 _ _ _ ⟨rfl, h⟩), hG 31 7 q4, .opt 31 11 (.at_ 0 _ _ _ ⟨rfl, h⟩), hG 31 12 q4, hB 31 13 _ _ n1, hG 31 19 q1, hG 31 21 q2, hG 31 23 q5, hG 31 24 q6, .opt 31 28 (.at_ 0 _ _ _ ⟨rfl, h⟩), hG 31 29 q4, hB 31 32 _ _ e1, .opt 33 4 (.at_ 0 _ _ _ ⟨rfl, h⟩), hG 33 5 q4, hI 33 6 IntKind.i64 _ _ z2, hI 29 1 IntKind.i64 _ _ z3] hJ2' (by kernel_rfl)
  · have he : k = vs.length := by omega
    subst he
    have z0 : decide ((vs.length : Int) < (vs.length : Int)) = false := decide_eq_false (by omega)
    have z1 : (!decide (sumV vs vs.length = x.s.fare)) = false := by rw [sall]; simp
    have z2 : (!decide (((statusL C T).length : Int) = (vs.length : Int))) = false := by rw [hst]; simp
    clear hget sb sall
    exact leaf_round (lpK Try.prog IssuesF15 0 []) false 400 [hB 28 4 _ _ z0, hG 34 3 q1, hG 34 5 q3, hB 34 6 _ _ z1, hC 34 10 c9, hB 34 15 _ _ z2, hI 9 1 IntKind.i64 _ _ z9] hJ (by kernel_rfl)
/-- a sale: from the clone on -/
theorem issues_act (F : CF) {self n : Int} {a : Option Addr} {cap i : Nat} {sals : List SalX} (hR : ∀ b v, Rd (F b v) a (cellsL salC sals)) (hi : i < sals.length) (hi2 : i ≤ 1000) {x : SalX} (hx : sals.getD i salZ = x) (ha : SalRd F x)
    {eb : Env} {R : List Chunk} {J : Act → World → Prop} {B : BookV} (eB : IB B)
    (hJ : ∀ ε a' w, Rel (ntOf Try.prog IssuesF15) 1 eb R ⟨isSl self n a sals.length cap (i + 1) (B.issue x.s), isH F (B.issue x.s), 2⟩ ε a' w → J a' w) :
    Go Try.prog IssuesF15 (.val (.bool true)) ([((0, 9), .fam F)] ++ []) eb R .nrm (rgK Try.prog IssuesF15 12 [J]) (isSl self n a sals.length cap i B) (isH F B) := by
  refine go_open (X := { u : Unit // (B.owns.map (·.1)).Nodup ∧ (B.helds.map (·.1)).Nodup }) (fun _ => [((1, 0), .fam (bookF B)), ((0, 9), .fam F)]) (fun ε w hM => by
    have hM : Mem (F (ε 0 9).1 (ε 0 9).2 :: bookF B (ε 1 0).1 (ε 1 0).2 :: R) w := hM
    have h1 := hM.front 1 rfl
    exact ⟨⟨(), book_facts h1⟩, h1⟩) (fun _ => by kernel_rfl) ?_
  rintro ⟨-, nd1, nd2⟩
  have c0 := clone_b B eB.ex.cl eB.ex.bk.nodup
  have q1 := idx_openG (P := Try.prog) (t := 22) (e := 32) (size := 5) (j := 9) (k := .i64) (cap := cap) (n := sals.length) Try.underlying22 (by kernel_rfl) (sals_len sals) hR hi
  have hpos : 0 < (cellsL salC sals).length := by rw [sals_len]; omega
  have nth := salX_nth hi
  have q2 := load_openG0 (P := Try.prog) (t := 32) (k := i * 5) (j := 9) (u := .agg (salX (sals.getD i salZ))) (by kernel_rfl) hR nth hpos
  have q3 := load_openG (P := Try.prog) (t := 29) (k := i * 5) (j := 9) (u := .val (.slice (sals.getD i salZ).A.la (sals.getD i salZ).s.legs.length (sals.getD i salZ).A.lc)) 1 (by kernel_rfl) hR nth hpos
  rw [hx] at q2 q3
  have hmany := eB.ex.bk.many
  have hself : 0 ≤ B.self ∧ B.self ≤ 255 := by have := eB.ex.bk.self; have := eB.ex.bk.n; omega
  have w1 : IntKind.u64.wrap ((B.docs.length : Int) + 1) = (B.docs.length : Int) + 1 := wr_u64 (by omega)
  have z9 : IntKind.i64.wrap ((i : Int) + 1) = ((i + 1 : Nat) : Int) := by rw [wr_i64 (by omega)]; omega
  by_cases hm : B.issE x.s = 0
  · have c1 := issue_okC F eB.ex.bk ha.ok ha.hl ha.ht ha.h1 ha.h2 hm
    have hm' := issE_less hm
    have c2 := (make_ok F ha.ok (c := B.self) (r := (B.docs.length : Int) + 1) (n := B.n) hself ha.hl ha.ht ha.h1 ha.h2 hm').mv 9 rfl rfl rfl
    have hmany2 := issE_many hm
    have g1 : decide ((32 : Int) ≤ (B.docs.length : Int)) = false := decide_eq_false (by omega)
    have c3 := tsame_r F (s := x.s) (A := x.A) ha.hl ha.ht (fun e => (ha.h1.nil e).2) (fun e => (ha.h2.nil e).2) ha.ok
    have c4 := same_c (B.issued x.s) B (eB.ex.issued ha.ok hm).ds eB.ex.ds
    rw [sameB_docs (B := B.issued x.s) (C := B) (by show (B.docs ++ [_]).length ≠ _; rw [List.length_append]; simp)] at c4
    have hie : B.issue x.s = B.issued x.s := by unfold BookV.issue; rw [decide_eq_true hm]; rfl
    rw [hie] at hJ
    obtain ⟨-, -, hsh, -⟩ := check_shape (issE_check hm)
    obtain ⟨hS, hap, l1, l4, f0, f1⟩ := shape_share ha.ok hsh
    have hvl : (shareV x.s.fare (wsOf x.s)).length = x.s.legs.length := by rw [shareV_len hS, ws_len]
    have n1 : (!decide (((shareV x.s.fare (wsOf x.s)).length : Int) = (x.s.legs.length : Int))) = false := by rw [hvl]; simp
    have n2 : (!decide (x.s.fare = x.s.fare)) = false := by simp
    have n3 : (!(decide (B.self = B.self) && (decide ((B.docs.length : Int) + 1 = (B.docs.length : Int) + 1) && true))) = false := by simp
    have fin := issues_coup F (self := self) (n := n) (a := a) (cap := cap) (eb := eb) (R := R) (J := J) hR hi hi2 hx ha eB hm hJ
    clear hJ hvl hie hm' hm hsh hS
    have hC : (B.issued x.s).self = B.self := rfl
    clear hC
    generalize hC : B.issued x.s = C at *
    clear hC
    exact leaf_cut (rgK Try.prog IssuesF15 26 [J]) _ _ calNone false 400 [hC 12 1 c0, hG 13 3 q1, hG 13 4 q2, hC 13 5 c1, hI 14 2 IntKind.u64 _ _ w1, hG 15 3 q1, hG 15 4 q2, hC 15 6 c2, hB 16 1 _ _ g1, hI 23 1 IntKind.u64 _ _ w1, hB 24 3 _ _ n3, hB 24 9 _ _ n2, hG 24 16 q1, hG 24 17 q2, hC 24 18 c3, hG 24 27 q1, hG 24 29 q3, hB 24 31 _ _ n1, hC 24 36 c4, .stop 26] calNone_ok (by kernel_rfl) fin
  · have c1 := issue_noC F eB.ex.bk ha.ok ha.hl ha.ht ha.h1 ha.h2 hm
    have c4 := same_c B B eB.ex.ds eB.ex.ds
    rw [sameB_self eB.ex.bk.nodup nd1 nd2] at c4
    have hie : B.issue x.s = B := by unfold BookV.issue; rw [decide_eq_false hm]; rfl
    rw [hie] at hJ
    have hj : ∀ ε a' w, Rel (ntOf Try.prog IssuesF15) 1 eb R ⟨isSl self n a sals.length cap (i + 1) B, isH F B, 2⟩ ε a' w → J a' w := hJ
    clear hJ hie
    have n0 : ∀ e : Int, (!decide (e = e)) = false := fun e => by simp
    rcases Bool.eq_false_or_eq_true (decide ((32 : Int) ≤ (B.docs.length : Int))) with g1 | g1
    · have e3 : B.issE x.s = 3 := by unfold BookV.issE; rw [g1]; rfl
      rw [e3] at c1
      clear e3 hm
      by_cases hm' : makeE B.self ((B.docs.length : Int) + 1) x.s B.n = 0
      · have c2 := (make_ok F ha.ok (c := B.self) (r := (B.docs.length : Int) + 1) (n := B.n) hself ha.hl ha.ht ha.h1 ha.h2 hm').mv 9 rfl rfl rfl
        clear hm'
        exact leaf_round (lpK Try.prog IssuesF15 0 []) false 400 [hC 12 1 c0, hG 13 3 q1, hG 13 4 q2, hC 13 5 c1, hI 14 2 IntKind.u64 _ _ w1, hG 15 3 q1, hG 15 4 q2, hC 15 6 c2, hB 16 1 _ _ g1, hC 21 2 c4, hI 9 1 IntKind.i64 _ _ z9] hj (by kernel_rfl)
      · have c2 := (make_no F ha.ok (c := B.self) (r := (B.docs.length : Int) + 1) (n := B.n) hself ha.hl ha.ht (fun e => (ha.h1.nil e).2) (fun e => (ha.h2.nil e).2) hm').mv 9 rfl rfl rfl
        clear hm'
        exact leaf_round (lpK Try.prog IssuesF15 0 []) false 400 [hC 12 1 c0, hG 13 3 q1, hG 13 4 q2, hC 13 5 c1, hI 14 2 IntKind.u64 _ _ w1, hG 15 3 q1, hG 15 4 q2, hC 15 6 c2, hB 16 1 _ _ g1, hC 21 2 c4, hI 9 1 IntKind.i64 _ _ z9] hj (by kernel_rfl)
    · have e3 : B.issE x.s = makeE B.self ((B.docs.length : Int) + 1) x.s B.n := by unfold BookV.issE; rw [g1]; rfl
      rw [e3] at c1 hm
      clear e3
      have c2 := (make_no F ha.ok (c := B.self) (r := (B.docs.length : Int) + 1) (n := B.n) hself ha.hl ha.ht (fun e => (ha.h1.nil e).2) (fun e => (ha.h2.nil e).2) hm).mv 9 rfl rfl rfl
      generalize makeE B.self ((B.docs.length : Int) + 1) x.s B.n = e at *
      have n1 := n0 e
      have n2 : (!decide (e = 0)) = true := by rw [decide_eq_false hm]; rfl
      clear hm
      exact leaf_round (lpK Try.prog IssuesF15 0 []) false 400 [hC 12 1 c0, hG 13 3 q1, hG 13 4 q2, hC 13 5 c1, hI 14 2 IntKind.u64 _ _ w1, hG 15 3 q1, hG 15 4 q2, hC 15 6 c2, hB 16 1 _ _ g1, hB 18 2 _ _ n1, hB 20 1 _ _ n2, hC 21 2 c4, hI 9 1 IntKind.i64 _ _ z9] hj (by kernel_rfl)
def runI (B : BookV) (sals : List SalX) : Nat → BookV
  | 0 => B
  | i + 1 => (runI B sals i).issue (sals.getD i salZ).s
theorem issues15_law (F : CF) {self n : Int} (hs : 0 ≤ self ∧ self ≤ 255) {a : Option Addr} {cap : Nat} {sals : List SalX} (hR : ∀ b v, Rd (F b v) a (cellsL salC sals)) (hl : sals.length ≤ 9223372036854775807)
    (hf : ∀ x ∈ sals, x.s.legs.length ≤ 9223372036854775807 ∧ x.s.taxes.length ≤ 9223372036854775807 ∧ x.s.name.size ≤ 9223372036854775807) (hA : ∀ x ∈ sals, greatS x.s = false → SalRd F x) :
    CallOK Try.prog IssuesF15 [.val (.int .u8 self), .val (.int .i64 n), .val (.slice a sals.length cap)] [((0, 9), .fam F)] [] (.val (.bool true)) [] := by
  have c9 := wakes15_w
  rcases Bool.eq_false_or_eq_true (decide ((40 : Int) < (sals.length : Int))) with g | g
  · exact callOK_run 400 [hB 1 2 _ _ g, hC 2 0 c9] (by kernel_rfl) (by kernel_rfl)
  have hlen : sals.length ≤ 40 := by have := of_decide_eq_false g; omega
  by_cases hb : bookE self n = 0
  case neg =>
    have c1 := new_noC hs hb
    exact callOK_run 400 [hB 1 2 _ _ g, hC 3 2 c1, hC 5 3 c9] (by kernel_rfl) (by kernel_rfl)
  have c1 := new_okC hs hb
  have hb0 := bookE_ok hs.1 hb
  have ib0 : IB (bookNew self n) := ⟨new_ex self n hb0, fun k o e => by cases e⟩
  clear hb
  refine callOK_intro (by kernel_rfl) fun eb R => ?_
  refine go_loop (X := { i : Nat // i ≤ sals.length ∧ IB (runI (bookNew self n) sals i) }) 0 [] (fun y => (isSl self n a sals.length cap y.1 (runI (bookNew self n) sals y.1), isH F (runI (bookNew self n) sals y.1))) (fun y => sals.length - y.1) ⟨0, Nat.zero_le _, ib0⟩ calNone false 400 [hB 1 2 _ _ g, hC 3 2 c1] calNone_ok (by kernel_rfl) ?_
  rintro ⟨i, hi, eB⟩ J hJ
  by_cases h : i < sals.length
  · have z0 : decide ((i : Int) < (sals.length : Int)) = true := decide_eq_true (by omega)
    have hin : sals.getD i salZ ∈ sals := List.mem_of_getElem? (getD_some h salZ)
    obtain ⟨b1, b2, b3⟩ := hf _ hin
    have ha := hA _ hin
    have q1 := idx_openG (P := Try.prog) (t := 22) (e := 32) (size := 5) (j := 9) (k := .i64) (cap := cap) (n := sals.length) Try.underlying22 (by kernel_rfl) (sals_len sals) hR h
    have hpos : 0 < (cellsL salC sals).length := by rw [sals_len]; omega
    have nth := salX_nth h
    have q2 := load_openG (P := Try.prog) (t := 29) (k := i * 5) (j := 9) (u := .val (.slice (sals.getD i salZ).A.la (sals.getD i salZ).s.legs.length (sals.getD i salZ).A.lc)) 1 (by kernel_rfl) hR nth hpos
    have q3 := load_openG (P := Try.prog) (t := 30) (k := i * 5) (j := 9) (u := .val (.slice (sals.getD i salZ).A.ta (sals.getD i salZ).s.taxes.length (sals.getD i salZ).A.tc)) 3 (by kernel_rfl) hR nth hpos
    have q4 := load_openG (P := Try.prog) (t := 9) (k := i * 5) (j := 9) (u := .val (.string (sals.getD i salZ).s.name)) 0 (by kernel_rfl) hR nth hpos
    have hJ' : ∀ (hg : greatS (sals.getD i salZ).s = false), ∀ ε a' w, Rel (ntOf Try.prog IssuesF15) 1 eb R ⟨isSl self n a sals.length cap (i + 1) ((runI (bookNew self n) sals i).issue (sals.getD i salZ).s), isH F ((runI (bookNew self n) sals i).issue (sals.getD i salZ).s), 2⟩ ε a' w → J a' w := fun hg => hJ ⟨i + 1, h, eB.issue (ha hg).ok⟩ (by show _ - (i + 1) < _ - i; omega)
    clear hJ
    show Go Try.prog IssuesF15 (.val (.bool true)) ([((0, 9), .fam F)] ++ []) eb R .nrm (.code (lpB Try.prog IssuesF15 0 []) :: .lp J :: lpK Try.prog IssuesF15 0 []) (isSl self n a sals.length cap i (runI (bookNew self n) sals i)) (isH F (runI (bookNew self n) sals i))
    generalize runI (bookNew self n) sals i = B at *
    generalize hx : sals.getD i salZ = x at *
    rcases Bool.eq_false_or_eq_true (decide ((20 : Int) < (x.s.legs.length : Int))) with g1 | g1
    · exact leaf_end calNone false 400 [hB 8 3 _ _ z0, hG 10 2 q1, hG 10 4 q2, hB 10 6 _ _ g1, hC 11 0 c9] calNone_ok (by kernel_rfl)
    rcases Bool.eq_false_or_eq_true (decide ((20 : Int) < (x.s.taxes.length : Int))) with g2 | g2
    · exact leaf_end calNone false 400 [hB 8 3 _ _ z0, hG 10 2 q1, hG 10 4 q2, hB 10 6 _ _ g1, hG 10 10 q1, hG 10 12 q3, hB 10 14 _ _ g2, hC 11 0 c9] calNone_ok (by kernel_rfl)
    rcases Bool.eq_false_or_eq_true (decide ((200 : Int) < (x.s.name.size : Int))) with g3 | g3
    · exact leaf_end calNone false 400 [hB 8 3 _ _ z0, hG 10 2 q1, hG 10 4 q2, hB 10 6 _ _ g1, hG 10 10 q1, hG 10 12 q3, hB 10 14 _ _ g2, hG 10 19 q1, hG 10 21 q4, hB 10 23 _ _ g3, hC 11 0 c9] calNone_ok (by kernel_rfl)
    have gg : greatS x.s = false := by unfold greatS; rw [g1, g2, g3]; rfl
    have fin := issues_act F (self := self) (n := n) (a := a) (cap := cap) (eb := eb) (R := R) (J := J) hR h (by omega) hx (ha gg) eB (hJ' gg)
    clear hJ' ha
    exact leaf_cut (rgK Try.prog IssuesF15 12 [J]) _ _ calNone false 400 [hB 8 3 _ _ z0, hG 10 2 q1, hG 10 4 q2, hB 10 6 _ _ g1, hG 10 10 q1, hG 10 12 q3, hB 10 14 _ _ g2, hG 10 19 q1, hG 10 21 q4, hB 10 23 _ _ g3, .stop 12] calNone_ok (by kernel_rfl) fin
  · have z0 : decide ((i : Int) < (sals.length : Int)) = false := decide_eq_false (by omega)
    have hmany := eB.ex.bk.many
    have c2 := tickets_c eB.ex.bk
    clear hJ
    show Go Try.prog IssuesF15 (.val (.bool true)) ([((0, 9), .fam F)] ++ []) eb R .nrm (.code (lpB Try.prog IssuesF15 0 []) :: .lp J :: lpK Try.prog IssuesF15 0 []) (isSl self n a sals.length cap i (runI (bookNew self n) sals i)) (isH F (runI (bookNew self n) sals i))
    generalize runI (bookNew self n) sals i = B at *
    have w1 : IntKind.i64.wrap (B.docs.length : Int) = (B.docs.length : Int) := wr_i64 (by omega)
    have n1 : decide (((B.docs.map (·.t)).length : Int) = (B.docs.length : Int)) = true := by rw [List.length_map]; simp
    exact leaf_end calNone false 400 [hB 8 3 _ _ z0, hC 36 1 c2, hI 36 4 IntKind.i64 _ _ w1, hB 36 5 _ _ n1, hC 36 7 c9] calNone_ok (by kernel_rfl)
theorem salRd_of {w : World} {x : SalX} (h : SalIn w x) (h1 : x.s.legs.length ≤ 1000) (h2 : x.s.taxes.length ≤ 1000) : SalRd (fun _ _ => oldC w) x where
  ok := h.ok.small h1 h2
  hl := fun _ _ => rd_old h.at_.legs
  ht := fun _ _ => rd_old h.at_.taxes
  h1 := slOk_row h.at_.legs (fun _ e => by rw [cellsL_len encLeg_len] at e; omega) h.at_.lnil
  h2 := slOk_row h.at_.taxes (fun _ e => by rw [encTaxL_len] at e; omega) h.at_.tnil
theorem issues15_any (self n : Int) (a : Option Addr) (l : List SalX) (c : Nat) (w : World) (hs : (Lit.int .u8 self).wf = true) (hn0 : (Lit.int .i64 n).wf = true) (hr : Row w a (cellsL salC l)) (hn : a = none → c = 0) (hl : l.length ≤ maxLen) (ok : ∀ x ∈ l, SalIn w x) :
    Calls Try.prog IssuesF15 #[.int .u8 self, .int .i64 n, .slice a l.length c] w fun e w' => e = .returned (.bool true) ∧ Below w.heap.size w w' :=
  (issues15_law (fun _ _ => oldC w) (wfu8 hs) (cap := c) (fun _ _ => rd_old hr) (maxLen_le hl) (fun x hx => ⟨maxLen_le (ok x hx).ok.nl, maxLen_le (ok x hx).ok.nt, maxLen_le (ok x hx).ok.name⟩)
    (fun x hx hg => by
      unfold greatS at hg
      simp only [Bool.or_eq_false_iff, decide_eq_false_iff_not] at hg
      exact salRd_of (ok x hx) (by omega) (by omega)) (fun _ _ => (0, undef)) [] w (Mem.old w)).mono fun e w' ⟨x, h, hm⟩ => ⟨h, (show Mem (oldC w :: []) w' from hm).below 0 rfl⟩
end Go.Proofs.Ytlekbdpdlalhbaa
