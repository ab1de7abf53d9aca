/- LAW 18: BillSettles: the walk. -/
import Derived.Test.YtlamaakconjkcaaMafbacc5
namespace Go.Proofs.Ytlamaakconjkcaa
set_option maxRecDepth 100000
open Go.RowKit Go.Lib Go.Tk Go.Shelf Go.Vc Go.Sx
set_option linter.unusedVariables false
set_option linter.unusedSimpArgs false

def SetsF18 : Nat := 5
def startS3 : BSt := ⟨pairA, bookT 4 false true, [], [(billO kB 50).m], 0⟩
/-- the act of a round -/
def actS (acts : List Act18) (i : Nat) : Act18 := if i < acts.length then acts.getD i act180 else { act180 with d := ((2 + i % 2 : Nat) : Int) }
def runS (acts : List Act18) : Nat → BSt
  | 0 => startS3
  | i + 1 => stepB (runS acts i) (actS acts i).d (actS acts i).cmd (actS acts i).amt
theorem runS_ok (acts : List Act18) : ∀ i, St3 (runS acts i)
  | 0 => .one
  | i + 1 => st3_step (runS_ok acts i) _ _ _
theorem st3_two {σ : BSt} (h : St3 σ) (c1 a1 c2 a2 c3 a3 c4 a4 : Int) {d : Int} (hd : d = 2 ∨ d = 3) : stepB (stepB (stepB (stepB σ d c1 a1) (5 - d) c2 a2) d c3 a3) (5 - d) c4 a4 = ⟨paidA, bookT 4 true false, [], [], 1⟩ := by
  have one3 : ∀ c a, stepB ⟨pairA, bookT 4 false true, [], [(billO kB 50).m], 0⟩ 3 c a = ⟨paidA, bookT 4 false true, [(accO 1 kB 50).m], [], 1⟩ := fun c a => by
    show ({ a := (hearBQ pairA 1 ⟨6, kB, cpn0, 50, 0⟩).b, b := bookT 4 false true, down := [] ++ outsM (hearBQ pairA 1 ⟨6, kB, cpn0, 50, 0⟩).out, up := [], acc := 0 + nAcc (hearBQ pairA 1 ⟨6, kB, cpn0, 50, 0⟩).out } : BSt) = _
    rw [bill_come]; rfl
  have two2 : ∀ c a, stepB ⟨paidA, bookT 4 false true, [(accO 1 kB 50).m], [], 1⟩ 2 c a = ⟨paidA, bookT 4 true false, [], [], 1⟩ := fun c a => by
    show ({ a := paidA, b := (hearBQ (bookT 4 false true) 0 ⟨7, kB, cpn0, 50, 0⟩).b, down := [], up := [] ++ outsM (hearBQ (bookT 4 false true) 0 ⟨7, kB, cpn0, 50, 0⟩).out, acc := 1 } : BSt) = _
    rw [acc_come]; rfl
  have one2 : ∀ c a, stepB ⟨pairA, bookT 4 false true, [], [(billO kB 50).m], 0⟩ 2 c a = ⟨pairA, bookT 4 false true, [], [(billO kB 50).m], 0⟩ := fun c a => rfl
  have two3 : ∀ c a, stepB ⟨paidA, bookT 4 false true, [(accO 1 kB 50).m], [], 1⟩ 3 c a = ⟨paidA, bookT 4 false true, [(accO 1 kB 50).m], [], 1⟩ := fun c a => rfl
  have th2 : ∀ c a, stepB ⟨paidA, bookT 4 true false, [], [], 1⟩ 2 c a = ⟨paidA, bookT 4 true false, [], [], 1⟩ := fun c a => rfl
  have th3 : ∀ c a, stepB ⟨paidA, bookT 4 true false, [], [], 1⟩ 3 c a = ⟨paidA, bookT 4 true false, [], [], 1⟩ := fun c a => rfl
  rcases hd with rfl | rfl
  · show stepB (stepB (stepB (stepB σ 2 c1 a1) 3 c2 a2) 2 c3 a3) 3 c4 a4 = _
    cases h with
    | one => rw [one2, one3, two2, th3]
    | two => rw [two2, th3, th2, th3]
    | three => rw [th2, th3, th2, th3]
  · show stepB (stepB (stepB (stepB σ 3 c1 a1) 2 c2 a2) 3 c3 a3) 2 c4 a4 = _
    cases h with
    | one => rw [one3, two2, th3, th2]
    | two => rw [two3, two2, th3, th2]
    | three => rw [th3, th2, th3, th2]
theorem actS_d {acts : List Act18} {i : Nat} (h : acts.length ≤ i) : (actS acts i).d = ((2 + i % 2 : Nat) : Int) := by unfold actS; rw [if_neg (by omega)]
theorem endS (acts : List Act18) : runS acts (3 * acts.length + 4) = ⟨paidA, bookT 4 true false, [], [], 1⟩ := by
  have h := runS_ok acts (3 * acts.length)
  have e : runS acts (3 * acts.length + 4) = stepB (stepB (stepB (stepB (runS acts (3 * acts.length)) (actS acts (3 * acts.length)).d (actS acts (3 * acts.length)).cmd (actS acts (3 * acts.length)).amt) (actS acts (3 * acts.length + 1)).d (actS acts (3 * acts.length + 1)).cmd (actS acts (3 * acts.length + 1)).amt) (actS acts (3 * acts.length + 2)).d (actS acts (3 * acts.length + 2)).cmd (actS acts (3 * acts.length + 2)).amt) (actS acts (3 * acts.length + 3)).d (actS acts (3 * acts.length + 3)).cmd (actS acts (3 * acts.length + 3)).amt := rfl
  rw [e]
  have d0 := actS_d (acts := acts) (i := 3 * acts.length) (by omega)
  have d1 := actS_d (acts := acts) (i := 3 * acts.length + 1) (by omega)
  have d2 := actS_d (acts := acts) (i := 3 * acts.length + 2) (by omega)
  have d3 := actS_d (acts := acts) (i := 3 * acts.length + 3) (by omega)
  have hd : (actS acts (3 * acts.length)).d = 2 ∨ (actS acts (3 * acts.length)).d = 3 := by omega
  rw [show (actS acts (3 * acts.length + 1)).d = 5 - (actS acts (3 * acts.length)).d by omega, show (actS acts (3 * acts.length + 2)).d = (actS acts (3 * acts.length)).d by omega, show (actS acts (3 * acts.length + 3)).d = 5 - (actS acts (3 * acts.length)).d by omega]
  exact st3_two h _ _ _ _ _ _ _ _ hd
def setsSl (a : Option Addr) (n cap i : Nat) : Slots := [(0, .val (.slice a n cap)), (3, .ptr 1 0 0), (4, .ptr 1 1 0), (5, .ptr 1 2 0), (8, .val (.int .i64 0)), (9, .any 1 4), (10, .any 1 3), (11, .val (.int .i64 (i : Int)))]
/-- one act: what comes of it -/
theorem sets_act (F : CF) {a : Option Addr} {n cap : Nat} {eb : Env} {R : List Chunk} {J : Act → World → Prop} {i : Nat} (hi : i ≤ 5000) {σ : BSt} (h : St3 σ) (x : Act18) (hx : 0 ≤ x.cmd ∧ x.cmd ≤ 255)
    (hJ : ∀ ε a' w, Rel (ntOf Try.prog SetsF18) 1 eb R ⟨setsSl a n cap (i + 1), onceH F (stepB σ x.d x.cmd x.amt).a (stepB σ x.d x.cmd x.amt).b (stepB σ x.d x.cmd x.amt).down (stepB σ x.d x.cmd x.amt).up, 2⟩ ε a' w → J a' w) :
    Go Try.prog SetsF18 (.val (.bool true)) ([((0, 9), .fam F)] ++ []) eb R .nrm (rgK Try.prog SetsF18 19 [J]) (setsSl a n cap i ++ [(12, .ptr 1 5 0)]) (onceH F σ.a σ.b σ.down σ.up ++ [((1, 5), .box none (act18S x))]) := by
  have q4 : IntKind.i64.wrap ((i : Int) + 1) = ((i + 1 : Nat) : Int) := by rw [wr_i64 (by omega)]; omega
  by_cases d0 : x.d = 0
  · rw [(st3_stay h (.inl d0)).1] at hJ
    have go : ∀ p b, St3 σ → σ.b = bookT 4 p b → Go Try.prog SetsF18 (.val (.bool true)) ([((0, 9), .fam F)] ++ []) eb R .nrm (rgK Try.prog SetsF18 19 [J]) (setsSl a n cap i ++ [(12, .ptr 1 5 0)]) (onceH F σ.a σ.b σ.down σ.up ++ [((1, 5), .box none (act18S x))]) := fun p b _ hb => by
      obtain ⟨e, hu⟩ := use_no4 p b x.cmd
      have c1 := use_t (B := bookT 4 p b) rfl (heldT_s (by decide)) hx hu
      rw [hb] at hJ ⊢
      exact leaf_round (lpK Try.prog SetsF18 0 []) true 600 [hI 19 1 IntKind.i64 _ _ d0, hC 25 4 c1, hI 15 1 IntKind.i64 _ _ q4] hJ (by kernel_rfl)
    cases h with
    | one => exact go _ _ .one rfl
    | two => exact go _ _ .two rfl
    | three => exact go _ _ .three rfl
  have e0 : decide (x.d = 0) = false := decide_eq_false d0
  by_cases d1 : x.d = 1
  · rw [(st3_stay h (.inr d1)).1] at hJ
    have go : ∀ p b, (p || b) = true → σ.b = bookT 4 p b → Go Try.prog SetsF18 (.val (.bool true)) ([((0, 9), .fam F)] ++ []) eb R .nrm (rgK Try.prog SetsF18 19 [J]) (setsSl a n cap i ++ [(12, .ptr 1 5 0)]) (onceH F σ.a σ.b σ.down σ.up ++ [((1, 5), .box none (act18S x))]) := fun p b hp hb => by
      have c1 := bill_c (bookT 4 p b) kB_ok x.amt
      rw [bill_no4 p b hp x.amt] at c1
      rw [hb] at hJ ⊢
      exact leaf_round (lpK Try.prog SetsF18 0 []) true 600 [hI 19 1 IntKind.i64 _ _ d1, hC 27 4 c1, hI 15 1 IntKind.i64 _ _ q4] hJ (by kernel_rfl)
    cases h with
    | one => exact go _ _ rfl rfl
    | two => exact go _ _ rfl rfl
    | three => exact go _ _ rfl rfl
  have e1 : decide (x.d = 1) = false := decide_eq_false d1
  have l0 := q_len (P := Try.prog) (E := MT) (size := 12) (enc := msL) []
  have l1 : ∀ m, OpG Try.prog (isLenS Try.prog) lenX [.any 0 0] [((0, 0), .fam (qF MT 12 msL [m]))] [] (.val (.int .i64 1)) [] := fun m => q_len (P := Try.prog) (E := MT) (size := 12) (enc := msL) [m]
  have qi : ∀ m, _ := fun m => q_idx (P := Try.prog) (t := 50) (i := 0) (k := .i64) (E := MT) (size := 12) (enc := msL) [m] msL_len (by decide) (by kernel_rfl) (by simp)
  have qo : ∀ m, _ := fun m => q_load (P := Try.prog) (t := 36) (b := 0 * 12) (j := 0) (cs := msS m) (u := .agg (msS m)) (E := MT) (size := 12) (enc := msL) [m] (by kernel_rfl) (ms_nth (l := [m]) (i := 0) (by simp) m)
  have qt : ∀ m, _ := fun m => q_tail (P := Try.prog) (t := 50) (E := MT) (size := 12) (enc := msL) m [] msL_len (by decide) (by kernel_rfl)
  by_cases d2 : x.d = 2
  · have e : stepB σ x.d x.cmd x.amt = stepB σ 2 x.cmd x.amt := by rw [d2]
    rw [e] at hJ
    cases h with
    | one => exact leaf_round (lpK Try.prog SetsF18 0 []) true 600 [hI 19 1 IntKind.i64 _ _ d2, hG 30 1 l0, hI 15 1 IntKind.i64 _ _ q4] hJ (by kernel_rfl)
    | two =>
      have c1 := hearB_c (bookT 4 false true) (c := 0) (by decide) ⟨7, kB, cpn0, 50, 0⟩ (by decide) kB_ok
      rw [acc_come] at c1
      have e2 : stepB ⟨paidA, bookT 4 false true, [(accO 1 kB 50).m], [], 1⟩ 2 x.cmd x.amt = ⟨paidA, bookT 4 true false, [], [], 1⟩ := by
        show ({ a := paidA, b := (hearBQ (bookT 4 false true) 0 ⟨7, kB, cpn0, 50, 0⟩).b, down := [], up := [] ++ outsM (hearBQ (bookT 4 false true) 0 ⟨7, kB, cpn0, 50, 0⟩).out, acc := 1 } : BSt) = _
        rw [acc_come]; rfl
      rw [e2] at hJ
      have q1 := l1 ⟨7, kB, cpn0, 50, 0⟩
      have q7 := qi ⟨7, kB, cpn0, 50, 0⟩
      have q8 := qo ⟨7, kB, cpn0, 50, 0⟩
      have q9 := qt ⟨7, kB, cpn0, 50, 0⟩
      exact leaf_round (lpK Try.prog SetsF18 0 []) true 600 [hI 19 1 IntKind.i64 _ _ d2, hG 30 1 q1, hG 31 2 q7, hG 31 3 q8, hC 31 4 c1, hG 32 1 q9, hI 15 1 IntKind.i64 _ _ q4] hJ (by kernel_rfl)
    | three => exact leaf_round (lpK Try.prog SetsF18 0 []) true 600 [hI 19 1 IntKind.i64 _ _ d2, hG 30 1 l0, hI 15 1 IntKind.i64 _ _ q4] hJ (by kernel_rfl)
  have e2 : decide (x.d = 2) = false := decide_eq_false d2
  have e : stepB σ x.d x.cmd x.amt = stepB σ 3 x.cmd x.amt := by
    unfold stepB
    rw [if_neg d0, if_neg d1, if_neg d2, if_neg (by decide), if_neg (by decide), if_neg (by decide)]
  rw [e] at hJ
  cases h with
  | one =>
    have c1 := hearB_c pairA (c := 1) (by decide) ⟨6, kB, cpn0, 50, 0⟩ (by decide) kB_ok
    rw [bill_come] at c1
    have e3 : stepB ⟨pairA, bookT 4 false true, [], [(billO kB 50).m], 0⟩ 3 x.cmd x.amt = ⟨paidA, bookT 4 false true, [(accO 1 kB 50).m], [], 1⟩ := by
      show ({ a := (hearBQ pairA 1 ⟨6, kB, cpn0, 50, 0⟩).b, b := bookT 4 false true, down := [] ++ outsM (hearBQ pairA 1 ⟨6, kB, cpn0, 50, 0⟩).out, up := [], acc := 0 + nAcc (hearBQ pairA 1 ⟨6, kB, cpn0, 50, 0⟩).out } : BSt) = _
      rw [bill_come]; rfl
    rw [e3] at hJ
    have q1 := l1 ⟨6, kB, cpn0, 50, 0⟩
    have q7 := qi ⟨6, kB, cpn0, 50, 0⟩
    have q8 := qo ⟨6, kB, cpn0, 50, 0⟩
    have q9 := qt ⟨6, kB, cpn0, 50, 0⟩
    have p1 := q_app (P := Try.prog) (t := 50) (e := MT) (E := MT) (size := 12) (enc := msL) [] (accO 1 kB 50).m (msS (accO 1 kB 50).m) (fun _ => rfl) (fun u hu => by simp [msL] at hu; rcases hu with rfl | rfl | rfl | rfl | rfl | rfl | rfl | rfl | rfl | rfl | rfl | rfl <;> rfl) rfl Try.underlying50 (by kernel_rfl) (by decide)
    exact leaf_round (lpK Try.prog SetsF18 0 []) true 600 [hB 24 0 _ _ e0, hB 26 0 _ _ e1, hB 28 0 _ _ e2, hG 21 1 q1, hG 22 2 q7, hG 22 3 q8, hC 22 4 c1, hG 23 1 q9, hG 40 7 p1, hI 15 1 IntKind.i64 _ _ q4] hJ (by kernel_rfl)
  | two => exact leaf_round (lpK Try.prog SetsF18 0 []) true 600 [hB 24 0 _ _ e0, hB 26 0 _ _ e1, hB 28 0 _ _ e2, hG 21 1 l0, hI 15 1 IntKind.i64 _ _ q4] hJ (by kernel_rfl)
  | three => exact leaf_round (lpK Try.prog SetsF18 0 []) true 600 [hB 24 0 _ _ e0, hB 26 0 _ _ e1, hB 28 0 _ _ e2, hG 21 1 l0, hI 15 1 IntKind.i64 _ _ q4] hJ (by kernel_rfl)
theorem sets18_w (F : CF) {acts : List Act18} {a : Option Addr} {n cap : Nat} (hR : ∀ b v, Rd (F b v) a (cellsL act18L acts)) (hl : acts.length = n) (hn : n ≤ maxLen) (ok : ∀ x ∈ acts, Act18Ok x) :
    CallOK Try.prog SetsF18 [.val (.slice a n cap)] [((0, 9), .fam F)] [] (.val (.bool true)) [] := by
  subst hl
  have hw := wakes18_w
  have hn1 : acts.length ≤ 9223372036854775807 := by simpa [maxLen] using hn
  refine callOK_intro (by kernel_rfl) fun eb R => ?_
  by_cases hlong : 400 < acts.length
  · have g1 : decide ((400 : Int) < (acts.length : Int)) = true := decide_eq_true (by omega)
    exact leaf_end calNone false 400 [hB 1 2 _ _ g1, hC 2 0 hw] calNone_ok (by kernel_rfl)
  have g1 : decide ((400 : Int) < (acts.length : Int)) = false := decide_eq_false (by omega)
  have n1 := pair_w
  have n2 := use_t (B := pairB) rfl pairB_s (cmd := 9) (by decide) use_check
  have n3 := use_t (B := bookT 2 false false) rfl (heldT_s (by decide)) (cmd := 11) (by decide) use_board
  have n4 := use_t (B := bookT 3 false false) rfl (heldT_s (by decide)) (cmd := 12) (by decide) use_fly
  refine leaf_cut (rgK Try.prog SetsF18 13 []) [(0, .val (.slice a acts.length cap)), (3, .ptr 1 0 0), (4, .ptr 1 1 0), (5, .ptr 1 2 0), (8, .val (.int .i64 0)), (9, .raw 1 4), (10, .val (.slice none 0 0))]
    [((1, 4), .row MT 12 1 (.deep (msS (billO kB 50).m)) []), ((0, 9), .fam F), ((1, 0), .fam (bookF startS3.a)), ((1, 1), .fam (bookF startS3.b)), ((1, 2), .box none (kidS kB))] calNone false 600 [hB 1 2 _ _ g1, hC 3 0 n1, hC 6 2 n2, hC 7 2 n3, hC 8 2 n4, .stop 13] calNone_ok (by kernel_rfl) ?_
  refine go_queue 9 4 MT 12 1 (.deep (msS (billO kB 50).m)) (cellsL msL [(billO kB 50).m]) rfl (fun ε => rfl) (by kernel_rfl) (by kernel_rfl) ?_
  refine go_named 10 3 (.slice none 0 0) (msQ []) (by kernel_rfl) (fun cs w h => mem_noQ h _ _) (by kernel_rfl) (by kernel_rfl) (by kernel_rfl) ?_
  refine go_loop (X := { i : Nat // i ≤ 3 * acts.length + 4 }) 0 [] (fun x => (setsSl a acts.length cap x.1, onceH F (runS acts x.1).a (runS acts x.1).b (runS acts x.1).down (runS acts x.1).up))
    (fun x => 3 * acts.length + 4 - x.1) ⟨0, Nat.zero_le _⟩ calNone false 400 [] calNone_ok (by kernel_rfl) ?_
  rintro ⟨i, hi⟩ J hJ
  have m1 : IntKind.i64.wrap (3 * (acts.length : Int)) = ((3 * acts.length : Nat) : Int) := by rw [wr_i64 (by omega)]; omega
  have m2 : IntKind.i64.wrap (((3 * acts.length : Nat) : Int) + 4) = ((3 * acts.length + 4 : Nat) : Int) := by rw [wr_i64 (by omega)]; omega
  by_cases h : i < 3 * acts.length + 4
  · have q1 : decide ((i : Int) < ((3 * acts.length + 4 : Nat) : Int)) = true := decide_eq_true (by omega)
    have r1 : Int.tmod (i : Int) 2 = ((i % 2 : Nat) : Int) := by rw [Int.tmod_eq_emod_of_nonneg (by omega)]; omega
    have r2 : IntKind.i64.wrap (2 + ((i % 2 : Nat) : Int)) = ((2 + i % 2 : Nat) : Int) := by rw [wr_i64 (by omega)]; omega
    by_cases hlt : i < acts.length
    · have q5 : decide ((i : Int) < (acts.length : Int)) = true := decide_eq_true (by omega)
      have hx : acts.getD i act180 ∈ acts := List.mem_of_getElem? (getD_some hlt act180)
      have ea : actS acts i = acts.getD i act180 := by unfold actS; rw [if_pos hlt]
      have fin := sets_act F (a := a) (n := acts.length) (cap := cap) (eb := eb) (R := R) (J := J) (i := i) (by omega) (runS_ok acts i) (actS acts i) (by rw [ea]; exact (ok _ hx).cmd) (hJ ⟨i + 1, h⟩ (by show _ - (i + 1) < _ - i; omega))
      rw [ea] at fin
      have q2 := idx_openG (P := Try.prog) (t := AT18) (e := 38) (size := 19) (j := 9) (k := .i64) (cap := cap) (n := acts.length) Try.underlying46 (by kernel_rfl) (cellsL_len act18_len _) hR hlt
      have l0 : 0 < (cellsL act18L acts).length := by rw [cellsL_len act18_len]; omega
      have q3 := load_openG0 (P := Try.prog) (t := 38) (k := i * 19) (j := 9) (cs := act18S (acts.getD i act180)) (u := .agg (act18S (acts.getD i act180))) (by kernel_rfl) hR (act18_nth hlt act180) l0
      exact leaf_cut (rgK Try.prog SetsF18 19 [J]) _ _ calNone false 400 [hI 14 3 IntKind.i64 _ _ m1, hI 14 4 IntKind.i64 _ _ m2, hB 14 5 _ _ q1, hI 16 1 IntKind.i64 _ _ r1, hI 16 2 IntKind.i64 _ _ r2, hB 17 3 _ _ q5, hG 18 2 q2, hG 18 3 q3, .stop 19] calNone_ok (by kernel_rfl) fin
    · have q5 : decide ((i : Int) < (acts.length : Int)) = false := decide_eq_false (by omega)
      have ea : actS acts i = { act180 with d := ((2 + i % 2 : Nat) : Int) } := by unfold actS; rw [if_neg hlt]
      have fin := sets_act F (a := a) (n := acts.length) (cap := cap) (eb := eb) (R := R) (J := J) (i := i) (by omega) (runS_ok acts i) (actS acts i) (by rw [ea]; show (0 : Int) ≤ 0 ∧ (0 : Int) ≤ 255; decide) (hJ ⟨i + 1, h⟩ (by show _ - (i + 1) < _ - i; omega))
      rw [ea] at fin
      exact leaf_cut (rgK Try.prog SetsF18 19 [J]) _ _ calNone false 400 [hI 14 3 IntKind.i64 _ _ m1, hI 14 4 IntKind.i64 _ _ m2, hB 14 5 _ _ q1, hI 16 1 IntKind.i64 _ _ r1, hI 16 2 IntKind.i64 _ _ r2, hB 17 3 _ _ q5, .stop 19] calNone_ok (by kernel_rfl) fin
  have he : i = 3 * acts.length + 4 := by omega
  subst he
  have q1 : decide (((3 * acts.length + 4 : Nat) : Int) < ((3 * acts.length + 4 : Nat) : Int)) = false := decide_eq_false (by omega)
  have z := endS acts
  rw [z]
  have c1 := own_c paidA kB_ok
  rw [paidA_own] at c1
  have c2 := held_c (bookT 4 true false) kB_ok
  rw [show lkt (bookT 4 true false).helds kB = some (heldT 4 true false) from rfl] at c2
  have c3 := open_c (bookT 4 true false) 0 (Nat.zero_le _) (by show (1 : Nat) ≤ 1000; decide)
  rw [show openN (bookT 4 true false) 0 = 0 from rfl] at c3
  have l0 := q_len (P := Try.prog) (E := MT) (size := 12) (enc := msL) []
  exact leaf_end calNone false 600 [hI 14 3 IntKind.i64 _ _ m1, hI 14 4 IntKind.i64 _ _ m2, hB 14 5 _ _ q1, hC 41 2 c1, hC 42 2 c2, hG 43 1 l0, hG 43 3 l0, hC 43 21 c3, hC 43 25 hw] calNone_ok (by kernel_rfl)
theorem sets18_any (a : Option Addr) (l : List Act18) (cap : Nat) (w : World) (hr : Row w a (cellsL act18L l)) (hn : a = none → cap = 0) (hl : l.length ≤ maxLen) (ok : ∀ x ∈ l, Act18Ok x) :
    Calls Try.prog SetsF18 #[.slice a l.length cap] w fun e w' => e = .returned (.bool true) ∧ Below w.heap.size w w' :=
  (sets18_w (fun _ _ => oldC w) (a := a) (n := l.length) (cap := cap) (acts := l) (fun _ _ => rd_old hr) rfl hl ok (fun _ _ => (0, undef)) [] w (Mem.old w)).mono fun e w' ⟨x, h, hm⟩ => ⟨h, (show Mem (oldC w :: []) w' from hm).below 0 rfl⟩
end Go.Proofs.Ytlamaakconjkcaa
