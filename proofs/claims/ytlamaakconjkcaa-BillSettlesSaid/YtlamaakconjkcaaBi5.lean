/- LAW 18: BillOnce: the walk. -/
import Derived.Test.YtlamaakconjkcaaMd3c8e5b
namespace Go.Proofs.Ytlamaakconjkcaa
set_option maxRecDepth 100000
open Go.RowKit Go.Lib Go.Tk Go.Shelf Go.Vc Go.Sx
set_option linter.unusedVariables false
set_option linter.unusedSimpArgs false

def OnceF18 : Nat := 4
def AT18 : TypeId := 46
def onceSl (a : Option Addr) (n cap i : Nat) (acc : Nat) : Slots := [(0, .val (.slice a n cap)), (3, .ptr 1 0 0), (4, .ptr 1 1 0), (5, .ptr 1 2 0), (7, .any 1 3), (8, .any 1 4), (9, .val (.int .i64 (acc : Int))), (10, .val (.int .i64 (i : Int)))]
def onceH (F : CF) (A B : BookV) (D U : List MsV) : Heap := [((0, 9), .fam F), ((1, 0), .fam (bookF A)), ((1, 1), .fam (bookF B)), ((1, 2), .box none (kidS kB)), ((1, 3), .fam (msQ D)), ((1, 4), .fam (msQ U))]
/-- what is told is in its row: how does the coupon stand? -/
theorem once_end (F : CF) {a : Option Addr} {n cap : Nat} {eb : Env} {R : List Chunk} {J : Act → World → Prop} {i : Nat} (hi : i ≤ 5000) (A B : BookV) (D U : List MsV) (acc : Nat) (inv : InvT ⟨A, B, D, U, acc⟩)
    (hJ : ∀ ε a' w, Rel (ntOf Try.prog OnceF18) 1 eb R ⟨onceSl a n cap (i + 1) acc, onceH F A B D U, 2⟩ ε a' w → J a' w) :
    Go Try.prog OnceF18 (.val (.bool true)) ([((0, 9), .fam F)] ++ []) eb R .nrm (rgK Try.prog OnceF18 42 [J]) (onceSl a n cap i acc) (onceH F A B D U) := by
  have q4 : IntKind.i64.wrap ((i : Int) + 1) = ((i + 1 : Nat) : Int) := by rw [wr_i64 (by omega)]; omega
  obtain ⟨o, h, ho, hh, iv⟩ := inv.one
  have c1 := own_c A kB_ok
  rw [show lkt A.owns kB = some o from ho] at c1
  have c2 := held_c B kB_ok
  rw [show lkt B.helds kB = some h from hh] at c2
  have hn := iv.n
  have hs := iv.s
  have hp := iv.ps
  have hpp := iv.pp
  obtain ⟨⟨ol, ov, os, on⟩, oa, od, op, oq⟩ := o
  obtain ⟨⟨hl, hv, hs4, hno⟩, h1, h2, h3, h4⟩ := h
  cases op
  · have hn : acc = 0 := hn
    have hs : os = 1 := hs
    subst hn
    subst hs
    have h2' : h2 = false := by
      cases h2
      · rfl
      · exact absurd (hpp rfl) (by intro e; cases e)
    subst h2'
    exact leaf_round (lpK Try.prog OnceF18 0 []) false 400 [hC 42 2 c1, hC 43 2 c2, hI 10 1 IntKind.i64 _ _ q4] hJ (by kernel_rfl)
  · have hn : acc = 1 := hn
    have hs : os = 4 := hs
    have e4 : hs4 = 4 := hp rfl
    subst hn
    subst hs
    subst e4
    cases h2 <;> exact leaf_round (lpK Try.prog OnceF18 0 []) false 400 [hC 42 2 c1, hC 43 2 c2, hI 10 1 IntKind.i64 _ _ q4] hJ (by kernel_rfl)
theorem once_round (F : CF) {a : Option Addr} {n cap : Nat} {eb : Env} {R : List Chunk} {J : Act → World → Prop} {i : Nat} (hi : i ≤ 5000) (A B : BookV) (D U : List MsV) (acc : Nat) (hacc : acc ≤ 5000) (out : List OutV) (tw : Int) (hto : tw = 0 ∨ tw = 1) (ho : OutTo out tw)
    (h50 : ∀ x ∈ out, x.m.kind = 7 → tw = 1 ∧ x.m.amt = 50) (σ' : BSt) (h0 : tw = 0 → σ' = ⟨A, B, D, U ++ outsM out, acc⟩) (h1 : tw = 1 → σ' = ⟨A, B, D ++ outsM out, U, acc + nAcc out⟩) (hD : D.length ≤ 10000) (hU : U.length ≤ 10000) (inv : InvT σ')
    (hJ : ∀ ε a' w, Rel (ntOf Try.prog OnceF18) 1 eb R ⟨onceSl a n cap (i + 1) σ'.acc, onceH F σ'.a σ'.b σ'.down σ'.up, 2⟩ ε a' w → J a' w) :
    Go Try.prog OnceF18 (.val (.bool true)) ([((0, 9), .fam F)] ++ []) eb R .nrm (rgK Try.prog OnceF18 28 [J]) (onceSl a n cap i acc ++ [(12, .raw 1 5), (13, .val (.int .i64 0)), (14, .val (.int .u8 tw))]) (onceH F A B D U ++ [((1, 5), outsC out)]) := by
  have fin := once_end F (a := a) (n := n) (cap := cap) (eb := eb) (R := R) (J := J) hi σ'.a σ'.b σ'.down σ'.up σ'.acc inv hJ
  clear inv hJ
  rcases hto with e | e
  · have hs := h0 e
    subst e
    rcases ho with rfl | ⟨x, rfl, hx⟩
    · rw [show outsM [] = [] from rfl, List.append_nil] at hs
      subst hs
      exact leaf_cut (rgK Try.prog OnceF18 42 [J]) _ _ calNone true 400 [.stop 42] calNone_ok (by kernel_rfl) fin
    · rw [outsM1] at hs
      subst hs
      have p1 := q_app (P := Try.prog) (t := 50) (e := MT) (E := MT) (size := 12) (enc := msL) U x.m (msS x.m) (fun _ => rfl) (fun u hu => by simp [msL] at hu; rcases hu with rfl | rfl | rfl | rfl | rfl | rfl | rfl | rfl | rfl | rfl | rfl | rfl <;> rfl) rfl Try.underlying50 (by kernel_rfl) (by omega)
      exact leaf_cut (rgK Try.prog OnceF18 42 [J]) _ _ calNone true 400 [hI 33 4 IntKind.u8 _ _ hx, hG 36 7 p1, .stop 42] calNone_ok (by kernel_rfl) fin
  · have hs := h1 e
    subst e
    rcases ho with rfl | ⟨x, rfl, hx⟩
    · rw [show outsM [] = [] from rfl, List.append_nil] at hs
      subst hs
      exact leaf_cut (rgK Try.prog OnceF18 42 [J]) _ _ calNone true 400 [.stop 42] calNone_ok (by kernel_rfl) fin
    · rw [outsM1] at hs
      subst hs
      have p1 := q_app (P := Try.prog) (t := 50) (e := MT) (E := MT) (size := 12) (enc := msL) D x.m (msS x.m) (fun _ => rfl) (fun u hu => by simp [msL] at hu; rcases hu with rfl | rfl | rfl | rfl | rfl | rfl | rfl | rfl | rfl | rfl | rfl | rfl <;> rfl) rfl Try.underlying50 (by kernel_rfl) (by omega)
      by_cases k7 : x.m.kind = 7
      · have a50 := (h50 x (List.mem_singleton.2 rfl) k7).2
        have w1 : IntKind.i64.wrap ((acc : Int) + 1) = ((acc + 1 : Nat) : Int) := by rw [wr_i64 (by omega)]; omega
        have n1 : nAcc [x] = 1 := by unfold nAcc; rw [if_pos k7]; rfl
        rw [n1] at fin
        exact leaf_cut (rgK Try.prog OnceF18 42 [J]) _ _ calNone true 400 [hI 33 4 IntKind.u8 _ _ hx, hG 37 7 p1, hI 38 5 IntKind.u8 _ _ k7, hI 39 1 IntKind.i64 _ _ w1, hI 40 5 IntKind.i64 _ _ a50, .stop 42] calNone_ok (by kernel_rfl) fin
      · have e7 : decide (x.m.kind = 7) = false := decide_eq_false k7
        have n1 : nAcc [x] = 0 := by unfold nAcc; rw [if_neg k7]; rfl
        rw [n1] at fin
        exact leaf_cut (rgK Try.prog OnceF18 42 [J]) _ _ calNone true 400 [hI 33 4 IntKind.u8 _ _ hx, hG 37 7 p1, hB 38 6 _ _ e7, .stop 42] calNone_ok (by kernel_rfl) fin
/-- one act -/
theorem once_act (F : CF) {acts : List Act18} (ok : ∀ x ∈ acts, Act18Ok x) {a : Option Addr} {n cap : Nat} {eb : Env} {R : List Chunk} {J : Act → World → Prop} {i : Nat} (h : i < acts.length) (hi : i ≤ 3000)
    (hJ : ∀ ε a' w, Rel (ntOf Try.prog OnceF18) 1 eb R ⟨onceSl a n cap (i + 1) (runB startBS acts (i + 1)).acc, onceH F (runB startBS acts (i + 1)).a (runB startBS acts (i + 1)).b (runB startBS acts (i + 1)).down (runB startBS acts (i + 1)).up, 2⟩ ε a' w → J a' w) :
    Go Try.prog OnceF18 (.val (.bool true)) ([((0, 9), .fam F)] ++ []) eb R .nrm (rgK Try.prog OnceF18 12 [J]) (onceSl a n cap i (runB startBS acts i).acc ++ [(11, .ptr 1 5 0)])
      (onceH F (runB startBS acts i).a (runB startBS acts i).b (runB startBS acts i).down (runB startBS acts i).up ++ [((1, 5), .box none (act18S (acts.getD i act180)))]) := by
  obtain ⟨inv, hD, hU⟩ := runB_ok acts i
  have hx : acts.getD i act180 ∈ acts := List.mem_of_getElem? (getD_some h act180)
  have hc := (ok _ hx).cmd
  have st := bstep_ok inv (acts.getD i act180).d (acts.getD i act180).cmd (acts.getD i act180).amt
  have e1 : runB startBS acts (i + 1) = stepB (runB startBS acts i) (acts.getD i act180).d (acts.getD i act180).cmd (acts.getD i act180).amt := rfl
  rw [e1] at hJ
  have hgd := st.good
  have inv' := st.inv
  clear st e1
  generalize runB startBS acts i = σ at *
  generalize acts.getD i act180 = x at *
  have hacc : σ.acc ≤ 5000 := by
    obtain ⟨o, h', -, -, iv⟩ := inv.one
    have := iv.n
    split at this <;> omega
  obtain ⟨o, h', ho, hh, iv⟩ := inv.one
  have hhs : ∀ h, lkt σ.b.helds kB = some h → 0 ≤ h.k.s ∧ h.k.s ≤ 255 := fun q hq => by rw [hh] at hq; cases hq; have := iv.hs; omega
  by_cases d0 : x.d = 0
  · have c1 := use_c σ.b kB_ok hc (fun o ho => by rw [inv.ob] at ho; cases ho) hhs
    refine leaf_cut (rgK Try.prog OnceF18 28 [J]) _ _ calNone false 400 [hI 15 1 IntKind.i64 _ _ d0, hC 21 4 c1, .stop 28] calNone_ok (by kernel_rfl) (once_round F (by omega) σ.a (useQ σ.b kB x.cmd).b σ.down σ.up σ.acc hacc (useQ σ.b kB x.cmd).out 0 (.inl rfl) ?_ ?_ _ (fun _ => ?_) (fun e => by cases e) (by omega) (by omega) inv' hJ)
    · have := hgd.out; unfold outB toB at this; rw [if_pos d0, if_pos d0] at this; exact this
    · have := hgd.fifty; unfold outB toB at this; rw [if_pos d0, if_pos d0] at this; exact this
    · unfold stepB; rw [if_pos d0]
  have e0 : decide (x.d = 0) = false := decide_eq_false d0
  by_cases d1 : x.d = 1
  · have c1 := bill_c σ.b kB_ok x.amt
    refine leaf_cut (rgK Try.prog OnceF18 28 [J]) _ _ calNone false 400 [hI 15 1 IntKind.i64 _ _ d1, hC 23 4 c1, .stop 28] calNone_ok (by kernel_rfl) (once_round F (by omega) σ.a (billQ σ.b kB x.amt).b σ.down σ.up σ.acc hacc (billQ σ.b kB x.amt).out 0 (.inl rfl) ?_ ?_ _ (fun _ => ?_) (fun e => by cases e) (by omega) (by omega) inv' hJ)
    · have := hgd.out; unfold outB toB at this; rw [if_neg d0, if_pos d1, if_neg d0, if_pos d1] at this; exact this
    · have := hgd.fifty; unfold outB toB at this; rw [if_neg d0, if_pos d1, if_neg d0, if_pos d1] at this; exact this
    · unfold stepB; rw [if_neg d0, if_pos d1]
  have e1 : decide (x.d = 1) = false := decide_eq_false d1
  obtain ⟨A, B, D, U, acc⟩ := σ
  by_cases d2 : x.d = 2
  · have hgo := hgd.out
    have hgf := hgd.fifty
    have hge := hgd.e
    unfold outB toB at hgo hgf
    unfold eB at hge
    rw [if_neg d0, if_neg d1, if_pos d2, if_neg d0, if_neg d1, if_pos d2] at hgo hgf
    rw [if_neg d0, if_neg d1, if_pos d2] at hge
    have ql := q_len (P := Try.prog) (E := MT) (size := 12) (enc := msL) D
    cases D with
    | nil =>
      refine leaf_cut (rgK Try.prog OnceF18 28 [J]) _ _ calNone false 400 [hI 15 1 IntKind.i64 _ _ d2, hG 25 1 ql, .stop 28] calNone_ok (by kernel_rfl) (once_round F (by omega) A B [] U acc hacc [] 0 (.inl rfl) (.inl rfl) (fun x hx => by cases hx) _ (fun _ => ?_) (fun e => by cases e) (Nat.zero_le _) (Nat.le_trans hU (by omega)) inv' hJ)
      unfold stepB; rw [if_neg d0, if_neg d1, if_pos d2]; simp [outsM]
    | cons m l =>
      have g2 : decide ((0 : Int) < ((m :: l).length : Int)) = true := decide_eq_true (by simp)
      have wm := iv.dk m List.mem_cons_self
      have c1 := hearB_c B (c := 0) (by decide) m (by omega) (by rw [wm.1]; exact kB_ok)
      have q7 := q_idx (P := Try.prog) (t := 50) (i := 0) (k := .i64) (E := MT) (size := 12) (enc := msL) (m :: l) msL_len (by decide) (by kernel_rfl) (by simp)
      have q8 := q_load (P := Try.prog) (t := 36) (b := 0 * 12) (j := 0) (cs := msS m) (u := .agg (msS m)) (E := MT) (size := 12) (enc := msL) (m :: l) (by kernel_rfl) (ms_nth (l := m :: l) (i := 0) (by simp) m)
      have q9 := q_tail (P := Try.prog) (t := 50) (E := MT) (size := 12) (enc := msL) m l msL_len (by decide) (by kernel_rfl)
      have hge : (hearBQ B 0 m).e = 0 := hge
      refine leaf_cut (rgK Try.prog OnceF18 28 [J]) _ _ calNone false 400 [hI 15 1 IntKind.i64 _ _ d2, hG 25 1 ql, hB 25 2 _ _ g2, hG 26 2 q7, hG 26 3 q8, hC 26 4 c1, hI 26 7 IntKind.i64 _ _ hge, hG 27 1 q9, .stop 28] calNone_ok (by kernel_rfl) (once_round F (by omega) A (hearBQ B 0 m).b l U acc hacc (hearBQ B 0 m).out 0 (.inl rfl) hgo hgf _ (fun _ => ?_) (fun e => by cases e) (by have : (m :: l).length ≤ i := hD; simp at this; omega) (Nat.le_trans hU (by omega)) inv' hJ)
      unfold stepB; rw [if_neg d0, if_neg d1, if_pos d2]
  have e2 : decide (x.d = 2) = false := decide_eq_false d2
  have hgo := hgd.out
  have hgf := hgd.fifty
  have hge := hgd.e
  unfold outB toB at hgo hgf
  unfold eB at hge
  rw [if_neg d0, if_neg d1, if_neg d2, if_neg d0, if_neg d1, if_neg d2] at hgo hgf
  rw [if_neg d0, if_neg d1, if_neg d2] at hge
  have ql := q_len (P := Try.prog) (E := MT) (size := 12) (enc := msL) U
  cases U with
  | nil =>
    refine leaf_cut (rgK Try.prog OnceF18 28 [J]) _ _ calNone false 400 [hB 20 0 _ _ e0, hB 22 0 _ _ e1, hB 24 0 _ _ e2, hG 16 1 ql, .stop 28] calNone_ok (by kernel_rfl) (once_round F (by omega) A B D [] acc hacc [] 1 (.inr rfl) (.inl rfl) (fun x hx => by cases hx) _ (fun e => by cases e) (fun _ => ?_) (Nat.le_trans hD (by omega)) (Nat.zero_le _) inv' hJ)
    unfold stepB; rw [if_neg d0, if_neg d1, if_neg d2]; simp [outsM, nAcc]
  | cons m l =>
    have g2 : decide ((0 : Int) < ((m :: l).length : Int)) = true := decide_eq_true (by simp)
    have wm := iv.uk m List.mem_cons_self
    have c1 := hearB_c A (c := 1) (by decide) m (by omega) (by rw [wm.1]; exact kB_ok)
    have q7 := q_idx (P := Try.prog) (t := 50) (i := 0) (k := .i64) (E := MT) (size := 12) (enc := msL) (m :: l) msL_len (by decide) (by kernel_rfl) (by simp)
    have q8 := q_load (P := Try.prog) (t := 36) (b := 0 * 12) (j := 0) (cs := msS m) (u := .agg (msS m)) (E := MT) (size := 12) (enc := msL) (m :: l) (by kernel_rfl) (ms_nth (l := m :: l) (i := 0) (by simp) m)
    have q9 := q_tail (P := Try.prog) (t := 50) (E := MT) (size := 12) (enc := msL) m l msL_len (by decide) (by kernel_rfl)
    have hge : (hearBQ A 1 m).e = 0 := hge
    refine leaf_cut (rgK Try.prog OnceF18 28 [J]) _ _ calNone false 400 [hB 20 0 _ _ e0, hB 22 0 _ _ e1, hB 24 0 _ _ e2, hG 16 1 ql, hB 16 2 _ _ g2, hG 17 2 q7, hG 17 3 q8, hC 17 4 c1, hI 17 7 IntKind.i64 _ _ hge, hG 18 1 q9, .stop 28] calNone_ok (by kernel_rfl) (once_round F (by omega) (hearBQ A 1 m).b B D l acc hacc (hearBQ A 1 m).out 1 (.inr rfl) hgo hgf _ (fun e => by cases e) (fun _ => ?_) (Nat.le_trans hD (by omega)) (by have : (m :: l).length ≤ i := hU; simp at this; omega) inv' hJ)
    unfold stepB; rw [if_neg d0, if_neg d1, if_neg d2]
theorem once18_w (F : CF) {acts : List Act18} {a : Option Addr} {n cap : Nat} (hR : ∀ b v, Rd (F b v) a (cellsL act18L acts)) (hl : acts.length = n) (hn : n ≤ maxLen) (ok : ∀ x ∈ acts, Act18Ok x) :
    CallOK Try.prog OnceF18 [.val (.slice a n cap)] [((0, 9), .fam F)] [] (.val (.bool true)) [] := by
  subst hl
  have hw := wakes18_w
  have hn1 : acts.length ≤ 9223372036854775807 := by simpa [maxLen] using hn
  refine callOK_intro (by kernel_rfl) fun eb R => ?_
  by_cases hlong : 400 < acts.length
  · have g1 : decide ((400 : Int) < (acts.length : Int)) = true := decide_eq_true (by omega)
    exact leaf_end calNone false 400 [hB 1 2 _ _ g1, hC 2 0 hw] calNone_ok (by kernel_rfl)
  have g1 : decide ((400 : Int) < (acts.length : Int)) = false := decide_eq_false (by omega)
  have n1 := pair_w
  refine leaf_cut (rgK Try.prog OnceF18 8 []) [(0, .val (.slice a acts.length cap)), (3, .ptr 1 0 0), (4, .ptr 1 1 0), (5, .ptr 1 2 0), (7, .val (.slice none 0 0)), (8, .val (.slice none 0 0)), (9, .val (.int .i64 0))]
    [((0, 9), .fam F), ((1, 0), .fam (bookF startBS.a)), ((1, 1), .fam (bookF startBS.b)), ((1, 2), .box none (kidS kB))] calNone false 400 [hB 1 2 _ _ g1, hC 3 0 n1, .stop 8] calNone_ok (by kernel_rfl) ?_
  refine go_named 7 3 (.slice none 0 0) (msQ []) rfl (fun cs w h => mem_noQ h _ _) (by kernel_rfl) (by kernel_rfl) (by kernel_rfl) ?_
  refine go_named 8 4 (.slice none 0 0) (msQ []) (by kernel_rfl) (fun cs w h => mem_noQ h _ _) (by kernel_rfl) (by kernel_rfl) (by kernel_rfl) ?_
  refine go_loop (X := { i : Nat // i ≤ acts.length }) 0 [] (fun x => (onceSl a acts.length cap x.1 (runB startBS acts x.1).acc, onceH F (runB startBS acts x.1).a (runB startBS acts x.1).b (runB startBS acts x.1).down (runB startBS acts x.1).up))
    (fun x => acts.length - x.1) ⟨0, Nat.zero_le _⟩ calNone false 400 [] calNone_ok (by kernel_rfl) ?_
  rintro ⟨i, hi⟩ J hJ
  by_cases h : i < acts.length
  · have q1 : decide ((i : Int) < (acts.length : Int)) = true := decide_eq_true (by omega)
    have fin := once_act F ok (a := a) (n := acts.length) (cap := cap) (eb := eb) (R := R) (J := J) h (by omega) (hJ ⟨i + 1, h⟩ (by show _ - (i + 1) < _ - i; omega))
    have q2 := idx_openG (P := Try.prog) (t := AT18) (e := 38) (size := 19) (j := 9) (k := .i64) (cap := cap) (n := acts.length) Try.underlying46 (by kernel_rfl) (cellsL_len act18_len _) hR h
    have l0 : 0 < (cellsL act18L acts).length := by rw [cellsL_len act18_len]; omega
    have q3 := load_openG0 (P := Try.prog) (t := 38) (k := i * 19) (j := 9) (cs := act18S (acts.getD i act180)) (u := .agg (act18S (acts.getD i act180))) (by kernel_rfl) hR (act18_nth h act180) l0
    exact leaf_cut (rgK Try.prog OnceF18 12 [J]) _ _ calNone false 400 [hB 9 3 _ _ q1, hG 11 2 q2, hG 11 3 q3, .stop 12] calNone_ok (by kernel_rfl) fin
  have he : i = acts.length := by omega
  subst he
  have q1 : decide ((acts.length : Int) < (acts.length : Int)) = false := decide_eq_false (by omega)
  exact leaf_end calNone false 400 [hB 9 3 _ _ q1, hC 46 0 hw] calNone_ok (by kernel_rfl)
end Go.Proofs.Ytlamaakconjkcaa
