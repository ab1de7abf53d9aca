/- LAW 16: HandoverAnswers: the walk, whole. -/
import Derived.Test.YtjeppnhkgiljpaaM47
namespace Go.Proofs.Ytjeppnhkgiljpaa
set_option maxRecDepth 100000
open Go.RowKit Go.Lib Go.Tk Go.Shelf Go.Vc Go.Sx
set_option linter.unusedVariables false
set_option linter.unusedSimpArgs false

theorem iss16a : (bookNew 0 2).issE sale16 = 0 := by kernel_rfl
def ansN (n : Nat) : Nat := n + 4 * n + 8
theorem msK_ok {k : Kid} (h : k ∈ keysC) : KidOk k := by
  obtain ⟨i, hi, a, b⟩ := keysC_at h
  rw [hi]; exact keyA_ok a (by omega)
/-- one act -/
theorem ans_act (F : CF) {acts : List Act16} (ok : ∀ x ∈ acts, ActOk x) {a : Option Addr} {n cap : Nat} {eb : Env} {R : List Chunk} {J : Act → World → Prop} {i : Nat} (hi : i ≤ 3000)
    (hJ : ∀ ε a' w, Rel (ntOf Try.prog AnsF) 1 eb R ⟨ansSl a n cap (i + 1), ansH F (runA acts (i + 1)).a (runA acts (i + 1)).b (runA acts (i + 1)).down (runA acts (i + 1)).up, 2⟩ ε a' w → J a' w) :
    Go Try.prog AnsF (.val (.bool true)) ([((0, 9), .fam F)] ++ []) eb R .nrm (rgK Try.prog AnsF 19 [J]) (ansSl a n cap i ++ [(12, .val (.int .i64 (dAt acts i))), (13, .ptr 1 5 0), (14, nilS), (15, .val (.int .u8 0))])
      (ansH F (runA acts i).a (runA acts i).b (runA acts i).down (runA acts i).up ++ [((1, 5), .box none (kidS (keyA (jAt acts i))))]) := by
  have inv := runA_ok ok i
  have inv1 := runA_ok ok (i + 1)
  have st := runA_step ok i
  have hop := inv1.1.open0
  have hln := inv1.1.lens
  have hlen : (runA acts (i + 1)).a.owns.length ≤ 3 ∧ (runA acts (i + 1)).a.helds.length ≤ 3 ∧ (runA acts (i + 1)).b.owns.length ≤ 3 ∧ (runA acts (i + 1)).b.helds.length ≤ 3 :=
    ⟨hln.1, by rw [inv1.1.ha]; exact Nat.zero_le _, by rw [inv1.1.ob]; exact Nat.zero_le _, hln.2⟩
  have hj := jAt_in ok i
  have hD : (runA acts i).down.length ≤ 10000 ∧ (runA acts i).up.length ≤ 10000 := by
    have h1 := wts_len (runA acts i).down
    have h2 := wts_len (runA acts i).up
    have h3 := inv.2
    unfold phi at h3
    omega
  have e1 : runA acts (i + 1) = stepH (runA acts i) (dAt acts i) (jAt acts i) := rfl
  rw [e1] at hJ hop hlen
  have hgd := st.good
  have dk := inv.1.dk
  have uk := inv.1.uk
  clear st inv inv1 hln e1
  generalize runA acts i = σ at *
  generalize dAt acts i = d at *
  generalize jAt acts i = y at *
  have hk : KidOk (keyA y) := keyA_ok hj.1 (by omega)
  by_cases d0 : d = 0
  · have c1 := want_c σ.b hk
    refine leaf_cut (rgK Try.prog AnsF 35 [J]) _ _ calNone false 400 [hI 19 0 IntKind.i64 _ _ d0, hC 25 2 c1, .stop 35] calNone_ok (by kernel_rfl) (ans_round F (by omega) σ.a (wantQ σ.b (keyA y)).b σ.down σ.up (wantQ σ.b (keyA y)).out 0 (.inl rfl) ?_ _ (fun _ => ?_) (fun e => by cases e) hD.1 hD.2 hop hlen hJ)
    · have := hgd.out; unfold outH toH at this; rw [if_pos d0, if_pos d0] at this; exact this
    · unfold stepH; rw [if_pos d0]
  have e0 : decide (d = 0) = false := decide_eq_false d0
  by_cases d1 : d = 1
  · have c1 := return_c σ.b hk
    refine leaf_cut (rgK Try.prog AnsF 35 [J]) _ _ calNone false 400 [hI 19 0 IntKind.i64 _ _ d1, hC 27 2 c1, .stop 35] calNone_ok (by kernel_rfl) (ans_round F (by omega) σ.a (returnQ σ.b (keyA y)).b σ.down σ.up (returnQ σ.b (keyA y)).out 0 (.inl rfl) ?_ _ (fun _ => ?_) (fun e => by cases e) hD.1 hD.2 hop hlen hJ)
    · have := hgd.out; unfold outH toH at this; rw [if_neg d0, if_pos d1, if_neg d0, if_pos d1] at this; exact this
    · unfold stepH; rw [if_neg d0, if_pos d1]
  have e1 : decide (d = 1) = false := decide_eq_false d1
  by_cases d2 : d = 2
  · have c1 := recall_c σ.a hk
    refine leaf_cut (rgK Try.prog AnsF 35 [J]) _ _ calNone false 400 [hI 19 0 IntKind.i64 _ _ d2, hC 29 2 c1, .stop 35] calNone_ok (by kernel_rfl) (ans_round F (by omega) (recallQ σ.a (keyA y)).b σ.b σ.down σ.up (recallQ σ.a (keyA y)).out 1 (.inr rfl) ?_ _ (fun e => by cases e) (fun _ => ?_) hD.1 hD.2 hop hlen hJ)
    · have := hgd.out; unfold outH toH at this; rw [if_neg d0, if_neg d1, if_pos d2, if_neg d0, if_neg d1, if_pos d2] at this; exact this
    · unfold stepH; rw [if_neg d0, if_neg d1, if_pos d2]
  have e2 : decide (d = 2) = false := decide_eq_false d2
  obtain ⟨A, B, D, U⟩ := σ
  by_cases d3 : d = 3
  · have e3 : decide (d = 3) = true := decide_eq_true d3
    have hgo := hgd.out
    unfold outH toH at hgo
    rw [if_neg d0, if_neg d1, if_neg d2, if_pos d3, if_neg d0, if_neg d1, if_neg d2, if_pos d3] at hgo
    have hge := hgd.e
    unfold eH at hge
    rw [if_neg d0, if_neg d1, if_neg d2, if_pos d3] at hge
    have ql := q_len (P := Try.prog) (E := MT) (size := 12) (enc := msL) D
    cases D with
    | nil =>
      refine leaf_cut (rgK Try.prog AnsF 35 [J]) _ _ calNone false 400 [hI 19 0 IntKind.i64 _ _ d3, hG 32 1 ql, .stop 35] calNone_ok (by kernel_rfl) (ans_round F (by omega) A B [] U [] 0 (.inl rfl) (.inl rfl) _ (fun _ => ?_) (fun e => by cases e) (Nat.zero_le _) hD.2 hop hlen hJ)
      unfold stepH; rw [if_neg d0, if_neg d1, if_neg d2, if_pos d3]; simp [outsM]
    | cons m l =>
      have g2 : decide ((0 : Int) < ((m :: l).length : Int)) = true := decide_eq_true (by simp)
      have wm := dk m List.mem_cons_self
      have c1 := hear_c B (c := 0) (by decide) m (by omega) (msK_ok wm.1)
      have q7 := q_idx (P := Try.prog) (t := 70) (i := 0) (k := .i64) (E := MT) (size := 12) (enc := msL) (m :: l) msL_len (by decide) (by kernel_rfl) (by simp)
      have q8 := q_load (P := Try.prog) (t := 52) (b := 0 * 12) (j := 0) (cs := msS m) (u := .agg (msS m)) (E := MT) (size := 12) (enc := msL) (m :: l) (by kernel_rfl) (ms_nth (l := m :: l) (i := 0) (by simp) m)
      have q9 := q_tail (P := Try.prog) (t := 70) (E := MT) (size := 12) (enc := msL) m l msL_len (by decide) (by kernel_rfl)
      have hge : (hearQ B 0 m).e = 0 := hge
      refine leaf_cut (rgK Try.prog AnsF 35 [J]) _ _ calNone false 400 [hI 19 0 IntKind.i64 _ _ d3, hG 32 1 ql, hB 32 2 _ _ g2, hG 33 2 q7, hG 33 3 q8, hC 33 4 c1, hI 33 7 IntKind.i64 _ _ hge, hG 34 1 q9, .stop 35] calNone_ok (by kernel_rfl) (ans_round F (by omega) A (hearQ B 0 m).b l U (hearQ B 0 m).out 0 (.inl rfl) hgo _ (fun _ => ?_) (fun e => by cases e) (by have := hD.1; simp at this; omega) hD.2 hop hlen hJ)
      unfold stepH; rw [if_neg d0, if_neg d1, if_neg d2, if_pos d3]
  have e3 : decide (d = 3) = false := decide_eq_false d3
  have hgo := hgd.out
  unfold outH toH at hgo
  rw [if_neg d0, if_neg d1, if_neg d2, if_neg d3, if_neg d0, if_neg d1, if_neg d2, if_neg d3] at hgo
  have hge := hgd.e
  unfold eH at hge
  rw [if_neg d0, if_neg d1, if_neg d2, if_neg d3] at hge
  have ql := q_len (P := Try.prog) (E := MT) (size := 12) (enc := msL) U
  cases U with
  | nil =>
    refine leaf_cut (rgK Try.prog AnsF 35 [J]) _ _ calNone false 400 [hB 24 0 _ _ e0, hB 26 0 _ _ e1, hB 28 0 _ _ e2, hB 31 0 _ _ e3, hG 20 1 ql, .stop 35] calNone_ok (by kernel_rfl) (ans_round F (by omega) A B D [] [] 1 (.inr rfl) (.inl rfl) _ (fun e => by cases e) (fun _ => ?_) hD.1 (Nat.zero_le _) hop hlen hJ)
    unfold stepH; rw [if_neg d0, if_neg d1, if_neg d2, if_neg d3]; simp [outsM]
  | cons m l =>
    have g2 : decide ((0 : Int) < ((m :: l).length : Int)) = true := decide_eq_true (by simp)
    have wm := uk m List.mem_cons_self
    have c1 := hear_c A (c := 1) (by decide) m (by omega) (msK_ok wm.1)
    have q7 := q_idx (P := Try.prog) (t := 70) (i := 0) (k := .i64) (E := MT) (size := 12) (enc := msL) (m :: l) msL_len (by decide) (by kernel_rfl) (by simp)
    have q8 := q_load (P := Try.prog) (t := 52) (b := 0 * 12) (j := 0) (cs := msS m) (u := .agg (msS m)) (E := MT) (size := 12) (enc := msL) (m :: l) (by kernel_rfl) (ms_nth (l := m :: l) (i := 0) (by simp) m)
    have q9 := q_tail (P := Try.prog) (t := 70) (E := MT) (size := 12) (enc := msL) m l msL_len (by decide) (by kernel_rfl)
    have hge : (hearQ A 1 m).e = 0 := hge
    refine leaf_cut (rgK Try.prog AnsF 35 [J]) _ _ calNone false 400 [hB 24 0 _ _ e0, hB 26 0 _ _ e1, hB 28 0 _ _ e2, hB 31 0 _ _ e3, hG 20 1 ql, hB 20 2 _ _ g2, hG 21 2 q7, hG 21 3 q8, hC 21 4 c1, hI 21 7 IntKind.i64 _ _ hge, hG 22 1 q9, .stop 35] calNone_ok (by kernel_rfl) (ans_round F (by omega) (hearQ A 1 m).b B D l (hearQ A 1 m).out 1 (.inr rfl) hgo _ (fun e => by cases e) (fun _ => ?_) hD.1 (by have := hD.2; simp at this; omega) hop hlen hJ)
    unfold stepH; rw [if_neg d0, if_neg d1, if_neg d2, if_neg d3]
theorem ans_w (F : CF) {acts : List Act16} {a : Option Addr} {n cap : Nat} (hR : ∀ b v, Rd (F b v) a (cellsL act16L acts)) (hl : acts.length = n) (hn : n ≤ maxLen) (ok : ∀ x ∈ acts, ActOk x) :
    CallOK Try.prog AnsF [.val (.slice a n cap)] [((0, 9), .fam F)] [] (.val (.bool true)) [] := by
  subst hl
  have hw := wakes16_w
  have hn1 : acts.length ≤ 9223372036854775807 := by simpa [maxLen] using hn
  refine callOK_intro (by kernel_rfl) fun eb R => ?_
  by_cases hlong : 400 < acts.length
  · have g1 : decide ((400 : Int) < (acts.length : Int)) = true := decide_eq_true (by omega)
    exact leaf_end calNone false 400 [hB 1 2 _ _ g1, hC 2 0 hw] calNone_ok (by kernel_rfl)
  have g1 : decide ((400 : Int) < (acts.length : Int)) = false := decide_eq_false (by omega)
  have n1 := new_okC (self := 0) (n := 2) (by decide) (by decide)
  have n2 := new_okC (self := 1) (n := 2) (by decide) (by decide)
  have n3 := known16_w
  have n4 := issue_okR (book_new_ok 0 2 (by decide)) sale16_ok iss16a
  refine leaf_cut (rgK Try.prog AnsF 9 []) [(0, .val (.slice a acts.length cap)), (3, .ptr 1 0 0), (5, .ptr 1 1 0), (7, .ptr 1 2 0), (8, .val (.int .i64 0)), (9, .val (.slice none 0 0)), (10, .val (.slice none 0 0))]
    [((0, 9), .fam F), ((1, 0), .fam (bookF startA.a)), ((1, 1), .fam (bookF startA.b)), ((1, 2), .box none docA)] calNone false 400 [hB 1 2 _ _ g1, hC 3 0 n1, hC 4 0 n2, hC 5 1 n3, hC 5 2 n4, .stop 9] calNone_ok (by kernel_rfl) ?_
  refine go_named 9 3 (.slice none 0 0) (msQ []) rfl (fun cs w h => mem_noQ h _ _) (by kernel_rfl) (by kernel_rfl) (by kernel_rfl) ?_
  refine go_named 10 4 (.slice none 0 0) (msQ []) (by kernel_rfl) (fun cs w h => mem_noQ h _ _) (by kernel_rfl) (by kernel_rfl) (by kernel_rfl) ?_
  refine go_loop (X := { i : Nat // i ≤ ansN acts.length }) 0 [] (fun x => (ansSl a acts.length cap x.1, ansH F (runA acts x.1).a (runA acts x.1).b (runA acts x.1).down (runA acts x.1).up))
    (fun x => ansN acts.length - x.1) ⟨0, Nat.zero_le _⟩ calNone false 400 [] calNone_ok (by kernel_rfl) ?_
  rintro ⟨i, hi⟩ J hJ
  have m1 : IntKind.i64.wrap (4 * (acts.length : Int)) = ((4 * acts.length : Nat) : Int) := by rw [wr_i64 (by omega)]; omega
  have m2 : IntKind.i64.wrap ((acts.length : Int) + ((4 * acts.length : Nat) : Int)) = ((acts.length + 4 * acts.length : Nat) : Int) := by rw [wr_i64 (by omega)]; omega
  have m3 : IntKind.i64.wrap (((acts.length + 4 * acts.length : Nat) : Int) + 8) = (ansN acts.length : Int) := by unfold ansN; rw [wr_i64 (by omega)]; omega
  have hN : ansN acts.length ≤ 2008 := by unfold ansN; omega
  by_cases h : i < ansN acts.length
  · have q1 : decide ((i : Int) < (ansN acts.length : Int)) = true := decide_eq_true (by omega)
    have fin := ans_act F ok (a := a) (n := acts.length) (cap := cap) (eb := eb) (R := R) (J := J) (i := i) (by omega) (hJ ⟨i + 1, h⟩ (by show _ - (i + 1) < _ - i; omega))
    have r1 : Int.tmod (i : Int) 2 = ((i % 2 : Nat) : Int) := by rw [Int.tmod_eq_emod_of_nonneg (by omega)]; omega
    have r2 : IntKind.i64.wrap (3 + ((i % 2 : Nat) : Int)) = ((3 + i % 2 : Nat) : Int) := by rw [wr_i64 (by omega)]; omega
    by_cases hlt : i < acts.length
    · have q5 : decide ((i : Int) < (acts.length : Int)) = true := decide_eq_true (by omega)
      have hx : acts.getD i act0 ∈ acts := List.mem_of_getElem? (getD_some hlt act0)
      have q2 := idx_openG (P := Try.prog) (t := AT) (e := 54) (size := 17) (j := 9) (k := .i64) (cap := cap) (n := acts.length) Try.underlying60 (by kernel_rfl) (cellsL_len act16_len _) hR hlt
      have l0 : 0 < (cellsL act16L acts).length := by rw [cellsL_len act16_len]; omega
      have q3 := load_openG2 (P := Try.prog) (t := 5) (k := i * 17) (j := 9) (cs := act16S (acts.getD i act0)) (u := .val (.int .u8 (acts.getD i act0).k.i)) 1 2 (by kernel_rfl) hR (act16_nth hlt act0) l0
      have q6 := load_openG (P := Try.prog) (t := 3) (k := i * 17) (j := 9) (cs := act16S (acts.getD i act0)) (u := .val (.int .i64 (acts.getD i act0).d)) 0 (by kernel_rfl) hR (act16_nth hlt act0) l0
      have f1 : (acts.getD i act0).d = dAt acts i := by unfold dAt; rw [if_pos hlt]
      have f2 : Int.tmod (acts.getD i act0).k.i 3 = jAt acts i := by unfold jAt; rw [if_pos hlt]
      exact leaf_cut (rgK Try.prog AnsF 19 [J]) _ _ calNone false 400 [hI 10 5 IntKind.i64 _ _ m1, hI 10 6 IntKind.i64 _ _ m2, hI 10 7 IntKind.i64 _ _ m3, hB 10 8 _ _ q1, hI 12 1 IntKind.i64 _ _ r1, hI 12 2 IntKind.i64 _ _ r2, hB 14 3 _ _ q5, hG 15 2 q2, hG 15 4 q6, hI 15 4 IntKind.i64 _ _ f1, hG 16 2 q2, hG 16 5 q3, hI 16 6 IntKind.u8 _ _ f2, .stop 19] calNone_ok (by kernel_rfl) fin
    · have q5 : decide ((i : Int) < (acts.length : Int)) = false := decide_eq_false (by omega)
      have f1 : ((3 + i % 2 : Nat) : Int) = dAt acts i := by unfold dAt; rw [if_neg hlt]
      have f2 : jAt acts i = 0 := by unfold jAt; rw [if_neg hlt]
      rw [f2] at fin
      exact leaf_cut (rgK Try.prog AnsF 19 [J]) _ _ calNone false 400 [hI 10 5 IntKind.i64 _ _ m1, hI 10 6 IntKind.i64 _ _ m2, hI 10 7 IntKind.i64 _ _ m3, hB 10 8 _ _ q1, hI 12 1 IntKind.i64 _ _ r1, hI 12 2 IntKind.i64 _ _ r2, hI 12 3 IntKind.i64 _ _ f1, hB 14 3 _ _ q5, .stop 19] calNone_ok (by kernel_rfl) fin
  have he : i = ansN acts.length := by omega
  subst he
  have q1 : decide ((ansN acts.length : Int) < (ansN acts.length : Int)) = false := decide_eq_false (by omega)
  obtain ⟨z1, z2⟩ := endA ok
  have z1 : (runA acts (ansN acts.length)).down = [] := z1
  have z2 : (runA acts (ansN acts.length)).up = [] := z2
  have inv := (runA_ok ok (ansN acts.length)).1
  have hop := inv.open0 z1 z2
  have hln := inv.lens
  have c1 := open_c (runA acts (ansN acts.length)).a 1 (by omega) (by rw [inv.ha]; exact Nat.zero_le _)
  have c2 := open_c (runA acts (ansN acts.length)).b 0 (by rw [inv.ob]; exact Nat.zero_le _) (by omega)
  rw [hop.1] at c1
  rw [hop.2] at c2
  rw [z1, z2]
  have l1 := q_len (P := Try.prog) (E := MT) (size := 12) (enc := msL) []
  exact leaf_end calNone false 400 [hI 10 5 IntKind.i64 _ _ m1, hI 10 6 IntKind.i64 _ _ m2, hI 10 7 IntKind.i64 _ _ m3, hB 10 8 _ _ q1, hG 45 1 l1, hG 45 3 l1, hC 45 8 c1, hC 45 13 c2, hC 45 17 hw] calNone_ok (by kernel_rfl)
theorem ans_any (a : Option Addr) (l : List Act16) (cap : Nat) (w : World) (hr : Row w a (cellsL act16L l)) (hn : a = none → cap = 0) (hl : l.length ≤ maxLen) (ok : ∀ x ∈ l, ActOk x) :
    Calls Try.prog AnsF #[.slice a l.length cap] w fun e w' => e = .returned (.bool true) ∧ Below w.heap.size w w' :=
  (ans_w (fun _ _ => oldC w) (a := a) (n := l.length) (cap := cap) (acts := l) (fun _ _ => rd_old hr) rfl hl ok (fun _ _ => (0, undef)) [] w (Mem.old w)).mono fun e w' ⟨x, h, hm⟩ => ⟨h, (show Mem (oldC w :: []) w' from hm).below 0 rfl⟩
end Go.Proofs.Ytjeppnhkgiljpaa
