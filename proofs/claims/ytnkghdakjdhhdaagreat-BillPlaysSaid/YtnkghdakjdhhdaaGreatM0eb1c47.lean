/- Rf14, Sm1, Sm2, Sm3, Sm4, EaW5, StW, Bi4, BsW, OpC, Bi5, Bi6, OpG, Coup4. -/
import Derived.Test.YtnkghdakjdhhdaaGreatMcaf8710
import Derived.Test.YtnkghdakjdhhdaaGreatM00e8aee
import Derived.Test.YtnkghdakjdhhdaaGreatM528e2f7
import Derived.ChangeKeysEq
import Derived.Test.YtnkghdakjdhhdaaGreatM421640f
import Derived.Test.YtnkghdakjdhhdaaGreatM242dd63
import Derived.Test.YtnkghdakjdhhdaaGreatM3981284
import Derived.Test.YtnkghdakjdhhdaaGreatM88b8626
import Derived.BigRegion
import Derived.Deep.LoopGhost
set_option maxRecDepth 100000
set_option linter.unusedVariables false
set_option linter.unusedSimpArgs false
set_option linter.unusedSectionVars false
section
namespace Go.Proofs.YtnkghdakjdhhdaaGreat
open Go.RowKit Go.Lib Go.Tk Go.Shelf Go.Vc Go.Sx
theorem rown_c (D : CF) (B : RefV) (k : Kid) (hn : B.owns.length ≤ 9223372036854775807) : CallOK Tryz.prog ROwnF [.ptr 0 0 0, .agg (kidS k)] (rfC D B) [] (.val (.int .i64 (rIx B.owns k))) [] := rshutR (rown_w D B k hn) rfl rfl
def RefV.issue (R : RefV) (s : SaleV) (A : SaleA) : RefV := bif decide (R.issE s = 0) then R.issued s A else R
def RefV.setO (R : RefV) (k : Kid) (o : OwnV) : RefV := bif decide (0 ≤ rIx R.owns k) then { R with owns := R.owns.set (rIx R.owns k).toNat (k, o) } else R
def stepR (R : RefV) (x : Act15) : RefV := if x.d = 0 then R.issue x.s x.A else if x.d = 2 then R.setO x.k x.o else if x.d = 3 then R.setH x.k x.h else R
def runR (R : RefV) (acts : List Act15) : Nat → RefV
  | 0 => R
  | i + 1 => stepR (runR R acts i) (acts.getD i act15Z)
structure RI (R : RefV) : Prop where
  hs : 0 ≤ R.self ∧ R.self ≤ 255
  hd : R.docs.length ≤ 32
  ho : R.owns.length ≤ 4 * R.docs.length
  hh : R.helds.length ≤ 64
theorem RefV.issE_ok {R : RefV} {s : SaleV} (ok : SaleOk s) (h : R.issE s = 0) : R.docs.length < 32 ∧ (shareV s.fare (wsOf s)).length = s.legs.length ∧ 1 ≤ s.legs.length ∧ s.legs.length ≤ 4 := by
  have g1 : decide ((32 : Int) ≤ (R.docs.length : Int)) = false := by
    cases h1 : decide ((32 : Int) ≤ (R.docs.length : Int)) with
    | false => rfl
    | true => unfold RefV.issE at h; rw [h1] at h; cases h
  have hm : makeE R.self ((R.docs.length : Int) + 1) s R.n = 0 := by unfold RefV.issE at h; rw [g1] at h; exact h
  have hck : checkE s R.n = 0 := by
    unfold makeE at hm
    split at hm
    · cases hm
    · exact hm
  obtain ⟨-, -, hsh, -⟩ := check_shape hck
  obtain ⟨hS, -, l1, l4, -, -⟩ := shape_share ok hsh
  exact ⟨by have := of_decide_eq_false g1; omega, by rw [shareV_len hS, ws_len], by omega, by omega⟩
theorem RI.issue {R : RefV} (h : RI R) {s : SaleV} (ok : SaleOk s) (A : SaleA) : RI (R.issue s A) := by
  unfold RefV.issue
  rcases Bool.eq_false_or_eq_true (decide (R.issE s = 0)) with e | e <;> rw [e]
  · obtain ⟨h1, h2, h3, h4⟩ := R.issE_ok ok (of_decide_eq_true e)
    have e1 : (R.docs ++ [(docMade R.nextT s, A)]).length = R.docs.length + 1 := by rw [List.length_append]; rfl
    refine ⟨h.hs, ?_, ?_, h.hh⟩
    · show (R.docs ++ [(docMade R.nextT s, A)]).length ≤ 32
      rw [e1]; omega
    · show (issR _ _ _ _ _).length ≤ 4 * (R.docs ++ [(docMade R.nextT s, A)]).length
      rw [issR_len, e1, h2]
      have := h.ho
      omega
  · exact h
theorem RI.setO {R : RefV} (h : RI R) (k : Kid) (o : OwnV) : RI (R.setO k o) := by
  unfold RefV.setO
  cases decide (0 ≤ rIx R.owns k)
  · exact h
  · exact ⟨h.hs, h.hd, by show (R.owns.set _ _).length ≤ _; rw [List.length_set]; exact h.ho, h.hh⟩
theorem insH_len (l : List (Kid × HeldV)) (k : Kid) (x : HeldV) : (insH l k x).length = l.length + 1 := by
  have := insIx_le l k
  unfold insH
  rw [List.length_append, List.length_append, List.length_take, List.length_drop, List.length_singleton]
  omega
theorem RI.setH {R : RefV} (h : RI R) (k : Kid) (x : HeldV) : RI (R.setH k x) := by
  unfold RefV.setH
  cases R.badK k
  · cases decide (0 ≤ rIx R.helds k)
    · rcases Bool.eq_false_or_eq_true (decide ((64 : Int) ≤ (R.helds.length : Int))) with g | g <;> rw [g]
      · exact h
      · exact ⟨h.hs, h.hd, h.ho, by show (insH _ _ _).length ≤ _; rw [insH_len]; have := of_decide_eq_false g; omega⟩
    · exact ⟨h.hs, h.hd, h.ho, by show (R.helds.set _ _).length ≤ _; rw [List.length_set]; exact h.hh⟩
  · exact h
theorem RI.step {R : RefV} (h : RI R) {x : Act15} (ok : SaleOk x.s) : RI (stepR R x) := by
  unfold stepR
  split
  · exact h.issue ok _
  split
  · exact h.setO _ _
  split
  · exact h.setH _ _
  exact h
def BuiltF : Nat := 11
def bltSl (a : Option Addr) (n cap i : Nat) : Slots := [(2, .val (.slice a n cap)), (8, .ptr 1 0 0), (10, .ptr 1 1 0), (11, .val (.int .i64 (i : Int)))]
def bltH (F : CF) (B : BookV) (R : RefV) : Heap := [((0, 9), .fam F), ((1, 0), .fam (bookF B)), ((1, 1), .fam (refF (rdX R.docs) R))]
theorem built_own (F : CF) {eb : Env} {R0 : List Chunk} {a : Option Addr} {n cap i : Nat} {x : Act15} {B : BookV} {R : RefV} (h : RI R) {ret : SV} {rp : Heap} {J : Act → World → Prop} (hi : i ≤ 1000000)
    (hJ : ∀ ε a' w, Rel (ntOf Tryz.prog BuiltF) 1 eb R0 ⟨bltSl a n cap (i + 1), bltH F B (R.setO x.k x.o), 2⟩ ε a' w → J a' w) :
    Go Tryz.prog BuiltF ret rp eb R0 .nrm (rgK Tryz.prog BuiltF 15 [J]) (bltSl a n cap i ++ [(12, .ptr 1 5 0)]) (bltH F B R ++ [((1, 5), .box none (act15X x))]) := by
  have c1 := rown_c (rdX R.docs) R x.k (by have := h.ho; have := h.hd; omega)
  have z9 : IntKind.i64.wrap ((i : Int) + 1) = ((i + 1 : Nat) : Int) := by rw [wr_i64 (by omega)]; omega
  unfold RefV.setO at hJ
  rcases rIx_cases R.owns x.k with ⟨e, -⟩ | ⟨q, o, e, hq, -⟩ <;> rw [e] at c1 hJ
  · rw [show decide ((0 : Int) ≤ -1) = false by decide] at hJ
    simp only [cond_false] at hJ
    exact leaf_round (lpK Tryz.prog BuiltF 0 []) false 400 [hC 15 3 c1, hI 7 1 IntKind.i64 _ _ z9] hJ (by kernel_rfl)
  · have hql := (List.getElem?_eq_some_iff.1 hq).1
    have z0 : decide ((0 : Int) ≤ (q : Int)) = true := decide_eq_true (by omega)
    rw [z0, Int.toNat_natCast] at hJ
    simp only [cond_true] at hJ
    refine leaf_cut (rgK Tryz.prog BuiltF 17 [J]) (bltSl a n cap i ++ [(12, .ptr 1 5 0), (13, .val (.int .i64 (q : Int)))]) (((1, 1), .fam (refF (rdX R.docs) R)) :: [((0, 9), .fam F), ((1, 0), .fam (bookF B)), ((1, 5), .box none (act15X x))]) calNone false 400 [hC 15 3 c1, .stop 17] calNone_ok (by kernel_rfl) ?_
    refine go_ref 1 11 12 13 (by kernel_rfl) (by kernel_rfl) (by kernel_rfl) (by kernel_rfl) ?_
    have q1 := q_idx (P := Tryz.prog) (t := 78) (i := q) (k := .i64) (E := 85) (size := 13) (enc := mineC) R.owns (fun _ => rfl) (by decide) (by kernel_rfl) hql
    have q2 := q_store (P := Tryz.prog) (t := 43) (b := q * 13) (j := 3) (cs := ownS x.o) (us := ownL x.o) (E := 85) (size := 13) (enc := mineC) R.owns (R.owns.set q (x.k, x.o)) (by kernel_rfl) (fun _ => rfl) rfl (by rw [cellsL_len mine_len]; omega) (by rw [cellsL_len mine_len]; show q * 13 + 3 + 10 ≤ _; omega) (List.length_set ..) (rown_store _ hq)
    refine leaf_cut (rgK Tryz.prog BuiltF 7 [J]) (bltSl a n cap i) (rfM (rdX R.docs) { R with owns := R.owns.set q (x.k, x.o) } (1, 1) (1, 11) (1, 12) (1, 13) ++ [((0, 9), .fam F), ((1, 0), .fam (bookF B))]) calNone false 400 [hG 17 7 q1, hG 17 9 q2, .stop 7] calNone_ok (by kernel_rfl) ?_
    refine go_open (X := Unit) (fun _ => [((1, 1), .fam (refF (rdX R.docs) { R with owns := R.owns.set q (x.k, x.o) })), ((0, 9), .fam F), ((1, 0), .fam (bookF B))]) (fun ε w hM => ⟨(), by
      rw [hden_append, List.append_assoc] at hM
      exact rfM_shut _ _ _ _ _ _ ε _ w hM⟩) (fun _ => by kernel_rfl) ?_
    intro _
    exact leaf_round (lpK Tryz.prog BuiltF 0 []) false 400 [hI 7 1 IntKind.i64 _ _ z9] hJ (by kernel_rfl)
theorem built_act (F : CF) {eb : Env} {R0 : List Chunk} {a : Option Addr} {cap i : Nat} {acts : List Act15} (hR : ∀ b v, Rd (F b v) a (cellsL act15C acts)) (hi : i < acts.length) (hl : acts.length ≤ 1000000) {x : Act15} (hx : acts.getD i act15Z = x) (ha : Act15Rd F x) {B : BookV} {R : RefV} (eB : BI B) (h : RI R) {ret : SV} {rp : Heap} {J : Act → World → Prop}
    (hJ : ∀ ε a' w, Rel (ntOf Tryz.prog BuiltF) 1 eb R0 ⟨bltSl a acts.length cap (i + 1), bltH F (step15 B x) (stepR R x), 2⟩ ε a' w → J a' w) :
    Go Tryz.prog BuiltF ret rp eb R0 .nrm (rgK Tryz.prog BuiltF 8 [J]) (bltSl a acts.length cap i) (bltH F B R) := by
  have q1 := idx_openG (P := Tryz.prog) (t := AT15) (e := 71) (size := 46) (j := 9) (k := .i64) (cap := cap) (n := acts.length) Tryz.underlying22 (by kernel_rfl) (acts15_len acts) hR hi
  have hpos : 0 < (cellsL act15C acts).length := by rw [acts15_len]; omega
  have q2 := load_openG0 (P := Tryz.prog) (t := 71) (k := i * 46) (j := 9) (u := .agg (act15X (acts.getD i act15Z))) (by kernel_rfl) hR (act15_nth hi) hpos
  have z9 : IntKind.i64.wrap ((i : Int) + 1) = ((i + 1 : Nat) : Int) := by rw [wr_i64 (by omega)]; omega
  rw [hx] at q2
  unfold step15 stepR at hJ
  by_cases g0 : x.d = 0
  · rw [if_pos g0, if_pos g0] at hJ
    have e0 : decide (x.d = 0) = true := decide_eq_true g0
    have i1 : ∀ e : R.issE x.s = 0, R.issue x.s x.A = R.issued x.s x.A := fun e => by unfold RefV.issue; rw [decide_eq_true e]; rfl
    have i2 : ∀ e : R.issE x.s ≠ 0, R.issue x.s x.A = R := fun e => by unfold RefV.issue; rw [decide_eq_false e]; rfl
    have i3 : ∀ e : B.issE x.s = 0, B.issue x.s = B.issued x.s := fun e => by unfold BookV.issue; rw [decide_eq_true e]; rfl
    have i4 : ∀ e : B.issE x.s ≠ 0, B.issue x.s = B := fun e => by unfold BookV.issue; rw [decide_eq_false e]; rfl
    by_cases hm : B.issE x.s = 0 <;> by_cases hn : R.issE x.s = 0
    · have c1 := issue_okC F eB.ex.bk ha.ok ha.hl ha.ht ha.h1 ha.h2 hm
      have c2 := rissue_ok F ha.ok h.hs (by have := h.ho; have := h.hd; omega) ha.hl ha.ht hn
      rw [i3 hm, i1 hn] at hJ
      clear i1 i2 i3 i4
      exact leaf_round (lpK Tryz.prog BuiltF 0 []) false 400 [hG 8 2 q1, hG 8 3 q2, hI 9 1 IntKind.i64 _ _ g0, hC 11 3 c1, hC 12 3 c2, hI 7 1 IntKind.i64 _ _ z9] hJ (by kernel_rfl)
    · have c1 := issue_okC F eB.ex.bk ha.ok ha.hl ha.ht ha.h1 ha.h2 hm
      have c2 := rissue_no F ha.ok h.hs h.hd ha.hl ha.ht hn
      rw [i3 hm, i2 hn] at hJ
      clear i1 i2 i3 i4
      exact leaf_round (lpK Tryz.prog BuiltF 0 []) false 400 [hG 8 2 q1, hG 8 3 q2, hI 9 1 IntKind.i64 _ _ g0, hC 11 3 c1, hC 12 3 c2, hI 7 1 IntKind.i64 _ _ z9] hJ (by kernel_rfl)
    · have c1 := issue_noC F eB.ex.bk ha.ok ha.hl ha.ht ha.h1 ha.h2 hm
      have c2 := rissue_ok F ha.ok h.hs (by have := h.ho; have := h.hd; omega) ha.hl ha.ht hn
      rw [i4 hm, i1 hn] at hJ
      clear i1 i2 i3 i4
      exact leaf_round (lpK Tryz.prog BuiltF 0 []) false 400 [hG 8 2 q1, hG 8 3 q2, hI 9 1 IntKind.i64 _ _ g0, hC 11 3 c1, hC 12 3 c2, hI 7 1 IntKind.i64 _ _ z9] hJ (by kernel_rfl)
    · have c1 := issue_noC F eB.ex.bk ha.ok ha.hl ha.ht ha.h1 ha.h2 hm
      have c2 := rissue_no F ha.ok h.hs h.hd ha.hl ha.ht hn
      rw [i4 hm, i2 hn] at hJ
      clear i1 i2 i3 i4
      exact leaf_round (lpK Tryz.prog BuiltF 0 []) false 400 [hG 8 2 q1, hG 8 3 q2, hI 9 1 IntKind.i64 _ _ g0, hC 11 3 c1, hC 12 3 c2, hI 7 1 IntKind.i64 _ _ z9] hJ (by kernel_rfl)
  have e0 : decide (x.d = 0) = false := decide_eq_false g0
  rw [if_neg g0, if_neg g0] at hJ
  by_cases g2 : x.d = 2
  · rw [if_pos g2, if_pos g2] at hJ
    have e2 : decide (x.d = 2) = true := decide_eq_true g2
    have c1 := setOwn_c B ha.k x.o
    have fin := built_own F (eb := eb) (R0 := R0) (a := a) (n := acts.length) (cap := cap) (i := i) (x := x) (B := B.setO x.k x.o) h (ret := ret) (rp := rp) (J := J) (by omega) hJ
    clear hJ
    exact leaf_cut (rgK Tryz.prog BuiltF 15 [J]) _ _ calNone false 400 [hG 8 2 q1, hG 8 3 q2, hI 9 1 IntKind.i64 _ _ g2, hC 14 5 c1, .stop 15] calNone_ok (by kernel_rfl) fin
  have e2 : decide (x.d = 2) = false := decide_eq_false g2
  rw [if_neg g2, if_neg g2] at hJ
  by_cases g3 : x.d = 3
  · rw [if_pos g3, if_pos g3] at hJ
    have e3 : decide (x.d = 3) = true := decide_eq_true g3
    have c1 := setHeld_c B ha.k x.h
    have c2 := rsetHeld_w (rdX R.docs) R ha.k x.h h.hh
    have ed : (R.setH x.k x.h).docs = R.docs := by
      unfold RefV.setH
      cases R.badK x.k
      · cases decide (0 ≤ rIx R.helds x.k)
        · cases decide ((64 : Int) ≤ (R.helds.length : Int)) <;> rfl
        · rfl
      · rfl
    unfold bltH at hJ
    rw [ed] at hJ
    exact leaf_round (lpK Tryz.prog BuiltF 0 []) false 400 [hG 8 2 q1, hG 8 3 q2, hI 9 1 IntKind.i64 _ _ g3, hC 19 5 c1, hC 20 5 c2, hI 7 1 IntKind.i64 _ _ z9] hJ (by kernel_rfl)
  · rw [if_neg g3, if_neg g3] at hJ
    have e3 : decide (x.d = 3) = false := decide_eq_false g3
    exact leaf_round (lpK Tryz.prog BuiltF 0 []) false 400 [hG 8 2 q1, hG 8 3 q2, hB 10 0 _ _ e0, hB 13 0 _ _ e2, hB 18 0 _ _ e3, hI 7 1 IntKind.i64 _ _ z9] hJ (by kernel_rfl)
theorem runs_ok {self n : Int} (hs : 0 ≤ self ∧ self < n ∧ 2 ≤ n ∧ n ≤ 8) {acts : List Act15} (hA : ∀ x ∈ acts, SaleOk x.s ∧ OwnOk x.o) : ∀ i ≤ acts.length, BI (run15 (bookNew self n) acts i) ∧ RI (runR (refNew self n) acts i)
  | 0, _ => ⟨new_bi self n hs, ⟨by show 0 ≤ self ∧ self ≤ 255; omega, Nat.zero_le _, Nat.zero_le _, Nat.zero_le _⟩⟩
  | i + 1, hi => by
    obtain ⟨h1, h2⟩ := runs_ok hs hA i (by omega)
    have hin : acts.getD i act15Z ∈ acts := List.mem_of_getElem? (getD_some (by omega) act15Z)
    exact ⟨h1.step (hA _ hin).1 (hA _ hin).2, h2.step (hA _ hin).1⟩
theorem built_no {self n : Int} (hs : 0 ≤ self ∧ self ≤ 255) (he : bookE self n ≠ 0) {a : Option Addr} {m cap : Nat} :
    CallOK Tryz.prog BuiltF [.val (.int .u8 self), .val (.int .i64 n), .val (.slice a m cap)] [] [] (.tup [.val (.pointer none), .val (.pointer none)]) [] := by
  have c1 := new_noC hs he
  have c2 := rnew_no (self := self) (n := n) hs (by
    unfold bookE at he
    rcases Bool.eq_false_or_eq_true (decide (n < 2)) with e1 | e1
    · exact .inl (of_decide_eq_true e1)
    rcases Bool.eq_false_or_eq_true (decide (8 < n)) with e2 | e2
    · exact .inr (.inl (of_decide_eq_true e2))
    rcases Bool.eq_false_or_eq_true (decide (n ≤ self)) with e3 | e3
    · exact .inr (.inr (of_decide_eq_true e3))
    · rw [e1, e2, e3] at he; exact absurd rfl he)
  exact callOK_run 400 [hC 1 2 c1, hC 2 2 c2] (by kernel_rfl) (by kernel_rfl)
theorem built_ok (F : CF) {self n : Int} (hs : 0 ≤ self ∧ self ≤ 255) (he : bookE self n = 0) {a : Option Addr} {cap : Nat} {acts : List Act15} (hR : ∀ b v, Rd (F b v) a (cellsL act15C acts)) (hl : acts.length ≤ 1000000) (hA : ∀ x ∈ acts, Act15Rd F x) :
    CallOK Tryz.prog BuiltF [.val (.int .u8 self), .val (.int .i64 n), .val (.slice a acts.length cap)] [((0, 9), .fam F)] [] (.tup [.ptr 1 0 0, .ptr 1 1 0]) [((1, 0), .fam (bookF (run15 (bookNew self n) acts acts.length))), ((1, 1), .fam (refF (rdX (runR (refNew self n) acts acts.length).docs) (runR (refNew self n) acts acts.length)))] := by
  have hk := bookE_ok hs.1 he
  have c1 := new_okC hs he
  have c2 := rnew_c (self := self) (n := n) ⟨hk.1, hk.2.1⟩ hk.2.2.1 hk.2.2.2
  have inv := runs_ok (self := self) (n := n) hk (acts := acts) (fun x hx => ⟨(hA x hx).ok, (hA x hx).o⟩)
  refine callOK_intro (by kernel_rfl) fun eb R0 => ?_
  refine go_loop (X := { i : Nat // i ≤ acts.length }) 0 [] (fun x => (bltSl a acts.length cap x.1, bltH F (run15 (bookNew self n) acts x.1) (runR (refNew self n) acts x.1))) (fun x => acts.length - x.1) ⟨0, Nat.zero_le _⟩ calNone false 400 [hC 1 2 c1, hC 2 2 c2] calNone_ok (by kernel_rfl) ?_
  rintro ⟨i, hi⟩ J hJ
  by_cases h : i < acts.length
  · have z0 : decide ((i : Int) < (acts.length : Int)) = true := decide_eq_true (by omega)
    have hin : acts.getD i act15Z ∈ acts := List.mem_of_getElem? (getD_some h act15Z)
    have fin := built_act F (eb := eb) (R0 := R0) (a := a) (cap := cap) hR h hl rfl (hA _ hin) (inv i hi).1 (inv i hi).2 (ret := .tup [.ptr 1 0 0, .ptr 1 1 0]) (rp := [((0, 9), .fam F)] ++ [((1, 0), .fam (bookF (run15 (bookNew self n) acts acts.length))), ((1, 1), .fam (refF (rdX (runR (refNew self n) acts acts.length).docs) (runR (refNew self n) acts acts.length)))]) (J := J) (hJ ⟨i + 1, h⟩ (by show _ - (i + 1) < _ - i; omega))
    clear hJ
    exact leaf_cut (rgK Tryz.prog BuiltF 8 [J]) _ _ calNone false 400 [hB 6 3 _ _ z0, .stop 8] calNone_ok (by kernel_rfl) fin
  · have z0 : decide ((acts.length : Int) < (acts.length : Int)) = false := decide_eq_false (by omega)
    have e : i = acts.length := by omega
    subst e
    clear hJ
    exact leaf_end calNone false 400 [hB 6 3 _ _ z0] calNone_ok (by kernel_rfl)
end Go.Proofs.YtnkghdakjdhhdaaGreat
end
section
namespace Go.Proofs.YtnkghdakjdhhdaaGreat
open Go.RowKit Go.Lib Go.Tk Go.Shelf Go.Vc Go.Sx Go.Maps
end Go.Proofs.YtnkghdakjdhhdaaGreat
end
section
namespace Go.Proofs.YtnkghdakjdhhdaaGreat
open Go.RowKit Go.Lib Go.Tk Go.Shelf Go.Vc Go.Sx Go.Maps
end Go.Proofs.YtnkghdakjdhhdaaGreat
end
section
namespace Go.Proofs.YtnkghdakjdhhdaaGreat
open Go.RowKit Go.Lib Go.Tk Go.Shelf Go.Vc Go.Sx Go.Maps
structure DocsOk (L : List (DocV × DocA)) : Prop where
  sal : ∀ p ∈ L, SaleOk p.1.s
  vl : ∀ p ∈ L, p.1.vals.length ≤ 1073741824
end Go.Proofs.YtnkghdakjdhhdaaGreat
end
section
namespace Go.Proofs.YtnkghdakjdhhdaaGreat
open Go.RowKit Go.Lib Go.Tk Go.Shelf Go.Vc Go.Sx Go.Maps
structure DsOk (ds : List DocV) : Prop where
  sal : ∀ d ∈ ds, SaleOk d.s
  vl : ∀ d ∈ ds, d.vals.length ≤ 1073741824
theorem DsOk.docs {ds : List DocV} (h : DsOk ds) {L : List (DocV × DocA)} (hL : L.map (·.1) = ds) : DocsOk L := ⟨fun p hp => h.sal _ (hL ▸ List.mem_map_of_mem hp), fun p hp => h.vl _ (hL ▸ List.mem_map_of_mem hp)⟩
end Go.Proofs.YtnkghdakjdhhdaaGreat
end
section
namespace Go.Proofs.YtnkghdakjdhhdaaGreat
open Go.RowKit Go.Lib Go.Tk Go.Shelf Go.Vc Go.Sx
theorem ExOk.ds {B : BookV} (h : ExOk B) : DsOk B.docs := ⟨h.sal, fun d hd => (h.sm d hd).nv⟩
theorem ExOk.cl {B : BookV} (h : ExOk B) : ∀ d ∈ B.docs, TidOk d.t ∧ DocSmall d := fun d hd => ⟨tid_docs h.bk hd, h.sm d hd⟩
theorem book_facts {B : BookV} {b : Nat} {v : Value} {R : List Chunk} {w : World} (h : Mem (bookF B b v :: R) w) : (B.owns.map (·.1)).Nodup ∧ (B.helds.map (·.1)).Nodup := by
  obtain ⟨a, h1⟩ := Mem.ex h
  have h2 := h1.all
  have h3 : Mem (mapC kidK a.o (ents ownW B.owns) :: _) w := h2.front 2 rfl
  have h4 : Mem (mapC kidK a.h (ents heldW B.helds) :: _) w := h2.front 3 rfl
  exact ⟨(map_facts h3).1, (map_facts h4).1⟩
end Go.Proofs.YtnkghdakjdhhdaaGreat
end
section
namespace Go.Proofs.YtnkghdakjdhhdaaGreat
open Go.RowKit Go.Lib Go.Tk Go.Shelf Go.Vc Go.Sx
def stSl (a : Option Addr) (n cap i : Nat) : Slots := [(3, .val (.slice a n cap)), (9, .ptr 1 0 0), (11, .val (.int .i64 (i : Int)))]
def stH (F : CF) (B : BookV) : Heap := [((0, 9), .fam F), ((1, 0), .fam (bookF B))]
theorem BIN.ds {B : BookV} (h : BIN B) : DsOk B.docs := ⟨h.bi.ex.sal, fun d hd => (h.bi.ex.sm d hd).nv⟩
theorem BIN.cl {B : BookV} (h : BIN B) : ∀ d ∈ B.docs, TidOk d.t ∧ DocSmall d := fun d hd => ⟨tid_docs h.bi.ex.bk hd, h.bi.ex.sm d hd⟩
end Go.Proofs.YtnkghdakjdhhdaaGreat
end
section
namespace Go.Proofs.YtnkghdakjdhhdaaGreat
open Go.RowKit Go.Lib Go.Tk Go.Shelf Go.Vc Go.Sx
def PairF : Nat := 95
def WakesF18 : Nat := 38
def BmineF : Nat := 47
theorem bmine_bill : CallOK Tryz.prog BmineF [.val (.int .u8 6)] [] [] (.val (.bool true)) [] := callOK_run 400 [] (by kernel_rfl) (by kernel_rfl)
theorem bmine_want : CallOK Tryz.prog BmineF [.val (.int .u8 1)] [] [] (.val (.bool false)) [] := callOK_run 400 [] (by kernel_rfl) (by kernel_rfl)
theorem kB_ok : KidOk kB := keyA_ok (by decide) (by decide)
theorem pair_w : CallOK Tryz.prog PairF [] [] [] (.tup [.ptr 1 0 0, .ptr 1 1 0, .agg (kidS kB), .val (.bool true)]) [((1, 0), .fam (bookF pairA)), ((1, 1), .fam (bookF pairB))] := by
  have hv := own_50
  have n1 := new_okC (self := 0) (n := 3) (by decide) (by decide)
  have n2 := new_okC (self := 1) (n := 3) (by decide) (by decide)
  have n4 := issue_okR (book_new_ok 0 3 (by decide)) sale16_ok iss16
  have hself : ((bookNew 0 3).issued sale16).self = 0 := rfl
  have hn : ((bookNew 0 3).issued sale16).n = 3 := rfl
  unfold pairA
  generalize (bookNew 0 3).issued sale16 = A at *
  have c1 := want_c (bookNew 1 3) kB_ok
  rw [show wantQ (bookNew 1 3) kB = ⟨[⟨0, ⟨1, kB, cpn0, 0, 0⟩⟩], 0, wantB⟩ from rfl] at c1
  have c2 := hear_c A (c := 1) (by decide) ⟨1, kB, cpn0, 0, 0⟩ (by decide) kB_ok
  rw [show hearQ A 1 ⟨1, kB, cpn0, 0, 0⟩ = ⟨[⟨1, ⟨2, kB, heldK 50, 0, 0⟩⟩], 0, A.setO kB (givenA 50)⟩ by unfold hearQ badHear hearDo hwantQ; rw [hself, hn, hv]; rfl] at c2
  have c3 := hear_c wantB (c := 0) (by decide) ⟨2, kB, heldK 50, 0, 0⟩ ⟨by show (0 : Int) ≤ 2; decide, by show (2 : Int) ≤ 255; decide⟩ kB_ok
  rw [show hearQ wantB 0 ⟨2, kB, heldK 50, 0, 0⟩ = ⟨[], 0, heldB 50⟩ from rfl] at c3
  exact callOK_run 600 [hC 1 0 n1, hC 2 0 n2, hC 3 5 n4, hC 5 2 c1, hC 8 5 c2, hC 11 5 c3] (by kernel_rfl) (by kernel_rfl)
theorem use_t {B : BookV} (hB : B.owns = []) (hh : ∀ h, lkt B.helds kB = some h → 0 ≤ h.k.s ∧ h.k.s ≤ 255) {cmd : Int} (hc : 0 ≤ cmd ∧ cmd ≤ 255) {q : HR} (hq : useQ B kB cmd = q) :
    CallOK Tryz.prog UseF [.ptr 0 0 0, .agg (kidS kB), .val (.int .u8 cmd)] [] (bkC B) (.tup [.raw 1 0, eN q.e]) (bkC q.b ++ [((1, 0), outsC q.out)]) := by
  have h := use_c B kB_ok hc (fun o ho => by rw [hB] at ho; cases ho) hh
  rw [hq] at h
  exact h
theorem heldT_s {s : Int} {p b : Bool} (h0 : 0 ≤ s ∧ s ≤ 255) : ∀ h, lkt (bookT s p b).helds kB = some h → 0 ≤ h.k.s ∧ h.k.s ≤ 255 := fun h hh => by
  have hh : some (heldT s p b) = some h := hh
  cases hh
  exact h0
theorem pairB_s : ∀ h, lkt pairB.helds kB = some h → 0 ≤ h.k.s ∧ h.k.s ≤ 255 := fun h hh => by
  have hh : some (newH (heldK 50)) = some h := hh
  cases hh
  show (0 : Int) ≤ 1 ∧ (1 : Int) ≤ 255; decide
theorem wakes18_w : CallOK Tryz.prog WakesF18 [] [] [] (.val (.bool true)) [] := by
  have c1 := pair_w
  have c2 := use_t (B := pairB) rfl pairB_s (cmd := 12) (by decide) use_fly0
  have c3 := use_t (B := pairB) rfl pairB_s (cmd := 9) (by decide) use_check
  have c4 := use_t (B := bookT 2 false false) rfl (heldT_s (by decide)) (cmd := 11) (by decide) use_board
  have c5 := use_t (B := bookT 3 false false) rfl (heldT_s (by decide)) (cmd := 12) (by decide) use_fly
  have c6 := hearB_c pairA (c := 1) (by decide) ⟨6, kB, cpn0, 50, 0⟩ (by decide) kB_ok
  rw [bill_come] at c6
  have c7 := own_c paidA kB_ok
  rw [paidA_own] at c7
  have c8 := bmine_bill
  have c9 := bmine_want
  exact callOK_run 900 [hC 1 0 c1, hC 4 2 c2, hC 5 2 c3, hC 6 2 c4, hC 7 2 c5, hC 10 5 c6, hC 11 2 c7, hC 12 26 c8, hC 12 29 c9] (by kernel_rfl) (by kernel_rfl)
end Go.Proofs.YtnkghdakjdhhdaaGreat
end
section
namespace Go.Proofs.YtnkghdakjdhhdaaGreat
open Go.RowKit Go.Lib Go.Tk Go.Shelf Go.Vc Go.Sx
theorem mine18_w (k : Int) : CallOK Tryz.prog BmineF [.val (.int .u8 k)] [] [] (.val (.bool (decide (6 ≤ k) && decide (k ≤ 8)))) [] := by
  rcases Bool.eq_false_or_eq_true (decide (6 ≤ k)) with g | g <;> rw [g]
  · exact callOK_run 400 [hB 1 1 _ _ g] (by kernel_rfl) (by kernel_rfl)
  · exact callOK_run 400 [hB 1 1 _ _ g] (by kernel_rfl) (by kernel_rfl)
structure Act18W (x : Act18) : Prop where
  k : KidOk x.k
  cmd : 0 ≤ x.cmd ∧ x.cmd ≤ 255
  frm : 0 ≤ x.frm ∧ x.frm ≤ 255
  kind : 0 ≤ x.m.kind ∧ x.m.kind ≤ 255
  key : KidOk x.m.key
theorem BIS.ds {B : BookV} (h : BIS B) : DsOk B.docs := ⟨h.bi.ex.sal, fun d hd => (h.bi.ex.sm d hd).nv⟩
theorem BIS.cl {B : BookV} (h : BIS B) : ∀ d ∈ B.docs, TidOk d.t ∧ DocSmall d := fun d hd => ⟨tid_docs h.bi.ex.bk hd, h.bi.ex.sm d hd⟩
def AT18b : TypeId := 99
def runBo (B : BookV) (acts : List Act18) : Nat → BookV
  | 0 => B
  | i + 1 => (doB (runBo B acts i) (acts.getD i act180)).b
theorem runBo_bis {B : BookV} (eB : BIS B) (acts : List Act18) : ∀ i, BIS (runBo B acts i)
  | 0 => eB
  | i + 1 => (doB_hop _ _).hop.bis (runBo_bis eB acts i)
end Go.Proofs.YtnkghdakjdhhdaaGreat
end
section
namespace Go.Proofs.YtnkghdakjdhhdaaGreat
open Go.RowKit Go.Lib Go.Tk Go.Shelf Go.Vc Go.Sx Go.WideShapes
section
variable {H : Type} {enc : TypeId × Value → H} {w : World} {base : Nat} {spare : Nat → Bool} {held : Bool}
end
theorem lens3_of {w : World} {x : Act15} (h : Act15In w x) : x.s.legs.length ≤ 9223372036854775807 ∧ x.s.taxes.length ≤ 9223372036854775807 ∧ x.s.name.size ≤ 9223372036854775807 := ⟨maxLen_le h.ok.nl, maxLen_le h.ok.nt, maxLen_le h.ok.name⟩
end Go.Proofs.YtnkghdakjdhhdaaGreat
end
section
namespace Go.Proofs.YtnkghdakjdhhdaaGreat
open Go.RowKit Go.Lib Go.Tk Go.Shelf Go.Vc Go.Sx
end Go.Proofs.YtnkghdakjdhhdaaGreat
end
section
namespace Go.Proofs.YtnkghdakjdhhdaaGreat
open Go.RowKit Go.Lib Go.Tk Go.Shelf Go.Vc Go.Sx Go.WideShapes
section
variable {H : Type} {enc : TypeId × Value → H} {w : World} {base : Nat} {spare : Nat → Bool} {held : Bool}
def act18Ts : List TypeId := [3, 5, 23, 5, 5, 2, 5, 5, 5, 23, 5, 5, 28, 29, 2, 32, 29, 2, 44]
theorem act18Ts_flat : flatT Tryz.prog 6 102 = some act18Ts := by kernel_rfl
theorem act18Ts_ints : act18Ts.map Tryz.prog.underlying = [IntKind.i64, .u8, .u64, .u8, .u8, .i64, .u8, .u8, .u8, .u64, .u8, .u8, .u16, .u32, .i64, .u8, .u32, .i64, .i64].map (fun k => some (.int k)) := by kernel_rfl
end
end Go.Proofs.YtnkghdakjdhhdaaGreat
end
section
namespace Go.Proofs.YtnkghdakjdhhdaaGreat
open Go.RowKit Go.Lib Go.Tk Go.Shelf Go.Vc Go.Sx Go.WideShapes
section
variable {H : Type} {enc : TypeId × Value → H} {w : World} {base : Nat} {spare : Nat → Bool} {held : Bool}
theorem act18w_of {cs : List Value} (h : FlatI [.i64, .u8, .u64, .u8, .u8, .i64, .u8, .u8, .u8, .u64, .u8, .u8, .u16, .u32, .i64, .u8, .u32, .i64, .i64] cs) : ∃ x : Act18, act18L x = cs ∧ Act18W x := by
  obtain ⟨z0, _, rfl, w0, z1, _, rfl, w1, z2, _, rfl, w2, z3, _, rfl, w3, c0, _, rfl, wc, a0, _, rfl, wa, z4, _, rfl, w4, z5, _, rfl, w5, z6, _, rfl, w6, z7, _, rfl, w7, z8, _, rfl, w8, z9, _, rfl, w9, z10, _, rfl, w10, z11, _, rfl, w11, z12, _, rfl, w12, z13, _, rfl, w13, z14, _, rfl, w14, z15, _, rfl, w15, z16, _, rfl, w16, rfl⟩ := h
  exact ⟨⟨z0, ⟨⟨z1, z2⟩, z3⟩, c0, a0, z4, ⟨z5, ⟨⟨z6, z7⟩, z8⟩, ⟨⟨z9, z10, z11⟩, z12, z13, z14⟩, z15, z16⟩⟩, rfl, ⟨⟨⟨wfu8' w1, wfu64' w2⟩, wfu8' w3⟩, wfu8' wc, wfu8' w4, wfu8' w5, ⟨⟨wfu8' w6, wfu64' w7⟩, wfu8' w8⟩⟩⟩
theorem acts18w_cell {n : Nat} {v : Value} {y : DataW H × List MemPlace} (h : DataW.trod enc Tryz.prog w base spare held n 99 [v] = some y) :
    ∃ (a : Option Addr) (l : List Act18) (c : Nat), v = .slice a l.length c ∧ Row w a (cellsL act18L l) ∧ (a = none → c = 0) ∧ l.length ≤ maxLen ∧ ∀ x ∈ l, Act18W x := by
  obtain ⟨a, len, cap, rows, rfl, hlen, hrows, hr, hn, hm, _⟩ := slice_rows (fun cs => ∃ l : Act18, act18L l = cs ∧ Act18W l) Tryz.underlying99 (show Tryz.prog.cellsOf 102 = 19 by kernel_rfl) (by decide)
    (fun n cs y hl h => act18w_of ((flat_of 6 _ _ act18Ts_flat n cs y h (by rw [hl]; kernel_rfl)).ints act18Ts_ints)) h
  obtain ⟨l, hl⟩ := listOf (enc := fun x : { x : Act18 // Act18W x } => act18L x.1) (Q := fun cs => ∃ l : Act18, act18L l = cs ∧ Act18W l) (fun r ⟨x, hx, hk⟩ => ⟨⟨x, hk⟩, hx⟩) rows (fun r hr => (hrows r hr).2)
  have hl2 : (l.map (·.1)).map act18L = rows := by rw [List.map_map]; exact hl
  have hl3 : (l.map (·.1)).length = len := by rw [← hlen, ← hl2]; simp
  refine ⟨a, l.map (·.1), cap, by rw [hl3], ?_, hn, by rw [hl3]; exact hm, fun x hx => ?_⟩
  · unfold cellsL; rw [hl2]; exact hr
  · obtain ⟨z, _, rfl⟩ := List.mem_map.1 hx; exact z.2
end
end Go.Proofs.YtnkghdakjdhhdaaGreat
end
section
namespace Go.Proofs.YtnkghdakjdhhdaaGreat
open Go.RowKit Go.Lib Go.Tk Go.Maps
set_option maxHeartbeats 400000 in
theorem ris_any (s : Int) (w : World) : Calls Tryz.prog 134 #[.int .u8 s] w fun e w' => e = .returned (.bool (isB s)) ∧ w = w' := by
  go_enter Tryz.func134, Tryz.ntmps134
  go_wp2
  all_goals (go_ret; refine ⟨ret_bool ?_, rfl⟩; unfold isB; rw [Bool.eq_iff_iff]; simp; omega)
set_option maxHeartbeats 400000 in
theorem rcmd_any (c : Int) (w : World) : Calls Tryz.prog 135 #[.int .u8 c] w fun e w' => e = .returned (.bool (cmdB c)) ∧ w = w' := by
  go_enter Tryz.func135, Tryz.ntmps135
  go_wp2
  all_goals (go_ret; refine ⟨ret_bool ?_, rfl⟩; unfold cmdB; first | (simp_all; done) | (rw [Bool.eq_iff_iff]; simp [*]; omega))
set_option maxHeartbeats 2000000 in
theorem rnext_any (s c : Int) (w : World) :
    Calls Tryz.prog 99 #[.int .u8 s, .int .u8 c] w fun e w' => e = .returned (.tuple #[.int .u8 (nextI s c).1, .int .i64 (nextI s c).2]) ∧ w = w' := by
  cases hi : isB s
  · go_enter Tryz.func99, Tryz.ntmps99
    go_wp2_with (go_at_call 134; refine (ris_any _ _).mono ?_; rintro e w' ⟨rfl, rfl⟩)
    go_ret2
    exact ⟨ret_ui2 (by simp [nextI, hi]), rfl⟩
  cases hk : cmdB c
  · go_enter Tryz.func99, Tryz.ntmps99
    go_wp2_with (first | (go_at_call 134; refine (ris_any _ _).mono ?_; rintro e w' ⟨rfl, rfl⟩) | (go_at_call 135; refine (rcmd_any _ _).mono ?_; rintro e w' ⟨rfl, rfl⟩))
    go_ret2
    exact ⟨ret_ui2 (by simp [nextI, hk]), rfl⟩
  have hs : s = 1 ∨ s = 2 ∨ s = 3 ∨ (¬ s = 1 ∧ ¬ s = 2 ∧ ¬ s = 3) := by omega
  rcases hs with rfl | rfl | rfl | ⟨s1, s2, s3⟩
  all_goals
    go_enter Tryz.func99, Tryz.ntmps99
    go_wp2_with (first | (go_at_call 134; refine (ris_any _ _).mono ?_; rintro e w' ⟨rfl, rfl⟩) | (go_at_call 135; refine (rcmd_any _ _).mono ?_; rintro e w' ⟨rfl, rfl⟩))
    all_goals (go_ret2; refine ⟨ret_ui2 ?_, rfl⟩; simp only [nextI, hi, hk, Bool.and_self, if_true, toI]; simp_all)
end Go.Proofs.YtnkghdakjdhhdaaGreat
end
