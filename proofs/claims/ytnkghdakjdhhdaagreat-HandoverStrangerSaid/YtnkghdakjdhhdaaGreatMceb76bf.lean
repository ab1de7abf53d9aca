/- StW, OpC, SgW, OpD, FsHandoverStranger. -/
import Derived.Test.YtnkghdakjdhhdaaGreatMd7779cc
import Derived.Test.YtnkghdakjdhhdaaGreatM242dd63
import Derived.Test.YtnkghdakjdhhdaaGreatM506f9cf
import Derived.Test.YtnkghdakjdhhdaaGreatM81f8328
import Derived.Test.YtnkghdakjdhhdaaGreatMef2f3a7
import Derived.Test.YtnkghdakjdhhdaaGreatRows
import Derived.Test.YtnkghdakjdhhdaaGreatChecked
import Derived.ProofKit
import Derived.OpenShut
import Derived.ShutString
import Derived.ChangeOld
import Derived.Below
section
namespace Go.Proofs.YtnkghdakjdhhdaaGreat
set_option maxRecDepth 100000
open Go.RowKit Go.Lib Go.Tk Go.Shelf Go.Vc Go.Sx
set_option linter.unusedVariables false
set_option linter.unusedSimpArgs false

structure Act16W (x : Act16) : Prop where
  k : KidOk x.k
  frm : 0 ≤ x.frm ∧ x.frm ≤ 255
  kind : 0 ≤ x.m.kind ∧ x.m.kind ≤ 255
  key : KidOk x.m.key
def StaysF : Nat := 5
def stSl (a : Option Addr) (n cap i : Nat) : Slots := [(3, .val (.slice a n cap)), (9, .ptr 1 0 0), (11, .val (.int .i64 (i : Int)))]
def stH (F : CF) (B : BookV) : Heap := [((0, 9), .fam F), ((1, 0), .fam (bookF B))]
theorem BIN.ds {B : BookV} (h : BIN B) : DsOk B.docs := ⟨h.bi.ex.sal, fun d hd => (h.bi.ex.sm d hd).nv⟩
theorem BIN.cl {B : BookV} (h : BIN B) : ∀ d ∈ B.docs, TidOk d.t ∧ DocSmall d := fun d hd => ⟨tid_docs h.bi.ex.bk hd, h.bi.ex.sm d hd⟩
/-- an act is done -/
theorem stays_do (F : CF) {a : Option Addr} {cap i : Nat} {acts : List Act16} (hR : ∀ b v, Rd (F b v) a (cellsL act16L acts)) (hi : i < acts.length) {x : Act16} (hx : acts.getD i act0 = x) (ok : Act16W x) {B : BookV} (eB : BIN B) {eb : Env} {R : List Chunk} {J : Act → World → Prop} {ret : SV} {rp : Heap}
    (hq : Go Tryz.prog StaysF ret rp eb R .nrm (rgK Tryz.prog StaysF 21 [J]) (stSl a acts.length cap i ++ [(13, .ptr 1 6 0), (14, .raw 1 7), (15, eN (doH B x).e)]) (stH F (doH B x).b ++ [((1, 6), .fam (bookF B)), ((1, 7), outsC (doH B x).out)])) :
    Go Tryz.prog StaysF ret rp eb R .nrm (rgK Tryz.prog StaysF 9 [J]) (stSl a acts.length cap i) (stH F B) := by
  have q1 := idx_openG (P := Tryz.prog) (t := AT) (e := 92) (size := 17) (j := 9) (k := .i64) (cap := cap) (n := acts.length) Tryz.underlying90 (by kernel_rfl) (cellsL_len act16_len acts) hR hi
  have hpos : 0 < (cellsL act16L acts).length := by rw [cellsL_len act16_len]; omega
  have q2 := load_openG0 (P := Tryz.prog) (t := 92) (k := i * 17) (j := 9) (u := .agg (act16S (acts.getD i act0))) (by kernel_rfl) hR (act16_nth hi act0) hpos
  rw [hx] at q2
  have c0 := clone_b B eB.cl eB.bi.ex.bk.nodup
  unfold doH at hq
  by_cases g0 : x.d = 0
  · rw [if_pos g0] at hq
    have e0 : decide (x.d = 0) = true := decide_eq_true g0
    have c1 := want_c B ok.k
    generalize wantQ B x.k = q at *
    exact leaf_cut (rgK Tryz.prog StaysF 21 [J]) _ _ calNone false 400 [hG 9 2 q1, hG 9 3 q2, hC 10 1 c0, hI 13 1 IntKind.i64 _ _ g0, hC 16 3 c1, .stop 21] calNone_ok (by kernel_rfl) hq
  have e0 : decide (x.d = 0) = false := decide_eq_false g0
  rw [if_neg g0] at hq
  by_cases g1 : x.d = 1
  · rw [if_pos g1] at hq
    have e1 : decide (x.d = 1) = true := decide_eq_true g1
    have c1 := return_c B ok.k
    generalize returnQ B x.k = q at *
    exact leaf_cut (rgK Tryz.prog StaysF 21 [J]) _ _ calNone false 400 [hG 9 2 q1, hG 9 3 q2, hC 10 1 c0, hI 13 1 IntKind.i64 _ _ g1, hC 18 3 c1, .stop 21] calNone_ok (by kernel_rfl) hq
  have e1 : decide (x.d = 1) = false := decide_eq_false g1
  rw [if_neg g1] at hq
  by_cases g2 : x.d = 2
  · rw [if_pos g2] at hq
    have e2 : decide (x.d = 2) = true := decide_eq_true g2
    have c1 := recall_c B ok.k
    generalize recallQ B x.k = q at *
    exact leaf_cut (rgK Tryz.prog StaysF 21 [J]) _ _ calNone false 400 [hG 9 2 q1, hG 9 3 q2, hC 10 1 c0, hI 13 1 IntKind.i64 _ _ g2, hC 20 3 c1, .stop 21] calNone_ok (by kernel_rfl) hq
  have e2 : decide (x.d = 2) = false := decide_eq_false g2
  rw [if_neg g2] at hq
  have c1 := hear_c B ok.frm x.m ok.kind ok.key
  generalize hearQ B x.frm x.m = q at *
  exact leaf_cut (rgK Tryz.prog StaysF 21 [J]) _ _ calNone false 400 [hG 9 2 q1, hG 9 3 q2, hC 10 1 c0, hB 15 0 _ _ e0, hB 17 0 _ _ e1, hB 19 0 _ _ e2, hC 14 5 c1, .stop 21] calNone_ok (by kernel_rfl) hq
def stTl (B : BookV) (k : Nat) : Slots := [(13, .ptr 1 6 0), (16, .raw 1 1), (17, .val (.int .i64 (k : Int)))]
def stTH (F : CF) (B C : BookV) : Heap := stH F C ++ [((1, 6), .fam (bookF B)), ((1, 1), tidR (B.docs.map (·.t)))]
/-- a ticket's coupons -/
theorem stays_doc (F : CF) {a : Option Addr} {n cap i k : Nat} {B C : BookV} (eB : BIN B) (hs : StayB B C) (hk : k < B.docs.length) (hk32 : k ≤ 1000) {eb : Env} {R : List Chunk} {J J2 : Act → World → Prop} {ret : SV} {rp : Heap}
    (hJ : ∀ ε a' w, Rel (ntOf Tryz.prog StaysF) 1 eb R ⟨stSl a n cap i ++ stTl B (k + 1), stTH F B C, 2⟩ ε a' w → J2 a' w) :
    Go Tryz.prog StaysF ret rp eb R .nrm (rgK Tryz.prog StaysF 27 [J, J2]) (stSl a n cap i ++ stTl B k) (stTH F B C) := by
  have hd := List.getElem?_eq_getElem hk
  generalize B.docs[k] = d at hd
  have t0 := tid_docs eB.bi.ex.bk (List.mem_of_getElem? hd)
  have hkl : k < (B.docs.map (·.t)).length := by rw [List.length_map]; exact hk
  have q1 := load_eltG (P := Tryz.prog) (t := 25) (cs := tidS d.t) (n := (B.docs.map (·.t)).length) (p := 0) (j := 0) (b := k * 2) (E := 25) (size := 2) (u := .agg (tidS d.t)) (by kernel_rfl) (tid_nth (tids_get hd))
  have z9 : IntKind.i64.wrap ((k : Int) + 1) = ((k + 1 : Nat) : Int) := by rw [wr_i64 (by omega)]; omega
  have c1 := status_c B t0
  have c2 := status_c C t0
  rw [stay_status hs] at c2
  have hll : (statusL B d.t).length ≤ 4 := by
    unfold statusL
    rw [List.length_map]
    rcases coupL_cases B d.t with ⟨e, -⟩ | ⟨_, e, -⟩ | ⟨_, _, e, -⟩ | ⟨_, _, _, e, -⟩ | ⟨_, _, _, _, e, -⟩ <;> rw [e] <;> simp
  generalize statusL B d.t = l at *
  refine go_loop (X := { j : Nat // j ≤ l.length }) 2 [J, J2] (fun y => (stSl a n cap i ++ stTl B k ++ [(18, .raw 1 2), (19, .raw 1 3), (20, .val (.int .i64 (y.1 : Int)))], stTH F B C ++ [((1, 2), stC l), ((1, 3), stC l)])) (fun y => l.length - y.1) ⟨0, Nat.zero_le _⟩ calNone false 400 [.opt 27 3 (.at_ 0 _ _ _ ⟨rfl, hkl⟩), hG 27 4 q1, hC 27 5 c1, .opt 27 9 (.at_ 0 _ _ _ ⟨rfl, hkl⟩), hG 27 10 q1, hC 27 11 c2] calNone_ok (by kernel_rfl) ?_
  rintro ⟨j, hj⟩ J3 hJ3
  by_cases h : j < l.length
  · have y0 : decide ((j : Int) < (l.length : Int)) = true := decide_eq_true (by omega)
    have y1 : IntKind.u8.wrap (j : Int) = (j : Int) := wr_u8 (by omega)
    have y2 : IntKind.i64.wrap ((j : Int) + 1) = ((j + 1 : Nat) : Int) := by rw [wr_i64 (by omega)]; omega
    have q2 := load_eltG (P := Tryz.prog) (t := 32) (cs := [.val (.int .u8 (l.getD j 0))]) (n := l.length) (p := 0) (j := 0) (b := j * 1) (E := 32) (size := 1) (u := .val (.int .u8 (l.getD j 0))) (xs := l.map (.int .u8)) (by kernel_rfl) (fun ε q v hq => by
      cases q with
      | succ q => cases hq
      | zero =>
        cases hq
        rw [Nat.mul_one, Nat.add_zero, List.getElem?_map, getD_some h 0]; rfl)
    have c3 := own_c B (k := ⟨d.t, (j : Int)⟩) (kidOk_at t0 (by omega) (by omega))
    have c4 := own_c C (k := ⟨d.t, (j : Int)⟩) (kidOk_at t0 (by omega) (by omega))
    have hst : ∃ y z : OwnV, (lkt B.owns ⟨d.t, (j : Int)⟩).getD own0 = y ∧ (lkt C.owns ⟨d.t, (j : Int)⟩).getD own0 = z ∧ Stay y z ∧ NonceI y.k.n := by
      rcases hs.own ⟨d.t, (j : Int)⟩ with ⟨h1, h2⟩ | ⟨y, z, h1, h2, h3⟩
      · exact ⟨own0, own0, by rw [h1]; rfl, by rw [h2]; rfl, Stay.refl _, Int.le_refl _, by show (0 : Int) ≤ _; decide⟩
      · exact ⟨y, z, by rw [h1]; rfl, by rw [h2]; rfl, h3, eB.nn _ _ h1⟩
    obtain ⟨y, z, e1, e2, hst, hny⟩ := hst
    rw [e1] at c3
    rw [e2] at c4
    obtain ⟨s1, s2, s3, s4, s5⟩ := hst
    have f0 : (!decide (l.getD j 0 = l.getD j 0)) = false := by simp
    have f1 : (!decide (y.k.v = z.k.v)) = false := by rw [s2]; simp
    have f2 : (!(decide (y.k.l.c = z.k.l.c) && (decide (y.k.l.f = z.k.l.f) && (decide (y.k.l.x = z.k.l.x) && true)))) = false := by rw [s3]; simp
    have f3 : (!decide (y.paid = z.paid)) = false := by rw [s4]; simp
    have f4 : decide (z.k.n < y.k.n) = false := decide_eq_false (by have := (s5 hny).1; omega)
    have hJ3' := hJ3 ⟨j + 1, h⟩ (by show _ - (j + 1) < _ - j; omega)
    clear hJ hJ3 e1 e2 s1 s2 s3 s4 s5
    exact leaf_round (lpK Tryz.prog StaysF 2 [J, J2]) false 400 [hB 29 3 _ _ y0, .opt 31 2 (.at_ 0 _ _ _ ⟨rfl, hkl⟩), hG 31 3 q1, hI 31 5 IntKind.u8 _ _ y1, hC 32 2 c3, hC 33 2 c4, .opt 34 2 (.at_ 0 _ _ _ ⟨rfl, h⟩), hG 34 3 q2, .opt 34 6 (.at_ 0 _ _ _ ⟨rfl, h⟩), hG 34 7 q2, hB 34 8 _ _ f0, hB 34 16 _ _ f1, hB 34 25 _ _ f2, hB 34 32 _ _ f3, hB 34 41 _ _ f4, hI 30 1 IntKind.i64 _ _ y2] hJ3' (by kernel_rfl)
  · have he : j = l.length := by omega
    subst he
    have y0 : decide ((l.length : Int) < (l.length : Int)) = false := decide_eq_false (by omega)
    exact leaf_round (lpK Tryz.prog StaysF 1 [J]) false 400 [hB 29 3 _ _ y0, hI 26 1 IntKind.i64 _ _ z9] hJ (by kernel_rfl)
/-- behind an act -/
theorem stays_act (F : CF) {a : Option Addr} {n cap i : Nat} (hi : i ≤ 1000) {B : BookV} (eB : BIN B) {q : HR} (hq : HopR B q) {eb : Env} {R : List Chunk} {J : Act → World → Prop}
    (hJ : ∀ ε a' w, Rel (ntOf Tryz.prog StaysF) 1 eb R ⟨stSl a n cap (i + 1), stH F q.b, 2⟩ ε a' w → J a' w) :
    Go Tryz.prog StaysF (.val (.bool true)) ([((0, 9), .fam F)] ++ []) eb R .nrm (rgK Tryz.prog StaysF 21 [J]) (stSl a n cap i ++ [(13, .ptr 1 6 0), (14, .raw 1 7), (15, eN q.e)]) (stH F q.b ++ [((1, 6), .fam (bookF B)), ((1, 7), outsC q.out)]) := by
  refine go_open (X := { u : Unit // (B.owns.map (·.1)).Nodup ∧ (B.helds.map (·.1)).Nodup }) (fun _ => [((1, 6), .fam (bookF B)), ((0, 9), .fam F), ((1, 0), .fam (bookF q.b)), ((1, 7), outsC q.out)]) (fun ε w hM => by
    have h1 := Mem.front (c := bookF B (ε 1 6).1 (ε 1 6).2) hM 2 rfl
    exact ⟨⟨(), book_facts h1⟩, h1⟩) (fun _ => by kernel_rfl) ?_
  rintro ⟨-, nd1, nd2⟩
  have stay := hq.hop.stay
  have eC := hq.hop.bin eB
  have c2 := tickets_c eC.bi.ex.bk
  have c9 := same_c B B eB.ds eB.ds
  rw [sameB_self eB.bi.ex.bk.nodup nd1 nd2] at c9
  have z9 : IntKind.i64.wrap ((i : Int) + 1) = ((i + 1 : Nat) : Int) := by rw [wr_i64 (by omega)]; omega
  have hm := eB.bi.ex.bk.many
  have lB : (B.docs.map (·.t)).length = B.docs.length := List.length_map _
  have fin : Go Tryz.prog StaysF (.val (.bool true)) ([((0, 9), .fam F)] ++ []) eb R .nrm (rgK Tryz.prog StaysF 23 [J]) (stSl a n cap i ++ [(13, .ptr 1 6 0)]) (stH F q.b ++ [((1, 6), .fam (bookF B))]) := by
    rw [stay.docs] at c2
    have hdoc := fun k hk J2 h => stays_doc F (a := a) (n := n) (cap := cap) (i := i) (k := k) eB stay hk (by omega) (eb := eb) (R := R) (J := J) (J2 := J2) (ret := .val (.bool true)) (rp := [((0, 9), .fam F)] ++ []) h
    generalize q.b = C at *
    refine go_loop (X := { k : Nat // k ≤ B.docs.length }) 1 [J] (fun y => (stSl a n cap i ++ stTl B y.1, stTH F B C)) (fun y => B.docs.length - y.1) ⟨0, Nat.zero_le _⟩ calNone false 400 [hC 23 1 c2] calNone_ok (by kernel_rfl) ?_
    rintro ⟨k, hk⟩ J2 hJ2
    by_cases h : k < B.docs.length
    · have z0 : decide ((k : Int) < ((B.docs.map (·.t)).length : Int)) = true := decide_eq_true (by omega)
      have fin := hdoc k h J2 (hJ2 ⟨k + 1, h⟩ (by show _ - (k + 1) < _ - k; omega))
      clear hJ hJ2 hdoc
      exact leaf_cut (rgK Tryz.prog StaysF 27 [J, J2]) _ _ calNone false 400 [hB 25 3 _ _ z0, .stop 27] calNone_ok (by kernel_rfl) fin
    · have he : k = B.docs.length := by omega
      subst he
      have z0 : decide ((B.docs.length : Int) < ((B.docs.map (·.t)).length : Int)) = false := decide_eq_false (by omega)
      clear hdoc hJ2
      exact leaf_round (lpK Tryz.prog StaysF 0 []) false 400 [hB 25 3 _ _ z0, hI 8 1 IntKind.i64 _ _ z9] hJ (by kernel_rfl)
  by_cases e : q.e = 0
  · have f0 : (!decide (q.e = 0)) = false := by rw [e]; rfl
    have f1 : decide ((1 : Int) < (q.out.length : Int)) = false := decide_eq_false (by have := hq.one; omega)
    clear c2 c9 hJ
    generalize q.b = C at *
    generalize q.out = O at *
    exact leaf_cut (rgK Tryz.prog StaysF 23 [J]) _ _ calNone false 400 [hI 21 0 IntKind.i64 _ _ e, hB 21 16 _ _ f1, .stop 23] calNone_ok (by kernel_rfl) fin
  · obtain ⟨h1, h2⟩ := hq.fail e
    have f0 : (!decide (q.e = 0)) = true := by simpa using e
    obtain ⟨qo, qe, qb⟩ := q
    have h1 : qo = [] := h1
    have h2 : qb = B := h2
    subst h1; subst h2
    clear c2 hJ
    exact leaf_cut (rgK Tryz.prog StaysF 23 [J]) _ _ calNone false 400 [hB 21 1 _ _ f0, hC 21 9 c9, .stop 23] calNone_ok (by kernel_rfl) fin
def runHo (B : BookV) (acts : List Act16) : Nat → BookV
  | 0 => B
  | i + 1 => (doH (runHo B acts i) (acts.getD i act0)).b
theorem runHo_bin {B : BookV} (eB : BIN B) (acts : List Act16) : ∀ i, BIN (runHo B acts i)
  | 0 => eB
  | i + 1 => (do_hop _ _).hop.bin (runHo_bin eB acts i)
theorem stays_law (F : CF) {self n : Int} (hs : 0 ≤ self ∧ self ≤ 255) {a b : Option Addr} {cap cap2 : Nat} {l : List Act15} {acts : List Act16} (hRa : ∀ b v, Rd (F b v) a (cellsL act15C l)) (hRb : ∀ b' v, Rd (F b' v) b (cellsL act16L acts)) (hl : l.length ≤ 9223372036854775807) (hm : acts.length ≤ 9223372036854775807)
    (hf : ∀ x ∈ l, x.s.legs.length ≤ 9223372036854775807 ∧ x.s.taxes.length ≤ 9223372036854775807 ∧ x.s.name.size ≤ 9223372036854775807) (hA : grB l acts.length = false → ∀ x ∈ l, Act15Rd F x ∧ NonceI x.o.k.n) (hW : ∀ x ∈ acts, Act16W x) :
    CallOK Tryz.prog StaysF [.val (.int .u8 self), .val (.int .i64 n), .val (.slice a l.length cap), .val (.slice b acts.length cap2)] [((0, 9), .fam F)] [] (.val (.bool true)) [] := by
  have c0 := great16_w F (b := b) (m := acts.length) (cap := cap) (cap2 := cap2) hRa hl hm hf
  have c9 := wakes16_w
  rcases Bool.eq_false_or_eq_true (grB l acts.length) with g | g <;> rw [g] at c0
  · exact callOK_run 400 [hC 1 2 c0, hC 2 0 c9] (by kernel_rfl) (by kernel_rfl)
  have hA := hA g
  have hlen := grB_no g
  by_cases he : bookE self n = 0
  case neg =>
    have c1 := built_no (self := self) (n := n) hs he (a := a) (m := l.length) (cap := cap)
    exact callOK_run 400 [hC 1 2 c0, hC 3 3 c1, hC 5 0 c9] (by kernel_rfl) (by kernel_rfl)
  have c1 := built_ok F hs he (cap := cap) hRa (by omega) (fun x hx => (hA x hx).1)
  have eB := run_bin (bookE_ok hs.1 he) (acts := l) (fun x hx => ⟨(hA x hx).1.ok, (hA x hx).1.o, (hA x hx).2⟩) l.length (Nat.le_refl _)
  generalize run15 (bookNew self n) l l.length = B0 at *
  generalize runR (refNew self n) l l.length = R0 at *
  refine callOK_intro (by kernel_rfl) fun eb R => ?_
  refine go_loop (X := { i : Nat // i ≤ acts.length }) 0 [] (fun x => (stSl b acts.length cap2 x.1, stH F (runHo B0 acts x.1))) (fun x => acts.length - x.1) ⟨0, Nat.zero_le _⟩ calNone false 400 [hC 1 2 c0, hC 3 3 c1] calNone_ok (by kernel_rfl) ?_
  rintro ⟨i, hi⟩ J hJ
  by_cases h : i < acts.length
  · have z0 : decide ((i : Int) < (acts.length : Int)) = true := decide_eq_true (by omega)
    have hin : acts.getD i act0 ∈ acts := List.mem_of_getElem? (getD_some h act0)
    have hop := do_hop (runHo B0 acts i) (acts.getD i act0)
    have fin := stays_do F (cap := cap2) hRb h rfl (hW _ hin) (runHo_bin eB acts i) (eb := eb) (R := R) (J := J) (stays_act F (by omega) (runHo_bin eB acts i) hop (hJ ⟨i + 1, h⟩ (by show _ - (i + 1) < _ - i; omega)))
    clear hJ c0 c1 hA
    exact leaf_cut (rgK Tryz.prog StaysF 9 [J]) _ _ calNone false 400 [hB 7 3 _ _ z0, .stop 9] calNone_ok (by kernel_rfl) fin
  · have z0 : decide ((acts.length : Int) < (acts.length : Int)) = false := decide_eq_false (by omega)
    have e : i = acts.length := by omega
    subst e
    clear hJ c0 c1 hA
    exact leaf_end calNone false 400 [hB 7 3 _ _ z0, hC 36 0 c9] calNone_ok (by kernel_rfl)
end Go.Proofs.YtnkghdakjdhhdaaGreat
end
section
namespace Go.Proofs.YtnkghdakjdhhdaaGreat
set_option maxRecDepth 100000
open Go.RowKit Go.Lib Go.Tk Go.Shelf Go.Vc Go.Sx Go.WideShapes
set_option linter.unusedVariables false
set_option linter.unusedSimpArgs false

section
variable {H : Type} {enc : TypeId × Value → H} {w : World} {base : Nat} {spare : Nat → Bool} {held : Bool}
theorem act16w_of {cs : List Value} (h : FlatI [.i64, .u8, .u64, .u8, .u8, .u8, .u8, .u64, .u8, .u8, .u16, .u32, .i64, .u8, .u32, .i64, .i64] cs) : ∃ x : Act16, act16L x = cs ∧ Act16W x := by
  obtain ⟨z0, _, rfl, w0, z1, _, rfl, w1, z2, _, rfl, w2, z3, _, rfl, w3, z4, _, rfl, w4, z5, _, rfl, w5, z6, _, rfl, w6, z7, _, rfl, w7, z8, _, rfl, w8, z9, _, rfl, w9, z10, _, rfl, w10, z11, _, rfl, w11, z12, _, rfl, w12, z13, _, rfl, w13, z14, _, rfl, w14, z15, _, rfl, w15, z16, _, rfl, w16, rfl⟩ := h
  exact ⟨⟨z0, ⟨⟨z1, z2⟩, z3⟩, z4, ⟨z5, ⟨⟨z6, z7⟩, z8⟩, ⟨⟨z9, z10, z11⟩, z12, z13, z14⟩, z15, z16⟩⟩, rfl, ⟨⟨⟨wfu8' w1, wfu64' w2⟩, wfu8' w3⟩, wfu8' w4, wfu8' w5, ⟨⟨wfu8' w6, wfu64' w7⟩, wfu8' w8⟩⟩⟩
theorem acts16w_cell {n : Nat} {v : Value} {y : DataW H × List MemPlace} (h : DataW.trod enc Tryz.prog w base spare held n 90 [v] = some y) :
    ∃ (a : Option Addr) (l : List Act16) (c : Nat), v = .slice a l.length c ∧ Row w a (cellsL act16L l) ∧ (a = none → c = 0) ∧ l.length ≤ maxLen ∧ ∀ x ∈ l, Act16W x := by
  obtain ⟨a, len, cap, rows, rfl, hlen, hrows, hr, hn, hm, _⟩ := slice_rows (fun cs => ∃ l : Act16, act16L l = cs ∧ Act16W l) Tryz.underlying90 (show Tryz.prog.cellsOf 92 = 17 by kernel_rfl) (by decide)
    (fun n cs y hl h => act16w_of ((flat_of 6 _ _ act16Ts_flat n cs y h (by rw [hl]; kernel_rfl)).ints act16Ts_ints)) h
  obtain ⟨l, hl⟩ := listOf (enc := fun x : { x : Act16 // Act16W x } => act16L x.1) (Q := fun cs => ∃ l : Act16, act16L l = cs ∧ Act16W l) (fun r ⟨x, hx, hk⟩ => ⟨⟨x, hk⟩, hx⟩) rows (fun r hr => (hrows r hr).2)
  have hl2 : (l.map (·.1)).map act16L = rows := by rw [List.map_map]; exact hl
  have hl3 : (l.map (·.1)).length = len := by rw [← hlen, ← hl2]; simp
  refine ⟨a, l.map (·.1), cap, by rw [hl3], ?_, hn, by rw [hl3]; exact hm, fun x hx => ?_⟩
  · unfold cellsL; rw [hl2]; exact hr
  · obtain ⟨z, _, rfl⟩ := List.mem_map.1 hx; exact z.2
end
theorem lens3_of {w : World} {x : Act15} (h : Act15In w x) : x.s.legs.length ≤ 9223372036854775807 ∧ x.s.taxes.length ≤ 9223372036854775807 ∧ x.s.name.size ≤ 9223372036854775807 := ⟨maxLen_le h.ok.nl, maxLen_le h.ok.nt, maxLen_le h.ok.name⟩
theorem stays_any (self n : Int) (a : Option Addr) (l : List Act15) (c : Nat) (b : Option Addr) (m : List Act16) (c2 : Nat) (w : World) (hs : (Lit.int .u8 self).wf = true) (hn0 : (Lit.int .i64 n).wf = true) (hr : Row w a (cellsL act15C l)) (hn : a = none → c = 0) (hl : l.length ≤ maxLen) (ok : ∀ x ∈ l, Act15In w x)
    (hr2 : Row w b (cellsL act16L m)) (hn2 : b = none → c2 = 0) (hl2 : m.length ≤ maxLen) (ok2 : ∀ x ∈ m, Act16W x) :
    Calls Tryz.prog StaysF #[.int .u8 self, .int .i64 n, .slice a l.length c, .slice b m.length c2] w fun e w' => e = .returned (.bool true) ∧ Below w.heap.size w w' :=
  (stays_law (fun _ _ => oldC w) (wfu8 hs) (cap := c) (cap2 := c2) (fun _ _ => rd_old hr) (fun _ _ => rd_old hr2) (maxLen_le hl) (maxLen_le hl2) (fun y hy => lens3_of (ok y hy))
    (fun hg y hy => ⟨act15Rd_of (ok y hy) (by have := ((grB_no hg).2.2 y hy).1; omega) (by have := ((grB_no hg).2.2 y hy).2; omega), (ok y hy).on⟩) ok2 (fun _ _ => (0, undef)) [] w (Mem.old w)).mono fun e w' ⟨x, h, hm⟩ => ⟨h, (show Mem (oldC w :: []) w' from hm).below 0 rfl⟩
end Go.Proofs.YtnkghdakjdhhdaaGreat
end
section
namespace Go.Proofs.YtnkghdakjdhhdaaGreat
set_option maxRecDepth 100000
open Go.RowKit Go.Lib Go.Tk Go.Shelf Go.Vc Go.Sx
set_option linter.unusedVariables false
set_option linter.unusedSimpArgs false

theorem good_hear {B : BookV} {c kind : Int} (h1 : 1 ≤ kind ∧ kind ≤ 5) (h2 : c ≠ B.self) (h3 : c < B.n) : badHear B c kind = false := by
  unfold badHear
  rw [decide_eq_true h1.1, decide_eq_true h1.2, decide_eq_false h2, decide_eq_false (by omega)]
  rfl
theorem want_not {B : BookV} {c : Int} {k : Kid} (h2 : c ≠ B.self) (h3 : c < B.n) (h : (lkt B.owns k).isSome = false ∨ ((lkt B.owns k).getD own0).k.l.c ≠ c) : ∃ e, e ≠ 0 ∧ hearQ B c ⟨1, k, cpn0, 0, 0⟩ = ⟨[refO c k e], 0, B⟩ := by
  have e1 : hearQ B c ⟨1, k, cpn0, 0, 0⟩ = hwantQ B c k := by
    unfold hearQ
    rw [show (⟨1, k, cpn0, 0, 0⟩ : MsV).kind = 1 from rfl, good_hear (by decide) h2 h3]
    rfl
  rw [e1]
  unfold hwantQ
  dsimp only
  cases h4 : (lkt B.owns k).isSome with
  | false => exact ⟨4, by decide, rfl⟩
  | true =>
    have h5 : ((lkt B.owns k).getD own0).k.l.c ≠ c := by
      rcases h with h | h
      · rw [h4] at h; cases h
      · exact h
    cases ((lkt B.owns k).getD own0).away with
    | true => exact ⟨160, by decide, rfl⟩
    | false =>
      rw [decide_eq_false h5]
      exact ⟨1, by decide, rfl⟩
theorem grant_not {B : BookV} {c : Int} {k : Kid} (g : Cpn) (h2 : c ≠ B.self) (h3 : c < B.n) (h : k.t.c ≠ c) : hearQ B c ⟨2, k, g, 0, 0⟩ = ⟨[], 0, B⟩ := by
  unfold hearQ
  rw [show (⟨2, k, g, 0, 0⟩ : MsV).kind = 2 from rfl, good_hear (by decide) h2 h3]
  show (⟨[], (hgrantQ B c ⟨2, k, g, 0, 0⟩).e, (hgrantQ B c ⟨2, k, g, 0, 0⟩).b⟩ : HR) = _
  have : hgrantQ B c ⟨2, k, g, 0, 0⟩ = ⟨[], 0, B⟩ := by
    unfold hgrantQ
    dsimp only
    rw [decide_eq_false h]
    rfl
  rw [this]
theorem recall_not {B : BookV} {c : Int} {k : Kid} (h2 : c ≠ B.self) (h3 : c < B.n) (h : k.t.c ≠ c) : hearQ B c ⟨4, k, cpn0, 0, 0⟩ = ⟨[], 0, B⟩ := by
  unfold hearQ
  rw [show (⟨4, k, cpn0, 0, 0⟩ : MsV).kind = 4 from rfl, good_hear (by decide) h2 h3]
  show hrecallQ B c k = _
  unfold hrecallQ isHeld
  dsimp only
  rw [decide_eq_false h, Bool.and_false]
  rfl
theorem ret_not {B : BookV} {c : Int} {k : Kid} (g : Cpn) (h2 : c ≠ B.self) (h3 : c < B.n) (h : isAway B c k = false) : hearQ B c ⟨5, k, g, 0, 0⟩ = ⟨[], 0, B⟩ := by
  unfold hearQ
  rw [show (⟨5, k, g, 0, 0⟩ : MsV).kind = 5 from rfl, good_hear (by decide) h2 h3]
  show (⟨[], 0, hretB B c ⟨5, k, g, 0, 0⟩⟩ : HR) = _
  have : hretB B c ⟨5, k, g, 0, 0⟩ = B := by
    unfold hretB
    rw [show (⟨5, k, g, 0, 0⟩ : MsV).key = k from rfl, h]
    rfl
  rw [this]
def StrangF : Nat := 3
def sgSl (from_ e : Int) : Slots := [(4, .val (.int .u8 from_)), (9, .ptr 1 1 0), (11, .ptr 1 2 0), (13, .ptr 1 0 0), (15, .ptr 1 6 0), (16, .ptr 1 7 0), (17, eN e)]
def sgH (F : CF) (B : BookV) (k : Kid) (g : Cpn) (y : OwnV) : Heap := [((0, 9), .fam F), ((1, 0), .fam (bookF B)), ((1, 1), .box none (kidS k)), ((1, 2), .box none (cpnS g)), ((1, 6), .fam (bookF B)), ((1, 7), .box none (ownS y))]
section
variable (F : CF) {B : BookV} (eB : BIN B) (nd : (B.owns.map (·.1)).Nodup ∧ (B.helds.map (·.1)).Nodup) {k : Kid} (hk : KidOk k) (g : Cpn) {c : Int} (hc : 0 ≤ c ∧ c ≤ 255) (h2 : c ≠ B.self) (h3 : c < B.n) {eb : Env} {R : List Chunk}
include eB nd hk hc h2 h3
/-- a Return -/
theorem sg_ret : Go Tryz.prog StrangF (.val (.bool true)) ([((0, 9), .fam F)] ++ []) eb R .nrm (rgK Tryz.prog StrangF 17 []) (sgSl c (noneE (lkt B.owns k).isSome)) (sgH F B k g ((lkt B.owns k).getD own0)) := by
  have c9 := wakes16_w
  have csame := same_c B B eB.ds eB.ds
  rw [sameB_self eB.bi.ex.bk.nodup nd.1 nd.2] at csame
  have c1 := hear_c B hc ⟨5, k, g, 0, 0⟩ (by show (0 : Int) ≤ 5 ∧ (5 : Int) ≤ 255; decide) hk
  have ret := fun h => ret_not (k := k) g h2 h3 h
  unfold isAway at ret
  clear h2 h3 nd eB hk hc
  generalize lkt B.owns k = o at *
  cases o with
  | none =>
    rw [ret rfl] at c1
    clear ret
    exact leaf_end calNone false 400 [hC 18 5 c1, hC 19 10 csame, hC 21 0 c9] calNone_ok (by kernel_rfl)
  | some y =>
    simp only [Option.isSome_some, Option.getD_some, Bool.true_and] at *
    rcases Bool.eq_false_or_eq_true y.away with e1 | e1
    case inr =>
      rw [ret (by rw [e1]; rfl)] at c1
      clear ret
      have e1' : (!y.away) = true := by rw [e1]; rfl
      exact leaf_end calNone false 400 [hB 17 4 _ _ e1, hC 18 5 c1, hC 19 10 csame, hC 21 0 c9] calNone_ok (by kernel_rfl)
    have e1' : (!y.away) = false := by rw [e1]; rfl
    rcases Bool.eq_false_or_eq_true (decide (y.dst = c)) with e2 | e2
    case inr =>
      rw [ret (by rw [e1, e2]; rfl)] at c1
      clear ret
      have e2' : (!decide (y.dst = c)) = true := by rw [e2]; rfl
      exact leaf_end calNone false 400 [hB 17 4 _ _ e1, hB 17 11 _ _ e2', hC 18 5 c1, hC 19 10 csame, hC 21 0 c9] calNone_ok (by kernel_rfl)
    have e2' : (!decide (y.dst = c)) = false := by rw [e2]; rfl
    clear ret c1 csame
    exact leaf_end calNone false 400 [hB 17 4 _ _ e1, hB 17 11 _ _ e2', hC 21 0 c9] calNone_ok (by kernel_rfl)
/-- a Grant, a Recall -/
theorem sg_grant : Go Tryz.prog StrangF (.val (.bool true)) ([((0, 9), .fam F)] ++ []) eb R .nrm (rgK Tryz.prog StrangF 12 []) (sgSl c (noneE (lkt B.owns k).isSome)) (sgH F B k g ((lkt B.owns k).getD own0)) := by
  have fin := sg_ret F eB nd hk g hc h2 h3 (eb := eb) (R := R)
  have csame := same_c B B eB.ds eB.ds
  rw [sameB_self eB.bi.ex.bk.nodup nd.1 nd.2] at csame
  rcases Bool.eq_false_or_eq_true (decide (k.t.c = c)) with e | e
  · have e' : (!decide (k.t.c = c)) = false := by rw [e]; rfl
    clear csame h2 h3 nd eB hk hc
    generalize lkt B.owns k = o at *
    exact leaf_cut (rgK Tryz.prog StrangF 17 []) _ _ calNone false 400 [hB 12 4 _ _ e', .stop 17] calNone_ok (by kernel_rfl) fin
  · have e' : (!decide (k.t.c = c)) = true := by rw [e]; rfl
    have c1 := hear_c B hc ⟨2, k, g, 0, 0⟩ (by show (0 : Int) ≤ 2 ∧ (2 : Int) ≤ 255; decide) hk
    have c2 := hear_c B hc ⟨4, k, cpn0, 0, 0⟩ (by show (0 : Int) ≤ 4 ∧ (4 : Int) ≤ 255; decide) hk
    rw [grant_not g h2 h3 (of_decide_eq_false e)] at c1
    rw [recall_not h2 h3 (of_decide_eq_false e)] at c2
    clear h2 h3 nd eB hk hc
    generalize lkt B.owns k = o at *
    exact leaf_cut (rgK Tryz.prog StrangF 17 []) _ _ calNone false 400 [hB 12 4 _ _ e', hC 13 5 c1, hC 14 4 c2, hC 15 19 csame, .stop 17] calNone_ok (by kernel_rfl) fin
/-- a Want -/
theorem sg_want : Go Tryz.prog StrangF (.val (.bool true)) ([((0, 9), .fam F)] ++ []) eb R .nrm (rgK Tryz.prog StrangF 8 []) (sgSl c (noneE (lkt B.owns k).isSome)) (sgH F B k g ((lkt B.owns k).getD own0)) := by
  have fin := sg_grant F eB nd hk g hc h2 h3 (eb := eb) (R := R)
  have csame := same_c B B eB.ds eB.ds
  rw [sameB_self eB.bi.ex.bk.nodup nd.1 nd.2] at csame
  have c1 := hear_c B hc ⟨1, k, cpn0, 0, 0⟩ (by show (0 : Int) ≤ 1 ∧ (1 : Int) ≤ 255; decide) hk
  have not := fun h => want_not (k := k) h2 h3 h
  clear h2 h3 nd eB hk hc
  generalize lkt B.owns k = o at *
  cases o with
  | none =>
    obtain ⟨e, he, hq⟩ := not (.inl rfl)
    rw [hq] at c1
    have f1 : decide (e = 0) = false := decide_eq_false he
    have f2 : (!decide (c = c)) = false := by simp
    clear not hq
    exact leaf_cut (rgK Tryz.prog StrangF 12 []) _ _ calNone false 400 [hC 9 4 c1, hB 10 13 _ _ f2, hB 10 29 _ _ f1, hC 10 34 csame, .stop 12] calNone_ok (by kernel_rfl) fin
  | some y =>
    simp only [Option.isSome_some, Option.getD_some] at *
    rcases Bool.eq_false_or_eq_true (decide (y.k.l.c = c)) with e1 | e1
    · have e1' : (!decide (y.k.l.c = c)) = false := by rw [e1]; rfl
      clear not c1 csame
      exact leaf_cut (rgK Tryz.prog StrangF 12 []) _ _ calNone false 400 [hB 8 8 _ _ e1', .stop 12] calNone_ok (by kernel_rfl) fin
    · have e1' : (!decide (y.k.l.c = c)) = true := by rw [e1]; rfl
      obtain ⟨e, he, hq⟩ := not (.inr (of_decide_eq_false e1))
      rw [hq] at c1
      have f1 : decide (e = 0) = false := decide_eq_false he
      have f2 : (!decide (c = c)) = false := by simp
      clear not hq
      exact leaf_cut (rgK Tryz.prog StrangF 12 []) _ _ calNone false 400 [hB 8 8 _ _ e1', hC 9 4 c1, hB 10 13 _ _ f2, hB 10 29 _ _ f1, hC 10 34 csame, .stop 12] calNone_ok (by kernel_rfl) fin
end
theorem run15_same {B : BookV} {acts : List Act15} : ∀ i, (run15 B acts i).self = B.self ∧ (run15 B acts i).n = B.n
  | 0 => ⟨rfl, rfl⟩
  | i + 1 => by
    have ih := run15_same (B := B) (acts := acts) i
    show (step15 (run15 B acts i) _).self = _ ∧ (step15 (run15 B acts i) _).n = _
    generalize run15 B acts i = C at *
    unfold step15
    split
    · unfold BookV.issue
      cases decide (C.issE (acts.getD i act15Z).s = 0) <;> exact ih
    split
    · exact ⟨(setO_same C _ _).2.1.trans ih.1, (setO_same C _ _).2.2.1.trans ih.2⟩
    split
    · exact ⟨(setH_same C _ _).2.1.trans ih.1, (setH_same C _ _).2.2.1.trans ih.2⟩
    exact ih
theorem stranger_law (F : CF) {self n c : Int} (hs : 0 ≤ self ∧ self ≤ 255) (hc : 0 ≤ c ∧ c ≤ 255) {k : Kid} (hk : KidOk k) (g : Cpn) {a : Option Addr} {cap : Nat} {l : List Act15} (hRa : ∀ b v, Rd (F b v) a (cellsL act15C l)) (hl : l.length ≤ 9223372036854775807)
    (hf : ∀ x ∈ l, x.s.legs.length ≤ 9223372036854775807 ∧ x.s.taxes.length ≤ 9223372036854775807 ∧ x.s.name.size ≤ 9223372036854775807) (hA : grB l 0 = false → ∀ x ∈ l, Act15Rd F x ∧ NonceI x.o.k.n) :
    CallOK Tryz.prog StrangF [.val (.int .u8 self), .val (.int .i64 n), .val (.slice a l.length cap), .agg (kidS k), .val (.int .u8 c), .agg (cpnS g)] [((0, 9), .fam F)] [] (.val (.bool true)) [] := by
  have c0 := great16_w F (b := none) (m := 0) (cap := cap) (cap2 := 0) hRa hl (by decide) hf
  have c9 := wakes16_w
  rcases Bool.eq_false_or_eq_true (grB l 0) with g0 | g0 <;> rw [g0] at c0
  · exact callOK_run 400 [hC 1 1 c0, hC 2 0 c9] (by kernel_rfl) (by kernel_rfl)
  have hA := hA g0
  have hlen := grB_no g0
  by_cases he : bookE self n = 0
  case neg =>
    have c1 := built_no (self := self) (n := n) hs he (a := a) (m := l.length) (cap := cap)
    exact callOK_run 400 [hC 1 1 c0, hC 3 3 c1, hC 5 0 c9] (by kernel_rfl) (by kernel_rfl)
  have c1 := built_ok F hs he (cap := cap) hRa (by omega) (fun x hx => (hA x hx).1)
  have eB := run_bin (bookE_ok hs.1 he) (acts := l) (fun x hx => ⟨(hA x hx).1.ok, (hA x hx).1.o, (hA x hx).2⟩) l.length (Nat.le_refl _)
  have hsn := run15_same (B := bookNew self n) (acts := l) l.length
  have hs1 : (run15 (bookNew self n) l l.length).self = self := hsn.1
  have hs2 : (run15 (bookNew self n) l l.length).n = n := hsn.2
  clear hsn
  generalize run15 (bookNew self n) l l.length = B at *
  generalize runR (refNew self n) l l.length = R0 at *
  have z1 : IntKind.i64.wrap c = c := wr_i64 (by omega)
  rcases Bool.eq_false_or_eq_true (decide (c = self)) with e1 | e1
  · exact callOK_run 400 [hC 1 1 c0, hC 3 3 c1, hB 4 5 _ _ e1, hC 5 0 c9] (by kernel_rfl) (by kernel_rfl)
  rcases Bool.eq_false_or_eq_true (decide (n ≤ c)) with e2 | e2
  · exact callOK_run 400 [hC 1 1 c0, hC 3 3 c1, hB 4 5 _ _ e1, hI 4 9 IntKind.i64 _ _ z1, hB 4 11 _ _ e2, hC 5 0 c9] (by kernel_rfl) (by kernel_rfl)
  have h2 : c ≠ B.self := by rw [hs1]; exact of_decide_eq_false e1
  have h3 : c < B.n := by rw [hs2]; have := of_decide_eq_false e2; omega
  have c2 := clone_b B eB.cl eB.bi.ex.bk.nodup
  have c3 := own_c B hk
  refine callOK_intro (by kernel_rfl) fun eb R => ?_
  refine leaf_cut (rgK Tryz.prog StrangF 8 []) (sgSl c (noneE (lkt B.owns k).isSome)) (sgH F B k g ((lkt B.owns k).getD own0)) calNone false 400 [hC 1 1 c0, hC 3 3 c1, hB 4 5 _ _ e1, hI 4 9 IntKind.i64 _ _ z1, hB 4 11 _ _ e2, hC 6 1 c2, hC 7 2 c3, .stop 8] calNone_ok (by kernel_rfl) ?_
  refine go_open (X := { u : Unit // (B.owns.map (·.1)).Nodup ∧ (B.helds.map (·.1)).Nodup }) (fun _ => sgH F B k g ((lkt B.owns k).getD own0)) (fun ε w hM => by
    have h1 := Mem.front (c := bookF B (ε 1 0).1 (ε 1 0).2) hM 1 rfl
    exact ⟨⟨(), book_facts h1⟩, hM⟩) (fun _ => by kernel_rfl) ?_
  rintro ⟨-, nd⟩
  exact sg_want F eB nd hk g hc h2 h3
end Go.Proofs.YtnkghdakjdhhdaaGreat
end
section
namespace Go.Proofs.YtnkghdakjdhhdaaGreat
set_option maxRecDepth 100000
open Go.RowKit Go.Lib Go.Tk Go.Shelf Go.Vc Go.Sx Go.WideShapes
set_option linter.unusedVariables false
set_option linter.unusedSimpArgs false

def cpnL (k : Cpn) : List Value := [.int .u8 k.l.c, .int .u16 k.l.f, .int .u32 k.l.x, .int .i64 k.v, .int .u8 k.s, .int .u32 k.n]
section
variable {H : Type} {enc : TypeId × Value → H} {w : World} {base : Nat} {spare : Nat → Bool} {held : Bool}
def keyTs : List TypeId := [5, 23, 5]
theorem keyTs_flat : flatT Tryz.prog 6 27 = some keyTs := by kernel_rfl
theorem keyTs_ints : keyTs.map Tryz.prog.underlying = [IntKind.u8, .u64, .u8].map (fun k => some (.int k)) := by kernel_rfl
theorem open_key {r : Reach} {b0 : Nat} {v : Value} {d : DataW H} {p : List MemPlace} (hv : Value.okWide Tryz.prog w r b0 27 v) (h : DataW.Trod enc Tryz.prog w base spare held 27 v d p) :
    ∃ x : Kid, v = .agg (kidL x).toArray ∧ KidOk x := by
  obtain ⟨cs, rfl, hf⟩ := flat_open 6 Tryz.underlying27 keyTs_flat hv h
  obtain ⟨z1, _, rfl, w1, z2, _, rfl, w2, z3, _, rfl, w3, rfl⟩ := hf.ints keyTs_ints
  exact ⟨⟨⟨z1, z2⟩, z3⟩, rfl, ⟨wfu8' w1, wfu64' w2⟩, wfu8' w3⟩
def cpnTs : List TypeId := [5, 28, 29, 2, 32, 29]
theorem cpnTs_flat : flatT Tryz.prog 6 34 = some cpnTs := by kernel_rfl
theorem cpnTs_ints : cpnTs.map Tryz.prog.underlying = [IntKind.u8, .u16, .u32, .i64, .u8, .u32].map (fun k => some (.int k)) := by kernel_rfl
theorem open_cpn {r : Reach} {b0 : Nat} {v : Value} {d : DataW H} {p : List MemPlace} (hv : Value.okWide Tryz.prog w r b0 34 v) (h : DataW.Trod enc Tryz.prog w base spare held 34 v d p) :
    ∃ x : Cpn, v = .agg (cpnL x).toArray ∧ True := by
  obtain ⟨cs, rfl, hf⟩ := flat_open 6 Tryz.underlying34 cpnTs_flat hv h
  obtain ⟨z1, _, rfl, w1, z2, _, rfl, w2, z3, _, rfl, w3, z4, _, rfl, w4, z5, _, rfl, w5, z6, _, rfl, w6, rfl⟩ := hf.ints cpnTs_ints
  exact ⟨⟨⟨z1, z2, z3⟩, z4, z5, z6⟩, rfl, trivial⟩
end
theorem stranger_any (self n : Int) (a : Option Addr) (l : List Act15) (c : Nat) (k : Kid) (q : Int) (g : Cpn) (w : World) (hs : (Lit.int .u8 self).wf = true) (hn0 : (Lit.int .i64 n).wf = true) (hr : Row w a (cellsL act15C l)) (hn : a = none → c = 0) (hl : l.length ≤ maxLen) (ok : ∀ x ∈ l, Act15In w x)
    (hk : KidOk k) (hq : (Lit.int .u8 q).wf = true) (_ : True) :
    Calls Tryz.prog StrangF #[.int .u8 self, .int .i64 n, .slice a l.length c, .agg (kidL k).toArray, .int .u8 q, .agg (cpnL g).toArray] w fun e w' => e = .returned (.bool true) ∧ Below w.heap.size w w' :=
  (stranger_law (fun _ _ => oldC w) (wfu8 hs) (wfu8 hq) hk g (cap := c) (fun _ _ => rd_old hr) (maxLen_le hl) (fun y hy => lens3_of (ok y hy))
    (fun hg y hy => ⟨act15Rd_of (ok y hy) (by have := ((grB_no hg).2.2 y hy).1; omega) (by have := ((grB_no hg).2.2 y hy).2; omega), (ok y hy).on⟩) (fun _ _ => (0, undef)) [] w (Mem.old w)).mono fun e w' ⟨x, h, hm⟩ => ⟨h, (show Mem (oldC w :: []) w' from hm).below 0 rfl⟩
end Go.Proofs.YtnkghdakjdhhdaaGreat
end
section
namespace Go.Proofs.YtnkghdakjdhhdaaGreat.handoverStrangerF
open Go
set_option maxRecDepth 100000
theorem closed : joinedFacts Tryz.pinned.checked.prog 3 Tryz.f3 Rows.handoverStrangerSpec Rows.handoverStrangerRow = true := by kernel_rfl
theorem inst : Tryz.f3.isInstance Tryz.pinned.checked.prog Rows.handoverStrangerRow.origin Rows.handoverStrangerRow.targs := of_decide_eq_true (by kernel_rfl)
theorem wrap : Tryz.f3.isWrapper Tryz.pinned.checked.prog Rows.handoverStrangerRow.wrapper Rows.handoverStrangerRow.mainSum := by
  unfold Func.isWrapper
  first | (rw [if_pos (by decide +kernel)]; kernel_rfl) | (rw [if_neg (by decide +kernel)]; exact ⟨rfl, rfl⟩)
end Go.Proofs.YtnkghdakjdhhdaaGreat.handoverStrangerF
end
