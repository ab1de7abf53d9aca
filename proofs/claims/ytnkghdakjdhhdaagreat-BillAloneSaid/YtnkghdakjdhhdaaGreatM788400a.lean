/- BsW, OpC, Bi5, Bi6, OpG, BaW, OpE, FsBillAlone. -/
import Derived.Test.YtnkghdakjdhhdaaGreatM88b8626
import Derived.Test.YtnkghdakjdhhdaaGreatM64bcf71
import Derived.Test.YtnkghdakjdhhdaaGreatM588466c
import Derived.Test.YtnkghdakjdhhdaaGreatRows
import Derived.Test.YtnkghdakjdhhdaaGreatChecked
import Derived.ProofKit
import Derived.OpenShut
import Derived.ShutString
import Derived.ChangeOld
import Derived.Below
set_option maxRecDepth 100000
set_option linter.unusedVariables false
set_option linter.unusedSimpArgs false
set_option linter.unusedSectionVars false
section
namespace Go.Proofs.YtnkghdakjdhhdaaGreat
open Go.RowKit Go.Lib Go.Tk Go.Shelf Go.Vc Go.Sx
theorem mine16_w (k : Int) : CallOK Tryz.prog MineF [.val (.int .u8 k)] [] [] (.val (.bool (decide (1 ≤ k) && decide (k ≤ 5)))) [] := by
  rcases Bool.eq_false_or_eq_true (decide (1 ≤ k)) with g | g <;> rw [g]
  · exact callOK_run 400 [hB 1 1 _ _ g] (by kernel_rfl) (by kernel_rfl)
  · exact callOK_run 400 [hB 1 1 _ _ g] (by kernel_rfl) (by kernel_rfl)
theorem mine18_w (k : Int) : CallOK Tryz.prog BmineF [.val (.int .u8 k)] [] [] (.val (.bool (decide (6 ≤ k) && decide (k ≤ 8)))) [] := by
  rcases Bool.eq_false_or_eq_true (decide (6 ≤ k)) with g | g <;> rw [g]
  · exact callOK_run 400 [hB 1 1 _ _ g] (by kernel_rfl) (by kernel_rfl)
  · exact callOK_run 400 [hB 1 1 _ _ g] (by kernel_rfl) (by kernel_rfl)
structure Act18W (x : Act18) : Prop where
  k : KidOk x.k
  cmd : 0 ≤ x.cmd ∧ x.cmd ≤ 255
  frm : 0 ≤ x.frm ∧ x.frm ≤ 255
  kind : 0 ≤ x.m.kind ∧ x.m.kind ≤ 255
  key : KidOk x.m.key
theorem BIS.ds {B : BookV} (h : BIS B) : DsOk B.docs := ⟨h.bi.ex.sal, fun d hd => (h.bi.ex.sm d hd).nv⟩
theorem BIS.cl {B : BookV} (h : BIS B) : ∀ d ∈ B.docs, TidOk d.t ∧ DocSmall d := fun d hd => ⟨tid_docs h.bi.ex.bk hd, h.bi.ex.sm d hd⟩
def BstaysF : Nat := 8
def AT18b : TypeId := 99
theorem bstays_do (F : CF) {a : Option Addr} {cap i : Nat} {acts : List Act18} (hR : ∀ b v, Rd (F b v) a (cellsL act18L acts)) (hi : i < acts.length) {x : Act18} (hx : acts.getD i act180 = x) (ok : Act18W x) {B : BookV} (eB : BIS B) {eb : Env} {R : List Chunk} {J : Act → World → Prop} {ret : SV} {rp : Heap}
    (hq : Go Tryz.prog BstaysF ret rp eb R .nrm (rgK Tryz.prog BstaysF 19 [J]) (stSl a acts.length cap i ++ [(12, .ptr 1 5 0), (13, .ptr 1 6 0), (14, .raw 1 7), (15, eN (doB B x).e)]) (stH F (doB B x).b ++ [((1, 5), .box none (act18S x)), ((1, 6), .fam (bookF B)), ((1, 7), outsC (doB B x).out)])) :
    Go Tryz.prog BstaysF ret rp eb R .nrm (rgK Tryz.prog BstaysF 9 [J]) (stSl a acts.length cap i) (stH F B) := by
  have q1 := idx_openG (P := Tryz.prog) (t := AT18b) (e := 102) (size := 19) (j := 9) (k := .i64) (cap := cap) (n := acts.length) Tryz.underlying99 (by kernel_rfl) (cellsL_len act18_len acts) hR hi
  have hpos : 0 < (cellsL act18L acts).length := by rw [cellsL_len act18_len]; omega
  have q2 := load_openG0 (P := Tryz.prog) (t := 102) (k := i * 19) (j := 9) (u := .agg (act18S (acts.getD i act180))) (by kernel_rfl) hR (act18_nth hi act180) hpos
  rw [hx] at q2
  have c0 := clone_b B eB.cl eB.bi.ex.bk.nodup
  unfold doB at hq
  by_cases g0 : x.d = 0
  · rw [if_pos g0] at hq
    have e0 : decide (x.d = 0) = true := decide_eq_true g0
    have c1 := use_c B ok.k ok.cmd (fun o h => eB.os _ o h) (fun o h => eB.hs _ o h)
    generalize useQ B x.k x.cmd = q at *
    exact leaf_cut (rgK Tryz.prog BstaysF 19 [J]) _ _ calNone false 400 [hG 9 2 q1, hG 9 3 q2, hC 10 1 c0, hI 13 1 IntKind.i64 _ _ g0, hC 16 5 c1, .stop 19] calNone_ok (by kernel_rfl) hq
  have e0 : decide (x.d = 0) = false := decide_eq_false g0
  rw [if_neg g0] at hq
  by_cases g1 : x.d = 1
  · rw [if_pos g1] at hq
    have e1 : decide (x.d = 1) = true := decide_eq_true g1
    have c1 := bill_c B ok.k x.amt
    generalize billQ B x.k x.amt = q at *
    exact leaf_cut (rgK Tryz.prog BstaysF 19 [J]) _ _ calNone false 400 [hG 9 2 q1, hG 9 3 q2, hC 10 1 c0, hI 13 1 IntKind.i64 _ _ g1, hC 18 5 c1, .stop 19] calNone_ok (by kernel_rfl) hq
  have e1 : decide (x.d = 1) = false := decide_eq_false g1
  rw [if_neg g1] at hq
  have c1 := hearB_c B ok.frm x.m ok.kind ok.key
  generalize hearBQ B x.frm x.m = q at *
  exact leaf_cut (rgK Tryz.prog BstaysF 19 [J]) _ _ calNone false 400 [hG 9 2 q1, hG 9 3 q2, hC 10 1 c0, hB 15 0 _ _ e0, hB 17 0 _ _ e1, hC 14 5 c1, .stop 19] calNone_ok (by kernel_rfl) hq
def bsH (F : CF) (B C : BookV) : Heap := stH F C ++ [((1, 6), .fam (bookF B))]
theorem own_pair {nm : Kid} {B C : BookV} (hs : BStayB nm B C) (k : Kid) : ∃ y z : OwnV, (lkt B.owns k).getD own0 = y ∧ (lkt C.owns k).getD own0 = z ∧ BStay y z := by
  rcases hs.own k with ⟨h1, h2⟩ | ⟨y, z, h1, h2, h3⟩
  · exact ⟨own0, own0, by rw [h1]; rfl, by rw [h2]; rfl, BStay.refl _⟩
  · exact ⟨y, z, by rw [h1]; rfl, by rw [h2]; rfl, h3⟩
theorem held_pair {nm : Kid} {B C : BookV} (hs : BStayB nm B C) (k : Kid) : ∃ y z : HeldV, (lkt B.helds k).getD held0 = y ∧ (lkt C.helds k).getD held0 = z ∧ HStay y z := by
  rcases hs.held k with ⟨h1, h2⟩ | ⟨y, z, h1, h2, h3⟩
  · exact ⟨held0, held0, by rw [h1]; rfl, by rw [h2]; rfl, HStay.refl _⟩
  · exact ⟨y, z, by rw [h1]; rfl, by rw [h2]; rfl, h3⟩
theorem bstays_keys (F : CF) {a : Option Addr} {n cap i : Nat} (hi : i ≤ 1000) {nm : Kid} {B C : BookV} (eC : BIS C) (hs : BStayB nm B C) (hko : ∀ k ∈ keysL C, KidOk k) {eb : Env} {R : List Chunk} {J : Act → World → Prop} {ret : SV} {rp : Heap}
    (hJ : ∀ ε a' w, Rel (ntOf Tryz.prog BstaysF) 1 eb R ⟨stSl a n cap (i + 1), stH F C, 2⟩ ε a' w → J a' w) :
    Go Tryz.prog BstaysF ret rp eb R .nrm (rgK Tryz.prog BstaysF 33 [J]) (stSl a n cap i ++ [(13, .ptr 1 6 0)]) (bsH F B C) := by
  have c1 := keys_c (B := C) (by have := eC.bi.hl; omega)
  have hl64 : (keysL C).length ≤ 64 := by rw [keysL_len]; exact eC.bi.hl
  have z8 : IntKind.i64.wrap ((i : Int) + 1) = ((i + 1 : Nat) : Int) := by rw [wr_i64 (by omega)]; omega
  generalize keysL C = l at *
  refine go_loop (X := { k : Nat // k ≤ l.length }) 3 [J] (fun y => (stSl a n cap i ++ [(13, .ptr 1 6 0), (24, .raw 1 1), (25, .val (.int .i64 (y.1 : Int)))], bsH F B C ++ [((1, 1), kidR l)])) (fun y => l.length - y.1) ⟨0, Nat.zero_le _⟩ calNone false 400 [hC 33 1 c1] calNone_ok (by kernel_rfl) ?_
  rintro ⟨k, hk⟩ J2 hJ2
  by_cases h : k < l.length
  · have z0 : decide ((k : Int) < (l.length : Int)) = true := decide_eq_true (by omega)
    have ho := hko _ (List.mem_of_getElem? (getD_some h kid0))
    have q1 := load_eltG (P := Tryz.prog) (t := 27) (cs := kidS (l.getD k kid0)) (n := l.length) (p := 0) (j := 0) (b := k * 3) (E := 27) (size := 3) (u := .agg (kidS (l.getD k kid0))) (xs := cellsL kcL l) (by kernel_rfl) (cells_nth (enc := kcL) (encS := kidS) (fun _ _ => rfl) (fun _ => rfl) (getD_some h kid0))
    have c3 := held_c B ho
    have c4 := held_c C ho
    obtain ⟨y, z, e1, e2, s1, s2, s3, s4, -⟩ := held_pair hs (l.getD k kid0)
    rw [e1] at c3
    rw [e2] at c4
    have z9 : IntKind.i64.wrap ((k : Int) + 1) = ((k + 1 : Nat) : Int) := by rw [wr_i64 (by omega)]; omega
    have f1 : (!decide (y.here = z.here)) = false := by rw [s1]; simp
    have f2 : (!decide (y.wanted = z.wanted)) = false := by rw [s2]; simp
    have f3 : (!decide (y.k.v = z.k.v)) = false := by rw [s3]; simp
    have hJ2' := hJ2 ⟨k + 1, h⟩ (by show _ - (k + 1) < _ - k; omega)
    clear hJ hJ2 c1 s1 s2 s3 e1 e2
    rcases Bool.eq_false_or_eq_true y.paid with p | p
    · have p2 : (!z.paid) = false := by rw [s4 p]; rfl
      clear s4
      exact leaf_round (lpK Tryz.prog BstaysF 3 [J]) false 400 [hB 35 3 _ _ z0, .opt 37 3 (.at_ 0 _ _ _ ⟨rfl, h⟩), hG 37 4 q1, hC 37 5 c3, .opt 38 3 (.at_ 0 _ _ _ ⟨rfl, h⟩), hG 38 4 q1, hC 38 5 c4, hB 39 4 _ _ f1, hB 39 10 _ _ f2, hB 39 19 _ _ f3, hB 39 23 _ _ p, hB 39 27 _ _ p2, hI 36 1 IntKind.i64 _ _ z9] hJ2' (by kernel_rfl)
    · clear s4
      exact leaf_round (lpK Tryz.prog BstaysF 3 [J]) false 400 [hB 35 3 _ _ z0, .opt 37 3 (.at_ 0 _ _ _ ⟨rfl, h⟩), hG 37 4 q1, hC 37 5 c3, .opt 38 3 (.at_ 0 _ _ _ ⟨rfl, h⟩), hG 38 4 q1, hC 38 5 c4, hB 39 4 _ _ f1, hB 39 10 _ _ f2, hB 39 19 _ _ f3, hB 39 23 _ _ p, hI 36 1 IntKind.i64 _ _ z9] hJ2' (by kernel_rfl)
  · have he : k = l.length := by omega
    subst he
    have z0 : decide ((l.length : Int) < (l.length : Int)) = false := decide_eq_false (by omega)
    clear hJ2 c1
    exact leaf_round (lpK Tryz.prog BstaysF 0 []) false 400 [hB 35 3 _ _ z0, hI 8 1 IntKind.i64 _ _ z8] hJ (by kernel_rfl)
theorem bstays_owns (F : CF) {a : Option Addr} {n cap i : Nat} {nm : Kid} {B C : BookV} (eC : BIS C) (hs : BStayB nm B C) {eb : Env} {R : List Chunk} {J : Act → World → Prop} {ret : SV} {rp : Heap}
    (fin : Go Tryz.prog BstaysF ret rp eb R .nrm (rgK Tryz.prog BstaysF 33 [J]) (stSl a n cap i ++ [(13, .ptr 1 6 0)]) (bsH F B C)) :
    Go Tryz.prog BstaysF ret rp eb R .nrm (rgK Tryz.prog BstaysF 21 [J]) (stSl a n cap i ++ [(13, .ptr 1 6 0)]) (bsH F B C) := by
  have c1 := tickets_c eC.bi.ex.bk
  have hm := eC.bi.ex.bk.many
  have lC : (C.docs.map (·.t)).length = C.docs.length := List.length_map _
  refine go_loop (X := { k : Nat // k ≤ C.docs.length }) 1 [J] (fun y => (stSl a n cap i ++ [(13, .ptr 1 6 0), (16, .raw 1 1), (17, .val (.int .i64 (y.1 : Int)))], bsH F B C ++ [((1, 1), tidR (C.docs.map (·.t)))])) (fun y => C.docs.length - y.1) ⟨0, Nat.zero_le _⟩ calNone false 400 [hC 21 1 c1] calNone_ok (by kernel_rfl) ?_
  rintro ⟨k, hk⟩ J2 hJ2
  by_cases h : k < C.docs.length
  · have z0 : decide ((k : Int) < ((C.docs.map (·.t)).length : Int)) = true := decide_eq_true (by omega)
    have hd := List.getElem?_eq_getElem h
    generalize C.docs[k] = d at hd
    have t0 := tid_docs eC.bi.ex.bk (List.mem_of_getElem? hd)
    have hkl : k < (C.docs.map (·.t)).length := by omega
    have q1 := load_eltG (P := Tryz.prog) (t := 25) (cs := tidS d.t) (n := (C.docs.map (·.t)).length) (p := 0) (j := 0) (b := k * 2) (E := 25) (size := 2) (u := .agg (tidS d.t)) (by kernel_rfl) (tid_nth (tids_get hd))
    have z9 : IntKind.i64.wrap ((k : Int) + 1) = ((k + 1 : Nat) : Int) := by rw [wr_i64 (by omega)]; omega
    have hJ2' := hJ2 ⟨k + 1, h⟩ (by show _ - (k + 1) < _ - k; omega)
    clear fin hJ2 c1
    refine go_loop (X := { j : Nat // j ≤ 4 }) 2 [J, J2] (fun y => (stSl a n cap i ++ [(13, .ptr 1 6 0), (16, .raw 1 1), (17, .val (.int .i64 (k : Int))), (18, .val (.int .i64 (y.1 : Int)))], bsH F B C ++ [((1, 1), tidR (C.docs.map (·.t)))])) (fun y => 4 - y.1) ⟨0, Nat.zero_le _⟩ calNone false 400 [hB 23 3 _ _ z0] calNone_ok (by kernel_rfl) ?_
    rintro ⟨j, hj⟩ J3 hJ3
    by_cases h4 : j < 4
    · have y0 : decide ((j : Int) < 4) = true := decide_eq_true (by omega)
      have y1 : IntKind.u8.wrap (j : Int) = (j : Int) := wr_u8 (by omega)
      have c2 := own_c B (k := ⟨d.t, (j : Int)⟩) (kidOk_at t0 (by omega) (by omega))
      have c3 := own_c C (k := ⟨d.t, (j : Int)⟩) (kidOk_at t0 (by omega) (by omega))
      obtain ⟨y, z, e1, e2, s1, s2, s3, s4, s5, -⟩ := own_pair hs ⟨d.t, (j : Int)⟩
      rw [e1] at c2
      rw [e2] at c3
      have y2 : IntKind.i64.wrap ((j : Int) + 1) = ((j + 1 : Nat) : Int) := by rw [wr_i64 (by omega)]; omega
      have f1 : (!decide (y.away = z.away)) = false := by rw [s1]; simp
      have f2 : (!decide (y.dst = z.dst)) = false := by rw [s2]; simp
      have f3 : (!decide (y.k.v = z.k.v)) = false := by rw [s3]; simp
      have f4 : (!decide (y.k.n = z.k.n)) = false := by rw [s4]; simp
      have hJ3' := hJ3 ⟨j + 1, h4⟩ (by show _ - (j + 1) < _ - j; omega)
      clear hJ2' hJ3 s1 s2 s3 s4 e1 e2
      rcases Bool.eq_false_or_eq_true y.paid with p | p
      · have p2 : (!z.paid) = false := by rw [s5 p]; rfl
        clear s5
        exact leaf_round (lpK Tryz.prog BstaysF 2 [J, J2]) false 400 [hB 26 1 _ _ y0, .opt 28 2 (.at_ 0 _ _ _ ⟨rfl, hkl⟩), hG 28 3 q1, hI 28 5 IntKind.u8 _ _ y1, hC 29 2 c2, hC 30 2 c3, hB 31 4 _ _ f1, hB 31 10 _ _ f2, hB 31 19 _ _ f3, hB 31 28 _ _ f4, hB 31 32 _ _ p, hB 31 36 _ _ p2, hI 27 1 IntKind.i64 _ _ y2] hJ3' (by kernel_rfl)
      · clear s5
        exact leaf_round (lpK Tryz.prog BstaysF 2 [J, J2]) false 400 [hB 26 1 _ _ y0, .opt 28 2 (.at_ 0 _ _ _ ⟨rfl, hkl⟩), hG 28 3 q1, hI 28 5 IntKind.u8 _ _ y1, hC 29 2 c2, hC 30 2 c3, hB 31 4 _ _ f1, hB 31 10 _ _ f2, hB 31 19 _ _ f3, hB 31 28 _ _ f4, hB 31 32 _ _ p, hI 27 1 IntKind.i64 _ _ y2] hJ3' (by kernel_rfl)
    · have he : j = 4 := by omega
      subst he
      clear hJ3
      exact leaf_round (lpK Tryz.prog BstaysF 1 [J]) false 400 [hI 24 1 IntKind.i64 _ _ z9] hJ2' (by kernel_rfl)
  · have he : k = C.docs.length := by omega
    subst he
    have z0 : decide ((C.docs.length : Int) < ((C.docs.map (·.t)).length : Int)) = false := decide_eq_false (by omega)
    clear hJ2 c1
    exact leaf_cut (rgK Tryz.prog BstaysF 33 [J]) _ _ calNone false 400 [hB 23 3 _ _ z0, .stop 33] calNone_ok (by kernel_rfl) fin
theorem bstays_act (F : CF) {a : Option Addr} {n cap i : Nat} (hi : i ≤ 1000) {x : Act18} {nm : Kid} {B : BookV} (eB : BIS B) {q : HR} (hq : BHopR nm B q) {eb : Env} {R : List Chunk} {J : Act → World → Prop}
    (hJ : ∀ ε a' w, Rel (ntOf Tryz.prog BstaysF) 1 eb R ⟨stSl a n cap (i + 1), stH F q.b, 2⟩ ε a' w → J a' w) :
    Go Tryz.prog BstaysF (.val (.bool true)) ([((0, 9), .fam F)] ++ []) eb R .nrm (rgK Tryz.prog BstaysF 19 [J]) (stSl a n cap i ++ [(12, .ptr 1 5 0), (13, .ptr 1 6 0), (14, .raw 1 7), (15, eN q.e)]) (stH F q.b ++ [((1, 5), .box none (act18S x)), ((1, 6), .fam (bookF B)), ((1, 7), outsC q.out)]) := by
  refine go_open (X := { u : Unit // ((B.owns.map (·.1)).Nodup ∧ (B.helds.map (·.1)).Nodup) ∧ ∀ p ∈ B.helds, KidOk p.1 }) (fun _ => [((1, 6), .fam (bookF B)), ((0, 9), .fam F), ((1, 0), .fam (bookF q.b)), ((1, 5), .box none (act18S x)), ((1, 7), outsC q.out)]) (fun ε w hM => by
    have h1 := Mem.front (c := bookF B (ε 1 6).1 (ε 1 6).2) hM 3 rfl
    exact ⟨⟨(), book_facts h1, book_keys h1⟩, h1⟩) (fun _ => by kernel_rfl) ?_
  rintro ⟨-, ⟨nd1, nd2⟩, hko⟩
  have stay := hq.hop.stay eB.bi
  have eC := hq.hop.bis eB
  have c9 := same_c B B eB.ds eB.ds
  rw [sameB_self eB.bi.ex.bk.nodup nd1 nd2] at c9
  have hko' : ∀ k ∈ keysL q.b, KidOk k := fun k hk => by
    rw [stay_keys stay] at hk
    obtain ⟨p, hp, rfl⟩ := List.mem_map.1 ((sortBy_perm cfK (B.helds.map (·.1))).mem_iff.1 hk)
    exact hko p hp
  have fin := bstays_owns F (a := a) (n := n) (cap := cap) (i := i) eC stay (eb := eb) (R := R) (J := J) (ret := .val (.bool true)) (rp := [((0, 9), .fam F)] ++ []) (bstays_keys F hi eC stay hko' hJ)
  have m1 := mine16_w x.m.kind
  have m2 := mine18_w x.m.kind
  have hm : (decide (1 ≤ x.m.kind) && decide (x.m.kind ≤ 5)) = false ∨ ((decide (1 ≤ x.m.kind) && decide (x.m.kind ≤ 5)) = true ∧ (decide (6 ≤ x.m.kind) && decide (x.m.kind ≤ 8)) = false) := by
    cases h1 : (decide (1 ≤ x.m.kind) && decide (x.m.kind ≤ 5))
    · exact .inl rfl
    · refine .inr ⟨rfl, ?_⟩
      simp only [Bool.and_eq_true, decide_eq_true_eq] at h1
      rw [decide_eq_false (show ¬ 6 ≤ x.m.kind by omega)]; rfl
  generalize (decide (1 ≤ x.m.kind) && decide (x.m.kind ≤ 5)) = b1 at *
  generalize (decide (6 ≤ x.m.kind) && decide (x.m.kind ≤ 8)) = b2 at *
  have key : Go Tryz.prog BstaysF (.val (.bool true)) ([((0, 9), .fam F)] ++ []) eb R .nrm (rgK Tryz.prog BstaysF 19 [J]) (stSl a n cap i ++ [(12, .ptr 1 5 0), (13, .ptr 1 6 0), (14, .raw 1 7), (15, eN q.e)]) [((1, 6), .fam (bookF B)), ((0, 9), .fam F), ((1, 0), .fam (bookF q.b)), ((1, 5), .box none (act18S x)), ((1, 7), outsC q.out)] := by
    by_cases e : q.e = 0
    · have f0 : (!decide (q.e = 0)) = false := by rw [e]; rfl
      have f1 : decide ((1 : Int) < (q.out.length : Int)) = false := decide_eq_false (by have := hq.one; omega)
      clear c9 hJ
      generalize q.b = C at *
      generalize q.out = O at *
      rcases hm with hm | ⟨hm1, hm2⟩
      · subst hm
        exact leaf_cut (rgK Tryz.prog BstaysF 21 [J]) _ _ calNone false 400 [hI 19 0 IntKind.i64 _ _ e, hB 19 16 _ _ f1, hC 19 22 m1, .stop 21] calNone_ok (by kernel_rfl) fin
      · subst hm1; subst hm2
        exact leaf_cut (rgK Tryz.prog BstaysF 21 [J]) _ _ calNone false 400 [hI 19 0 IntKind.i64 _ _ e, hB 19 16 _ _ f1, hC 19 22 m1, hC 19 27 m2, .stop 21] calNone_ok (by kernel_rfl) fin
    · obtain ⟨h1, h2⟩ := hq.fail e
      have f0 : (!decide (q.e = 0)) = true := by simpa using e
      obtain ⟨qo, qe, qb⟩ := q
      have h1 : qo = [] := h1
      have h2 : qb = B := h2
      subst h1; subst h2
      clear hJ
      rcases hm with hm | ⟨hm1, hm2⟩
      · subst hm
        exact leaf_cut (rgK Tryz.prog BstaysF 21 [J]) _ _ calNone false 400 [hB 19 1 _ _ f0, hC 19 9 c9, hC 19 22 m1, .stop 21] calNone_ok (by kernel_rfl) fin
      · subst hm1; subst hm2
        exact leaf_cut (rgK Tryz.prog BstaysF 21 [J]) _ _ calNone false 400 [hB 19 1 _ _ f0, hC 19 9 c9, hC 19 22 m1, hC 19 27 m2, .stop 21] calNone_ok (by kernel_rfl) fin
  exact key
def runBo (B : BookV) (acts : List Act18) : Nat → BookV
  | 0 => B
  | i + 1 => (doB (runBo B acts i) (acts.getD i act180)).b
theorem runBo_bis {B : BookV} (eB : BIS B) (acts : List Act18) : ∀ i, BIS (runBo B acts i)
  | 0 => eB
  | i + 1 => (doB_hop _ _).hop.bis (runBo_bis eB acts i)
theorem bstays_law (F : CF) {self n : Int} (hs : 0 ≤ self ∧ self ≤ 255) {a b : Option Addr} {cap cap2 : Nat} {l : List Act15} {acts : List Act18} (hRa : ∀ b v, Rd (F b v) a (cellsL act15C l)) (hRb : ∀ b' v, Rd (F b' v) b (cellsL act18L acts)) (hl : l.length ≤ 9223372036854775807) (hm : acts.length ≤ 9223372036854775807)
    (hf : ∀ x ∈ l, x.s.legs.length ≤ 9223372036854775807 ∧ x.s.taxes.length ≤ 9223372036854775807 ∧ x.s.name.size ≤ 9223372036854775807) (hA : grB l acts.length = false → ∀ x ∈ l, Act15Rd F x ∧ StI x.o.k.s ∧ StI x.h.k.s) (hW : ∀ x ∈ acts, Act18W x) :
    CallOK Tryz.prog BstaysF [.val (.int .u8 self), .val (.int .i64 n), .val (.slice a l.length cap), .val (.slice b acts.length cap2)] [((0, 9), .fam F)] [] (.val (.bool true)) [] := by
  have c0 := great18_w F (b := b) (m := acts.length) (cap := cap) (cap2 := cap2) hRa hl hm hf
  have c9 := wakes18_w
  rcases Bool.eq_false_or_eq_true (grB l acts.length) with g | g <;> rw [g] at c0
  · exact callOK_run 400 [hC 1 2 c0, hC 2 0 c9] (by kernel_rfl) (by kernel_rfl)
  have hA := hA g
  have hlen := grB_no g
  by_cases he : bookE self n = 0
  case neg =>
    have c1 := built_no (self := self) (n := n) hs he (a := a) (m := l.length) (cap := cap)
    exact callOK_run 400 [hC 1 2 c0, hC 3 3 c1, hC 5 0 c9] (by kernel_rfl) (by kernel_rfl)
  have c1 := built_ok F hs he (cap := cap) hRa (by omega) (fun x hx => (hA x hx).1)
  have eB := run_bis (bookE_ok hs.1 he) (acts := l) (fun x hx => ⟨(hA x hx).1.ok, (hA x hx).1.o, (hA x hx).2⟩) l.length (Nat.le_refl _)
  generalize run15 (bookNew self n) l l.length = B0 at *
  generalize runR (refNew self n) l l.length = R0 at *
  refine callOK_intro (by kernel_rfl) fun eb R => ?_
  refine go_loop (X := { i : Nat // i ≤ acts.length }) 0 [] (fun x => (stSl b acts.length cap2 x.1, stH F (runBo B0 acts x.1))) (fun x => acts.length - x.1) ⟨0, Nat.zero_le _⟩ calNone false 400 [hC 1 2 c0, hC 3 3 c1] calNone_ok (by kernel_rfl) ?_
  rintro ⟨i, hi⟩ J hJ
  by_cases h : i < acts.length
  · have z0 : decide ((i : Int) < (acts.length : Int)) = true := decide_eq_true (by omega)
    have hin : acts.getD i act180 ∈ acts := List.mem_of_getElem? (getD_some h act180)
    have hop := doB_hop (runBo B0 acts i) (acts.getD i act180)
    have fin := bstays_do F (cap := cap2) hRb h rfl (hW _ hin) (runBo_bis eB acts i) (eb := eb) (R := R) (J := J) (bstays_act F (by omega) (runBo_bis eB acts i) hop (hJ ⟨i + 1, h⟩ (by show _ - (i + 1) < _ - i; omega)))
    clear hJ c0 c1 hA
    exact leaf_cut (rgK Tryz.prog BstaysF 9 [J]) _ _ calNone false 400 [hB 7 3 _ _ z0, .stop 9] calNone_ok (by kernel_rfl) fin
  · have z0 : decide ((acts.length : Int) < (acts.length : Int)) = false := decide_eq_false (by omega)
    have e : i = acts.length := by omega
    subst e
    clear hJ c0 c1 hA
    exact leaf_end calNone false 400 [hB 7 3 _ _ z0, hC 41 0 c9] calNone_ok (by kernel_rfl)
end Go.Proofs.YtnkghdakjdhhdaaGreat
end
section
namespace Go.Proofs.YtnkghdakjdhhdaaGreat
open Go.RowKit Go.Lib Go.Tk Go.Shelf Go.Vc Go.Sx Go.WideShapes
section
variable {H : Type} {enc : TypeId × Value → H} {w : World} {base : Nat} {spare : Nat → Bool} {held : Bool}
end
theorem lens3_of {w : World} {x : Act15} (h : Act15In w x) : x.s.legs.length ≤ 9223372036854775807 ∧ x.s.taxes.length ≤ 9223372036854775807 ∧ x.s.name.size ≤ 9223372036854775807 := ⟨maxLen_le h.ok.nl, maxLen_le h.ok.nt, maxLen_le h.ok.name⟩
end Go.Proofs.YtnkghdakjdhhdaaGreat
end
section
namespace Go.Proofs.YtnkghdakjdhhdaaGreat
open Go.RowKit Go.Lib Go.Tk Go.Shelf Go.Vc Go.Sx
end Go.Proofs.YtnkghdakjdhhdaaGreat
end
section
namespace Go.Proofs.YtnkghdakjdhhdaaGreat
open Go.RowKit Go.Lib Go.Tk Go.Shelf Go.Vc Go.Sx Go.WideShapes
section
variable {H : Type} {enc : TypeId × Value → H} {w : World} {base : Nat} {spare : Nat → Bool} {held : Bool}
def act18Ts : List TypeId := [3, 5, 23, 5, 5, 2, 5, 5, 5, 23, 5, 5, 28, 29, 2, 32, 29, 2, 44]
theorem act18Ts_flat : flatT Tryz.prog 6 102 = some act18Ts := by kernel_rfl
theorem act18Ts_ints : act18Ts.map Tryz.prog.underlying = [IntKind.i64, .u8, .u64, .u8, .u8, .i64, .u8, .u8, .u8, .u64, .u8, .u8, .u16, .u32, .i64, .u8, .u32, .i64, .i64].map (fun k => some (.int k)) := by kernel_rfl
end
end Go.Proofs.YtnkghdakjdhhdaaGreat
end
section
namespace Go.Proofs.YtnkghdakjdhhdaaGreat
open Go.RowKit Go.Lib Go.Tk Go.Shelf Go.Vc Go.Sx Go.WideShapes
section
variable {H : Type} {enc : TypeId × Value → H} {w : World} {base : Nat} {spare : Nat → Bool} {held : Bool}
theorem act18w_of {cs : List Value} (h : FlatI [.i64, .u8, .u64, .u8, .u8, .i64, .u8, .u8, .u8, .u64, .u8, .u8, .u16, .u32, .i64, .u8, .u32, .i64, .i64] cs) : ∃ x : Act18, act18L x = cs ∧ Act18W x := by
  obtain ⟨z0, _, rfl, w0, z1, _, rfl, w1, z2, _, rfl, w2, z3, _, rfl, w3, c0, _, rfl, wc, a0, _, rfl, wa, z4, _, rfl, w4, z5, _, rfl, w5, z6, _, rfl, w6, z7, _, rfl, w7, z8, _, rfl, w8, z9, _, rfl, w9, z10, _, rfl, w10, z11, _, rfl, w11, z12, _, rfl, w12, z13, _, rfl, w13, z14, _, rfl, w14, z15, _, rfl, w15, z16, _, rfl, w16, rfl⟩ := h
  exact ⟨⟨z0, ⟨⟨z1, z2⟩, z3⟩, c0, a0, z4, ⟨z5, ⟨⟨z6, z7⟩, z8⟩, ⟨⟨z9, z10, z11⟩, z12, z13, z14⟩, z15, z16⟩⟩, rfl, ⟨⟨⟨wfu8' w1, wfu64' w2⟩, wfu8' w3⟩, wfu8' wc, wfu8' w4, wfu8' w5, ⟨⟨wfu8' w6, wfu64' w7⟩, wfu8' w8⟩⟩⟩
theorem acts18w_cell {n : Nat} {v : Value} {y : DataW H × List MemPlace} (h : DataW.trod enc Tryz.prog w base spare held n 99 [v] = some y) :
    ∃ (a : Option Addr) (l : List Act18) (c : Nat), v = .slice a l.length c ∧ Row w a (cellsL act18L l) ∧ (a = none → c = 0) ∧ l.length ≤ maxLen ∧ ∀ x ∈ l, Act18W x := by
  obtain ⟨a, len, cap, rows, rfl, hlen, hrows, hr, hn, hm, _⟩ := slice_rows (fun cs => ∃ l : Act18, act18L l = cs ∧ Act18W l) Tryz.underlying99 (show Tryz.prog.cellsOf 102 = 19 by kernel_rfl) (by decide)
    (fun n cs y hl h => act18w_of ((flat_of 6 _ _ act18Ts_flat n cs y h (by rw [hl]; kernel_rfl)).ints act18Ts_ints)) h
  obtain ⟨l, hl⟩ := listOf (enc := fun x : { x : Act18 // Act18W x } => act18L x.1) (Q := fun cs => ∃ l : Act18, act18L l = cs ∧ Act18W l) (fun r ⟨x, hx, hk⟩ => ⟨⟨x, hk⟩, hx⟩) rows (fun r hr => (hrows r hr).2)
  have hl2 : (l.map (·.1)).map act18L = rows := by rw [List.map_map]; exact hl
  have hl3 : (l.map (·.1)).length = len := by rw [← hlen, ← hl2]; simp
  refine ⟨a, l.map (·.1), cap, by rw [hl3], ?_, hn, by rw [hl3]; exact hm, fun x hx => ?_⟩
  · unfold cellsL; rw [hl2]; exact hr
  · obtain ⟨z, _, rfl⟩ := List.mem_map.1 hx; exact z.2
end
theorem bstays_any (self n : Int) (a : Option Addr) (l : List Act15) (c : Nat) (b : Option Addr) (m : List Act18) (c2 : Nat) (w : World) (hs : (Lit.int .u8 self).wf = true) (hn0 : (Lit.int .i64 n).wf = true) (hr : Row w a (cellsL act15C l)) (hn : a = none → c = 0) (hl : l.length ≤ maxLen) (ok : ∀ x ∈ l, Act15In w x)
    (hr2 : Row w b (cellsL act18L m)) (hn2 : b = none → c2 = 0) (hl2 : m.length ≤ maxLen) (ok2 : ∀ x ∈ m, Act18W x) :
    Calls Tryz.prog BstaysF #[.int .u8 self, .int .i64 n, .slice a l.length c, .slice b m.length c2] w fun e w' => e = .returned (.bool true) ∧ Below w.heap.size w w' :=
  (bstays_law (fun _ _ => oldC w) (wfu8 hs) (cap := c) (cap2 := c2) (fun _ _ => rd_old hr) (fun _ _ => rd_old hr2) (maxLen_le hl) (maxLen_le hl2) (fun y hy => lens3_of (ok y hy))
    (fun hg y hy => ⟨act15Rd_of (ok y hy) (by have := ((grB_no hg).2.2 y hy).1; omega) (by have := ((grB_no hg).2.2 y hy).2; omega), (ok y hy).os, (ok y hy).hs⟩) ok2 (fun _ _ => (0, undef)) [] w (Mem.old w)).mono fun e w' ⟨x, h, hm⟩ => ⟨h, (show Mem (oldC w :: []) w' from hm).below 0 rfl⟩
end Go.Proofs.YtnkghdakjdhhdaaGreat
end
section
namespace Go.Proofs.YtnkghdakjdhhdaaGreat
open Go.RowKit Go.Lib Go.Tk Go.Shelf Go.Vc Go.Sx
def BaloneF : Nat := 7
def baH (F : CF) (B C : BookV) (nm : Kid) : Heap := stH F C ++ [((1, 6), .fam (bookF B)), ((1, 8), .box none (kidS nm))]
theorem balone_do (F : CF) {a : Option Addr} {cap i : Nat} {acts : List Act18} (hR : ∀ b v, Rd (F b v) a (cellsL act18L acts)) (hi : i < acts.length) {x : Act18} (hx : acts.getD i act180 = x) (ok : Act18W x) {B : BookV} (eB : BIS B) {eb : Env} {R : List Chunk} {J : Act → World → Prop} {ret : SV} {rp : Heap}
    (hq : Go Tryz.prog BaloneF ret rp eb R .nrm (rgK Tryz.prog BaloneF 19 [J]) (stSl a acts.length cap i ++ [(13, .ptr 1 8 0), (14, .ptr 1 6 0)]) (baH F B (doB B x).b (nmB x))) :
    Go Tryz.prog BaloneF ret rp eb R .nrm (rgK Tryz.prog BaloneF 9 [J]) (stSl a acts.length cap i) (stH F B) := by
  have q1 := idx_openG (P := Tryz.prog) (t := AT18b) (e := 102) (size := 19) (j := 9) (k := .i64) (cap := cap) (n := acts.length) Tryz.underlying99 (by kernel_rfl) (cellsL_len act18_len acts) hR hi
  have hpos : 0 < (cellsL act18L acts).length := by rw [cellsL_len act18_len]; omega
  have q2 := load_openG0 (P := Tryz.prog) (t := 102) (k := i * 19) (j := 9) (u := .agg (act18S (acts.getD i act180))) (by kernel_rfl) hR (act18_nth hi act180) hpos
  rw [hx] at q2
  have c0 := clone_b B eB.cl eB.bi.ex.bk.nodup
  unfold doB nmB at hq
  by_cases g0 : x.d = 0
  · rw [if_pos g0, if_pos g0] at hq
    have e0 : decide (x.d = 0) = true := decide_eq_true g0
    have c1 := use_c B ok.k ok.cmd (fun o h => eB.os _ o h) (fun o h => eB.hs _ o h)
    generalize useQ B x.k x.cmd = q at *
    exact leaf_cut (rgK Tryz.prog BaloneF 19 [J]) _ _ calNone false 400 [hG 9 2 q1, hG 9 3 q2, hC 11 1 c0, hI 12 1 IntKind.i64 _ _ g0, hC 16 5 c1, .stop 19] calNone_ok (by kernel_rfl) hq
  have e0 : decide (x.d = 0) = false := decide_eq_false g0
  rw [if_neg g0, if_neg g0] at hq
  by_cases g1 : x.d = 1
  · rw [if_pos g1, if_pos g1] at hq
    have e1 : decide (x.d = 1) = true := decide_eq_true g1
    have c1 := bill_c B ok.k x.amt
    generalize billQ B x.k x.amt = q at *
    exact leaf_cut (rgK Tryz.prog BaloneF 19 [J]) _ _ calNone false 400 [hG 9 2 q1, hG 9 3 q2, hC 11 1 c0, hI 12 1 IntKind.i64 _ _ g1, hC 18 5 c1, .stop 19] calNone_ok (by kernel_rfl) hq
  have e1 : decide (x.d = 1) = false := decide_eq_false g1
  rw [if_neg g1, if_neg g1] at hq
  have c1 := hearB_c B ok.frm x.m ok.kind ok.key
  generalize hearBQ B x.frm x.m = q at *
  exact leaf_cut (rgK Tryz.prog BaloneF 19 [J]) _ _ calNone false 400 [hG 9 2 q1, hG 9 3 q2, hC 11 1 c0, hB 15 0 _ _ e0, hB 17 0 _ _ e1, hC 14 5 c1, .stop 19] calNone_ok (by kernel_rfl) hq
def baSl (a : Option Addr) (n cap i : Nat) : Slots := stSl a n cap i ++ [(13, .ptr 1 8 0), (14, .ptr 1 6 0), (16, .raw 1 2)]
theorem balone_keys (F : CF) {a : Option Addr} {n cap i : Nat} (hi : i ≤ 1000) {nm : Kid} {B C : BookV} (hs : BStayB nm B C) {l : List Kid} (hl64 : l.length ≤ 64) (hko : ∀ k ∈ l, KidOk k) {eb : Env} {R : List Chunk} {J : Act → World → Prop} {ret : SV} {rp : Heap}
    (hJ : ∀ ε a' w, Rel (ntOf Tryz.prog BaloneF) 1 eb R ⟨stSl a n cap (i + 1), stH F C, 2⟩ ε a' w → J a' w) :
    Go Tryz.prog BaloneF ret rp eb R .nrm (rgK Tryz.prog BaloneF 33 [J]) (baSl a n cap i) (baH F B C nm ++ [((1, 2), kidR l)]) := by
  have z8 : IntKind.i64.wrap ((i : Int) + 1) = ((i + 1 : Nat) : Int) := by rw [wr_i64 (by omega)]; omega
  refine go_loop (X := { k : Nat // k ≤ l.length }) 3 [J] (fun y => (baSl a n cap i ++ [(24, .val (.int .i64 (y.1 : Int)))], baH F B C nm ++ [((1, 2), kidR l)])) (fun y => l.length - y.1) ⟨0, Nat.zero_le _⟩ calNone false 400 [] calNone_ok (by kernel_rfl) ?_
  rintro ⟨k, hk⟩ J2 hJ2
  by_cases h : k < l.length
  · have z0 : decide ((k : Int) < (l.length : Int)) = true := decide_eq_true (by omega)
    have ho := hko _ (List.mem_of_getElem? (getD_some h kid0))
    have q1 := load_eltG (P := Tryz.prog) (t := 27) (cs := kidS (l.getD k kid0)) (n := l.length) (p := 0) (j := 0) (b := k * 3) (E := 27) (size := 3) (u := .agg (kidS (l.getD k kid0))) (xs := cellsL kcL l) (by kernel_rfl) (cells_nth (enc := kcL) (encS := kidS) (fun _ _ => rfl) (fun _ => rfl) (getD_some h kid0))
    have c3 := held_c B ho
    have c4 := held_c C ho
    have hne := hs.helde (l.getD k kid0)
    have z9 : IntKind.i64.wrap ((k : Int) + 1) = ((k + 1 : Nat) : Int) := by rw [wr_i64 (by omega)]; omega
    have hJ2' := hJ2 ⟨k + 1, h⟩ (by show _ - (k + 1) < _ - k; omega)
    clear hJ hJ2
    generalize l.getD k kid0 = key at *
    rcases Bool.eq_false_or_eq_true (kidEq key nm) with e | e
    · have e' : (!kidEq key nm) = false := by rw [e]; rfl
      unfold kidEq at e'
      clear hne e
      exact leaf_round (lpK Tryz.prog BaloneF 3 [J]) false 400 [hB 34 3 _ _ z0, .opt 36 3 (.at_ 0 _ _ _ ⟨rfl, h⟩), hG 36 4 q1, hC 36 5 c3, .opt 37 3 (.at_ 0 _ _ _ ⟨rfl, h⟩), hG 37 4 q1, hC 37 5 c4, .opt 38 2 (.at_ 0 _ _ _ ⟨rfl, h⟩), hG 38 3 q1, hB 38 5 _ _ e', hI 35 1 IntKind.i64 _ _ z9] hJ2' (by kernel_rfl)
    · have e' : (!kidEq key nm) = true := by rw [e]; rfl
      rw [hne (kidEq_no e)] at c4
      unfold kidEq at e'
      generalize (lkt B.helds key).getD held0 = v at *
      have e1 : (!heldEq v v) = false := by rw [(heldEq_iff _ _).2 rfl]; rfl
      unfold heldEq cpnEq legEq at e1
      clear hne e
      exact leaf_round (lpK Tryz.prog BaloneF 3 [J]) false 400 [hB 34 3 _ _ z0, .opt 36 3 (.at_ 0 _ _ _ ⟨rfl, h⟩), hG 36 4 q1, hC 36 5 c3, .opt 37 3 (.at_ 0 _ _ _ ⟨rfl, h⟩), hG 37 4 q1, hC 37 5 c4, .opt 38 2 (.at_ 0 _ _ _ ⟨rfl, h⟩), hG 38 3 q1, hB 38 5 _ _ e', hB 38 9 _ _ e1, hI 35 1 IntKind.i64 _ _ z9] hJ2' (by kernel_rfl)
  · have he : k = l.length := by omega
    subst he
    have z0 : decide ((l.length : Int) < (l.length : Int)) = false := decide_eq_false (by omega)
    clear hJ2
    exact leaf_round (lpK Tryz.prog BaloneF 0 []) false 400 [hB 34 3 _ _ z0, hI 8 1 IntKind.i64 _ _ z8] hJ (by kernel_rfl)
theorem balone_owns (F : CF) {a : Option Addr} {n cap i : Nat} {nm : Kid} {B C : BookV} (eB : BIS B) (eC : BIS C) (hs : BStayB nm B C) {eb : Env} {R : List Chunk} {J : Act → World → Prop} {ret : SV} {rp : Heap}
    (fin : Go Tryz.prog BaloneF ret rp eb R .nrm (rgK Tryz.prog BaloneF 33 [J]) (baSl a n cap i) (baH F B C nm ++ [((1, 2), kidR (keysL B))])) :
    Go Tryz.prog BaloneF ret rp eb R .nrm (rgK Tryz.prog BaloneF 19 [J]) (stSl a n cap i ++ [(13, .ptr 1 8 0), (14, .ptr 1 6 0)]) (baH F B C nm) := by
  have c1 := tickets_c eB.bi.ex.bk
  have c2 := keys_c (B := B) (by have := eB.bi.hl; omega)
  have c3 := tickets_c eC.bi.ex.bk
  have c4 := keys_c (B := C) (by have := eC.bi.hl; omega)
  have hm := eB.bi.ex.bk.many
  have lB : (B.docs.map (·.t)).length = B.docs.length := List.length_map _
  rw [stay_keys hs] at c4
  rw [hs.docs] at c3
  have n1 : (!decide (((B.docs.map (·.t)).length : Int) = ((B.docs.map (·.t)).length : Int))) = false := by simp
  have n2 : (!decide (((keysL B).length : Int) = ((keysL B).length : Int))) = false := by simp
  refine go_loop (X := { k : Nat // k ≤ B.docs.length }) 1 [J] (fun y => (baSl a n cap i ++ [(15, .raw 1 1), (17, .val (.int .i64 (y.1 : Int)))], baH F B C nm ++ [((1, 2), kidR (keysL B)), ((1, 1), tidR (B.docs.map (·.t)))])) (fun y => B.docs.length - y.1) ⟨0, Nat.zero_le _⟩ calNone false 400 [hC 19 1 c1, hC 19 3 c2, hC 20 1 c3, hB 20 5 _ _ n1, hC 20 8 c4, hB 20 12 _ _ n2] calNone_ok (by kernel_rfl) ?_
  rintro ⟨k, hk⟩ J2 hJ2
  clear c1 c2 c3 c4 n1 n2
  by_cases h : k < B.docs.length
  · have z0 : decide ((k : Int) < ((B.docs.map (·.t)).length : Int)) = true := decide_eq_true (by omega)
    have hd := List.getElem?_eq_getElem h
    generalize B.docs[k] = d at hd
    have t0 := tid_docs eB.bi.ex.bk (List.mem_of_getElem? hd)
    have hkl : k < (B.docs.map (·.t)).length := by omega
    have q1 := load_eltG (P := Tryz.prog) (t := 25) (cs := tidS d.t) (n := (B.docs.map (·.t)).length) (p := 0) (j := 0) (b := k * 2) (E := 25) (size := 2) (u := .agg (tidS d.t)) (by kernel_rfl) (tid_nth (tids_get hd))
    have z9 : IntKind.i64.wrap ((k : Int) + 1) = ((k + 1 : Nat) : Int) := by rw [wr_i64 (by omega)]; omega
    have hJ2' := hJ2 ⟨k + 1, h⟩ (by show _ - (k + 1) < _ - k; omega)
    clear fin hJ2
    generalize keysL B = kl at *
    refine go_loop (X := { j : Nat // j ≤ 4 }) 2 [J, J2] (fun y => (baSl a n cap i ++ [(15, .raw 1 1), (17, .val (.int .i64 (k : Int))), (18, .val (.int .i64 (y.1 : Int)))], baH F B C nm ++ [((1, 2), kidR kl), ((1, 1), tidR (B.docs.map (·.t)))])) (fun y => 4 - y.1) ⟨0, Nat.zero_le _⟩ calNone false 400 [hB 23 3 _ _ z0] calNone_ok (by kernel_rfl) ?_
    rintro ⟨j, hj⟩ J3 hJ3
    by_cases h4 : j < 4
    · have y0 : decide ((j : Int) < 4) = true := decide_eq_true (by omega)
      have y1 : IntKind.u8.wrap (j : Int) = (j : Int) := wr_u8 (by omega)
      have c2 := own_c B (k := ⟨d.t, (j : Int)⟩) (kidOk_at t0 (by omega) (by omega))
      have c3 := own_c C (k := ⟨d.t, (j : Int)⟩) (kidOk_at t0 (by omega) (by omega))
      have y2 : IntKind.i64.wrap ((j : Int) + 1) = ((j + 1 : Nat) : Int) := by rw [wr_i64 (by omega)]; omega
      have hne := hs.owne ⟨d.t, (j : Int)⟩
      have hJ3' := hJ3 ⟨j + 1, h4⟩ (by show _ - (j + 1) < _ - j; omega)
      clear hJ2' hJ3
      rcases Bool.eq_false_or_eq_true (kidEq ⟨d.t, (j : Int)⟩ nm) with e | e
      · have e' : (!kidEq ⟨d.t, (j : Int)⟩ nm) = false := by rw [e]; rfl
        unfold kidEq at e'
        clear hne e
        exact leaf_round (lpK Tryz.prog BaloneF 2 [J, J2]) false 400 [hB 26 1 _ _ y0, .opt 28 2 (.at_ 0 _ _ _ ⟨rfl, hkl⟩), hG 28 3 q1, hI 28 5 IntKind.u8 _ _ y1, hC 29 2 c2, hC 30 2 c3, hB 31 2 _ _ e', hI 27 1 IntKind.i64 _ _ y2] hJ3' (by kernel_rfl)
      · have e' : (!kidEq ⟨d.t, (j : Int)⟩ nm) = true := by rw [e]; rfl
        rw [hne (kidEq_no e)] at c3
        unfold kidEq at e'
        generalize (lkt B.owns ⟨d.t, (j : Int)⟩).getD own0 = v at *
        have e1 : (!ownEq v v) = false := by rw [(ownEq_iff _ _).2 rfl]; rfl
        unfold ownEq cpnEq legEq at e1
        clear hne e
        exact leaf_round (lpK Tryz.prog BaloneF 2 [J, J2]) false 400 [hB 26 1 _ _ y0, .opt 28 2 (.at_ 0 _ _ _ ⟨rfl, hkl⟩), hG 28 3 q1, hI 28 5 IntKind.u8 _ _ y1, hC 29 2 c2, hC 30 2 c3, hB 31 2 _ _ e', hB 31 6 _ _ e1, hI 27 1 IntKind.i64 _ _ y2] hJ3' (by kernel_rfl)
    · have he : j = 4 := by omega
      subst he
      clear hJ3
      exact leaf_round (lpK Tryz.prog BaloneF 1 [J]) false 400 [hI 24 1 IntKind.i64 _ _ z9] hJ2' (by kernel_rfl)
  · have he : k = B.docs.length := by omega
    subst he
    have z0 : decide ((B.docs.length : Int) < ((B.docs.map (·.t)).length : Int)) = false := decide_eq_false (by omega)
    clear hJ2
    exact leaf_cut (rgK Tryz.prog BaloneF 33 [J]) _ _ calNone false 400 [hB 23 3 _ _ z0, .stop 33] calNone_ok (by kernel_rfl) fin
theorem balone_act (F : CF) {a : Option Addr} {n cap i : Nat} (hi : i ≤ 1000) {nm : Kid} {B : BookV} (eB : BIS B) {q : HR} (hq : BHopR nm B q) {eb : Env} {R : List Chunk} {J : Act → World → Prop}
    (hJ : ∀ ε a' w, Rel (ntOf Tryz.prog BaloneF) 1 eb R ⟨stSl a n cap (i + 1), stH F q.b, 2⟩ ε a' w → J a' w) :
    Go Tryz.prog BaloneF (.val (.bool true)) ([((0, 9), .fam F)] ++ []) eb R .nrm (rgK Tryz.prog BaloneF 19 [J]) (stSl a n cap i ++ [(13, .ptr 1 8 0), (14, .ptr 1 6 0)]) (baH F B q.b nm) := by
  refine go_open (X := { u : Unit // ∀ p ∈ B.helds, KidOk p.1 }) (fun _ => baH F B q.b nm) (fun ε w hM => by
    have h1 := Mem.front (c := bookF B (ε 1 6).1 (ε 1 6).2) hM 2 rfl
    exact ⟨⟨(), book_keys h1⟩, hM⟩) (fun _ => by kernel_rfl) ?_
  rintro ⟨-, hko⟩
  have hko' : ∀ k ∈ keysL B, KidOk k := fun k hk => by
    obtain ⟨p, hp, rfl⟩ := List.mem_map.1 ((sortBy_perm cfK (B.helds.map (·.1))).mem_iff.1 hk)
    exact hko p hp
  have stay := hq.hop.stay eB.bi
  exact balone_owns F eB (hq.hop.bis eB) stay (balone_keys F hi stay (by rw [keysL_len]; exact eB.bi.hl) hko' hJ)
theorem balone_law (F : CF) {self n : Int} (hs : 0 ≤ self ∧ self ≤ 255) {a b : Option Addr} {cap cap2 : Nat} {l : List Act15} {acts : List Act18} (hRa : ∀ b v, Rd (F b v) a (cellsL act15C l)) (hRb : ∀ b' v, Rd (F b' v) b (cellsL act18L acts)) (hl : l.length ≤ 9223372036854775807) (hm : acts.length ≤ 9223372036854775807)
    (hf : ∀ x ∈ l, x.s.legs.length ≤ 9223372036854775807 ∧ x.s.taxes.length ≤ 9223372036854775807 ∧ x.s.name.size ≤ 9223372036854775807) (hA : grB l acts.length = false → ∀ x ∈ l, Act15Rd F x ∧ StI x.o.k.s ∧ StI x.h.k.s) (hW : ∀ x ∈ acts, Act18W x) :
    CallOK Tryz.prog BaloneF [.val (.int .u8 self), .val (.int .i64 n), .val (.slice a l.length cap), .val (.slice b acts.length cap2)] [((0, 9), .fam F)] [] (.val (.bool true)) [] := by
  have c0 := great18_w F (b := b) (m := acts.length) (cap := cap) (cap2 := cap2) hRa hl hm hf
  have c9 := wakes18_w
  rcases Bool.eq_false_or_eq_true (grB l acts.length) with g | g <;> rw [g] at c0
  · exact callOK_run 400 [hC 1 2 c0, hC 2 0 c9] (by kernel_rfl) (by kernel_rfl)
  have hA := hA g
  have hlen := grB_no g
  by_cases he : bookE self n = 0
  case neg =>
    have c1 := built_no (self := self) (n := n) hs he (a := a) (m := l.length) (cap := cap)
    exact callOK_run 400 [hC 1 2 c0, hC 3 3 c1, hC 5 0 c9] (by kernel_rfl) (by kernel_rfl)
  have c1 := built_ok F hs he (cap := cap) hRa (by omega) (fun x hx => (hA x hx).1)
  have eB := run_bis (bookE_ok hs.1 he) (acts := l) (fun x hx => ⟨(hA x hx).1.ok, (hA x hx).1.o, (hA x hx).2⟩) l.length (Nat.le_refl _)
  generalize run15 (bookNew self n) l l.length = B0 at *
  generalize runR (refNew self n) l l.length = R0 at *
  refine callOK_intro (by kernel_rfl) fun eb R => ?_
  refine go_loop (X := { i : Nat // i ≤ acts.length }) 0 [] (fun x => (stSl b acts.length cap2 x.1, stH F (runBo B0 acts x.1))) (fun x => acts.length - x.1) ⟨0, Nat.zero_le _⟩ calNone false 400 [hC 1 2 c0, hC 3 3 c1] calNone_ok (by kernel_rfl) ?_
  rintro ⟨i, hi⟩ J hJ
  by_cases h : i < acts.length
  · have z0 : decide ((i : Int) < (acts.length : Int)) = true := decide_eq_true (by omega)
    have hin : acts.getD i act180 ∈ acts := List.mem_of_getElem? (getD_some h act180)
    have hop := doB_hop (runBo B0 acts i) (acts.getD i act180)
    have fin := balone_do F (cap := cap2) hRb h rfl (hW _ hin) (runBo_bis eB acts i) (eb := eb) (R := R) (J := J) (balone_act F (by omega) (runBo_bis eB acts i) hop (hJ ⟨i + 1, h⟩ (by show _ - (i + 1) < _ - i; omega)))
    clear hJ c0 c1 hA
    exact leaf_cut (rgK Tryz.prog BaloneF 9 [J]) _ _ calNone false 400 [hB 7 3 _ _ z0, .stop 9] calNone_ok (by kernel_rfl) fin
  · have z0 : decide ((acts.length : Int) < (acts.length : Int)) = false := decide_eq_false (by omega)
    have e : i = acts.length := by omega
    subst e
    clear hJ c0 c1 hA
    exact leaf_end calNone false 400 [hB 7 3 _ _ z0, hC 40 0 c9] calNone_ok (by kernel_rfl)
end Go.Proofs.YtnkghdakjdhhdaaGreat
end
section
namespace Go.Proofs.YtnkghdakjdhhdaaGreat
open Go.RowKit Go.Lib Go.Tk Go.Shelf Go.Vc Go.Sx Go.WideShapes
theorem balone_any (self n : Int) (a : Option Addr) (l : List Act15) (c : Nat) (b : Option Addr) (m : List Act18) (c2 : Nat) (w : World) (hs : (Lit.int .u8 self).wf = true) (hn0 : (Lit.int .i64 n).wf = true) (hr : Row w a (cellsL act15C l)) (hn : a = none → c = 0) (hl : l.length ≤ maxLen) (ok : ∀ x ∈ l, Act15In w x)
    (hr2 : Row w b (cellsL act18L m)) (hn2 : b = none → c2 = 0) (hl2 : m.length ≤ maxLen) (ok2 : ∀ x ∈ m, Act18W x) :
    Calls Tryz.prog BaloneF #[.int .u8 self, .int .i64 n, .slice a l.length c, .slice b m.length c2] w fun e w' => e = .returned (.bool true) ∧ Below w.heap.size w w' :=
  (balone_law (fun _ _ => oldC w) (wfu8 hs) (cap := c) (cap2 := c2) (fun _ _ => rd_old hr) (fun _ _ => rd_old hr2) (maxLen_le hl) (maxLen_le hl2) (fun y hy => lens3_of (ok y hy))
    (fun hg y hy => ⟨act15Rd_of (ok y hy) (by have := ((grB_no hg).2.2 y hy).1; omega) (by have := ((grB_no hg).2.2 y hy).2; omega), (ok y hy).os, (ok y hy).hs⟩) ok2 (fun _ _ => (0, undef)) [] w (Mem.old w)).mono fun e w' ⟨x, h, hm⟩ => ⟨h, (show Mem (oldC w :: []) w' from hm).below 0 rfl⟩
end Go.Proofs.YtnkghdakjdhhdaaGreat
end
section
namespace Go.Proofs.YtnkghdakjdhhdaaGreat.billAloneF
open Go
theorem closed : joinedFacts Tryz.pinned.checked.prog 7 Tryz.f7 Rows.billAloneSpec Rows.billAloneRow = true := by kernel_rfl
theorem inst : Tryz.f7.isInstance Tryz.pinned.checked.prog Rows.billAloneRow.origin Rows.billAloneRow.targs := of_decide_eq_true (by kernel_rfl)
theorem wrap : Tryz.f7.isWrapper Tryz.pinned.checked.prog Rows.billAloneRow.wrapper Rows.billAloneRow.mainSum := by
  unfold Func.isWrapper
  first | (rw [if_pos (by decide +kernel)]; kernel_rfl) | (rw [if_neg (by decide +kernel)]; exact ⟨rfl, rfl⟩)
end Go.Proofs.YtnkghdakjdhhdaaGreat.billAloneF
end
