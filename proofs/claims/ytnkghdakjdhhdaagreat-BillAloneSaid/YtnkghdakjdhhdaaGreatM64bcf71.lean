/- Sm3, Sm4, EaW5, StW, Bi4. -/
import Derived.Test.YtnkghdakjdhhdaaGreatM659a975
import Derived.Test.YtnkghdakjdhhdaaGreatM588466c
import Derived.Test.YtnkghdakjdhhdaaGreatM421640f
import Derived.Test.YtnkghdakjdhhdaaGreatM242dd63
import Derived.Test.YtnkghdakjdhhdaaGreatM506f9cf
import Derived.Test.YtnkghdakjdhhdaaGreatM3981284
set_option maxRecDepth 100000
set_option linter.unusedVariables false
set_option linter.unusedSimpArgs false
set_option linter.unusedSectionVars false
section
namespace Go.Proofs.YtnkghdakjdhhdaaGreat
open Go.RowKit Go.Lib Go.Tk Go.Shelf Go.Vc Go.Sx Go.Maps
def AlikeF : Nat := 70
structure DocRd (F : CF) (d : DocV) (a : DocA) : Prop where
  hl : ∀ b v, Rd (F b v) a.la (cellsL encLeg d.s.legs)
  ht : ∀ b v, Rd (F b v) a.ta (cellsL encTax d.s.taxes)
  hv : ∀ b v, Rd (F b v) a.va (d.vals.map (.int .i64))
  nl : a.la = none → a.lc = 0
  nt : a.ta = none → a.tc = 0
def tEq (a b : Tid) : Bool := decide (a.c = b.c) && (decide (a.r = b.r) && true)
theorem tEq_iff (a b : Tid) : tEq a b = true ↔ a = b := by
  obtain ⟨a1, a2⟩ := a
  obtain ⟨b1, b2⟩ := b
  simp [tEq]
theorem tEq_no {a b : Tid} (h : tEq a b = false) : a ≠ b := fun e => by rw [(tEq_iff a b).2 e] at h; cases h
theorem alike_w (F1 F2 : CF) {d e : DocV} {a b : DocA} (r1 : DocRd F1 d a) (r2 : DocRd F2 e b) (ok1 : SaleOk d.s) (ok2 : SaleOk e.s) (hv : d.vals.length ≤ 1073741824) :
    CallOK Tryz.prog AlikeF [.agg (docSA d a), .agg (docSA e b)] [((0, 11), .fam F1), ((0, 7), .fam F2)] [] (.val (.bool (decide (d = e)))) [] := by
  have c1 := tsame_w F1 F2 (A := ⟨a.la, a.lc, a.ta, a.tc⟩) (B := ⟨b.la, b.lc, b.ta, b.tc⟩) r1.hl r1.ht r2.hl r2.ht r1.nl r1.nt r2.nl r2.nt ok1 ok2
  have c2 := eqI_w F1 F2 (c1 := a.vc) (c2 := b.vc) r1.hv r2.hv hv
  have c3 := eq5_w d e
  have no : d ≠ e → (false : Bool) = decide (d = e) := fun h => (decide_eq_false h).symm
  rcases Bool.eq_false_or_eq_true (decide (d.s = e.s)) with h1 | h1
  case inr =>
    rw [← no fun q => of_decide_eq_false h1 (by rw [q])]
    exact callOK_run 400 [hC 1 4 c1, hB 1 4 _ _ h1] (by kernel_rfl) (by kernel_rfl)
  rcases Bool.eq_false_or_eq_true (decide (d.vals = e.vals)) with h2 | h2
  case inr =>
    rw [← no fun q => of_decide_eq_false h2 (by rw [q])]
    exact callOK_run 400 [hC 1 4 c1, hB 1 4 _ _ h1, hC 1 10 c2, hB 1 10 _ _ h2] (by kernel_rfl) (by kernel_rfl)
  rcases Bool.eq_false_or_eq_true (tEq d.t e.t) with h3 | h3
  case inr =>
    rw [← no fun q => tEq_no h3 (by rw [q])]
    unfold tEq at h3
    exact callOK_run 400 [hC 1 4 c1, hB 1 4 _ _ h1, hC 1 10 c2, hB 1 10 _ _ h2, hB 1 17 _ _ h3] (by kernel_rfl) (by kernel_rfl)
  rcases Bool.eq_false_or_eq_true (tEq d.frm e.frm) with h4 | h4
  case inr =>
    rw [← no fun q => tEq_no h4 (by rw [q])]
    unfold tEq at h3 h4
    exact callOK_run 400 [hC 1 4 c1, hB 1 4 _ _ h1, hC 1 10 c2, hB 1 10 _ _ h2, hB 1 17 _ _ h3, hB 1 24 _ _ h4] (by kernel_rfl) (by kernel_rfl)
  rcases Bool.eq_false_or_eq_true (tEq d.dst e.dst) with h5 | h5
  case inr =>
    rw [← no fun q => tEq_no h5 (by rw [q])]
    unfold tEq at h3 h4 h5
    exact callOK_run 400 [hC 1 4 c1, hB 1 4 _ _ h1, hC 1 10 c2, hB 1 10 _ _ h2, hB 1 17 _ _ h3, hB 1 24 _ _ h4, hB 1 31 _ _ h5] (by kernel_rfl) (by kernel_rfl)
  rcases Bool.eq_false_or_eq_true (decide (fiveL d = fiveL e)) with h6 | h6
  case inr =>
    rw [← no fun q => of_decide_eq_false h6 (by rw [q])]
    unfold tEq at h3 h4 h5
    exact callOK_run 400 [hC 1 4 c1, hB 1 4 _ _ h1, hC 1 10 c2, hB 1 10 _ _ h2, hB 1 17 _ _ h3, hB 1 24 _ _ h4, hB 1 31 _ _ h5, hG 1 56 c3, hB 1 56 _ _ h6] (by kernel_rfl) (by kernel_rfl)
  have he : d = e := by
    have g1 := of_decide_eq_true h1
    have g2 := of_decide_eq_true h2
    have g3 := (tEq_iff _ _).1 h3
    have g4 := (tEq_iff _ _).1 h4
    have g5 := (tEq_iff _ _).1 h5
    have g6 := of_decide_eq_true h6
    obtain ⟨t, s, vs, f, x, q1, q2, q3, q4, q5⟩ := d
    obtain ⟨t', s', vs', f', x', p1, p2, p3, p4, p5⟩ := e
    simp only [fiveL, List.cons.injEq, and_true] at g6
    simp only at g1 g2 g3 g4 g5
    obtain ⟨k1, k2, k3, k4, k5⟩ := g6
    subst g1 g2 g3 g4 g5 k1 k2 k3 k4 k5
    rfl
  rw [decide_eq_true he]
  clear he no
  unfold tEq at h3 h4 h5
  exact callOK_run 400 [hC 1 4 c1, hB 1 4 _ _ h1, hC 1 10 c2, hB 1 10 _ _ h2, hB 1 17 _ _ h3, hB 1 24 _ _ h4, hB 1 31 _ _ h5, hG 1 56 c3, hB 1 56 _ _ h6] (by kernel_rfl) (by kernel_rfl)
def dKV (ds : List DocV) : List (Tid × DocV) := ds.map fun d => (d.t, d)
theorem lkt_dKV (t : Tid) : ∀ M : List (DocV × DocA), lkt (dKV (M.map (·.1))) t = (lkt (docKV M) t).map (·.1)
  | [] => rfl
  | p :: M => by
    show (if p.1.t = t then some p.1 else lkt (dKV (M.map (·.1))) t) = ((if p.1.t = t then some p else lkt (docKV M) t) : Option (DocV × DocA)).map (·.1)
    rw [lkt_dKV t M]
    split <;> rfl
structure DocsOk (L : List (DocV × DocA)) : Prop where
  sal : ∀ p ∈ L, SaleOk p.1.s
  vl : ∀ p ∈ L, p.1.vals.length ≤ 1073741824
def NilsOk (p : DocV × DocA) : Prop := (p.2.la = none → p.2.lc = 0) ∧ (p.2.ta = none → p.2.tc = 0)
theorem rows_rd {L : List (DocV × DocA)} {p : DocV × DocA} (hp : p ∈ L) (hn : NilsOk p) : DocRd (fun _ _ => rowsC L) p.1 p.2 :=
  ⟨fun b v S w h => (h p hp).legs, fun b v S w h => (h p hp).taxes, fun b v S w h => (h p hp).vals, hn.1, hn.2⟩
theorem docsF_rd {L : List (DocV × DocA)} {p : DocV × DocA} (hp : p ∈ L) (hn : NilsOk p) : DocRd (docsF L) p.1 p.2 := by
  have h := docs_rd (L := L) (M := []) (.inl hp)
  exact ⟨h.1, h.2.1, h.2.2, hn.1, hn.2⟩
def EqDF : Nat := 69
theorem eqD_w (m : Nat) (L M : List (DocV × DocA)) (ok1 : DocsOk L) (ok2 : DocsOk M) : CallOK Tryz.prog EqDF [.val (.map (some m)), .map 0 7, .fn (.func AlikeF) [] []] [((0, 11), .fam fun _ _ => rowsC L), ((0, 7), .fam (docsF M))] [((0, 12), .fam fun _ _ => mapC tidK m (ents docW (docKV L)))]
    (.val (.bool (sameM (dKV (L.map (·.1))) (dKV (M.map (·.1)))))) [((0, 12), .fam fun _ _ => mapC tidK m (ents docW (docKV L)))] := by
  have l1 := len_val (K := tidK) (m := m) (j := 12) (n := L.length) (L := ents docW (docKV L)) (by simp [ents, docKV])
  have l2 := len_docs M []
  have e1 : (dKV (L.map (·.1))).length = L.length := by simp [dKV]
  have e2 : (dKV (M.map (·.1))).length = M.length := by simp [dKV]
  by_cases hl : L.length = M.length
  case neg =>
    rw [sameM_len (by rw [e1, e2]; exact hl)]
    clear e1 e2
    have q0 : (!decide ((L.length : Int) = (M.length : Int))) = true := by simp; omega
    exact callOK_run 400 [hG 1 1 l1, hG 1 3 l2, hB 1 4 _ _ q0] (by kernel_rfl) (by kernel_rfl)
  have hs : (dKV (L.map (·.1))).length = (dKV (M.map (·.1))).length := by rw [e1, e2]; exact hl
  have hs := hid hs
  have hl := hid hl
  have q0 : (!decide ((L.length : Int) = (M.length : Int))) = false := by have := hl.out; simp; omega
  clear e1 e2
  refine callOK_intro (by kernel_rfl) fun eb R => ?_
  refine go_open (X := { u : Unit // (∀ p ∈ docKV L, TidOk p.1) ∧ (∀ p ∈ L, NilsOk p) ∧ ∀ p ∈ M, NilsOk p }) (fun _ => [((0, 12), .fam fun _ _ => mapC tidK m (ents docW (docKV L))), ((0, 11), .fam fun _ _ => rowsC L), ((0, 7), .fam (docsF M))])
    (fun ε w hM => by
      have hM : Mem (rowsC L :: docsF M (ε 0 7).1 (ε 0 7).2 :: mapC tidK m (ents docW (docKV L)) :: R) w := hM
      have h1 := hM.front 2 rfl
      refine ⟨⟨(), (map_facts h1).2, fun p hp => ?_, fun p hp => ?_⟩, h1⟩
      · refine hM.of 0 rfl (φ := NilsOk p) fun S hS => ?_
        have := hS p hp
        exact ⟨fun e => (this.okl.nil e).2, fun e => (this.okt.nil e).2⟩
      · have h2 := docs_ok (L := M) (M := []) (p := p) (.inl hp) (hM.front 1 rfl)
        exact ⟨fun e => (h2.1.nil e).2, fun e => (h2.2.1.nil e).2⟩) (fun _ => by kernel_rfl) ?_
  rintro ⟨-, hok, hn1, hn2⟩
  have r1 := rangeG (P := Tryz.prog) (K := tidK) (t := DT) (m := m) (j := 12) (L := ents docW (docKV L)) Tryz.underlying117
  have d1 := next_doneG (P := Tryz.prog) (K := tidK) (m := m) (L := ents docW (docKV L))
  refine go_loop (X := { x : List (Tid × (DocV × DocA)) × List (Tid × (DocV × DocA)) // (docKV L).Perm (x.1 ++ x.2) ∧ ∀ p ∈ x.1, lkt (dKV (M.map (·.1))) p.1 = some p.2.1 }) 0 [] (fun x => ([(1, .map 0 7), (2, .fn (.func AlikeF) [] []), (17, .ptr 1 9 0)],
      [((0, 11), .fam fun _ _ => rowsC L), ((0, 7), .fam (docsF M)), ((1, 9), .fam fun r _ => rngC tidK r m (ents docW (docKV L)) (ents docW x.1.2))]))
    (fun x => x.1.2.length) ⟨([], docKV L), List.Perm.refl _, fun p hp => by cases hp⟩ calNone false 400 [hG 1 1 l1, hG 1 3 l2, hB 1 4 _ _ q0, hG 3 1 r1] calNone_ok (by kernel_rfl) ?_
  rintro ⟨⟨done, left⟩, hd, hdone⟩ J hJ
  have back : ∀ {left : List (Tid × (DocV × DocA))} (b : Bool), Go Tryz.prog EqDF (.val (.bool b)) ([((0, 11), .fam fun _ _ => rowsC L), ((0, 7), .fam (docsF M))] ++ [((0, 12), .fam fun _ _ => mapC tidK m (ents docW (docKV L)))]) eb R .nrm (rgK Tryz.prog EqDF (bif b then 9 else 8) [J]) [] [((0, 11), .fam fun _ _ => rowsC L), ((0, 7), .fam (docsF M)), ((1, 9), .fam fun r _ => rngC tidK r m (ents docW (docKV L)) (ents docW left))] := fun {left} b => by
    refine go_open (X := Unit) (fun _ => [((0, 12), .fam fun _ _ => mapC tidK m (ents docW (docKV L))), ((0, 11), .fam fun _ _ => rowsC L), ((0, 7), .fam (docsF M))]) (fun ε w hM => ⟨(), by
      have hM : Mem (rowsC L :: docsF M (ε 0 7).1 (ε 0 7).2 :: rngC tidK (ε 1 9).1 m (ents docW (docKV L)) (ents docW left) :: R) w := hM
      exact (hM.front 2 rfl).weaken (c' := mapC tidK m (ents docW (docKV L))) fun S hS => ⟨hS.2.1, hS.2.2.map⟩⟩) (fun _ => by kernel_rfl) fun _ => ?_
    cases b
    · exact leaf_end calNone false 400 [] calNone_ok (by kernel_rfl)
    · exact leaf_end calNone false 400 [] calNone_ok (by kernel_rfl)
  have toL : ∀ p ∈ docKV L, (p.1, p.2.1) ∈ dKV (L.map (·.1)) := fun p hp => by
    obtain ⟨q, hq, rfl⟩ := List.mem_map.1 hp
    exact List.mem_map.2 ⟨q.1, List.mem_map_of_mem hq, rfl⟩
  cases left with
  | cons x l =>
    have m1 := next_moreG (P := Tryz.prog) (K := tidK) (m := m) (L := ents docW (docKV L)) (left := ents docW (x :: l)) (by simp [ents])
    refine leaf_cut (rgK Tryz.prog EqDF 5 [J]) [(1, .map 0 7), (2, .fn (.func AlikeF) [] []), (17, .ptr 1 9 0)]
      [((1, 9), .fam fun r _ => exC fun (y : (Tid × Value) × List (Tid × Value)) => curC tidK r m (ents docW (docKV L)) (ents docW (x :: l)) y.1 y.2), ((0, 11), .fam fun _ _ => rowsC L), ((0, 7), .fam (docsF M))]
      calNone false 400 [hG 4 0 m1, .stop 5] calNone_ok (by kernel_rfl) ?_
    refine go_open (X := { y : (Tid × (DocV × DocA)) × List (Tid × (DocV × DocA)) // (x :: l).Perm (y.1 :: y.2) }) (fun y => [((1, 9), .fam fun r _ => curC tidK r m (ents docW (docKV L)) (ents docW (x :: l)) (y.1.1.1, docW y.1.1.2) (ents docW y.1.2)), ((0, 11), .fam fun _ _ => rowsC L), ((0, 7), .fam (docsF M))])
      (fun ε w hM => cur_typed hM) (fun y => by kernel_rfl) ?_
    rintro ⟨⟨⟨k, p⟩, l'⟩, hp⟩
    have hd' : (docKV L).Perm ((done ++ [(k, p)]) ++ l') := by
      rw [List.append_assoc]
      exact hd.trans (List.Perm.append_left done hp)
    have hlt : l'.length < (x :: l).length := by have := hp.length_eq; simp only [List.length_cons] at this ⊢; omega
    have hmem : (k, p) ∈ docKV L := hd'.mem_iff.2 (by simp)
    have hmd := toL _ hmem
    obtain ⟨q, hq, hqe⟩ := List.mem_map.1 hmem
    injection hqe with e1 e2
    subst e2
    subst e1
    have hk := hok _ hmem
    have g1 := entryG (P := Tryz.prog) (K := tidK) (m := m) (L := ents docW (docKV L)) (left := ents docW (x :: l)) (left' := ents docW l') (p := (q.1.t, docW q)) (ks := .agg (tidS q.1.t)) (vs := .agg (docSA q.1 q.2)) (fun _ => rfl) (fun _ => rfl)
    have c1 := look_docs M [] (t := q.1.t) hk
    have hlk := lkt_dKV q.1.t M
    cases hf : lkt (docKV M) q.1.t with
    | none =>
      rw [hf] at c1 hlk
      rw [sameM_bad hmd (by rw [hlk]; simp)]
      clear hlk
      exact leaf_cut (rgK Tryz.prog EqDF 8 [J]) _ _ calNone false 400 [hG 5 0 g1, hG 6 2 c1, .stop 8] calNone_ok (by kernel_rfl) (back (left := l') false)
    | some r =>
      rw [hf] at c1 hlk
      have hr := (mem_kv hf).1
      have c2 := alike_w (fun _ _ => rowsC L) (docsF M) (rows_rd hq (hn1 q hq)) (docsF_rd hr (hn2 r hr)) (ok1.sal q hq) (ok2.sal r hr) (ok1.vl q hq)
      rcases Bool.eq_false_or_eq_true (decide (q.1 = r.1)) with he | he
      · have hJ' := hJ ⟨(done ++ [(q.1.t, q)], l'), hd', fun p hp => by
          rcases List.mem_append.1 hp with hp | hp
          · exact hdone p hp
          · rw [List.mem_singleton.1 hp]
            show lkt (dKV (M.map (·.1))) q.1.t = some q.1
            rw [hlk, of_decide_eq_true he]; rfl⟩ hlt
        exact leaf_round (lpK Tryz.prog EqDF 0 []) false 400 [hG 5 0 g1, hG 6 2 c1, hC 7 6 c2, hB 7 6 _ _ he] hJ' (by kernel_rfl)
      · rw [sameM_bad hmd (by rw [hlk]; intro e; injection e with e; exact of_decide_eq_false he e.symm)]
        clear hlk
        exact leaf_cut (rgK Tryz.prog EqDF 8 [J]) _ _ calNone false 400 [hG 5 0 g1, hG 6 2 c1, hC 7 6 c2, hB 7 6 _ _ he, .stop 8] calNone_ok (by kernel_rfl) (back (left := l') false)
  | nil =>
    rw [List.append_nil] at hd
    rw [sameM_mk hs.out fun p hp => by
      obtain ⟨d, hd0, rfl⟩ := List.mem_map.1 hp
      obtain ⟨q, hq, rfl⟩ := List.mem_map.1 hd0
      exact hdone (q.1.t, q) (hd.mem_iff.1 (List.mem_map_of_mem (f := fun p : DocV × DocA => (p.1.t, p)) hq))]
    exact leaf_cut (rgK Tryz.prog EqDF 9 []) _ _ calNone false 400 [hG 4 0 d1, .stop 9] calNone_ok (by kernel_rfl) (back (left := []) true)
end Go.Proofs.YtnkghdakjdhhdaaGreat
end
section
namespace Go.Proofs.YtnkghdakjdhhdaaGreat
open Go.RowKit Go.Lib Go.Tk Go.Shelf Go.Vc Go.Sx Go.Maps
theorem eqO_r (m : Nat) (L M : OwnsV) : CallOK Tryz.prog EqO [.val (.map (some m)), .map 0 7] [((0, 7), ownsF M), ((0, 5), .fam fun _ _ => mapC kidK m (ents ownW L))] [] (.val (.bool (sameM L M))) [] :=
  CallOK.to_rd (rd := [((0, 7), ownsF M), ((0, 5), .fam fun _ _ => mapC kidK m (ents ownW L))]) (pre := []) (post := []) (eqO_w m L M).of_rd
theorem eqH_r (m : Nat) (L M : HeldsV) : CallOK Tryz.prog EqH [.val (.map (some m)), .map 0 7] [((0, 7), heldsF M), ((0, 6), .fam fun _ _ => mapC kidK m (ents heldW L))] [] (.val (.bool (sameM L M))) [] :=
  CallOK.to_rd (rd := [((0, 7), heldsF M), ((0, 6), .fam fun _ _ => mapC kidK m (ents heldW L))]) (pre := []) (post := []) (eqH_w m L M).of_rd
theorem eqD_r (m : Nat) (L M : List (DocV × DocA)) (ok1 : DocsOk L) (ok2 : DocsOk M) : CallOK Tryz.prog EqDF [.val (.map (some m)), .map 0 7, .fn (.func AlikeF) [] []] [((0, 11), .fam fun _ _ => rowsC L), ((0, 7), .fam (docsF M)), ((0, 12), .fam fun _ _ => mapC tidK m (ents docW (docKV L)))] [] (.val (.bool (sameM (dKV (L.map (·.1))) (dKV (M.map (·.1)))))) [] :=
  CallOK.to_rd (rd := [((0, 11), .fam fun _ _ => rowsC L), ((0, 7), .fam (docsF M)), ((0, 12), .fam fun _ _ => mapC tidK m (ents docW (docKV L)))]) (pre := []) (post := []) (eqD_w m L M ok1 ok2).of_rd
def SameBF : Nat := 15
def sameB (B C : BookV) : Bool := decide (B.self = C.self) && (decide (B.n = C.n) && (sameM (dKV B.docs) (dKV C.docs) && (sameM B.owns C.owns && sameM B.helds C.helds)))
def sameH (B C : BookV) (a : BkA) (L M : List (DocV × DocA)) : Heap := [((0, 20), oldB B a), ((0, 12), .fam fun _ _ => mapC tidK a.d (ents docW (docKV L))), ((0, 11), .fam fun _ _ => rowsC L), ((0, 5), .fam fun _ _ => mapC kidK a.o (ents ownW B.owns)), ((0, 6), .fam fun _ _ => mapC kidK a.h (ents heldW B.helds))] ++ bkH (docsF M) C
theorem same_open (B C : BookV) (a : BkA) {L M : List (DocV × DocA)} (hL : L.map (·.1) = B.docs) (hM : M.map (·.1) = C.docs) (ok1 : DocsOk L) (ok2 : DocsOk M) : CallOK Tryz.prog SameBF [.ptr 0 20 0, .ptr 0 0 0] (sameH B C a L M) [] (.val (.bool (sameB B C))) [] := by
  have c1 := eqD_r a.d L M ok1 ok2
  rw [hL, hM] at c1
  have c2 := eqO_r a.o B.owns C.owns
  have c3 := eqH_r a.h B.helds C.helds
  clear hL hM
  have hS : sameB B C = (decide (B.self = C.self) && (decide (B.n = C.n) && (sameM (dKV B.docs) (dKV C.docs) && (sameM B.owns C.owns && sameM B.helds C.helds)))) := rfl
  generalize sameM (dKV B.docs) (dKV C.docs) = b1 at *
  generalize sameM B.owns C.owns = b2 at *
  generalize sameM B.helds C.helds = b3 at *
  rw [hS]
  clear hS
  rcases Bool.eq_false_or_eq_true (decide (B.self = C.self)) with h1 | h1 <;> rw [h1]
  case inr => exact callOK_run 400 [hB 3 8 _ _ h1] (by kernel_rfl) (by kernel_rfl)
  rcases Bool.eq_false_or_eq_true (decide (B.n = C.n)) with h2 | h2 <;> rw [h2]
  case inr => exact callOK_run 400 [hB 3 8 _ _ h1, hB 3 18 _ _ h2] (by kernel_rfl) (by kernel_rfl)
  cases b1
  · exact callOK_run 400 [hB 3 8 _ _ h1, hB 3 18 _ _ h2, hC 3 29 c1] (by kernel_rfl) (by kernel_rfl)
  cases b2
  · exact callOK_run 400 [hB 3 8 _ _ h1, hB 3 18 _ _ h2, hC 3 29 c1, hC 3 40 c2] (by kernel_rfl) (by kernel_rfl)
  cases b3
  · exact callOK_run 400 [hB 3 8 _ _ h1, hB 3 18 _ _ h2, hC 3 29 c1, hC 3 40 c2, hC 3 51 c3] (by kernel_rfl) (by kernel_rfl)
  · exact callOK_run 400 [hB 3 8 _ _ h1, hB 3 18 _ _ h2, hC 3 29 c1, hC 3 40 c2, hC 3 51 c3] (by kernel_rfl) (by kernel_rfl)
structure DsOk (ds : List DocV) : Prop where
  sal : ∀ d ∈ ds, SaleOk d.s
  vl : ∀ d ∈ ds, d.vals.length ≤ 1073741824
theorem DsOk.docs {ds : List DocV} (h : DsOk ds) {L : List (DocV × DocA)} (hL : L.map (·.1) = ds) : DocsOk L := ⟨fun p hp => h.sal _ (hL ▸ List.mem_map_of_mem hp), fun p hp => h.vl _ (hL ▸ List.mem_map_of_mem hp)⟩
theorem same_w0 (B C : BookV) (ok1 : DsOk B.docs) (ok2 : DsOk C.docs) : CallOK Tryz.prog SameBF [.ptr 0 20 0, .ptr 0 0 0] [((0, 20), .fam (bookF B))] (bkH (docsX C.docs) C) (.val (.bool (sameB B C))) (bkH (docsX C.docs) C) := by
  intro ε R w hM
  have hM : Mem (bookF B (ε 0 20).1 (ε 0 20).2 :: boxE none (ε 0 0).1 #[.int .u8 C.self, .int .i64 C.n, .map (some (ε 0 1).1), .map (some (ε 0 2).1), .map (some (ε 0 3).1)] :: docsX C.docs (ε 0 1).1 (ε 0 1).2 :: mapT kidK ownW C.owns (ε 0 2).1 (ε 0 2).2 :: mapT kidK heldW C.helds (ε 0 3).1 (ε 0 3).2 :: R) w := hM
  obtain ⟨a, h⟩ := Mem.ex hM
  have h2 := h.all.front 1 rfl
  obtain ⟨⟨L, hL⟩, h3⟩ := Mem.ex h2
  have h4 := docs_split h3
  have h5 := h4.front 6 rfl
  obtain ⟨⟨M, hM'⟩, h6⟩ := Mem.ex h5
  have h7 := ((((((((h6.front 8 rfl).front 8 rfl).front 2 rfl).front 8 rfl).front 8 rfl).front 8 rfl).front 7 rfl).front 7 rfl).front 8 rfl
  refine ((same_open B C a hL hM' (ok1.docs hL) (ok2.docs hM')).of_rd.post_mono (post' := [((0, 20), .fam (bookF B))] ++ bkH (docsX C.docs) C) (fun ε R w hm => ?_)) ε R w h7
  have hm : Mem (boxE none (ε 0 20).1 #[.int .u8 B.self, .int .i64 B.n, .map (some a.d), .map (some a.o), .map (some a.h)] :: mapC tidK a.d (ents docW (docKV L)) :: rowsC L :: mapC kidK a.o (ents ownW B.owns) :: mapC kidK a.h (ents heldW B.helds) :: boxE none (ε 0 0).1 #[.int .u8 C.self, .int .i64 C.n, .map (some (ε 0 1).1), .map (some (ε 0 2).1), .map (some (ε 0 3).1)] :: docsF M (ε 0 1).1 (ε 0 1).2 :: mapT kidK ownW C.owns (ε 0 2).1 (ε 0 2).2 :: mapT kidK heldW C.helds (ε 0 3).1 (ε 0 3).2 :: R) w := hm
  have k1 := docs_shut (v := undef) (((hm.front 1 rfl).front 2 rfl).front 1 rfl)
  have k2 : Mem (docsX B.docs a.d undef :: _) w := Mem.in_ex ⟨L, hL⟩ k1
  have k3 := Mem.in_ex (f := fun y : BkA => allC [boxE none (ε 0 20).1 #[.int .u8 B.self, .int .i64 B.n, .map (some y.d), .map (some y.o), .map (some y.h)], docsX B.docs y.d undef, mapT kidK ownW B.owns y.o undef, mapT kidK heldW B.helds y.h undef]) a (Mem.in_all (l := [_, _, _, _]) (k2.front 1 rfl))
  have k4 : Mem (docsX C.docs (ε 0 1).1 (ε 0 1).2 :: _) w := Mem.in_ex ⟨M, hM'⟩ (k3.front 2 rfl)
  exact (((k4.front 1 rfl).front 2 rfl).front 1 rfl)
theorem same_c (B C : BookV) (ok1 : DsOk B.docs) (ok2 : DsOk C.docs) : CallOK Tryz.prog SameBF [.ptr 0 20 0, .ptr 0 0 0] [((0, 20), .fam (bookF B))] (bkC C) (.val (.bool (sameB B C))) (bkC C) :=
  shut (post := []) (B := C) (B' := C) (same_w0 B C ok1 ok2) rfl rfl rfl rfl
theorem sameB_self {B : BookV} (h1 : (B.docs.map (·.t)).Nodup) (h2 : (B.owns.map (·.1)).Nodup) (h3 : (B.helds.map (·.1)).Nodup) : sameB B B = true := by
  unfold sameB
  rw [sameM_self (L := dKV B.docs) (by unfold dKV; rw [List.map_map]; exact h1), sameM_self h2, sameM_self h3]
  simp
end Go.Proofs.YtnkghdakjdhhdaaGreat
end
section
namespace Go.Proofs.YtnkghdakjdhhdaaGreat
open Go.RowKit Go.Lib Go.Tk Go.Shelf Go.Vc Go.Sx
theorem ExOk.ds {B : BookV} (h : ExOk B) : DsOk B.docs := ⟨h.sal, fun d hd => (h.sm d hd).nv⟩
theorem ExOk.cl {B : BookV} (h : ExOk B) : ∀ d ∈ B.docs, TidOk d.t ∧ DocSmall d := fun d hd => ⟨tid_docs h.bk hd, h.sm d hd⟩
theorem book_facts {B : BookV} {b : Nat} {v : Value} {R : List Chunk} {w : World} (h : Mem (bookF B b v :: R) w) : (B.owns.map (·.1)).Nodup ∧ (B.helds.map (·.1)).Nodup := by
  obtain ⟨a, h1⟩ := Mem.ex h
  have h2 := h1.all
  have h3 : Mem (mapC kidK a.o (ents ownW B.owns) :: _) w := h2.front 2 rfl
  have h4 : Mem (mapC kidK a.h (ents heldW B.helds) :: _) w := h2.front 3 rfl
  exact ⟨(map_facts h3).1, (map_facts h4).1⟩
end Go.Proofs.YtnkghdakjdhhdaaGreat
end
section
namespace Go.Proofs.YtnkghdakjdhhdaaGreat
open Go.RowKit Go.Lib Go.Tk Go.Shelf Go.Vc Go.Sx
def stSl (a : Option Addr) (n cap i : Nat) : Slots := [(3, .val (.slice a n cap)), (9, .ptr 1 0 0), (11, .val (.int .i64 (i : Int)))]
def stH (F : CF) (B : BookV) : Heap := [((0, 9), .fam F), ((1, 0), .fam (bookF B))]
theorem BIN.ds {B : BookV} (h : BIN B) : DsOk B.docs := ⟨h.bi.ex.sal, fun d hd => (h.bi.ex.sm d hd).nv⟩
theorem BIN.cl {B : BookV} (h : BIN B) : ∀ d ∈ B.docs, TidOk d.t ∧ DocSmall d := fun d hd => ⟨tid_docs h.bi.ex.bk hd, h.bi.ex.sm d hd⟩
end Go.Proofs.YtnkghdakjdhhdaaGreat
end
section
namespace Go.Proofs.YtnkghdakjdhhdaaGreat
open Go.RowKit Go.Lib Go.Tk Go.Shelf Go.Vc Go.Sx
def PairF : Nat := 95
def WakesF18 : Nat := 38
def BmineF : Nat := 47
theorem bmine_bill : CallOK Tryz.prog BmineF [.val (.int .u8 6)] [] [] (.val (.bool true)) [] := callOK_run 400 [] (by kernel_rfl) (by kernel_rfl)
theorem bmine_want : CallOK Tryz.prog BmineF [.val (.int .u8 1)] [] [] (.val (.bool false)) [] := callOK_run 400 [] (by kernel_rfl) (by kernel_rfl)
theorem kB_ok : KidOk kB := keyA_ok (by decide) (by decide)
theorem pair_w : CallOK Tryz.prog PairF [] [] [] (.tup [.ptr 1 0 0, .ptr 1 1 0, .agg (kidS kB), .val (.bool true)]) [((1, 0), .fam (bookF pairA)), ((1, 1), .fam (bookF pairB))] := by
  have hv := own_50
  have n1 := new_okC (self := 0) (n := 3) (by decide) (by decide)
  have n2 := new_okC (self := 1) (n := 3) (by decide) (by decide)
  have n4 := issue_okR (book_new_ok 0 3 (by decide)) sale16_ok iss16
  have hself : ((bookNew 0 3).issued sale16).self = 0 := rfl
  have hn : ((bookNew 0 3).issued sale16).n = 3 := rfl
  unfold pairA
  generalize (bookNew 0 3).issued sale16 = A at *
  have c1 := want_c (bookNew 1 3) kB_ok
  rw [show wantQ (bookNew 1 3) kB = ⟨[⟨0, ⟨1, kB, cpn0, 0, 0⟩⟩], 0, wantB⟩ from rfl] at c1
  have c2 := hear_c A (c := 1) (by decide) ⟨1, kB, cpn0, 0, 0⟩ (by decide) kB_ok
  rw [show hearQ A 1 ⟨1, kB, cpn0, 0, 0⟩ = ⟨[⟨1, ⟨2, kB, heldK 50, 0, 0⟩⟩], 0, A.setO kB (givenA 50)⟩ by unfold hearQ badHear hearDo hwantQ; rw [hself, hn, hv]; rfl] at c2
  have c3 := hear_c wantB (c := 0) (by decide) ⟨2, kB, heldK 50, 0, 0⟩ ⟨by show (0 : Int) ≤ 2; decide, by show (2 : Int) ≤ 255; decide⟩ kB_ok
  rw [show hearQ wantB 0 ⟨2, kB, heldK 50, 0, 0⟩ = ⟨[], 0, heldB 50⟩ from rfl] at c3
  exact callOK_run 600 [hC 1 0 n1, hC 2 0 n2, hC 3 5 n4, hC 5 2 c1, hC 8 5 c2, hC 11 5 c3] (by kernel_rfl) (by kernel_rfl)
theorem use_t {B : BookV} (hB : B.owns = []) (hh : ∀ h, lkt B.helds kB = some h → 0 ≤ h.k.s ∧ h.k.s ≤ 255) {cmd : Int} (hc : 0 ≤ cmd ∧ cmd ≤ 255) {q : HR} (hq : useQ B kB cmd = q) :
    CallOK Tryz.prog UseF [.ptr 0 0 0, .agg (kidS kB), .val (.int .u8 cmd)] [] (bkC B) (.tup [.raw 1 0, eN q.e]) (bkC q.b ++ [((1, 0), outsC q.out)]) := by
  have h := use_c B kB_ok hc (fun o ho => by rw [hB] at ho; cases ho) hh
  rw [hq] at h
  exact h
theorem heldT_s {s : Int} {p b : Bool} (h0 : 0 ≤ s ∧ s ≤ 255) : ∀ h, lkt (bookT s p b).helds kB = some h → 0 ≤ h.k.s ∧ h.k.s ≤ 255 := fun h hh => by
  have hh : some (heldT s p b) = some h := hh
  cases hh
  exact h0
theorem pairB_s : ∀ h, lkt pairB.helds kB = some h → 0 ≤ h.k.s ∧ h.k.s ≤ 255 := fun h hh => by
  have hh : some (newH (heldK 50)) = some h := hh
  cases hh
  show (0 : Int) ≤ 1 ∧ (1 : Int) ≤ 255; decide
theorem wakes18_w : CallOK Tryz.prog WakesF18 [] [] [] (.val (.bool true)) [] := by
  have c1 := pair_w
  have c2 := use_t (B := pairB) rfl pairB_s (cmd := 12) (by decide) use_fly0
  have c3 := use_t (B := pairB) rfl pairB_s (cmd := 9) (by decide) use_check
  have c4 := use_t (B := bookT 2 false false) rfl (heldT_s (by decide)) (cmd := 11) (by decide) use_board
  have c5 := use_t (B := bookT 3 false false) rfl (heldT_s (by decide)) (cmd := 12) (by decide) use_fly
  have c6 := hearB_c pairA (c := 1) (by decide) ⟨6, kB, cpn0, 50, 0⟩ (by decide) kB_ok
  rw [bill_come] at c6
  have c7 := own_c paidA kB_ok
  rw [paidA_own] at c7
  have c8 := bmine_bill
  have c9 := bmine_want
  exact callOK_run 900 [hC 1 0 c1, hC 4 2 c2, hC 5 2 c3, hC 6 2 c4, hC 7 2 c5, hC 10 5 c6, hC 11 2 c7, hC 12 26 c8, hC 12 29 c9] (by kernel_rfl) (by kernel_rfl)
end Go.Proofs.YtnkghdakjdhhdaaGreat
end
