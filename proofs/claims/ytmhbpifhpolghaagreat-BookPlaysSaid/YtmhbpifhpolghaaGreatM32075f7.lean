/- Sm3, Pb2, Rf13, Ex7, EbP1. -/
import Derived.Test.YtmhbpifhpolghaaGreatMbab8d8f
import Derived.Test.YtmhbpifhpolghaaGreatM89ec1bb
set_option maxRecDepth 100000
set_option linter.unusedVariables false
set_option linter.unusedSimpArgs false
set_option linter.unusedSectionVars false
section
namespace Go.Proofs.YtmhbpifhpolghaaGreat
open Go.RowKit Go.Lib Go.Tk Go.Shelf Go.Vc Go.Sx Go.Maps
def AlikeF : Nat := 61
structure DocRd (F : CF) (d : DocV) (a : DocA) : Prop where
  hl : ∀ b v, Rd (F b v) a.la (cellsL encLeg d.s.legs)
  ht : ∀ b v, Rd (F b v) a.ta (cellsL encTax d.s.taxes)
  hv : ∀ b v, Rd (F b v) a.va (d.vals.map (.int .i64))
  nl : a.la = none → a.lc = 0
  nt : a.ta = none → a.tc = 0
def tEq (a b : Tid) : Bool := decide (a.c = b.c) && (decide (a.r = b.r) && true)
theorem tEq_iff (a b : Tid) : tEq a b = true ↔ a = b := by
  obtain ⟨a1, a2⟩ := a
  obtain ⟨b1, b2⟩ := b
  simp [tEq]
theorem tEq_no {a b : Tid} (h : tEq a b = false) : a ≠ b := fun e => by rw [(tEq_iff a b).2 e] at h; cases h
theorem alike_w (F1 F2 : CF) {d e : DocV} {a b : DocA} (r1 : DocRd F1 d a) (r2 : DocRd F2 e b) (ok1 : SaleOk d.s) (ok2 : SaleOk e.s) (hv : d.vals.length ≤ 1073741824) :
    CallOK Tryz.prog AlikeF [.agg (docSA d a), .agg (docSA e b)] [((0, 11), .fam F1), ((0, 7), .fam F2)] [] (.val (.bool (decide (d = e)))) [] := by
  have c1 := tsame_w F1 F2 (A := ⟨a.la, a.lc, a.ta, a.tc⟩) (B := ⟨b.la, b.lc, b.ta, b.tc⟩) r1.hl r1.ht r2.hl r2.ht r1.nl r1.nt r2.nl r2.nt ok1 ok2
  have c2 := eqI_w F1 F2 (c1 := a.vc) (c2 := b.vc) r1.hv r2.hv hv
  have c3 := eq5_w d e
  have no : d ≠ e → (false : Bool) = decide (d = e) := fun h => (decide_eq_false h).symm
  rcases Bool.eq_false_or_eq_true (decide (d.s = e.s)) with h1 | h1
  case inr =>
    rw [← no fun q => of_decide_eq_false h1 (by rw [q])]
    exact callOK_run 400 [hC 1 4 c1, hB 1 4 _ _ h1] (by kernel_rfl) (by kernel_rfl)
  rcases Bool.eq_false_or_eq_true (decide (d.vals = e.vals)) with h2 | h2
  case inr =>
    rw [← no fun q => of_decide_eq_false h2 (by rw [q])]
    exact callOK_run 400 [hC 1 4 c1, hB 1 4 _ _ h1, hC 1 10 c2, hB 1 10 _ _ h2] (by kernel_rfl) (by kernel_rfl)
  rcases Bool.eq_false_or_eq_true (tEq d.t e.t) with h3 | h3
  case inr =>
    rw [← no fun q => tEq_no h3 (by rw [q])]
    unfold tEq at h3
    exact callOK_run 400 [hC 1 4 c1, hB 1 4 _ _ h1, hC 1 10 c2, hB 1 10 _ _ h2, hB 1 17 _ _ h3] (by kernel_rfl) (by kernel_rfl)
  rcases Bool.eq_false_or_eq_true (tEq d.frm e.frm) with h4 | h4
  case inr =>
    rw [← no fun q => tEq_no h4 (by rw [q])]
    unfold tEq at h3 h4
    exact callOK_run 400 [hC 1 4 c1, hB 1 4 _ _ h1, hC 1 10 c2, hB 1 10 _ _ h2, hB 1 17 _ _ h3, hB 1 24 _ _ h4] (by kernel_rfl) (by kernel_rfl)
  rcases Bool.eq_false_or_eq_true (tEq d.dst e.dst) with h5 | h5
  case inr =>
    rw [← no fun q => tEq_no h5 (by rw [q])]
    unfold tEq at h3 h4 h5
    exact callOK_run 400 [hC 1 4 c1, hB 1 4 _ _ h1, hC 1 10 c2, hB 1 10 _ _ h2, hB 1 17 _ _ h3, hB 1 24 _ _ h4, hB 1 31 _ _ h5] (by kernel_rfl) (by kernel_rfl)
  rcases Bool.eq_false_or_eq_true (decide (fiveL d = fiveL e)) with h6 | h6
  case inr =>
    rw [← no fun q => of_decide_eq_false h6 (by rw [q])]
    unfold tEq at h3 h4 h5
    exact callOK_run 400 [hC 1 4 c1, hB 1 4 _ _ h1, hC 1 10 c2, hB 1 10 _ _ h2, hB 1 17 _ _ h3, hB 1 24 _ _ h4, hB 1 31 _ _ h5, hG 1 56 c3, hB 1 56 _ _ h6] (by kernel_rfl) (by kernel_rfl)
  have he : d = e := by
    have g1 := of_decide_eq_true h1
    have g2 := of_decide_eq_true h2
    have g3 := (tEq_iff _ _).1 h3
    have g4 := (tEq_iff _ _).1 h4
    have g5 := (tEq_iff _ _).1 h5
    have g6 := of_decide_eq_true h6
    obtain ⟨t, s, vs, f, x, q1, q2, q3, q4, q5⟩ := d
    obtain ⟨t', s', vs', f', x', p1, p2, p3, p4, p5⟩ := e
    simp only [fiveL, List.cons.injEq, and_true] at g6
    simp only at g1 g2 g3 g4 g5
    obtain ⟨k1, k2, k3, k4, k5⟩ := g6
    subst g1 g2 g3 g4 g5 k1 k2 k3 k4 k5
    rfl
  rw [decide_eq_true he]
  clear he no
  unfold tEq at h3 h4 h5
  exact callOK_run 400 [hC 1 4 c1, hB 1 4 _ _ h1, hC 1 10 c2, hB 1 10 _ _ h2, hB 1 17 _ _ h3, hB 1 24 _ _ h4, hB 1 31 _ _ h5, hG 1 56 c3, hB 1 56 _ _ h6] (by kernel_rfl) (by kernel_rfl)
def dKV (ds : List DocV) : List (Tid × DocV) := ds.map fun d => (d.t, d)
theorem lkt_dKV (t : Tid) : ∀ M : List (DocV × DocA), lkt (dKV (M.map (·.1))) t = (lkt (docKV M) t).map (·.1)
  | [] => rfl
  | p :: M => by
    show (if p.1.t = t then some p.1 else lkt (dKV (M.map (·.1))) t) = ((if p.1.t = t then some p else lkt (docKV M) t) : Option (DocV × DocA)).map (·.1)
    rw [lkt_dKV t M]
    split <;> rfl
structure DocsOk (L : List (DocV × DocA)) : Prop where
  sal : ∀ p ∈ L, SaleOk p.1.s
  vl : ∀ p ∈ L, p.1.vals.length ≤ 1073741824
def NilsOk (p : DocV × DocA) : Prop := (p.2.la = none → p.2.lc = 0) ∧ (p.2.ta = none → p.2.tc = 0)
theorem rows_rd {L : List (DocV × DocA)} {p : DocV × DocA} (hp : p ∈ L) (hn : NilsOk p) : DocRd (fun _ _ => rowsC L) p.1 p.2 :=
  ⟨fun b v S w h => (h p hp).legs, fun b v S w h => (h p hp).taxes, fun b v S w h => (h p hp).vals, hn.1, hn.2⟩
theorem docsF_rd {L : List (DocV × DocA)} {p : DocV × DocA} (hp : p ∈ L) (hn : NilsOk p) : DocRd (docsF L) p.1 p.2 := by
  have h := docs_rd (L := L) (M := []) (.inl hp)
  exact ⟨h.1, h.2.1, h.2.2, hn.1, hn.2⟩
def EqDF : Nat := 60
theorem eqD_w (m : Nat) (L M : List (DocV × DocA)) (ok1 : DocsOk L) (ok2 : DocsOk M) : CallOK Tryz.prog EqDF [.val (.map (some m)), .map 0 7, .fn (.func AlikeF) [] []] [((0, 11), .fam fun _ _ => rowsC L), ((0, 7), .fam (docsF M))] [((0, 12), .fam fun _ _ => mapC tidK m (ents docW (docKV L)))]
    (.val (.bool (sameM (dKV (L.map (·.1))) (dKV (M.map (·.1)))))) [((0, 12), .fam fun _ _ => mapC tidK m (ents docW (docKV L)))] := by
  have l1 := len_val (K := tidK) (m := m) (j := 12) (n := L.length) (L := ents docW (docKV L)) (by simp [ents, docKV])
  have l2 := len_docs M []
  have e1 : (dKV (L.map (·.1))).length = L.length := by simp [dKV]
  have e2 : (dKV (M.map (·.1))).length = M.length := by simp [dKV]
  by_cases hl : L.length = M.length
  case neg =>
    rw [sameM_len (by rw [e1, e2]; exact hl)]
    clear e1 e2
    have q0 : (!decide ((L.length : Int) = (M.length : Int))) = true := by simp; omega
    exact callOK_run 400 [hG 1 1 l1, hG 1 3 l2, hB 1 4 _ _ q0] (by kernel_rfl) (by kernel_rfl)
  have hs : (dKV (L.map (·.1))).length = (dKV (M.map (·.1))).length := by rw [e1, e2]; exact hl
  have hs := hid hs
  have hl := hid hl
  have q0 : (!decide ((L.length : Int) = (M.length : Int))) = false := by have := hl.out; simp; omega
  clear e1 e2
  refine callOK_intro (by kernel_rfl) fun eb R => ?_
  refine go_open (X := { u : Unit // (∀ p ∈ docKV L, TidOk p.1) ∧ (∀ p ∈ L, NilsOk p) ∧ ∀ p ∈ M, NilsOk p }) (fun _ => [((0, 12), .fam fun _ _ => mapC tidK m (ents docW (docKV L))), ((0, 11), .fam fun _ _ => rowsC L), ((0, 7), .fam (docsF M))])
    (fun ε w hM => by
      have hM : Mem (rowsC L :: docsF M (ε 0 7).1 (ε 0 7).2 :: mapC tidK m (ents docW (docKV L)) :: R) w := hM
      have h1 := hM.front 2 rfl
      refine ⟨⟨(), (map_facts h1).2, fun p hp => ?_, fun p hp => ?_⟩, h1⟩
      · refine hM.of 0 rfl (φ := NilsOk p) fun S hS => ?_
        have := hS p hp
        exact ⟨fun e => (this.okl.nil e).2, fun e => (this.okt.nil e).2⟩
      · have h2 := docs_ok (L := M) (M := []) (p := p) (.inl hp) (hM.front 1 rfl)
        exact ⟨fun e => (h2.1.nil e).2, fun e => (h2.2.1.nil e).2⟩) (fun _ => by kernel_rfl) ?_
  rintro ⟨-, hok, hn1, hn2⟩
  have r1 := rangeG (P := Tryz.prog) (K := tidK) (t := DT) (m := m) (j := 12) (L := ents docW (docKV L)) Tryz.underlying106
  have d1 := next_doneG (P := Tryz.prog) (K := tidK) (m := m) (L := ents docW (docKV L))
  refine go_loop (X := { x : List (Tid × (DocV × DocA)) × List (Tid × (DocV × DocA)) // (docKV L).Perm (x.1 ++ x.2) ∧ ∀ p ∈ x.1, lkt (dKV (M.map (·.1))) p.1 = some p.2.1 }) 0 [] (fun x => ([(1, .map 0 7), (2, .fn (.func AlikeF) [] []), (17, .ptr 1 9 0)],
      [((0, 11), .fam fun _ _ => rowsC L), ((0, 7), .fam (docsF M)), ((1, 9), .fam fun r _ => rngC tidK r m (ents docW (docKV L)) (ents docW x.1.2))]))
    (fun x => x.1.2.length) ⟨([], docKV L), List.Perm.refl _, fun p hp => by cases hp⟩ calNone false 400 [hG 1 1 l1, hG 1 3 l2, hB 1 4 _ _ q0, hG 3 1 r1] calNone_ok (by kernel_rfl) ?_
  rintro ⟨⟨done, left⟩, hd, hdone⟩ J hJ
  have back : ∀ {left : List (Tid × (DocV × DocA))} (b : Bool), Go Tryz.prog EqDF (.val (.bool b)) ([((0, 11), .fam fun _ _ => rowsC L), ((0, 7), .fam (docsF M))] ++ [((0, 12), .fam fun _ _ => mapC tidK m (ents docW (docKV L)))]) eb R .nrm (rgK Tryz.prog EqDF (bif b then 9 else 8) [J]) [] [((0, 11), .fam fun _ _ => rowsC L), ((0, 7), .fam (docsF M)), ((1, 9), .fam fun r _ => rngC tidK r m (ents docW (docKV L)) (ents docW left))] := fun {left} b => by
    refine go_open (X := Unit) (fun _ => [((0, 12), .fam fun _ _ => mapC tidK m (ents docW (docKV L))), ((0, 11), .fam fun _ _ => rowsC L), ((0, 7), .fam (docsF M))]) (fun ε w hM => ⟨(), by
      have hM : Mem (rowsC L :: docsF M (ε 0 7).1 (ε 0 7).2 :: rngC tidK (ε 1 9).1 m (ents docW (docKV L)) (ents docW left) :: R) w := hM
      exact (hM.front 2 rfl).weaken (c' := mapC tidK m (ents docW (docKV L))) fun S hS => ⟨hS.2.1, hS.2.2.map⟩⟩) (fun _ => by kernel_rfl) fun _ => ?_
    cases b
    · exact leaf_end calNone false 400 [] calNone_ok (by kernel_rfl)
    · exact leaf_end calNone false 400 [] calNone_ok (by kernel_rfl)
  have toL : ∀ p ∈ docKV L, (p.1, p.2.1) ∈ dKV (L.map (·.1)) := fun p hp => by
    obtain ⟨q, hq, rfl⟩ := List.mem_map.1 hp
    exact List.mem_map.2 ⟨q.1, List.mem_map_of_mem hq, rfl⟩
  cases left with
  | cons x l =>
    have m1 := next_moreG (P := Tryz.prog) (K := tidK) (m := m) (L := ents docW (docKV L)) (left := ents docW (x :: l)) (by simp [ents])
    refine leaf_cut (rgK Tryz.prog EqDF 5 [J]) [(1, .map 0 7), (2, .fn (.func AlikeF) [] []), (17, .ptr 1 9 0)]
      [((1, 9), .fam fun r _ => exC fun (y : (Tid × Value) × List (Tid × Value)) => curC tidK r m (ents docW (docKV L)) (ents docW (x :: l)) y.1 y.2), ((0, 11), .fam fun _ _ => rowsC L), ((0, 7), .fam (docsF M))]
      calNone false 400 [hG 4 0 m1, .stop 5] calNone_ok (by kernel_rfl) ?_
    refine go_open (X := { y : (Tid × (DocV × DocA)) × List (Tid × (DocV × DocA)) // (x :: l).Perm (y.1 :: y.2) }) (fun y => [((1, 9), .fam fun r _ => curC tidK r m (ents docW (docKV L)) (ents docW (x :: l)) (y.1.1.1, docW y.1.1.2) (ents docW y.1.2)), ((0, 11), .fam fun _ _ => rowsC L), ((0, 7), .fam (docsF M))])
      (fun ε w hM => cur_typed hM) (fun y => by kernel_rfl) ?_
    rintro ⟨⟨⟨k, p⟩, l'⟩, hp⟩
    have hd' : (docKV L).Perm ((done ++ [(k, p)]) ++ l') := by
      rw [List.append_assoc]
      exact hd.trans (List.Perm.append_left done hp)
    have hlt : l'.length < (x :: l).length := by have := hp.length_eq; simp only [List.length_cons] at this ⊢; omega
    have hmem : (k, p) ∈ docKV L := hd'.mem_iff.2 (by simp)
    have hmd := toL _ hmem
    obtain ⟨q, hq, hqe⟩ := List.mem_map.1 hmem
    injection hqe with e1 e2
    subst e2
    subst e1
    have hk := hok _ hmem
    have g1 := entryG (P := Tryz.prog) (K := tidK) (m := m) (L := ents docW (docKV L)) (left := ents docW (x :: l)) (left' := ents docW l') (p := (q.1.t, docW q)) (ks := .agg (tidS q.1.t)) (vs := .agg (docSA q.1 q.2)) (fun _ => rfl) (fun _ => rfl)
    have c1 := look_docs M [] (t := q.1.t) hk
    have hlk := lkt_dKV q.1.t M
    cases hf : lkt (docKV M) q.1.t with
    | none =>
      rw [hf] at c1 hlk
      rw [sameM_bad hmd (by rw [hlk]; simp)]
      clear hlk
      exact leaf_cut (rgK Tryz.prog EqDF 8 [J]) _ _ calNone false 400 [hG 5 0 g1, hG 6 2 c1, .stop 8] calNone_ok (by kernel_rfl) (back (left := l') false)
    | some r =>
      rw [hf] at c1 hlk
      have hr := (mem_kv hf).1
      have c2 := alike_w (fun _ _ => rowsC L) (docsF M) (rows_rd hq (hn1 q hq)) (docsF_rd hr (hn2 r hr)) (ok1.sal q hq) (ok2.sal r hr) (ok1.vl q hq)
      rcases Bool.eq_false_or_eq_true (decide (q.1 = r.1)) with he | he
      · have hJ' := hJ ⟨(done ++ [(q.1.t, q)], l'), hd', fun p hp => by
          rcases List.mem_append.1 hp with hp | hp
          · exact hdone p hp
          · rw [List.mem_singleton.1 hp]
            show lkt (dKV (M.map (·.1))) q.1.t = some q.1
            rw [hlk, of_decide_eq_true he]; rfl⟩ hlt
        exact leaf_round (lpK Tryz.prog EqDF 0 []) false 400 [hG 5 0 g1, hG 6 2 c1, hC 7 6 c2, hB 7 6 _ _ he] hJ' (by kernel_rfl)
      · rw [sameM_bad hmd (by rw [hlk]; intro e; injection e with e; exact of_decide_eq_false he e.symm)]
        clear hlk
        exact leaf_cut (rgK Tryz.prog EqDF 8 [J]) _ _ calNone false 400 [hG 5 0 g1, hG 6 2 c1, hC 7 6 c2, hB 7 6 _ _ he, .stop 8] calNone_ok (by kernel_rfl) (back (left := l') false)
  | nil =>
    rw [List.append_nil] at hd
    rw [sameM_mk hs.out fun p hp => by
      obtain ⟨d, hd0, rfl⟩ := List.mem_map.1 hp
      obtain ⟨q, hq, rfl⟩ := List.mem_map.1 hd0
      exact hdone (q.1.t, q) (hd.mem_iff.1 (List.mem_map_of_mem (f := fun p : DocV × DocA => (p.1.t, p)) hq))]
    exact leaf_cut (rgK Tryz.prog EqDF 9 []) _ _ calNone false 400 [hG 4 0 d1, .stop 9] calNone_ok (by kernel_rfl) (back (left := []) true)
end Go.Proofs.YtmhbpifhpolghaaGreat
end
section
namespace Go.Proofs.YtmhbpifhpolghaaGreat
open Go.RowKit Go.Lib Go.Tk Go.Shelf Go.Vc Go.Sx
theorem take_getD {α : Type} {l m : List α} {i : Nat} (z : α) (hl : i < l.length) (hm : i < m.length) (h : l.take i = m.take i) (e : l.getD i z = m.getD i z) : l.take (i + 1) = m.take (i + 1) := by
  rw [List.getD_eq_getElem?_getD, List.getD_eq_getElem?_getD, List.getElem?_eq_getElem hl, List.getElem?_eq_getElem hm] at e
  rw [List.take_succ_eq_append_getElem hl, List.take_succ_eq_append_getElem hm, h]
  have e : l[i] = m[i] := e
  rw [e]
theorem getD_ne {α : Type} {l m : List α} {i : Nat} {z : α} (e : l.getD i z ≠ m.getD i z) : l ≠ m := fun h => e (by rw [h])
theorem rsame06G (G : CF) {a b : Option Addr} {c c' : Nat} {l m : List Int} (hR : ∀ b v, Rd (G b v) a (l.map (.int .i64))) (hS : ∀ x v, Rd (G x v) b (m.map (.int .i64))) (hl : l.length ≤ 1073741824) (hm : m.length ≤ 1073741824) :
    CallOK Tryz.prog RSame06F [.val (.slice a l.length c), .val (.slice b m.length c')] [((0, 9), .fam G)] [] (.val (.bool (decide (l = m)))) [] := by
  rcases Bool.eq_false_or_eq_true (!decide ((l.length : Int) = (m.length : Int))) with n0 | n0
  · have e : decide (l = m) = false := decide_eq_false fun e => by subst e; simp at n0
    rw [e]
    exact callOK_run 400 [hB 1 4 _ _ n0] (by kernel_rfl) (by kernel_rfl)
  have hlen : l.length = m.length := by
    rw [Bool.not_eq_false', decide_eq_true_eq] at n0; omega
  refine callOK_intro (by kernel_rfl) fun eb R => ?_
  refine go_loop (X := { i : Nat // i ≤ l.length ∧ l.take i = m.take i }) 0 [] (fun y => ([(0, .val (.slice a l.length c)), (1, .val (.slice b m.length c')), (5, .val (.int .i64 (y.1 : Int)))], [((0, 9), .fam G)])) (fun y => l.length - y.1) ⟨0, Nat.zero_le _, by simp⟩ calNone false 400 [hB 1 4 _ _ n0] calNone_ok (by kernel_rfl) ?_
  rintro ⟨i, hi, hp⟩ J hJ
  by_cases h : i < l.length
  · have h' : i < m.length := by omega
    have z0 : decide ((i : Int) < (l.length : Int)) = true := decide_eq_true (by omega)
    have z9 : IntKind.i64.wrap ((i : Int) + 1) = ((i + 1 : Nat) : Int) := by rw [wr_i64 (by omega)]; omega
    have nth : ∀ {k : List Int} (hk : i < k.length) (ε : Env) (q : Nat) (v : SV), ([.val (.int .i64 (k.getD i 0))] : List SV)[q]? = some v → (k.map (Value.int .i64))[i * 1 + q]? = some (v.den ε) := fun {k} hk ε q v hq => by
      cases q with
      | succ q => cases hq
      | zero =>
        cases hq
        rw [Nat.mul_one, Nat.add_zero, List.getElem?_map, getD_some hk 0]; rfl
    have q2 := idx_openG (P := Tryz.prog) (t := 40) (e := 2) (size := 1) (j := 9) (k := .i64) (cap := c) (n := l.length) Tryz.underlying40 (by kernel_rfl) (by rw [List.length_map, Nat.mul_one]) hR h
    have q3 := load_openG0 (P := Tryz.prog) (t := 2) (k := i * 1) (j := 9) (cs := [.val (.int .i64 (l.getD i 0))]) (u := .val (.int .i64 (l.getD i 0))) (by kernel_rfl) hR (nth h) (by rw [List.length_map]; omega)
    have q4 := idx_openG (P := Tryz.prog) (t := 40) (e := 2) (size := 1) (j := 9) (k := .i64) (cap := c') (n := m.length) Tryz.underlying40 (by kernel_rfl) (by rw [List.length_map, Nat.mul_one]) hS h'
    have q5 := load_openG0 (P := Tryz.prog) (t := 2) (k := i * 1) (j := 9) (cs := [.val (.int .i64 (m.getD i 0))]) (u := .val (.int .i64 (m.getD i 0))) (by kernel_rfl) hS (nth h') (by rw [List.length_map]; omega)
    rcases Bool.eq_false_or_eq_true (!decide (l.getD i 0 = m.getD i 0)) with e1 | e1
    · have e : decide (l = m) = false := decide_eq_false (getD_ne (z := 0) fun e => by rw [e] at e1; simp at e1)
      rw [e]
      clear hJ n0
      generalize l.getD i 0 = x at *
      generalize m.getD i 0 = y at *
      exact leaf_end calNone false 400 [hB 4 3 _ _ z0, hG 6 2 q2, hG 6 3 q3, hG 6 6 q4, hG 6 7 q5, hB 6 8 _ _ e1] calNone_ok (by kernel_rfl)
    · have htk := take_getD (l := l) (m := m) (i := i) 0 h h' hp
      have hJ' := hJ ⟨i + 1, h, htk (by rw [Bool.not_eq_false', decide_eq_true_eq] at e1; exact e1)⟩ (by show _ - (i + 1) < _ - i; omega)
      clear hJ n0
      generalize l.getD i 0 = x at *
      generalize m.getD i 0 = y at *
      exact leaf_round (lpK Tryz.prog RSame06F 0 []) false 400 [hB 4 3 _ _ z0, hG 6 2 q2, hG 6 3 q3, hG 6 6 q4, hG 6 7 q5, hB 6 8 _ _ e1, hI 5 1 IntKind.i64 _ _ z9] hJ' (by kernel_rfl)
  · have he : i = l.length := by omega
    have z0 : decide ((i : Int) < (l.length : Int)) = false := decide_eq_false (by omega)
    have e : l = m := by rw [he, List.take_of_length_le (Nat.le_refl _), hlen, List.take_of_length_le (Nat.le_refl _)] at hp; exact hp
    rw [decide_eq_true e]
    clear hJ n0
    exact leaf_end calNone false 400 [hB 4 3 _ _ z0] calNone_ok (by kernel_rfl)
def rs2H (G : CF) (s s' : SaleV) (A A' : SaleA) : Heap := [((0, 9), .fam G), ((1, 0), .box none (salS s (.val (.slice A.la s.legs.length A.lc)) (.val (.slice A.ta s.taxes.length A.tc)))), ((1, 1), .box none (salS s' (.val (.slice A'.la s'.legs.length A'.lc)) (.val (.slice A'.ta s'.taxes.length A'.tc))))]
structure SalRdG (G : CF) (s : SaleV) (A : SaleA) : Prop where
  l : ∀ b v, Rd (G b v) A.la (cellsL encLeg s.legs)
  t : ∀ b v, Rd (G b v) A.ta (cellsL encTax s.taxes)
theorem rsame09G_tax (G : CF) {s s' : SaleV} {A A' : SaleA} (ok : SaleOk s) (r : SalRdG G s A) (r' : SalRdG G s' A') (hlen : s.taxes.length = s'.taxes.length) (hrest : s.name = s'.name ∧ s.fare = s'.fare ∧ s.pen = s'.pen ∧ s.legs = s'.legs) {eb : Env} {R : List Chunk} :
    Go Tryz.prog RSame09F (.val (.bool (decide (s = s')))) ([((0, 9), .fam G)] ++ []) eb R .nrm (rgK Tryz.prog RSame09F 8 []) [(2, .ptr 1 0 0), (3, .ptr 1 1 0)] (rs2H G s s' A A') := by
  have nt := ok.nt
  refine go_loop (X := { i : Nat // i ≤ s.taxes.length ∧ s.taxes.take i = s'.taxes.take i }) 1 [] (fun y => ([(2, .ptr 1 0 0), (3, .ptr 1 1 0), (6, .val (.int .i64 (y.1 : Int)))], rs2H G s s' A A')) (fun y => s.taxes.length - y.1) ⟨0, Nat.zero_le _, by simp⟩ calNone false 400 [] calNone_ok (by kernel_rfl) ?_
  rintro ⟨i, hi, hp⟩ J hJ
  by_cases h : i < s.taxes.length
  · have h' : i < s'.taxes.length := by omega
    have z0 : decide ((i : Int) < (s.taxes.length : Int)) = true := decide_eq_true (by omega)
    have z9 : IntKind.i64.wrap ((i : Int) + 1) = ((i + 1 : Nat) : Int) := by rw [wr_i64 (by omega)]; omega
    have p1 : 0 < (cellsL encTax s.taxes).length := by rw [cellsL_len encTax_len]; omega
    have p2 : 0 < (cellsL encTax s'.taxes).length := by rw [cellsL_len encTax_len]; omega
    have q2 := idx_openG (P := Tryz.prog) (t := 34) (e := 172) (size := 2) (j := 9) (k := .i64) (cap := A.tc) (n := s.taxes.length) Tryz.underlying34 (by kernel_rfl) (cellsL_len encTax_len _) r.t h
    have q3 := load_openG0 (P := Tryz.prog) (t := 172) (k := i * 2) (j := 9) (u := .agg (taxS' (s.taxes.getD i rtax0))) (by kernel_rfl) r.t (taxS_nth (getD_some h rtax0)) p1
    have q4 := idx_openG (P := Tryz.prog) (t := 34) (e := 172) (size := 2) (j := 9) (k := .i64) (cap := A'.tc) (n := s'.taxes.length) Tryz.underlying34 (by kernel_rfl) (cellsL_len encTax_len _) r'.t h'
    have q5 := load_openG0 (P := Tryz.prog) (t := 172) (k := i * 2) (j := 9) (u := .agg (taxS' (s'.taxes.getD i rtax0))) (by kernel_rfl) r'.t (taxS_nth (getD_some h' rtax0)) p2
    have hne := getD_ne (l := s.taxes) (m := s'.taxes) (i := i) (z := rtax0)
    have htk := take_getD (l := s.taxes) (m := s'.taxes) rtax0 h h' hp
    rcases Bool.eq_false_or_eq_true (!(decide ((s.taxes.getD i rtax0).code = (s'.taxes.getD i rtax0).code) && (decide ((s.taxes.getD i rtax0).amt = (s'.taxes.getD i rtax0).amt) && true))) with e1 | e1
    · have e : decide (s = s') = false := decide_eq_false fun e => by subst e; simp at e1
      rw [e]
      clear hJ
      generalize s.taxes.getD i rtax0 = x at *
      generalize s'.taxes.getD i rtax0 = y at *
      exact leaf_end calNone false 400 [hB 9 4 _ _ z0, hG 11 3 q2, hG 11 4 q3, hG 11 8 q4, hG 11 9 q5, hB 11 10 _ _ e1] calNone_ok (by kernel_rfl)
    · have e : s.taxes.getD i rtax0 = s'.taxes.getD i rtax0 := by
        generalize s.taxes.getD i rtax0 = x at *
        generalize s'.taxes.getD i rtax0 = y at *
        obtain ⟨x1, x2⟩ := x
        obtain ⟨y1, y2⟩ := y
        simp at e1
        rw [e1.1, e1.2]
      have hJ' := hJ ⟨i + 1, h, htk e⟩ (by show _ - (i + 1) < _ - i; omega)
      clear hJ
      generalize s.taxes.getD i rtax0 = x at *
      generalize s'.taxes.getD i rtax0 = y at *
      exact leaf_round (lpK Tryz.prog RSame09F 1 []) false 400 [hB 9 4 _ _ z0, hG 11 3 q2, hG 11 4 q3, hG 11 8 q4, hG 11 9 q5, hB 11 10 _ _ e1, hI 10 1 IntKind.i64 _ _ z9] hJ' (by kernel_rfl)
  · have he : i = s.taxes.length := by omega
    have z0 : decide ((i : Int) < (s.taxes.length : Int)) = false := decide_eq_false (by omega)
    have et : s.taxes = s'.taxes := by rw [he, List.take_of_length_le (Nat.le_refl _), hlen, List.take_of_length_le (Nat.le_refl _)] at hp; exact hp
    have e : s = s' := by
      obtain ⟨a1, a2, a3, a4, a5⟩ := s
      obtain ⟨b1, b2, b3, b4, b5⟩ := s'
      obtain ⟨h1, h2, h3, h4⟩ := hrest
      dsimp only at *
      rw [h1, h2, h3, h4, et]
    rw [decide_eq_true e]
    clear hJ
    exact leaf_end calNone false 400 [hB 9 4 _ _ z0] calNone_ok (by kernel_rfl)
theorem rsame09G (G : CF) {s s' : SaleV} {A A' : SaleA} (ok : SaleOk s) (ok' : SaleOk s') (r : SalRdG G s A) (r' : SalRdG G s' A') :
    CallOK Tryz.prog RSame09F [.agg (salS s (.val (.slice A.la s.legs.length A.lc)) (.val (.slice A.ta s.taxes.length A.tc))), .agg (salS s' (.val (.slice A'.la s'.legs.length A'.lc)) (.val (.slice A'.ta s'.taxes.length A'.tc)))] [((0, 9), .fam G)] [] (.val (.bool (decide (s = s')))) [] := by
  have nl := ok.nl
  have no : s ≠ s' → decide (s = s') = false := fun h => decide_eq_false h
  rcases Bool.eq_false_or_eq_true (!(s.name.toList == s'.name.toList)) with n1 | n1
  · rw [no fun e => by subst e; simp at n1]
    exact callOK_run 400 [hB 1 4 _ _ n1] (by kernel_rfl) (by kernel_rfl)
  rcases Bool.eq_false_or_eq_true (!decide (s.fare = s'.fare)) with n2 | n2
  · rw [no fun e => by subst e; simp at n2]
    exact callOK_run 400 [hB 1 4 _ _ n1, hB 1 10 _ _ n2] (by kernel_rfl) (by kernel_rfl)
  rcases Bool.eq_false_or_eq_true (!decide (s.pen = s'.pen)) with n3 | n3
  · rw [no fun e => by subst e; simp at n3]
    exact callOK_run 400 [hB 1 4 _ _ n1, hB 1 10 _ _ n2, hB 1 17 _ _ n3] (by kernel_rfl) (by kernel_rfl)
  rcases Bool.eq_false_or_eq_true (!decide ((s.legs.length : Int) = (s'.legs.length : Int))) with n4 | n4
  · rw [no fun e => by subst e; simp at n4]
    exact callOK_run 400 [hB 1 4 _ _ n1, hB 1 10 _ _ n2, hB 1 17 _ _ n3, hB 1 26 _ _ n4] (by kernel_rfl) (by kernel_rfl)
  rcases Bool.eq_false_or_eq_true (!decide ((s.taxes.length : Int) = (s'.taxes.length : Int))) with n5 | n5
  · rw [no fun e => by subst e; simp at n5]
    exact callOK_run 400 [hB 1 4 _ _ n1, hB 1 10 _ _ n2, hB 1 17 _ _ n3, hB 1 26 _ _ n4, hB 1 35 _ _ n5] (by kernel_rfl) (by kernel_rfl)
  have m1 : s.name = s'.name := by
    rw [Bool.not_eq_false', beq_iff_eq] at n1
    exact Classical.byContradiction fun hn => ba_toList_ne hn n1
  have m2 : s.fare = s'.fare := by rw [Bool.not_eq_false', decide_eq_true_eq] at n2; exact n2
  have m3 : s.pen = s'.pen := by rw [Bool.not_eq_false', decide_eq_true_eq] at n3; exact n3
  have m4 : s.legs.length = s'.legs.length := by rw [Bool.not_eq_false', decide_eq_true_eq] at n4; omega
  have m5 : s.taxes.length = s'.taxes.length := by rw [Bool.not_eq_false', decide_eq_true_eq] at n5; omega
  refine callOK_intro (by kernel_rfl) fun eb R => ?_
  have fin := fun e => rsame09G_tax G (A := A) (A' := A') ok r r' m5 ⟨m1, m2, m3, e⟩ (eb := eb) (R := R)
  clear m1 m2 m3 m5
  refine go_loop (X := { i : Nat // i ≤ s.legs.length ∧ s.legs.take i = s'.legs.take i }) 0 [] (fun y => ([(2, .ptr 1 0 0), (3, .ptr 1 1 0), (5, .val (.int .i64 (y.1 : Int)))], rs2H G s s' A A')) (fun y => s.legs.length - y.1) ⟨0, Nat.zero_le _, by simp⟩ calNone false 400 [hB 1 4 _ _ n1, hB 1 10 _ _ n2, hB 1 17 _ _ n3, hB 1 26 _ _ n4, hB 1 35 _ _ n5] calNone_ok (by kernel_rfl) ?_
  clear n1 n2 n3 n4 n5
  rintro ⟨i, hi, hp⟩ J hJ
  by_cases h : i < s.legs.length
  · have h' : i < s'.legs.length := by omega
    have z0 : decide ((i : Int) < (s.legs.length : Int)) = true := decide_eq_true (by omega)
    have z9 : IntKind.i64.wrap ((i : Int) + 1) = ((i + 1 : Nat) : Int) := by rw [wr_i64 (by omega)]; omega
    have p1 : 0 < (cellsL encLeg s.legs).length := by rw [cellsL_len encLeg_len]; omega
    have p2 : 0 < (cellsL encLeg s'.legs).length := by rw [cellsL_len encLeg_len]; omega
    have q2 := idx_openG (P := Tryz.prog) (t := 33) (e := 48) (size := 3) (j := 9) (k := .i64) (cap := A.lc) (n := s.legs.length) Tryz.underlying33 (by kernel_rfl) (cellsL_len encLeg_len _) r.l h
    have q3 := load_openG0 (P := Tryz.prog) (t := 48) (k := i * 3) (j := 9) (u := .agg (legS' (s.legs.getD i leg0))) (by kernel_rfl) r.l (legS_nth (getD_some h leg0)) p1
    have q4 := idx_openG (P := Tryz.prog) (t := 33) (e := 48) (size := 3) (j := 9) (k := .i64) (cap := A'.lc) (n := s'.legs.length) Tryz.underlying33 (by kernel_rfl) (cellsL_len encLeg_len _) r'.l h'
    have q5 := load_openG0 (P := Tryz.prog) (t := 48) (k := i * 3) (j := 9) (u := .agg (legS' (s'.legs.getD i leg0))) (by kernel_rfl) r'.l (legS_nth (getD_some h' leg0)) p2
    have htk := take_getD (l := s.legs) (m := s'.legs) leg0 h h' hp
    rcases Bool.eq_false_or_eq_true (!(decide ((s.legs.getD i leg0).c = (s'.legs.getD i leg0).c) && (decide ((s.legs.getD i leg0).f = (s'.legs.getD i leg0).f) && (decide ((s.legs.getD i leg0).x = (s'.legs.getD i leg0).x) && true)))) with e1 | e1
    · rw [no fun e => by subst e; simp at e1]
      clear hJ fin
      generalize s.legs.getD i leg0 = x at *
      generalize s'.legs.getD i leg0 = y at *
      exact leaf_end calNone false 400 [hB 4 4 _ _ z0, hG 6 3 q2, hG 6 4 q3, hG 6 8 q4, hG 6 9 q5, hB 6 10 _ _ e1] calNone_ok (by kernel_rfl)
    · have e : s.legs.getD i leg0 = s'.legs.getD i leg0 := by
        generalize s.legs.getD i leg0 = x at *
        generalize s'.legs.getD i leg0 = y at *
        obtain ⟨x1, x2, x3⟩ := x
        obtain ⟨y1, y2, y3⟩ := y
        simp at e1
        rw [e1.1, e1.2.1, e1.2.2]
      have hJ' := hJ ⟨i + 1, h, htk e⟩ (by show _ - (i + 1) < _ - i; omega)
      clear hJ fin
      generalize s.legs.getD i leg0 = x at *
      generalize s'.legs.getD i leg0 = y at *
      exact leaf_round (lpK Tryz.prog RSame09F 0 []) false 400 [hB 4 4 _ _ z0, hG 6 3 q2, hG 6 4 q3, hG 6 8 q4, hG 6 9 q5, hB 6 10 _ _ e1, hI 5 1 IntKind.i64 _ _ z9] hJ' (by kernel_rfl)
  · have he : i = s.legs.length := by omega
    have el : s.legs = s'.legs := by rw [he, List.take_of_length_le (Nat.le_refl _), m4, List.take_of_length_le (Nat.le_refl _)] at hp; exact hp
    have fin := fin el
    have z0 : decide ((i : Int) < (s.legs.length : Int)) = false := decide_eq_false (by omega)
    clear hJ
    exact leaf_cut (rgK Tryz.prog RSame09F 8 []) _ _ calNone false 400 [hB 4 4 _ _ z0, .stop 8] calNone_ok (by kernel_rfl) fin
theorem rdocsG (G : CF) {d e : DocV} {a a' : DocA} (ok : SaleOk d.s) (ok' : SaleOk e.s) (hv : d.vals.length ≤ 1073741824) (hv' : e.vals.length ≤ 1073741824) (r : DocRdG G d a) (r' : DocRdG G e a') :
    CallOK Tryz.prog RDocsF [.agg (docSA d a), .agg (docSA e a')] [((0, 9), .fam G)] [] (.val (.bool (decide (d = e)))) [] := by
  have c1 := rsame09G G (A := ⟨a.la, a.lc, a.ta, a.tc⟩) (A' := ⟨a'.la, a'.lc, a'.ta, a'.tc⟩) ok ok' ⟨r.l, r.t⟩ ⟨r'.l, r'.t⟩
  have c2 := rsame06G G (c := a.vc) (c' := a'.vc) r.v r'.v hv hv'
  have no : d ≠ e → decide (d = e) = false := fun h => decide_eq_false h
  have tq : ∀ x y : Tid, (decide (x.c = y.c) && (decide (x.r = y.r) && true)) = true → x = y := fun x y h => by
    obtain ⟨x1, x2⟩ := x
    obtain ⟨y1, y2⟩ := y
    simp at h
    rw [h.1, h.2]
  rcases Bool.eq_false_or_eq_true (decide (d.t.c = e.t.c) && (decide (d.t.r = e.t.r) && true)) with n1 | n1
  case inr =>
    rw [no fun h => by subst h; simp at n1]
    exact callOK_run 400 [hB 1 4 _ _ n1] (by kernel_rfl) (by kernel_rfl)
  rcases Bool.eq_false_or_eq_true (decide (d.s = e.s)) with n2 | n2 <;> rw [n2] at c1
  case inr =>
    rw [no fun h => by subst h; simp at n2]
    exact callOK_run 400 [hB 1 4 _ _ n1, hC 1 10 c1] (by kernel_rfl) (by kernel_rfl)
  rcases Bool.eq_false_or_eq_true (decide (d.vals = e.vals)) with n3 | n3 <;> rw [n3] at c2
  case inr =>
    rw [no fun h => by subst h; simp at n3]
    exact callOK_run 400 [hB 1 4 _ _ n1, hC 1 10 c1, hC 1 17 c2] (by kernel_rfl) (by kernel_rfl)
  rcases Bool.eq_false_or_eq_true (decide (d.frm.c = e.frm.c) && (decide (d.frm.r = e.frm.r) && true)) with n4 | n4
  case inr =>
    rw [no fun h => by subst h; simp at n4]
    exact callOK_run 400 [hB 1 4 _ _ n1, hC 1 10 c1, hC 1 17 c2, hB 1 24 _ _ n4] (by kernel_rfl) (by kernel_rfl)
  rcases Bool.eq_false_or_eq_true (decide (d.dst.c = e.dst.c) && (decide (d.dst.r = e.dst.r) && true)) with n5 | n5
  case inr =>
    rw [no fun h => by subst h; simp at n5]
    exact callOK_run 400 [hB 1 4 _ _ n1, hC 1 10 c1, hC 1 17 c2, hB 1 24 _ _ n4, hB 1 31 _ _ n5] (by kernel_rfl) (by kernel_rfl)
  rcases Bool.eq_false_or_eq_true (decide (d.credit = e.credit)) with n6 | n6
  case inr =>
    rw [no fun h => by subst h; simp at n6]
    exact callOK_run 400 [hB 1 4 _ _ n1, hC 1 10 c1, hC 1 17 c2, hB 1 24 _ _ n4, hB 1 31 _ _ n5, hB 1 38 _ _ n6] (by kernel_rfl) (by kernel_rfl)
  rcases Bool.eq_false_or_eq_true (decide (d.paid = e.paid)) with n7 | n7
  case inr =>
    rw [no fun h => by subst h; simp at n7]
    exact callOK_run 400 [hB 1 4 _ _ n1, hC 1 10 c1, hC 1 17 c2, hB 1 24 _ _ n4, hB 1 31 _ _ n5, hB 1 38 _ _ n6, hB 1 45 _ _ n7] (by kernel_rfl) (by kernel_rfl)
  rcases Bool.eq_false_or_eq_true (decide (d.back = e.back)) with n8 | n8
  case inr =>
    rw [no fun h => by subst h; simp at n8]
    exact callOK_run 400 [hB 1 4 _ _ n1, hC 1 10 c1, hC 1 17 c2, hB 1 24 _ _ n4, hB 1 31 _ _ n5, hB 1 38 _ _ n6, hB 1 45 _ _ n7, hB 1 52 _ _ n8] (by kernel_rfl) (by kernel_rfl)
  rcases Bool.eq_false_or_eq_true (decide (d.kept = e.kept)) with n9 | n9
  case inr =>
    rw [no fun h => by subst h; simp at n9]
    exact callOK_run 400 [hB 1 4 _ _ n1, hC 1 10 c1, hC 1 17 c2, hB 1 24 _ _ n4, hB 1 31 _ _ n5, hB 1 38 _ _ n6, hB 1 45 _ _ n7, hB 1 52 _ _ n8, hB 1 59 _ _ n9] (by kernel_rfl) (by kernel_rfl)
  rcases Bool.eq_false_or_eq_true (decide (d.left = e.left)) with n10 | n10
  case inr =>
    rw [no fun h => by subst h; simp at n10]
    exact callOK_run 400 [hB 1 4 _ _ n1, hC 1 10 c1, hC 1 17 c2, hB 1 24 _ _ n4, hB 1 31 _ _ n5, hB 1 38 _ _ n6, hB 1 45 _ _ n7, hB 1 52 _ _ n8, hB 1 59 _ _ n9, hB 1 66 _ _ n10] (by kernel_rfl) (by kernel_rfl)
  have eq : d = e := by
    have := of_decide_eq_true n2
    have := of_decide_eq_true n3
    have := of_decide_eq_true n6
    have := of_decide_eq_true n7
    have := of_decide_eq_true n8
    have := of_decide_eq_true n9
    have := of_decide_eq_true n10
    have := tq _ _ n1
    have := tq _ _ n4
    have := tq _ _ n5
    cases d
    cases e
    dsimp only at *
    simp only [DocV.mk.injEq]
    refine ⟨?_, ?_, ?_, ?_, ?_, ?_, ?_, ?_, ?_, ?_⟩ <;> assumption
  rw [decide_eq_true eq]
  exact callOK_run 400 [hB 1 4 _ _ n1, hC 1 10 c1, hC 1 17 c2, hB 1 24 _ _ n4, hB 1 31 _ _ n5, hB 1 38 _ _ n6, hB 1 45 _ _ n7, hB 1 52 _ _ n8, hB 1 59 _ _ n9, hB 1 66 _ _ n10] (by kernel_rfl) (by kernel_rfl)
def RefV.nextT (B : RefV) : Tid := ⟨B.self, (B.docs.length : Int) + 1⟩
def RefV.issE (B : RefV) (s : SaleV) : Int := bif decide ((32 : Int) ≤ (B.docs.length : Int)) then 3 else makeE B.self ((B.docs.length : Int) + 1) s B.n
def issR (t : Tid) (s : SaleV) (vs : List Int) (L : List (Kid × OwnV)) : Nat → List (Kid × OwnV)
  | 0 => L
  | i + 1 => issR t s vs L i ++ [(⟨t, (i : Int)⟩, ownNew (s.legs.getD i leg0) (vs.getD i 0))]
theorem issR_len (t : Tid) (s : SaleV) (vs : List Int) (L : List (Kid × OwnV)) : ∀ i, (issR t s vs L i).length = L.length + i
  | 0 => rfl
  | i + 1 => by
    have := issR_len t s vs L i
    show (issR t s vs L i ++ [_]).length = _
    rw [List.length_append, List.length_singleton]; omega
def RefV.issued (B : RefV) (s : SaleV) (A : SaleA) : RefV := { B with docs := B.docs ++ [(docMade B.nextT s, A)], owns := issR B.nextT s (shareV s.fare (wsOf s)) B.owns (shareV s.fare (wsOf s)).length }
def RIssueF : Nat := 12
def saleX (s : SaleV) (A : SaleA) : List SV := salS s (.val (.slice A.la s.legs.length A.lc)) (.val (.slice A.ta s.taxes.length A.tc))
theorem mine_len (x : Kid × OwnV) : (mineC x).length = 13 := rfl
theorem mine_one (x : Kid × OwnV) : ∀ u ∈ mineC x, u.oneCell' = true := fun u hu => by
  have : (mineC x).all (·.oneCell') = true := rfl
  exact List.all_eq_true.1 this u hu
theorem doc_len (p : DocV × DocA) : (docL p).length = 17 := rfl
theorem doc_one (p : DocV × DocA) : ∀ u ∈ docL p, u.oneCell' = true := fun u hu => by
  have : (docL p).all (·.oneCell') = true := rfl
  exact List.all_eq_true.1 this u hu
theorem shareL_bds {t : Int} {ws : List Int} (hp : PosRow ws) (ha : 0 < ws.sum) (ht : 0 ≤ t) {i : Nat} (hi : i < ws.length) : 0 ≤ (shareL t ws).getD i 0 ∧ (shareL t ws).getD i 0 ≤ t + 1 := by
  rw [shareL_get _ _ _ hi]
  have hx := posrow_get hp hi
  have e : ws.getD i 0 = ws[i] := by simp [List.getD_eq_getElem?_getD, hi]
  have := wh_bd (t := t) (S := ws.sum) ht ha hx.1 (by rw [e]; exact le_sum ws (fun y hy => (hp y hy).1) _ (List.getElem_mem hi))
  split <;> omega
theorem share_bd {s : SaleV} (ok : SaleOk s) {n : Int} (h : checkE s n = 0) (i : Nat) : 0 ≤ (shareV s.fare (wsOf s)).getD i 0 ∧ (shareV s.fare (wsOf s)).getD i 0 ≤ 1125899906842625 := by
  obtain ⟨-, -, hsh, -⟩ := check_shape h
  obtain ⟨hS, ha, l1, l4, f0, f1⟩ := shape_share ok hsh
  have hv : shareV s.fare (wsOf s) = shareL s.fare (wsOf s) := by unfold shareV; rw [if_pos hS]
  rw [hv]
  by_cases hi : i < (wsOf s).length
  · have := shareL_bds (ws_pos ok) ha f0 hi
    omega
  · rw [List.getD_eq_getElem?_getD, List.getElem?_eq_none (by rw [shareL_len]; omega)]
    exact ⟨Int.le_refl _, by decide⟩
theorem issO_lk (t : Tid) (s : SaleV) (vs : List Int) (L : OwnsV) (k : Kid) : ∀ n, (∃ i : Nat, i < n ∧ k = ⟨t, (i : Int)⟩ ∧ lkt (issO t s vs L n) k = some (ownNew (s.legs.getD i leg0) (vs.getD i 0))) ∨ ((∀ i : Nat, i < n → k ≠ ⟨t, (i : Int)⟩) ∧ lkt (issO t s vs L n) k = lkt L k)
  | 0 => .inr ⟨fun i hi => absurd hi (Nat.not_lt_zero _), rfl⟩
  | n + 1 => by
    have ih := issO_lk t s vs L k n
    have e : issO t s vs L (n + 1) = putt (issO t s vs L n) ⟨t, (n : Int)⟩ (ownNew (s.legs.getD n leg0) (vs.getD n 0)) := rfl
    rw [e, lkt_put]
    by_cases hk : (⟨t, (n : Int)⟩ : Kid) = k
    · rw [if_pos hk]
      exact .inl ⟨n, Nat.lt_succ_self _, hk.symm, rfl⟩
    · rw [if_neg hk]
      rcases ih with ⟨i, hi, h1, h2⟩ | ⟨h1, h2⟩
      · exact .inl ⟨i, by omega, h1, h2⟩
      · exact .inr ⟨fun i hi => by
          by_cases q : i = n
          · subst q; exact fun e => hk e.symm
          · exact h1 i (by omega), h2⟩
theorem ExOk.issued {B : BookV} (h : ExOk B) {s : SaleV} (ok : SaleOk s) (hm : B.issE s = 0) : ExOk (B.issued s) := by
  have hc := issE_check hm
  obtain ⟨-, -, hsh, -⟩ := check_shape hc
  obtain ⟨hS, ha, l1, l4, f0, f1⟩ := shape_share ok hsh
  have hvl : (shareV s.fare (wsOf s)).length = s.legs.length := by rw [shareV_len hS, ws_len]
  have hd : ∀ d ∈ (B.issued s).docs, d ∈ B.docs ∨ d = docMade B.nextT s := fun d hd => by
    have hd : d ∈ B.docs ++ [docMade B.nextT s] := hd
    rcases List.mem_append.1 hd with q | q
    · exact .inl q
    · exact .inr (List.mem_singleton.1 q)
  refine ⟨h.bk.issued hm, fun d q => ?_, fun d q => ?_, fun k o ho => ?_⟩
  · rcases hd d q with q | rfl
    · exact h.sal d q
    · exact ok
  · rcases hd d q with q | rfl
    · exact h.sm d q
    · exact ⟨by have := ok.nl; show s.legs.length ≤ _; omega, by have := ok.nt; show s.taxes.length ≤ _; omega, by show (shareV s.fare (wsOf s)).length ≤ _; omega⟩
  · have ho : lkt (issO B.nextT s (shareV s.fare (wsOf s)) B.owns (shareV s.fare (wsOf s)).length) k = some o := ho
    rcases issO_lk B.nextT s (shareV s.fare (wsOf s)) B.owns k (shareV s.fare (wsOf s)).length with ⟨i, hi, -, h2⟩ | ⟨-, h2⟩
    · rw [h2] at ho
      cases ho
      have := share_bd ok hc i
      show -9223372036854775808 ≤ (shareV s.fare (wsOf s)).getD i 0 ∧ (shareV s.fare (wsOf s)).getD i 0 ≤ 9223372036854775807
      omega
    · rw [h2] at ho
      exact h.own k o ho
theorem ExOk.setD {B : BookV} (h : ExOk B) {d : DocV} (ok : SaleOk d.s) (sm : DocSmall d) : ExOk (B.setD d) := by
  have hd : ∀ x ∈ (B.setD d).docs, x ∈ B.docs ∨ x = d := fun x hx => by
    obtain ⟨y, hy, e⟩ := List.mem_map.1 (show x ∈ putD B.docs d from hx)
    by_cases q : y.t = d.t
    · rw [if_pos q] at e; exact .inr e.symm
    · rw [if_neg q] at e; exact .inl (e ▸ hy)
  refine ⟨⟨h.bk.self, h.bk.n, fun i x hx => ?_, ?_⟩, fun x q => ?_, fun x q => ?_, h.own⟩
  · have e := putD_t B.docs d
    have h1 : ((putD B.docs d).map (·.t))[i]? = some x.t := by rw [List.getElem?_map, show (putD B.docs d)[i]? = some x from hx]; rfl
    rw [e, List.getElem?_map] at h1
    cases h2 : B.docs[i]? with
    | none => rw [h2] at h1; cases h1
    | some y =>
      rw [h2] at h1
      have h3 := h.bk.docs i y h2
      show x.t = ⟨B.self, (i : Int) + 1⟩
      rw [← h3]
      simpa using h1.symm
  · show (putD B.docs d).length ≤ 32
    unfold putD; rw [List.length_map]; exact h.bk.many
  · rcases hd x q with q | rfl
    · exact h.sal x q
    · exact ok
  · rcases hd x q with q | rfl
    · exact h.sm x q
    · exact sm
theorem ExOk.turn1 {B : BookV} (h : ExOk B) {k : Kid} {o : OwnV} (ho : OwnOk o) (s : Int) : ExOk (turn1 B k o s) := by
  have hd := turn1_docs B k o s
  have hs : (Go.Proofs.YtmhbpifhpolghaaGreat.turn1 B k o s).self = B.self ∧ (Go.Proofs.YtmhbpifhpolghaaGreat.turn1 B k o s).n = B.n := by
    unfold Go.Proofs.YtmhbpifhpolghaaGreat.turn1 BookV.setO
    cases freeO o <;> cases (lkt B.owns k).isSome <;> exact ⟨rfl, rfl⟩
  refine ⟨⟨by rw [hs.1, hs.2]; exact h.bk.self, by rw [hs.2]; exact h.bk.n, by rw [hd, hs.1]; exact h.bk.docs, by rw [hd]; exact h.bk.many⟩, by rw [hd]; exact h.sal, by rw [hd]; exact h.sm, fun k' x hx => ?_⟩
  unfold Go.Proofs.YtmhbpifhpolghaaGreat.turn1 BookV.setO at hx
  cases hf : freeO o
  · rw [hf] at hx; exact h.own k' x hx
  · rw [hf] at hx
    cases hl : (lkt B.owns k).isSome
    · rw [hl] at hx; exact h.own k' x hx
    · rw [hl] at hx
      have hx : lkt (putt B.owns k (asO o s)) k' = some x := hx
      rw [lkt_put] at hx
      by_cases e : k = k'
      · rw [if_pos e] at hx; cases hx; exact ho
      · rw [if_neg e] at hx; exact h.own k' x hx
theorem ExOk.turnL (s : Int) (t : Tid) : ∀ (l : List OwnV) {B : BookV} (i : Int), ExOk B → (∀ o ∈ l, OwnOk o) → ExOk (turnL s t B i l)
  | [], B, i, h, _ => h
  | o :: l, B, i, h, hl => ExOk.turnL s t l (i + 1) (h.turn1 (k := ⟨t, i⟩) (hl o List.mem_cons_self) s) fun x hx => hl x (List.mem_cons_of_mem _ hx)
theorem ExOk.turnB {B : BookV} (h : ExOk B) (t : Tid) (s : Int) : ExOk (turnB B t s) := ExOk.turnL s t _ 0 h (h.coup t)
theorem new_ex (self n : Int) (h : 0 ≤ self ∧ self < n ∧ 2 ≤ n ∧ n ≤ 8) : ExOk (bookNew self n) := ⟨book_new_ok self n h, (fun d hd => by cases hd), (fun d hd => by cases hd), (fun k o ho => by cases ho)⟩
theorem coupL_get {B : BookV} {t : Tid} {i : Nat} (h : i < (coupL B t).length) : lkt B.owns ⟨t, (i : Int)⟩ = some ((coupL B t).getD i own0) := by
  rcases coupL_cases B t with ⟨e, h0⟩ | ⟨a, e, h0, h1⟩ | ⟨a, b, e, h0, h1, h2⟩ | ⟨a, b, c, e, h0, h1, h2, h3⟩ | ⟨a, b, c, d, e, h0, h1, h2, h3⟩ <;> rw [e] at h ⊢ <;> simp only [List.length_cons, List.length_nil] at h
  · omega
  · obtain rfl : i = 0 := by omega
    exact h0
  · rcases (show i = 0 ∨ i = 1 by omega) with rfl | rfl
    · exact h0
    · exact h1
  · rcases (show i = 0 ∨ i = 1 ∨ i = 2 by omega) with rfl | rfl | rfl
    · exact h0
    · exact h1
    · exact h2
  · rcases (show i = 0 ∨ i = 1 ∨ i = 2 ∨ i = 3 by omega) with rfl | rfl | rfl | rfl
    · exact h0
    · exact h1
    · exact h2
    · exact h3
theorem coupL_end (B : BookV) (t : Tid) : (coupL B t).length = 4 ∨ lkt B.owns ⟨t, ((coupL B t).length : Int)⟩ = none := by
  rcases coupL_cases B t with ⟨e, h0⟩ | ⟨a, e, h0, h1⟩ | ⟨a, b, e, h0, h1, h2⟩ | ⟨a, b, c, e, h0, h1, h2, h3⟩ | ⟨a, b, c, d, e, h0, h1, h2, h3⟩ <;> rw [e]
  · exact .inr h0
  · exact .inr h1
  · exact .inr h2
  · exact .inr h3
  · exact .inl rfl
theorem coupL_of {B : BookV} {t : Tid} {L : List OwnV} (hl : L.length ≤ 4) (h : ∀ i, i < L.length → lkt B.owns ⟨t, (i : Int)⟩ = some (L.getD i own0)) (he : L.length = 4 ∨ lkt B.owns ⟨t, (L.length : Int)⟩ = none) : coupL B t = L := by
  match L, hl, h, he with
  | [], _, h, he =>
    have h0 : lkt B.owns ⟨t, 0⟩ = none := he.elim (fun e => by cases e) id
    unfold coupL; rw [h0]
  | [a], _, h, he =>
    have h0 : lkt B.owns ⟨t, 0⟩ = some a := h 0 (by simp)
    have h1 : lkt B.owns ⟨t, 1⟩ = none := he.elim (fun e => by cases e) id
    unfold coupL; rw [h0, h1]
  | [a, b], _, h, he =>
    have h0 : lkt B.owns ⟨t, 0⟩ = some a := h 0 (by simp)
    have h1 : lkt B.owns ⟨t, 1⟩ = some b := h 1 (by simp)
    have h2 : lkt B.owns ⟨t, 2⟩ = none := he.elim (fun e => by cases e) id
    unfold coupL; rw [h0, h1, h2]
  | [a, b, c], _, h, he =>
    have h0 : lkt B.owns ⟨t, 0⟩ = some a := h 0 (by simp)
    have h1 : lkt B.owns ⟨t, 1⟩ = some b := h 1 (by simp)
    have h2 : lkt B.owns ⟨t, 2⟩ = some c := h 2 (by simp)
    have h3 : lkt B.owns ⟨t, 3⟩ = none := he.elim (fun e => by cases e) id
    unfold coupL; rw [h0, h1, h2, h3]
  | [a, b, c, d], _, h, he =>
    have h0 : lkt B.owns ⟨t, 0⟩ = some a := h 0 (by simp)
    have h1 : lkt B.owns ⟨t, 1⟩ = some b := h 1 (by simp)
    have h2 : lkt B.owns ⟨t, 2⟩ = some c := h 2 (by simp)
    have h3 : lkt B.owns ⟨t, 3⟩ = some d := h 3 (by simp)
    unfold coupL; rw [h0, h1, h2, h3]
  | a :: b :: c :: d :: e :: l, hl, _, _ => simp at hl
theorem coupL_same {B C : BookV} {t : Tid} (h : ∀ i : Int, lkt C.owns ⟨t, i⟩ = lkt B.owns ⟨t, i⟩) : coupL C t = coupL B t := by
  unfold coupL; rw [h 0, h 1, h 2, h 3]
def turnO (s : Int) (o : OwnV) : OwnV := bif freeO o then asO o s else o
theorem turn1_at {B : BookV} {k : Kid} {o : OwnV} {s : Int} (h : lkt B.owns k = some o) : lkt (turn1 B k o s).owns k = some (turnO s o) := by
  unfold turn1 turnO
  cases freeO o
  · exact h
  · show lkt (B.setO k (asO o s)).owns k = _
    rw [setO_some h]
    show lkt (putt B.owns k _) k = _
    rw [lkt_put, if_pos rfl]; rfl
theorem turnL_other {s : Int} {t : Tid} {k : Kid} : ∀ (l : List OwnV) (B : BookV) (i : Int), (∀ j : Nat, j < l.length → k ≠ ⟨t, i + (j : Int)⟩) → lkt (turnL s t B i l).owns k = lkt B.owns k
  | [], _, _, _ => rfl
  | o :: l, B, i, h => by
    show lkt (turnL s t (turn1 B ⟨t, i⟩ o s) (i + 1) l).owns k = _
    rw [turnL_other l _ (i + 1) (fun j hj => by
      have := h (j + 1) (by simp only [List.length_cons]; omega)
      rwa [show i + 1 + (j : Int) = i + ((j + 1 : Nat) : Int) by omega])]
    exact lkt_turn1 (fun e => h 0 (by simp) (by rw [← e]; simp))
theorem turnL_at {s : Int} {t : Tid} : ∀ (l : List OwnV) (B : BookV) (i : Int), (∀ j : Nat, j < l.length → lkt B.owns ⟨t, i + (j : Int)⟩ = some (l.getD j own0)) → ∀ j : Nat, j < l.length → lkt (turnL s t B i l).owns ⟨t, i + (j : Int)⟩ = some (turnO s (l.getD j own0))
  | [], _, _, _, j, hj => absurd hj (Nat.not_lt_zero _)
  | o :: l, B, i, h, j, hj => by
    have h0 : lkt B.owns ⟨t, i⟩ = some o := by have := h 0 (by simp); simpa using this
    have hne : ∀ j : Nat, (⟨t, i⟩ : Kid) ≠ ⟨t, i + 1 + (j : Int)⟩ := fun j e => by injection e with _ e; omega
    show lkt (turnL s t (turn1 B ⟨t, i⟩ o s) (i + 1) l).owns _ = _
    cases j with
    | zero =>
      have := turnL_other (s := s) (t := t) (k := ⟨t, i⟩) l (turn1 B ⟨t, i⟩ o s) (i + 1) (fun j _ => hne j)
      rw [turn1_at h0] at this
      simpa using this
    | succ j =>
      have := turnL_at (s := s) (t := t) l (turn1 B ⟨t, i⟩ o s) (i + 1) (fun j hj => by
        rw [lkt_turn1 (hne j)]
        have := h (j + 1) (by simp only [List.length_cons]; omega)
        rw [show i + 1 + (j : Int) = i + ((j + 1 : Nat) : Int) by omega]
        simpa using this) j (by simpa using hj)
      rw [show i + ((j + 1 : Nat) : Int) = i + 1 + (j : Int) by omega]
      simpa using this
theorem turnB_at {B : BookV} {t : Tid} {s : Int} {i : Nat} (h : i < (coupL B t).length) : lkt (turnB B t s).owns ⟨t, (i : Int)⟩ = some (turnO s ((coupL B t).getD i own0)) := by
  have := turnL_at (s := s) (t := t) (coupL B t) B 0 (fun j hj => by rw [Int.zero_add]; exact coupL_get hj) i h
  rwa [Int.zero_add] at this
theorem turnB_other {B : BookV} {t : Tid} {s : Int} {k : Kid} (h : ∀ i : Nat, i < (coupL B t).length → k ≠ ⟨t, (i : Int)⟩) : lkt (turnB B t s).owns k = lkt B.owns k :=
  turnL_other (coupL B t) B 0 fun j hj => by rw [Int.zero_add]; exact h j hj
theorem coupL_turn (B : BookV) (t : Tid) (s : Int) : coupL (turnB B t s) t = (coupL B t).map (turnO s) := by
  refine coupL_of (by rw [List.length_map]; exact coupL_len B t) (fun i hi => ?_) ?_
  · rw [List.length_map] at hi
    rw [turnB_at hi]
    congr 1
    rw [List.getD_eq_getElem?_getD, List.getD_eq_getElem?_getD, List.getElem?_map, List.getElem?_eq_getElem hi]; rfl
  · rw [List.length_map]
    rcases coupL_end B t with h | h
    · exact .inl h
    · refine .inr ?_
      rw [turnB_other (fun i hi e => by injection e with _ e; omega)]; exact h
theorem coupL_turn_ne (B : BookV) {t t' : Tid} (s : Int) (h : t' ≠ t) : coupL (turnB B t s) t' = coupL B t' :=
  coupL_same fun i => turnB_other fun j _ e => h (by injection e)
def newL (s : SaleV) : List OwnV := (List.range (shareV s.fare (wsOf s)).length).map fun i => ownNew (s.legs.getD i leg0) ((shareV s.fare (wsOf s)).getD i 0)
theorem newL_len (s : SaleV) : (newL s).length = (shareV s.fare (wsOf s)).length := by unfold newL; simp
theorem newL_get {s : SaleV} {i : Nat} (h : i < (shareV s.fare (wsOf s)).length) : (newL s).getD i own0 = ownNew (s.legs.getD i leg0) ((shareV s.fare (wsOf s)).getD i 0) := by
  unfold newL
  rw [List.getD_eq_getElem?_getD, List.getElem?_map, List.getElem?_range h]; rfl
theorem newL_vals (s : SaleV) : (newL s).map (·.k.v) = shareV s.fare (wsOf s) := by
  refine List.ext_getElem? fun i => ?_
  by_cases h : i < (shareV s.fare (wsOf s)).length
  · unfold newL
    rw [List.map_map, List.getElem?_map, List.getElem?_range h]
    show some ((shareV s.fare (wsOf s)).getD i 0) = _
    rw [List.getD_eq_getElem?_getD, List.getElem?_eq_getElem h]; rfl
  · rw [List.getElem?_eq_none (by rw [List.length_map, newL_len]; omega), List.getElem?_eq_none (by omega)]
theorem coupL_issued {B : BookV} {s : SaleV} (hn : ∀ i : Int, lkt B.owns ⟨B.nextT, i⟩ = none) (hl : (shareV s.fare (wsOf s)).length ≤ 4) : coupL (B.issued s) B.nextT = newL s := by
  refine coupL_of (by rw [newL_len]; exact hl) (fun i hi => ?_) ?_
  · rw [newL_len] at hi
    show lkt (issO B.nextT s (shareV s.fare (wsOf s)) B.owns (shareV s.fare (wsOf s)).length) _ = _
    rcases issO_lk B.nextT s (shareV s.fare (wsOf s)) B.owns ⟨B.nextT, (i : Int)⟩ (shareV s.fare (wsOf s)).length with ⟨j, hj, e, h⟩ | ⟨h, -⟩
    · injection e with _ e
      have e : i = j := by omega
      subst e
      rw [h, newL_get hi]
    · exact absurd rfl (h i hi)
  · refine .inr ?_
    rw [newL_len]
    show lkt (issO B.nextT s (shareV s.fare (wsOf s)) B.owns (shareV s.fare (wsOf s)).length) _ = _
    rcases issO_lk B.nextT s (shareV s.fare (wsOf s)) B.owns ⟨B.nextT, ((shareV s.fare (wsOf s)).length : Int)⟩ (shareV s.fare (wsOf s)).length with ⟨j, hj, e, h⟩ | ⟨-, h⟩
    · injection e with _ e; omega
    · rw [h]; exact hn _
theorem coupL_issued_ne {B : BookV} {s : SaleV} {t : Tid} (h : t ≠ B.nextT) : coupL (B.issued s) t = coupL B t := by
  refine coupL_same fun i => ?_
  show lkt (issO B.nextT s (shareV s.fare (wsOf s)) B.owns (shareV s.fare (wsOf s)).length) _ = _
  rcases issO_lk B.nextT s (shareV s.fare (wsOf s)) B.owns ⟨t, i⟩ (shareV s.fare (wsOf s)).length with ⟨j, hj, e, -⟩ | ⟨-, h'⟩
  · injection e with e _; exact absurd e h
  · exact h'
def KeysIn (B : BookV) : Prop := ∀ k o, lkt B.owns k = some o → ∃ d ∈ B.docs, d.t = k.t
theorem KeysIn.next {B : BookV} (h : KeysIn B) (hb : BookOk B) (i : Int) : lkt B.owns ⟨B.nextT, i⟩ = none := by
  cases e : lkt B.owns ⟨B.nextT, i⟩ with
  | none => rfl
  | some o =>
    obtain ⟨d, hd, ht⟩ := h _ _ e
    obtain ⟨j, hj, hjd⟩ := List.getElem_of_mem hd
    have := hb.docs j d (by rw [List.getElem?_eq_getElem hj, hjd])
    rw [this] at ht
    have ht : (⟨B.self, (j : Int) + 1⟩ : Tid) = ⟨B.self, (B.docs.length : Int) + 1⟩ := ht
    injection ht with _ ht
    omega
theorem putD_mem_t {ds : List DocV} {d : DocV} {t : Tid} (h : ∃ x ∈ ds, x.t = t) : ∃ x ∈ putD ds d, x.t = t := by
  obtain ⟨x, hx, e⟩ := h
  have : t ∈ (putD ds d).map (·.t) := by rw [putD_t]; exact e ▸ List.mem_map_of_mem hx
  obtain ⟨y, hy, he⟩ := List.mem_map.1 this
  exact ⟨y, hy, he⟩
theorem KeysIn.setD {B : BookV} (h : KeysIn B) (d : DocV) : KeysIn (B.setD d) := fun k o hk => putD_mem_t (h k o hk)
theorem KeysIn.setO {B : BookV} (h : KeysIn B) (k : Kid) (o : OwnV) : KeysIn (B.setO k o) := by
  unfold BookV.setO
  cases e : lkt B.owns k with
  | none => exact h
  | some x =>
    intro k' o' h'
    have h' : lkt (putt B.owns k o) k' = some o' := h'
    rw [lkt_put] at h'
    by_cases q : k = k'
    · subst q; exact h k x e
    · rw [if_neg q] at h'; exact h k' o' h'
theorem KeysIn.turn1 {B : BookV} (h : KeysIn B) (k : Kid) (o : OwnV) (s : Int) : KeysIn (turn1 B k o s) := by
  unfold Go.Proofs.YtmhbpifhpolghaaGreat.turn1
  cases freeO o
  · exact h
  · exact h.setO k _
theorem KeysIn.turnL (s : Int) (t : Tid) : ∀ (l : List OwnV) {B : BookV} (i : Int), KeysIn B → KeysIn (turnL s t B i l)
  | [], _, _, h => h
  | o :: l, B, i, h => KeysIn.turnL s t l (i + 1) (h.turn1 ⟨t, i⟩ o s)
theorem KeysIn.turnB {B : BookV} (h : KeysIn B) (t : Tid) (s : Int) : KeysIn (turnB B t s) := KeysIn.turnL s t _ 0 h
theorem KeysIn.issued {B : BookV} (h : KeysIn B) (s : SaleV) : KeysIn (B.issued s) := by
  intro k o hk
  have hk : lkt (issO B.nextT s (shareV s.fare (wsOf s)) B.owns (shareV s.fare (wsOf s)).length) k = some o := hk
  rcases issO_lk B.nextT s (shareV s.fare (wsOf s)) B.owns k (shareV s.fare (wsOf s)).length with ⟨j, hj, e, -⟩ | ⟨-, h'⟩
  · exact ⟨docMade B.nextT s, List.mem_append_right _ (List.mem_singleton.2 rfl), by rw [e]; rfl⟩
  · rw [h'] at hk
    obtain ⟨d, hd, ht⟩ := h k o hk
    exact ⟨d, List.mem_append_left _ hd, ht⟩
end Go.Proofs.YtmhbpifhpolghaaGreat
end
