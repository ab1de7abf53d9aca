/- HANDOVER 4: over a book as one thing; requests that are open. -/
import Derived.Test.YtlekbdpdlalhbaaM5449731
namespace Go.Proofs.Ytlekbdpdlalhbaa
set_option maxRecDepth 100000
open Go.RowKit Go.Lib Go.Tk Go.Shelf Go.Vc Go.Sx
set_option linter.unusedVariables false
set_option linter.unusedSimpArgs false

/-! ### requests that are open -/
def cntO (c : Int) (o : OwnV) : Nat := bif o.asked && (o.away && decide (o.dst = c)) then 1 else 0
def cntH (c : Int) (p : Kid × HeldV) : Nat := (bif decide (p.1.t.c = c) && p.2.wanted then 1 else 0) + (bif decide (p.1.t.c = c) && p.2.billed then 1 else 0)
def sumN {α : Type} (f : α → Nat) : List α → Nat
  | [] => 0
  | x :: l => f x + sumN f l
theorem sumN_perm {α : Type} {f : α → Nat} {l m : List α} (h : l.Perm m) : sumN f l = sumN f m := by
  induction h with
  | nil => rfl
  | cons x _ ih => unfold sumN; rw [ih]
  | swap x y l => simp only [sumN]; omega
  | trans _ _ h1 h2 => rw [h1, h2]
def openN (B : BookV) (c : Int) : Nat := sumN (fun p : Kid × OwnV => cntO c p.2) B.owns + sumN (cntH c) B.helds
def OpenF : Nat := 20
def Open1 : Nat := 45
theorem count1_w (n : Int) (hn : 0 ≤ n ∧ n ≤ 1000000) (b : Bool) : CallOK Try.prog Open1 [.raw 0 1, .ptr 0 0 0] [((0, 1), .row 4 1 1 (.deep [.val (.bool b)]) [])] [((0, 0), .box none [.val (.int .i64 n)])] noS [((0, 0), .box none [.val (.int .i64 (n + (bif b then 1 else 0)))])] := by
  have w1 : IntKind.i64.wrap (n + 1) = n + 1 := wr_i64 (by omega)
  cases b
  · rw [show n + (bif false then 1 else 0) = n from Int.add_zero n]
    exact callOK_runU 400 [] (by kernel_rfl) (by kernel_rfl)
  · exact callOK_runU 400 [hI 4 1 IntKind.i64 _ _ w1] (by kernel_rfl) (by kernel_rfl)
theorem count2_w (n : Int) (hn : 0 ≤ n ∧ n ≤ 1000000) (b d : Bool) : CallOK Try.prog Open1 [.raw 0 1, .ptr 0 0 0] [((0, 1), .row 4 1 2 (.deep [.val (.bool b), .val (.bool d)]) [])] [((0, 0), .box none [.val (.int .i64 n)])] noS [((0, 0), .box none [.val (.int .i64 (n + ((bif b then 1 else 0) + (bif d then 1 else 0))))])] := by
  have w1 : IntKind.i64.wrap (n + 1) = n + 1 := wr_i64 (by omega)
  have w2 : IntKind.i64.wrap (n + 1 + 1) = n + (1 + 1) := by rw [wr_i64 (by omega)]; omega
  cases b <;> cases d
  · rw [show n + ((bif false then 1 else 0) + (bif false then 1 else 0)) = n from Int.add_zero n]
    exact callOK_runU 400 [] (by kernel_rfl) (by kernel_rfl)
  · rw [show n + ((bif false then 1 else 0) + (bif true then 1 else 0)) = n + 1 from rfl]
    exact callOK_runU 400 [hI 4 1 IntKind.i64 _ _ w1] (by kernel_rfl) (by kernel_rfl)
  · rw [show n + ((bif true then 1 else 0) + (bif false then 1 else 0)) = n + 1 from rfl]
    exact callOK_runU 400 [hI 4 1 IntKind.i64 _ _ w1] (by kernel_rfl) (by kernel_rfl)
  · rw [show n + ((bif true then 1 else 0) + (bif true then 1 else 0)) = n + (1 + 1) from rfl]
    exact callOK_runU 400 [hI 4 1 IntKind.i64 _ _ w1, hI 4 1 IntKind.i64 _ _ w2] (by kernel_rfl) (by kernel_rfl)
theorem open_c (B : BookV) (c : Int) (hO : B.owns.length ≤ 1000) (hH : B.helds.length ≤ 1000) : CallOK Try.prog OpenF [.ptr 0 0 0, .val (.int .u8 c)] [] (bkC B) (.val (.int .i64 (openN B c : Int))) (bkC B) := by
  have cle : ∀ l : OwnsV, sumN (fun p : Kid × OwnV => cntO c p.2) l ≤ l.length := fun l => by
    induction l with
    | nil => exact Nat.le_refl _
    | cons p l ih =>
      have : cntO c p.2 ≤ 1 := by unfold cntO; cases (p.2.asked && (p.2.away && decide (p.2.dst = c))) <;> decide
      simp only [sumN, List.length_cons]; omega
  have hle : ∀ l : HeldsV, sumN (cntH c) l ≤ 2 * l.length := fun l => by
    induction l with
    | nil => exact Nat.le_refl _
    | cons p l ih =>
      have : cntH c p ≤ 2 := by unfold cntH; cases (decide (p.1.t.c = c) && p.2.wanted) <;> cases (decide (p.1.t.c = c) && p.2.billed) <;> decide
      simp only [sumN, List.length_cons]; omega
  refine callOK_intro (by kernel_rfl) fun eb R => ?_
  refine go_open (X := BkA) (fun a => [((0, 0), .box none [.val (.int .u8 B.self), .val (.int .i64 B.n), .val (.map (some a.d)), .val (.map (some a.o)), .val (.map (some a.h))]), ((0, 1), .fam fun _ _ => docsX B.docs a.d undef), ((0, 2), .fam fun _ _ => mapC kidK a.o (ents ownW B.owns)), ((0, 3), .fam fun _ _ => mapC kidK a.h (ents heldW B.helds))])
    (fun ε w hM => by obtain ⟨a, h⟩ := Mem.ex hM; exact ⟨a, h.all⟩) (fun a => by kernel_rfl) fun a => ?_
  have r1 := rangeG (P := Try.prog) (K := kidK) (t := OT) (m := a.o) (j := 2) (L := ents ownW B.owns) Try.underlying77
  have r2 := rangeG (P := Try.prog) (K := kidK) (t := HT) (m := a.h) (j := 3) (L := ents heldW B.helds) Try.underlying78
  have d1 := next_doneG (P := Try.prog) (K := kidK) (m := a.o) (L := ents ownW B.owns)
  have d2 := next_doneG (P := Try.prog) (K := kidK) (m := a.h) (L := ents heldW B.helds)
  refine go_loop (X := { x : OwnsV × OwnsV // B.owns.Perm (x.1 ++ x.2) }) 0 [] (fun x => ([(0, .ptr 0 0 0), (1, .val (.int .u8 c)), (5, .ptr 1 0 0), (6, .fn (.func Open1) [] [.ptr 1 0 0]), (19, .ptr 1 1 0)],
      [((0, 0), .box none [.val (.int .u8 B.self), .val (.int .i64 B.n), .val (.map (some a.d)), .val (.map (some a.o)), .val (.map (some a.h))]), ((0, 1), .fam fun _ _ => docsX B.docs a.d undef), ((0, 3), .fam fun _ _ => mapC kidK a.h (ents heldW B.helds)), ((1, 0), .box none [.val (.int .i64 (sumN (fun p : Kid × OwnV => cntO c p.2) x.1.1 : Int))]), ((1, 1), .fam fun r _ => rngC kidK r a.o (ents ownW B.owns) (ents ownW x.1.2))]))
    (fun x => x.1.2.length) ⟨([], B.owns), List.Perm.refl _⟩ calNone false 400 [hG 5 4 r1] calNone_ok (by kernel_rfl) ?_
  rintro ⟨⟨done, left⟩, hd⟩ J hJ
  cases left with
  | cons x l =>
    have m1 := next_moreG (P := Try.prog) (K := kidK) (m := a.o) (L := ents ownW B.owns) (left := ents ownW (x :: l)) (by simp [ents])
    refine leaf_cut (rgK Try.prog OpenF 7 [J]) [(0, .ptr 0 0 0), (1, .val (.int .u8 c)), (5, .ptr 1 0 0), (6, .fn (.func Open1) [] [.ptr 1 0 0]), (19, .ptr 1 1 0)]
      [((1, 1), .fam fun r _ => exC fun (y : (Kid × Value) × List (Kid × Value)) => curC kidK r a.o (ents ownW B.owns) (ents ownW (x :: l)) y.1 y.2), ((0, 0), .box none [.val (.int .u8 B.self), .val (.int .i64 B.n), .val (.map (some a.d)), .val (.map (some a.o)), .val (.map (some a.h))]), ((0, 1), .fam fun _ _ => docsX B.docs a.d undef), ((0, 3), .fam fun _ _ => mapC kidK a.h (ents heldW B.helds)), ((1, 0), .box none [.val (.int .i64 (sumN (fun p : Kid × OwnV => cntO c p.2) done : Int))])]
      calNone false 400 [hG 6 0 m1, .stop 7] calNone_ok (by kernel_rfl) ?_
    refine go_open (X := { y : (Kid × OwnV) × OwnsV // (x :: l).Perm (y.1 :: y.2) }) (fun y => [((1, 1), .fam fun r _ => curC kidK r a.o (ents ownW B.owns) (ents ownW (x :: l)) (y.1.1.1, ownW y.1.1.2) (ents ownW y.1.2)), ((0, 0), .box none [.val (.int .u8 B.self), .val (.int .i64 B.n), .val (.map (some a.d)), .val (.map (some a.o)), .val (.map (some a.h))]), ((0, 1), .fam fun _ _ => docsX B.docs a.d undef), ((0, 3), .fam fun _ _ => mapC kidK a.h (ents heldW B.helds)), ((1, 0), .box none [.val (.int .i64 (sumN (fun p : Kid × OwnV => cntO c p.2) done : Int))])])
      (fun ε w hM => cur_typed hM) (fun y => by kernel_rfl) ?_
    rintro ⟨⟨⟨k, o⟩, l'⟩, hp⟩
    have g1 := entryG (P := Try.prog) (K := kidK) (m := a.o) (L := ents ownW B.owns) (left := ents ownW (x :: l)) (left' := ents ownW l') (p := (k, ownW o)) (ks := .agg (kidS k)) (vs := .agg (ownS o)) (fun _ => rfl) (fun _ => rfl)
    have hd' : B.owns.Perm (((k, o) :: done) ++ l') := hd.trans ((List.Perm.append_left done hp).trans List.perm_middle)
    have hlen := hd'.length_eq
    simp only [List.length_append, List.length_cons] at hlen
    have hcl := cle done
    have c1 := count1_w (sumN (fun p : Kid × OwnV => cntO c p.2) done : Int) (by omega) (o.asked && (o.away && decide (o.dst = c)))
    have hc : (sumN (fun p : Kid × OwnV => cntO c p.2) done : Int) + (bif (o.asked && (o.away && decide (o.dst = c))) then 1 else 0) = ((sumN (fun p : Kid × OwnV => cntO c p.2) ((k, o) :: done) : Nat) : Int) := by
      simp only [sumN, cntO]
      cases (o.asked && (o.away && decide (o.dst = c))) <;> simp <;> omega
    rw [hc] at c1
    have hlt : l'.length < (x :: l).length := by have := hp.length_eq; simp only [List.length_cons] at this ⊢; omega
    rcases Bool.eq_false_or_eq_true o.asked with e1 | e1 <;> rcases Bool.eq_false_or_eq_true o.away with e2 | e2 <;> rcases Bool.eq_false_or_eq_true (decide (o.dst = c)) with e3 | e3 <;> rw [e1, e2, e3] at c1 <;> exact leaf_round (lpK Try.prog OpenF 0 []) false 400 [hG 7 0 g1, hB 8 2 _ _ e1, hB 8 5 _ _ e2, hB 8 11 _ _ e3, hC 8 14 c1] (hJ ⟨((k, o) :: done, l'), hd'⟩ hlt) (by kernel_rfl)
  | nil =>
    rw [List.append_nil] at hd
    have hdl : B.owns.length = done.length := hd.length_eq
    have hcl := cle done
    refine go_loop (X := { x : HeldsV × HeldsV // B.helds.Perm (x.1 ++ x.2) }) 1 [] (fun x => ([(1, .val (.int .u8 c)), (5, .ptr 1 0 0), (6, .fn (.func Open1) [] [.ptr 1 0 0]), (43, .ptr 1 2 0)],
        [((0, 0), .box none [.val (.int .u8 B.self), .val (.int .i64 B.n), .val (.map (some a.d)), .val (.map (some a.o)), .val (.map (some a.h))]), ((0, 1), .fam fun _ _ => docsX B.docs a.d undef), ((1, 0), .box none [.val (.int .i64 ((sumN (fun p : Kid × OwnV => cntO c p.2) done + sumN (cntH c) x.1.1 : Nat) : Int))]), ((1, 1), .fam fun r _ => rngC kidK r a.o (ents ownW B.owns) []), ((1, 2), .fam fun r _ => rngC kidK r a.h (ents heldW B.helds) (ents heldW x.1.2))]))
      (fun x => x.1.2.length) ⟨([], B.helds), List.Perm.refl _⟩ calNone false 400 [hG 6 0 d1, hG 9 4 r2] calNone_ok (by kernel_rfl) ?_
    rintro ⟨⟨done2, left⟩, hd2⟩ J hJ
    cases left with
    | cons x l =>
      have m2 := next_moreG (P := Try.prog) (K := kidK) (m := a.h) (L := ents heldW B.helds) (left := ents heldW (x :: l)) (by simp [ents])
      refine leaf_cut (rgK Try.prog OpenF 11 [J]) [(1, .val (.int .u8 c)), (5, .ptr 1 0 0), (6, .fn (.func Open1) [] [.ptr 1 0 0]), (43, .ptr 1 2 0)]
        [((1, 2), .fam fun r _ => exC fun (y : (Kid × Value) × List (Kid × Value)) => curC kidK r a.h (ents heldW B.helds) (ents heldW (x :: l)) y.1 y.2), ((0, 0), .box none [.val (.int .u8 B.self), .val (.int .i64 B.n), .val (.map (some a.d)), .val (.map (some a.o)), .val (.map (some a.h))]), ((0, 1), .fam fun _ _ => docsX B.docs a.d undef), ((1, 0), .box none [.val (.int .i64 ((sumN (fun p : Kid × OwnV => cntO c p.2) done + sumN (cntH c) done2 : Nat) : Int))]), ((1, 1), .fam fun r _ => rngC kidK r a.o (ents ownW B.owns) [])]
        calNone false 400 [hG 10 0 m2, .stop 11] calNone_ok (by kernel_rfl) ?_
      refine go_open (X := { y : (Kid × HeldV) × HeldsV // (x :: l).Perm (y.1 :: y.2) }) (fun y => [((1, 2), .fam fun r _ => curC kidK r a.h (ents heldW B.helds) (ents heldW (x :: l)) (y.1.1.1, heldW y.1.1.2) (ents heldW y.1.2)), ((0, 0), .box none [.val (.int .u8 B.self), .val (.int .i64 B.n), .val (.map (some a.d)), .val (.map (some a.o)), .val (.map (some a.h))]), ((0, 1), .fam fun _ _ => docsX B.docs a.d undef), ((1, 0), .box none [.val (.int .i64 ((sumN (fun p : Kid × OwnV => cntO c p.2) done + sumN (cntH c) done2 : Nat) : Int))]), ((1, 1), .fam fun r _ => rngC kidK r a.o (ents ownW B.owns) [])])
        (fun ε w hM => cur_typed hM) (fun y => by kernel_rfl) ?_
      rintro ⟨⟨⟨k, h⟩, l'⟩, hp⟩
      have g2 := entryG (P := Try.prog) (K := kidK) (m := a.h) (L := ents heldW B.helds) (left := ents heldW (x :: l)) (left' := ents heldW l') (p := (k, heldW h)) (ks := .agg (kidS k)) (vs := .agg (heldS h)) (fun _ => rfl) (fun _ => rfl)
      have hd' : B.helds.Perm (((k, h) :: done2) ++ l') := hd2.trans ((List.Perm.append_left done2 hp).trans List.perm_middle)
      have hlen := hd'.length_eq
      simp only [List.length_append, List.length_cons] at hlen
      have hcl2 := hle done2
      have c2 := count2_w ((sumN (fun p : Kid × OwnV => cntO c p.2) done + sumN (cntH c) done2 : Nat) : Int) (by omega) (decide (k.t.c = c) && h.wanted) (decide (k.t.c = c) && h.billed)
      have hc : ((sumN (fun p : Kid × OwnV => cntO c p.2) done + sumN (cntH c) done2 : Nat) : Int) + ((bif (decide (k.t.c = c) && h.wanted) then 1 else 0) + (bif (decide (k.t.c = c) && h.billed) then 1 else 0)) = ((sumN (fun p : Kid × OwnV => cntO c p.2) done + sumN (cntH c) ((k, h) :: done2) : Nat) : Int) := by
        simp only [sumN, cntH]
        cases (decide (k.t.c = c) && h.wanted) <;> cases (decide (k.t.c = c) && h.billed) <;> simp <;> omega
      rw [hc] at c2
      have hlt : l'.length < (x :: l).length := by have := hp.length_eq; simp only [List.length_cons] at this ⊢; omega
      rcases Bool.eq_false_or_eq_true (decide (k.t.c = c)) with e1 | e1 <;> rcases Bool.eq_false_or_eq_true h.wanted with e2 | e2 <;> rcases Bool.eq_false_or_eq_true h.billed with e3 | e3 <;> rw [e1, e2, e3] at c2 <;> exact leaf_round (lpK Try.prog OpenF 1 []) false 400 [hG 11 0 g2, hB 12 4 _ _ e1, hB 13 4 _ _ e2, hB 13 9 _ _ e3, hC 13 12 c2] (hJ ⟨((k, h) :: done2, l'), hd'⟩ hlt) (by kernel_rfl)
    | nil =>
      rw [List.append_nil] at hd2
      have hN : ((sumN (fun p : Kid × OwnV => cntO c p.2) done + sumN (cntH c) done2 : Nat) : Int) = (openN B c : Int) := by
        unfold openN; rw [sumN_perm hd, sumN_perm hd2]
      refine leaf_cut (rgK Try.prog OpenF 14 []) [(5, .ptr 1 0 0)]
        [((0, 0), .box none [.val (.int .u8 B.self), .val (.int .i64 B.n), .val (.map (some a.d)), .val (.map (some a.o)), .val (.map (some a.h))]), ((0, 1), .fam fun _ _ => docsX B.docs a.d undef), ((1, 0), .box none [.val (.int .i64 ((sumN (fun p : Kid × OwnV => cntO c p.2) done + sumN (cntH c) done2 : Nat) : Int))]), ((1, 1), .fam fun r _ => rngC kidK r a.o (ents ownW B.owns) []), ((1, 2), .fam fun r _ => rngC kidK r a.h (ents heldW B.helds) [])]
        calNone false 400 [hG 10 0 d2, .stop 14] calNone_ok (by kernel_rfl) ?_
      refine go_open (X := Unit) (fun _ => [((0, 0), .fam (bookF B)), ((1, 0), .box none [.val (.int .i64 ((sumN (fun p : Kid × OwnV => cntO c p.2) done + sumN (cntH c) done2 : Nat) : Int))])])
        (fun ε w hM => by
          have h1 := (hM.front 4 rfl).weaken (c' := mapT kidK heldW B.helds a.h undef) fun S hS => ⟨hS.2.1, hS.2.2.map⟩
          have h2 := (h1.front 4 rfl).weaken (c' := mapT kidK ownW B.owns a.o undef) fun S hS => ⟨hS.2.1, hS.2.2.map⟩
          have h4 := (h2.front 3 rfl).front 3 rfl
          exact ⟨(), Mem.in_ex a (Mem.in_all (l := [_, _, _, _]) h4)⟩) (fun _ => by kernel_rfl) fun _ => ?_
      exact leaf_end calNone false 400 [hI 14 0 IntKind.i64 _ _ hN] calNone_ok (by kernel_rfl)
end Go.Proofs.Ytlekbdpdlalhbaa
