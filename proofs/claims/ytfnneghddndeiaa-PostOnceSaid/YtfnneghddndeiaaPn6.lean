/- POST ONCE by SX 6: a round, whole. -/
import Derived.Test.YtfnneghddndeiaaPn5
namespace Go.Proofs.Ytfnneghddndeiaa
set_option maxRecDepth 100000
open Go.RowKit Go.Lib Go.Tk Go.Shelf Go.Vc Go.Sx
set_option linter.unusedVariables false
set_option linter.unusedSimpArgs false
section
variable {F : PnF} {PA PB : PostV} {pu : List Msg} {nt : Nat} {way : List Pk} {acks : List Int} {a : Option Addr} {n cap i : Nat} {eb : Env} {R : List Chunk} {J : Act → World → Prop} {ret : SV} {rp : Heap} {x : PAct}
theorem once_23 (h : OnceOk PA PB pu nt way acks i) (hi : i ≤ 300) (ok : PActOk x) (d : x.dO = 2 ∨ x.dO = 3)
    (hq : ∀ PB' nt' way', OnceOk PA PB' pu nt' way' acks (i + 1) → Go Try.prog OnceF ret rp eb R .nrm (rgK Try.prog OnceF 35 [J]) (onSl a n cap i) (onHp F PA PB' pu (pu.take nt') way' acks)) :
    Go Try.prog OnceF ret rp eb R .nrm (rgK Try.prog OnceF 14 [J]) (onS1 a n cap i) (onH1 F x PA PB pu (pu.take nt) way acks) := by
  have d0 : decide (x.dO = 0) = false := decide_eq_false (by omega)
  have d1 : decide (x.dO = 1) = false := decide_eq_false (by omega)
  have lw := h.lw
  have pre : Go Try.prog OnceF ret rp eb R .nrm (rgK Try.prog OnceF 28 [J]) (onS1 a n cap i) (onH1 F x PA PB pu (pu.take nt) way acks) := by
    by_cases e : way.length = 0
    · have e1 : decide ((way.length : Int) = 0) = true := decide_eq_true (by omega)
      have fin := hq _ _ _ h.step
      clear hq h
      generalize pu.take nt = ta at *
      exact leaf_cut (rgK Try.prog OnceF 35 [J]) _ _ calNone false 400 [hB 28 2 _ _ e1, .stop 35] calNone_ok (by kernel_rfl) fin
    · have e1 : decide ((way.length : Int) = 0) = false := decide_eq_false (by omega)
      obtain ⟨j, ej, hj⟩ := tmod_nat ok.num.1 (show 0 < way.length by omega)
      have w1 : IntKind.u64.wrap (way.length : Int) = (way.length : Int) := wr_u64 (by omega)
      have w2 : IntKind.i64.wrap (j : Int) = (j : Int) := wr_i64 (by omega)
      have r1 := rem_g (P := Try.prog) (t := 31) (k := .u64) (a := x.num) (b := (way.length : Int)) Try.underlying31 (by omega)
      rw [ej] at r1
      have x1 := pk_elt hj (t := 50) (u := .agg (pkS (way.getD j pkZ))) 0 (by kernel_rfl)
      have r2 := rem_g (P := Try.prog) (t := 31) (k := .u64) (a := x.num) (b := 2) Try.underlying31 (by omega)
      have hp := h.wayOk _ (List.mem_of_getElem? (pnD_some hj pkZ))
      have stay := once_take (F := F) (a := a) (n := n) (cap := cap) (eb := eb) (R := R) (J := J) (ret := ret) (rp := rp) (x := x) h.step hi hp fun PB' nt' h' => hq PB' nt' way h'
      have lose := once_lose (F := F) (PA := PA) (PB := PB) (pu := pu) (nt := nt) (acks := acks) (a := a) (n := n) (cap := cap) (i := i) (eb := eb) (R := R) (J := J) (ret := ret) (rp := rp) (x := x) (p := way.getD j pkZ) hj (by omega)
        (once_take (h.lose (way' := way.take j ++ way.drop (j + 1)) (fun p q => (List.mem_append.1 q).elim List.mem_of_mem_take List.mem_of_mem_drop) (by rw [List.length_append, List.length_take, List.length_drop]; omega)) hi hp fun PB' nt' h' => hq PB' nt' _ h')
      clear hq h hp
      generalize way.getD j pkZ = p at *
      generalize pu.take nt = ta at *
      unfold rP rowP at x1
      unfold onS1 onH1 onHp rP rowP
      rcases Bool.eq_false_or_eq_true (decide (x.num.tmod 2 = 0)) with e2 | e2
      · exact leaf_cut (rgK Try.prog OnceF 32 [J]) _ _ calNone false 400 [hB 28 2 _ _ e1, hI 29 4 IntKind.u64 _ _ w1, hG 29 5 r1, hI 29 6 IntKind.i64 _ _ w2, .opt 30 2 (.at_ 0 _ _ _ ⟨rfl, hj⟩), hG 30 3 x1, hG 31 2 r2, hB 31 3 _ _ e2, .stop 32] calNone_ok (by kernel_rfl) lose
      rcases Bool.eq_false_or_eq_true (decide (x.dO = 3)) with e3 | e3
      · exact leaf_cut (rgK Try.prog OnceF 32 [J]) _ _ calNone false 400 [hB 28 2 _ _ e1, hI 29 4 IntKind.u64 _ _ w1, hG 29 5 r1, hI 29 6 IntKind.i64 _ _ w2, .opt 30 2 (.at_ 0 _ _ _ ⟨rfl, hj⟩), hG 30 3 x1, hG 31 2 r2, hB 31 3 _ _ e2, hB 31 7 _ _ e3, .stop 32] calNone_ok (by kernel_rfl) lose
      · exact leaf_cut (rgK Try.prog OnceF 33 [J]) _ _ calNone false 400 [hB 28 2 _ _ e1, hI 29 4 IntKind.u64 _ _ w1, hG 29 5 r1, hI 29 6 IntKind.i64 _ _ w2, .opt 30 2 (.at_ 0 _ _ _ ⟨rfl, hj⟩), hG 30 3 x1, hG 31 2 r2, hB 31 3 _ _ e2, hB 31 7 _ _ e3, .stop 33] calNone_ok (by kernel_rfl) stay
  clear hq h
  generalize pu.take nt = ta at *
  rcases d with d | d
  · have d2 : decide (x.dO = 2) = true := decide_eq_true d
    exact leaf_cut (rgK Try.prog OnceF 28 [J]) _ _ calNone false 400 [hB 19 0 _ _ d0, hB 22 0 _ _ d1, hB 26 0 _ _ d2, .stop 28] calNone_ok (by kernel_rfl) pre
  · have d2 : decide (x.dO = 2) = false := decide_eq_false (by omega)
    have d3 : decide (x.dO = 3) = true := decide_eq_true d
    exact leaf_cut (rgK Try.prog OnceF 28 [J]) _ _ calNone false 400 [hB 19 0 _ _ d0, hB 22 0 _ _ d1, hB 26 0 _ _ d2, hB 27 0 _ _ d3, .stop 28] calNone_ok (by kernel_rfl) pre
theorem u64_elt {l : List Int} {i : Nat} (h : i < l.length) : OpG Try.prog (isLoad 31) loadX [.elt 0 0 0 (i * 1) 0] [((0, 0), rU l)] [] (.val (.int .u64 (l.getD i 0))) [] :=
  load_eltG (P := Try.prog) (cs := [.val (.int .u64 (l.getD i 0))]) (by kernel_rfl) fun ε q v hq => by
    cases q with
    | succ q => cases hq
    | zero =>
      cases hq
      show (l.map (Value.int .u64))[i * 1 + 0]? = _
      rw [Nat.mul_one, Nat.add_zero, List.getElem?_map, pnD_some h 0]; rfl
theorem once_4 (h : OnceOk PA PB pu nt way acks i) (hi : i ≤ 300) (ok : PActOk x) (d : x.dO ≠ 0 ∧ x.dO ≠ 1 ∧ x.dO ≠ 2 ∧ x.dO ≠ 3)
    (hq : ∀ PA' acks', OnceOk PA' PB pu nt way acks' (i + 1) → Go Try.prog OnceF ret rp eb R .nrm (rgK Try.prog OnceF 35 [J]) (onSl a n cap i) (onHp F PA' PB pu (pu.take nt) way acks')) :
    Go Try.prog OnceF ret rp eb R .nrm (rgK Try.prog OnceF 14 [J]) (onS1 a n cap i) (onH1 F x PA PB pu (pu.take nt) way acks) := by
  have d0 : decide (x.dO = 0) = false := decide_eq_false d.1
  have d1 : decide (x.dO = 1) = false := decide_eq_false d.2.1
  have d2 : decide (x.dO = 2) = false := decide_eq_false d.2.2.1
  have d3 : decide (x.dO = 3) = false := decide_eq_false d.2.2.2
  have la := h.la
  have lp := h.lp
  have tk := h.tk
  obtain ⟨-, t2, -⟩ := h.tells
  have c1 := last_c PB 0 (by omega) (by omega)
  rw [t2] at c1
  have h2 := h.acked
  have hl : (acks ++ [(nt : Int)]).length = acks.length + 1 := by simp
  obtain ⟨j, ej, hj⟩ := tmod_nat ok.num.1 (show 0 < acks.length + 1 by omega)
  have w1 : IntKind.u64.wrap ((acks.length + 1 : Nat) : Int) = ((acks.length + 1 : Nat) : Int) := wr_u64 (by omega)
  have w2 : IntKind.i64.wrap (j : Int) = (j : Int) := wr_i64 (by omega)
  have r1 := rem_g (P := Try.prog) (t := 31) (k := .u64) (a := x.num) (b := ((acks.length + 1 : Nat) : Int)) Try.underlying31 (by omega)
  rw [ej] at r1
  have x1 := u64_elt (l := acks ++ [(nt : Int)]) (i := j) (by omega)
  have hm := h2.acksOk _ (List.mem_of_getElem? (pnD_some (show j < (acks ++ [(nt : Int)]).length by omega) 0))
  generalize (acks ++ [(nt : Int)]).getD j 0 = y at *
  obtain ⟨o1, o2, -⟩ := h2.ackd y hm.1 hm.2
  have c2 := ack_c PA 1 y (by omega) (by omega) (by omega) (by omega)
  have fin := hq _ _ o1
  unfold rU rowU at x1
  unfold onHp rU rowU at fin
  rw [hl, List.map_append] at fin x1
  have hb : acks.length + 1 ≤ 1073741824 := by omega
  unfold onS1 onH1 onHp rU rowU
  generalize doP (fun X => ackX X y) PA 1 = r at *
  generalize pu.take nt = ta at *
  clear hq h h2 o1 hm
  rcases o2 with e | e
  · have e1 : (!decide (r.1 = 0)) = false := by simp [e]
    exact leaf_cut (rgK Try.prog OnceF 35 [J]) _ _ calNone false 400 [hB 19 0 _ _ d0, hB 22 0 _ _ d1, hB 26 0 _ _ d2, hB 27 0 _ _ d3, hC 15 2 c1, .opt 15 4 (.le _ hb), hI 16 6 IntKind.u64 _ _ w1, hG 16 7 r1, hI 16 8 IntKind.i64 _ _ w2, .opt 16 9 (.at_ 0 _ _ _ ⟨rfl, hj⟩), hG 16 10 x1, hC 16 11 c2, hB 17 1 _ _ e1, .stop 35] calNone_ok (by kernel_rfl) fin
  · have e1 : (!decide (r.1 = 0)) = true := by simp [e]
    have e2 : (!decide (r.1 = 6)) = false := by simp [e]
    exact leaf_cut (rgK Try.prog OnceF 35 [J]) _ _ calNone false 400 [hB 19 0 _ _ d0, hB 22 0 _ _ d1, hB 26 0 _ _ d2, hB 27 0 _ _ d3, hC 15 2 c1, .opt 15 4 (.le _ hb), hI 16 6 IntKind.u64 _ _ w1, hG 16 7 r1, hI 16 8 IntKind.i64 _ _ w2, .opt 16 9 (.at_ 0 _ _ _ ⟨rfl, hj⟩), hG 16 10 x1, hC 16 11 c2, hB 17 1 _ _ e1, hB 17 4 _ _ e2, .stop 35] calNone_ok (by kernel_rfl) fin
end
end Go.Proofs.Ytfnneghddndeiaa
