/- POST ONCE by SX 4: what is done in a round. -/
import Derived.Test.YtfnneghddndeiaaPn3
namespace Go.Proofs.Ytfnneghddndeiaa
set_option maxRecDepth 100000
open Go.RowKit Go.Lib Go.Tk Go.Shelf Go.Vc Go.Sx
set_option linter.unusedVariables false
set_option linter.unusedSimpArgs false
def onS1 (a : Option Addr) (n cap i : Nat) : Slots := onSl a n cap i ++ [(12, .ptr 1 7 0)]
def onH1 (F : PnF) (x : PAct) (PA PB : PostV) (pu ta : List Msg) (way : List Pk) (acks : List Int) : Heap := onHp F PA PB pu ta way acks ++ [((1, 7), .box none (actS x))]
section
variable {F : PnF} {PA PB : PostV} {pu : List Msg} {nt : Nat} {way : List Pk} {acks : List Int} {a : Option Addr} {n cap i : Nat} {eb : Env} {R : List Chunk} {J : Act → World → Prop} {ret : SV} {rp : Heap} {x : PAct}
theorem once_0 (h : OnceOk PA PB pu nt way acks i) (hi : i ≤ 300) (d : x.dO = 0)
    (hq : ∀ PA' pu', OnceOk PA' PB pu' nt way acks (i + 1) → Go Try.prog OnceF ret rp eb R .nrm (rgK Try.prog OnceF 35 [J]) (onSl a n cap i) (onHp F PA' PB pu' (pu'.take nt) way acks)) :
    Go Try.prog OnceF ret rp eb R .nrm (rgK Try.prog OnceF 14 [J]) (onS1 a n cap i) (onH1 F x PA PB pu (pu.take nt) way acks) := by
  have d0 : decide (x.dO = 0) = true := decide_eq_true d
  have lp := h.lp
  have tk := h.tk
  have c1 := push_c PA 1 x.m (by omega) (by omega) (fun _ => by
    have := h.given
    show (PA.box 1).given < 4294967296
    omega)
  by_cases e : (doP (fun X => pushX X x.m) PA 1).1 = 0
  · have e1 : decide ((doP (fun X => pushX X x.m) PA 1).1 = 0) = true := decide_eq_true e
    have fin := hq _ _ (h.push x.m (by omega) e)
    rw [List.take_append_of_le_length tk] at fin
    unfold onHp rM rowM at fin
    rw [cells_snoc, List.length_append] at fin
    have hb : pu.length + 1 ≤ 1073741824 := by omega
    unfold onH1 onHp rM rowM
    generalize doP (fun X => pushX X x.m) PA 1 = r at *
    generalize pu.take nt = ta at *
    clear hq h
    exact leaf_cut (rgK Try.prog OnceF 35 [J]) _ _ calNone false 400 [hB 19 0 _ _ d0, hC 20 3 c1, hB 20 4 _ _ e1, .opt 21 4 (.le _ hb), .stop 35] calNone_ok (by kernel_rfl) fin
  · have e1 : decide ((doP (fun X => pushX X x.m) PA 1).1 = 0) = false := decide_eq_false e
    have fin := hq _ _ (h.push_no x.m e)
    generalize doP (fun X => pushX X x.m) PA 1 = r at *
    clear hq h
    exact leaf_cut (rgK Try.prog OnceF 35 [J]) _ _ calNone false 400 [hB 19 0 _ _ d0, hC 20 3 c1, hB 20 4 _ _ e1, .stop 35] calNone_ok (by kernel_rfl) fin
theorem tmod_nat {x : Int} {n : Nat} (h0 : 0 ≤ x) (hn : 0 < n) : ∃ j : Nat, x.tmod (n : Int) = (j : Int) ∧ j < n := by
  have h1 := Int.tmod_nonneg (n : Int) h0
  have h2 := Int.tmod_lt_of_pos x (show (0 : Int) < (n : Int) by omega)
  exact ⟨(x.tmod n).toNat, by omega, by omega⟩
theorem once_1 (h : OnceOk PA PB pu nt way acks i) (hi : i ≤ 300) (ok : PActOk x) (d : x.dO = 1)
    (hq : ∀ way', OnceOk PA PB pu nt way' acks (i + 1) → Go Try.prog OnceF ret rp eb R .nrm (rgK Try.prog OnceF 35 [J]) (onSl a n cap i) (onHp F PA PB pu (pu.take nt) way' acks)) :
    Go Try.prog OnceF ret rp eb R .nrm (rgK Try.prog OnceF 14 [J]) (onS1 a n cap i) (onH1 F x PA PB pu (pu.take nt) way acks) := by
  have d0 : decide (x.dO = 0) = false := decide_eq_false (by omega)
  have d1 : decide (x.dO = 1) = true := decide_eq_true d
  have c1 := packs_c PA
  have lw := h.lw
  have hpl : (packets PA).length ≤ 32 := by rw [h.packets, pkBox_len]; exact (h.okA.box 1).len
  by_cases e : 0 < (packets PA).length
  · have e1 : decide ((0 : Int) < ((packets PA).length : Int)) = true := decide_eq_true (by omega)
    obtain ⟨j, ej, hj⟩ := tmod_nat ok.num.1 e
    have fin := hq _ (h.send hj)
    have eg : (packets PA)[j] = (packets PA).getD j pkZ := by rw [List.getD_eq_getElem?_getD, List.getElem?_eq_getElem hj]; rfl
    rw [eg] at fin
    have w1 : IntKind.u64.wrap ((packets PA).length : Int) = ((packets PA).length : Int) := wr_u64 (by omega)
    have r1 := rem_g (P := Try.prog) (t := 31) (k := .u64) (a := x.num) (b := ((packets PA).length : Int)) Try.underlying31 (by omega)
    rw [ej] at r1
    have x1 := pk_elt hj (t := 50) (u := .agg (pkS ((packets PA).getD j pkZ))) 0 (by kernel_rfl)
    have hb : way.length + 1 ≤ 1073741824 := by omega
    clear hq h eg
    generalize (packets PA).getD j pkZ = p at *
    generalize packets PA = pks at *
    unfold onHp rP rowP at fin
    rw [cells_snoc, List.length_append] at fin
    unfold onH1 onHp rP rowP
    unfold rP rowP at x1
    generalize pu.take nt = ta at *
    exact leaf_cut (rgK Try.prog OnceF 35 [J]) _ _ calNone false 400 [hB 19 0 _ _ d0, hB 22 0 _ _ d1, hC 23 1 c1, hB 24 2 _ _ e1, hI 25 6 IntKind.u64 _ _ w1, hG 25 7 r1, .opt 25 8 (.at_ 0 _ _ _ ⟨rfl, hj⟩), hG 25 9 x1, .opt 25 11 (.le _ hb), .stop 35] calNone_ok (by kernel_rfl) fin
  · have e1 : decide ((0 : Int) < ((packets PA).length : Int)) = false := decide_eq_false (by omega)
    have fin := hq _ h.step
    generalize packets PA = pks at *
    clear hq h
    exact leaf_cut (rgK Try.prog OnceF 35 [J]) _ _ calNone false 400 [hB 19 0 _ _ d0, hB 22 0 _ _ d1, hC 23 1 c1, hB 24 2 _ _ e1, .stop 35] calNone_ok (by kernel_rfl) fin
end
end Go.Proofs.Ytfnneghddndeiaa
