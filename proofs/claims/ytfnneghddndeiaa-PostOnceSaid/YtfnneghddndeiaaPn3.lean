/- POST ONCE by SX 3: a round's end: what is told at both. -/
import Derived.Test.YtfnneghddndeiaaPn2
namespace Go.Proofs.Ytfnneghddndeiaa
set_option maxRecDepth 100000
open Go.RowKit Go.Lib Go.Tk Go.Shelf Go.Vc Go.Sx
set_option linter.unusedVariables false
set_option linter.unusedSimpArgs false
abbrev PnF := Nat → Value → Chunk
theorem pnD_some {α : Type} {l : List α} {i : Nat} (h : i < l.length) (d : α) : l[i]? = some (l.getD i d) := by rw [List.getD_eq_getElem?_getD, List.getElem?_eq_getElem h]; rfl
def OnceF : Nat := 3
def msgZ : Msg := ⟨0, 0, 0, 0, 0, 0, 0, 0, 0, 0, 0, 0⟩
def actZ : PAct := ⟨0, 0, 0, msgZ⟩
def pkZ : Pk := ⟨0, 0, 0, msgZ⟩
def actS (x : PAct) : List SV := [.val (.int .i64 x.dO), .val (.int .u8 x.who), .val (.int .u64 x.num)] ++ msgS x.m
def pkS (p : Pk) : List SV := [.val (.int .u8 p.fr), .val (.int .u8 p.dest), .val (.bool false), .val (.int .u64 p.num)] ++ msgS p.m
def rowM (n : Nat) (cs : List Value) : SC := .row 44 12 n (.shal cs) []
def rowP (n : Nat) (cs : List Value) : SC := .row 50 16 n (.shal cs) []
def rowU (n : Nat) (cs : List Value) : SC := .row 31 1 n (.shal cs) []
def rM (l : List Msg) : SC := rowM l.length (cellsL encMsg l)
def rP (l : List Pk) : SC := rowP l.length (cellsL encPk l)
def rU (l : List Int) : SC := rowU l.length (l.map (.int .u64))
theorem msg_elt {l : List Msg} {i : Nat} (h : i < l.length) {t : TypeId} {u : SV} (j : Nat) (hu : Go.Sx.partAt Try.prog t (msgS (l.getD i msgZ)) j = some u) : OpG Try.prog (isLoad t) loadX [.elt 0 0 0 (i * 12) j] [((0, 0), rM l)] [] u [] :=
  load_eltG (P := Try.prog) (cs := msgS (l.getD i msgZ)) hu (cells_nth (enc := encMsg) (encS := msgS) (fun p ε => rfl) (fun _ => rfl) (pnD_some h msgZ))
theorem pk_elt {l : List Pk} {i : Nat} (h : i < l.length) {t : TypeId} {u : SV} (j : Nat) (hu : Go.Sx.partAt Try.prog t (pkS (l.getD i pkZ)) j = some u) : OpG Try.prog (isLoad t) loadX [.elt 0 0 0 (i * 16) j] [((0, 0), rP l)] [] u [] :=
  load_eltG (P := Try.prog) (cs := pkS (l.getD i pkZ)) hu (cells_nth (enc := encPk) (encS := pkS) (fun p ε => rfl) (fun _ => rfl) (pnD_some h pkZ))
theorem cells_snoc {α : Type} (enc : α → List Value) (l : List α) (x : α) : cellsL enc (l ++ [x]) = cellsL enc l ++ enc x := by unfold cellsL; simp
def onSl (a : Option Addr) (n cap i : Nat) : Slots := [(0, .val (.slice a n cap)), (3, .ptr 1 0 0), (5, .ptr 1 1 0), (7, .raw 1 3), (8, .raw 1 4), (9, .raw 1 5), (10, .raw 1 6), (11, .val (.int .i64 (i : Int)))]
def onHp (F : PnF) (PA PB : PostV) (pu ta : List Msg) (way : List Pk) (acks : List Int) : Heap := [((0, 9), .fam F), ((1, 0), .fam (postF PA)), ((1, 1), .fam (postF PB)), ((1, 3), rM pu), ((1, 4), rM ta), ((1, 5), rP way), ((1, 6), rU acks)]
theorem OnceOk.tells {PA PB : PostV} {pu : List Msg} {nt : Nat} {way : List Pk} {acks : List Int} {k : Nat} (h : OnceOk PA PB pu nt way acks k) : givenP PA 1 = (pu.length : Int) ∧ lastP PB 0 = (nt : Int) ∧ lenP PA 1 = ((PA.box 1).wait.length : Int) := by
  unfold givenP lastP lenP
  rw [if_pos h.oA, if_pos h.oB, if_pos h.oA]
  exact ⟨h.given, h.last, rfl⟩
section
variable {F : PnF} {PA PB : PostV} {pu : List Msg} {nt : Nat} {way : List Pk} {acks : List Int} {a : Option Addr} {n cap i : Nat} {eb : Env} {R : List Chunk} {J : Act → World → Prop} {ret : SV} {rp : Heap}
theorem once_chk (h : OnceOk PA PB pu nt way acks (i + 1)) (hi : i ≤ 300)
    (hJ : ∀ ε a' w', Rel (ntOf Try.prog OnceF) 1 eb R ⟨onSl a n cap (i + 1), onHp F PA PB pu (pu.take nt) way acks, 2⟩ ε a' w' → J a' w') :
    Go Try.prog OnceF ret rp eb R .nrm (rgK Try.prog OnceF 35 [J]) (onSl a n cap i) (onHp F PA PB pu (pu.take nt) way acks) := by
  obtain ⟨t1, t2, t3⟩ := h.tells
  have lp := h.lp
  have hb := (h.okA.box 1).len
  have tk := h.tk
  have dn := h.dn
  have c1 := given_c PA 1 (by omega) (by omega)
  have c2 := last_c PB 0 (by omega) (by omega)
  have c3 := len_c PA 1 (by omega) (by omega)
  rw [t1] at c1
  rw [t2] at c2
  rw [t3] at c3
  have lt : (pu.take nt).length = nt := by rw [List.length_take]; omega
  have w1 : IntKind.u64.wrap (pu.length : Int) = (pu.length : Int) := wr_u64 (by omega)
  have w2 : IntKind.u64.wrap ((pu.take nt).length : Int) = (nt : Int) := by rw [lt]; exact wr_u64 (by omega)
  generalize hwl : (PA.box 1).wait.length = wl at *
  have w3 : IntKind.i64.wrap ((pu.length : Int) - (wl : Int)) = (pu.length : Int) - (wl : Int) := wr_i64 (by omega)
  have g1 : decide ((pu.length : Int) < ((pu.take nt).length : Int)) = false := by rw [lt]; exact decide_eq_false (by omega)
  have g2 : (!decide ((pu.length : Int) = (pu.length : Int))) = false := by simp
  have g3 : (!decide ((nt : Int) = (nt : Int))) = false := by simp
  have g4 : decide ((32 : Int) < (wl : Int)) = false := decide_eq_false (by omega)
  have g5 : decide (((pu.take nt).length : Int) < (pu.length : Int) - (wl : Int)) = false := by rw [lt]; exact decide_eq_false (by omega)
  have z9 : IntKind.i64.wrap ((i : Int) + 1) = ((i + 1 : Nat) : Int) := by rw [wr_i64 (by omega)]; omega
  have htk : ∀ k, k < (pu.take nt).length → (pu.take nt).getD k msgZ = pu.getD k msgZ := fun k hk => by
    rw [lt] at hk
    rw [List.getD_eq_getElem?_getD, List.getD_eq_getElem?_getD, List.getElem?_take_of_lt hk]
  have hle : (pu.take nt).length ≤ pu.length := by omega
  have hnn : nt ≤ 301 := by omega
  clear h t1 t2 t3 hwl
  generalize pu.take nt = ta at *
  refine go_loop (X := { k : Nat // k ≤ ta.length }) 1 [J] (fun y => (onSl a n cap i ++ [(17, .val (.int .i64 (y.1 : Int)))], onHp F PA PB pu ta way acks)) (fun y => ta.length - y.1) ⟨0, Nat.zero_le _⟩ calNone false 400 [hC 35 7 c1, hC 35 15 c2, hC 35 23 c3, hC 35 30 c3, hI 35 10 IntKind.u64 _ _ w1, hI 35 18 IntKind.u64 _ _ w2, hI 35 31 IntKind.i64 _ _ w3, hB 35 4 _ _ g1, hB 35 11 _ _ g2, hB 35 19 _ _ g3, hB 35 24 _ _ g4, hB 35 34 _ _ g5] calNone_ok (by kernel_rfl) ?_
  rintro ⟨k, hk1⟩ J2 hJ2
  by_cases q : k < ta.length
  · have z0 : decide ((k : Int) < (ta.length : Int)) = true := decide_eq_true (by omega)
    have z1 : IntKind.i64.wrap ((k : Int) + 1) = ((k + 1 : Nat) : Int) := by rw [wr_i64 (by omega)]; omega
    have x1 := msg_elt q (t := 44) (u := .agg (msgS (ta.getD k msgZ))) 0 (by kernel_rfl)
    have q2 : k < pu.length := by omega
    have x2 := msg_elt q2 (t := 44) (u := .agg (msgS (pu.getD k msgZ))) 0 (by kernel_rfl)
    rw [htk k q] at x1
    have hJ' := hJ2 ⟨k + 1, q⟩ (by show _ - (k + 1) < _ - k; omega)
    clear hJ hJ2 htk
    generalize pu.getD k msgZ = m at *
    have e : (!(decide (m.k = m.k) && (decide (m.tc = m.tc) && (decide (m.tr = m.tr) && true) && (decide (m.ix = m.ix) && true) && (decide (m.lc = m.lc) && (decide (m.lf = m.lf) && (decide (m.lx = m.lx) && true)) && (decide (m.v = m.v) && (decide (m.st = m.st) && (decide (m.nn = m.nn) && true))) && (decide (m.amt = m.amt) && (decide (m.cd = m.cd) && true)))))) = false := by simp
    exact leaf_round (lpK Try.prog OnceF 1 [J]) false 400 [hB 38 3 _ _ z0, .opt 40 2 (.at_ 0 _ _ _ ⟨rfl, q⟩), hG 40 3 x1, .opt 40 6 (.at_ 0 _ _ _ ⟨rfl, q2⟩), hG 40 7 x2, hB 40 8 _ _ e, hI 39 1 IntKind.i64 _ _ z1] hJ' (by kernel_rfl)
  · have e : k = ta.length := by omega
    subst e
    have z0 : decide ((ta.length : Int) < (ta.length : Int)) = false := decide_eq_false (by omega)
    exact leaf_round (lpK Try.prog OnceF 0 []) false 400 [hB 38 3 _ _ z0, hI 12 1 IntKind.i64 _ _ z9] hJ (by kernel_rfl)
end
end Go.Proofs.Ytfnneghddndeiaa
