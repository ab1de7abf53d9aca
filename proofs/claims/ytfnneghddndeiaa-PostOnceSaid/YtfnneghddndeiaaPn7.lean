/- POST ONCE by SX 7: the end, and the law. -/
import Derived.Test.YtfnneghddndeiaaPn6
namespace Go.Proofs.Ytfnneghddndeiaa
set_option maxRecDepth 100000
open Go.RowKit Go.Lib Go.Tk Go.Shelf Go.Vc Go.Sx
set_option linter.unusedVariables false
set_option linter.unusedSimpArgs false
def onSE (q : Nat) : Slots := [(3, .ptr 1 0 0), (5, .ptr 1 1 0), (7, .raw 1 3), (8, .raw 1 4), (18, .raw 1 5), (19, .val (.int .i64 (q : Int)))]
def onHE (F : PnF) (PA PB : PostV) (pu ta : List Msg) : Heap := [((0, 9), .fam F), ((1, 0), .fam (postF PA)), ((1, 1), .fam (postF PB)), ((1, 3), rM pu), ((1, 4), rM ta), ((1, 5), rP (packets PA))]
section
variable {F : PnF} {PA PB : PostV} {pu : List Msg} {nt : Nat} {way : List Pk} {acks : List Int} {a : Option Addr} {n cap i : Nat} {eb : Env} {R : List Chunk} {J : Act → World → Prop} {ret : SV} {rp : Heap} {x : PAct}
theorem once_last (h : OnceOk PA PB pu nt way acks i) (hi : i ≤ 301) (hall : nt = pu.length) (hret : ret = .val (.bool true)) (hrp : rp = [((0, 9), .fam F)]) :
    Go Try.prog OnceF ret rp eb R .nrm (rgK Try.prog OnceF 48 []) [(3, .ptr 1 0 0), (5, .ptr 1 1 0), (7, .raw 1 3), (8, .raw 1 4)] [((0, 9), .fam F), ((1, 0), .fam (postF PA)), ((1, 1), .fam (postF PB)), ((1, 3), rM pu), ((1, 4), rM (pu.take nt))] := by
  subst hret hrp
  have lp := h.lp
  obtain ⟨-, t2, -⟩ := h.tells
  have c1 := last_c PB 0 (by omega) (by omega)
  rw [t2] at c1
  have c2 := ack_c PA 1 (nt : Int) (by omega) (by omega) (by omega) (by omega)
  obtain ⟨o1, -, o3⟩ := h.ackd (nt : Int) (by omega) (by omega)
  have hz : ((doP (fun X => ackX X (nt : Int)) PA 1).2.box 1).wait.length = 0 := by rw [o3]; omega
  obtain ⟨-, -, t3⟩ := o1.tells
  have c3 := len_c (doP (fun X => ackX X (nt : Int)) PA 1).2 1 (by omega) (by omega)
  rw [t3, hz] at c3
  have c4 := packs_c (doP (fun X => ackX X (nt : Int)) PA 1).2
  have pz : (packets (doP (fun X => ackX X (nt : Int)) PA 1).2).length = 0 := by rw [o1.packets, pkBox_len]; exact hz
  have c5 := wakes19_c
  have lt : (pu.take nt).length = pu.length := by rw [List.length_take]; omega
  have g1 : decide (((pu.take nt).length : Int) = (pu.length : Int)) = true := by rw [lt]; simp
  generalize doP (fun X => ackX X (nt : Int)) PA 1 = r at *
  have g2 : decide (((packets r.2).length : Int) = 0) = true := decide_eq_true (by omega)
  generalize pu.take nt = ta at *
  generalize packets r.2 = pks at *
  clear h o1 o3 hz t2 t3 hall
  exact leaf_end calNone false 400 [hC 48 2 c1, hC 48 3 c2, hB 49 4 _ _ g1, hC 49 7 c3, hC 49 12 c4, hB 49 14 _ _ g2, hC 49 17 c5] calNone_ok (by kernel_rfl)
theorem once_end (h : OnceOk PA PB pu nt way acks i) (hi : i ≤ 300) (hret : ret = .val (.bool true)) (hrp : rp = [((0, 9), .fam F)]) :
    Go Try.prog OnceF ret rp eb R .nrm (rgK Try.prog OnceF 42 []) (onSl a n cap i) (onHp F PA PB pu (pu.take nt) way acks) := by
  have c1 := packs_c PA
  have hpl : (packets PA).length = (PA.box 1).wait.length := by rw [h.packets, pkBox_len]
  have hwl := (h.okA.box 1).len
  have dn := h.dn
  have wl := h.wl
  refine go_loop (X := { y : Nat × PostV × Nat // y.1 ≤ (packets PA).length ∧ OnceOk PA y.2.1 pu y.2.2 way acks i ∧ pu.length ≤ y.2.2 + ((packets PA).length - y.1) }) 2 [] (fun y => (onSE y.1.1, onHE F PA y.1.2.1 pu (pu.take y.1.2.2))) (fun y => (packets PA).length - y.1.1) ⟨(0, PB, nt), Nat.zero_le _, h, by show pu.length ≤ nt + ((packets PA).length - 0); omega⟩ calNone false 400 [hC 42 1 c1] calNone_ok (by kernel_rfl) ?_
  clear h
  rintro ⟨⟨q, PB, nt⟩, hq, h, hn⟩ J hJ
  have hq : q ≤ (packets PA).length := hq
  have h : OnceOk PA PB pu nt way acks i := h
  have hn : pu.length ≤ nt + ((packets PA).length - q) := hn
  have lp := h.lp
  have tk := h.tk
  by_cases e : q < (packets PA).length
  · have z0 : decide ((q : Int) < ((packets PA).length : Int)) = true := decide_eq_true (by omega)
    have z9 : IntKind.i64.wrap ((q : Int) + 1) = ((q + 1 : Nat) : Int) := by rw [wr_i64 (by omega)]; omega
    obtain ⟨p1, p2, p3⟩ := h.packet e
    have eg : (packets PA)[q] = (packets PA).getD q pkZ := by rw [List.getD_eq_getElem?_getD, List.getElem?_eq_getElem e]; rfl
    rw [eg] at p1 p3
    have x1 := pk_elt e (t := 31) (u := .val (.int .u64 ((packets PA).getD q pkZ).num)) 3 (by kernel_rfl)
    have x2 := pk_elt e (t := 44) (u := .agg (msgS ((packets PA).getD q pkZ).m)) 4 (by kernel_rfl)
    have c2 := took_c PB 0 ((packets PA).getD q pkZ).num (by omega) (by omega) (by omega) (by omega)
    obtain ⟨r1, r2⟩ := took_res h ((packets PA).getD q pkZ).num
    by_cases f : ((packets PA).getD q pkZ).num = (nt : Int) + 1
    · have e1 : decide ((doP (fun X => tookX X ((packets PA).getD q pkZ).num) PB 0).1 = 0) = true := decide_eq_true (r1.2 f)
      have fin0 := hJ ⟨(q + 1, (doP (fun X => tookX X ((packets PA).getD q pkZ).num) PB 0).2, nt + 1), by show q + 1 ≤ _; omega, by rw [f]; exact h.took (by omega), by show pu.length ≤ nt + 1 + ((packets PA).length - (q + 1)); omega⟩ (by show _ - (q + 1) < _ - q; omega)
      have hm : pu.take (nt + 1) = pu.take nt ++ [((packets PA).getD q pkZ).m] := by
        have : pu.length - (PA.box 1).wait.length + q = nt := by omega
        rw [this] at p3
        rw [List.take_add_one, p3]; rfl
      have fin : ∀ ε a' w', Rel (ntOf Try.prog OnceF) 1 eb R ⟨onSE (q + 1), onHE F PA (doP (fun X => tookX X ((packets PA).getD q pkZ).num) PB 0).2 pu (pu.take (nt + 1)), 2⟩ ε a' w' → J a' w' := fin0
      rw [hm] at fin
      unfold onHE rM rowM at fin
      rw [cells_snoc, List.length_append] at fin
      have hb : (pu.take nt).length + 1 ≤ 1073741824 := by rw [List.length_take]; omega
      clear fin0 hJ h r1 r2 p1 p2 p3 hm eg hpl f hn
      unfold onHE rM rowM
      generalize (packets PA).getD q pkZ = p at *
      generalize doP (fun X => tookX X p.num) PB 0 = r at *
      generalize pu.take nt = ta at *
      generalize packets PA = pks at *
      unfold rP rowP at x1 x2 fin
      unfold rP rowP
      exact leaf_round (lpK Try.prog OnceF 2 []) false 400 [hB 44 3 _ _ z0, .opt 46 3 (.at_ 0 _ _ _ ⟨rfl, e⟩), hG 46 5 x1, hC 46 6 c2, hB 46 7 _ _ e1, .opt 47 3 (.at_ 0 _ _ _ ⟨rfl, e⟩), hG 47 5 x2, .opt 47 7 (.le _ hb), hI 45 1 IntKind.i64 _ _ z9] fin (by kernel_rfl)
    · obtain ⟨r3, r4⟩ := r2 f
      have e1 : decide ((doP (fun X => tookX X ((packets PA).getD q pkZ).num) PB 0).1 = 0) = false := decide_eq_false (by omega)
      rw [r4] at c2
      have fin0 := hJ ⟨(q + 1, PB, nt), by show q + 1 ≤ _; omega, h, by show pu.length ≤ nt + ((packets PA).length - (q + 1)); omega⟩ (by show _ - (q + 1) < _ - q; omega)
      have fin : ∀ ε a' w', Rel (ntOf Try.prog OnceF) 1 eb R ⟨onSE (q + 1), onHE F PA PB pu (pu.take nt), 2⟩ ε a' w' → J a' w' := fin0
      clear fin0 hJ h r1 r2 p1 p2 p3 eg hpl f hn r4
      unfold onHE at fin ⊢
      generalize (packets PA).getD q pkZ = p at *
      generalize (doP (fun X => tookX X p.num) PB 0).1 = r at *
      generalize pu.take nt = ta at *
      generalize packets PA = pks at *
      exact leaf_round (lpK Try.prog OnceF 2 []) false 400 [hB 44 3 _ _ z0, .opt 46 3 (.at_ 0 _ _ _ ⟨rfl, e⟩), hG 46 5 x1, hC 46 6 c2, hB 46 7 _ _ e1, hI 45 1 IntKind.i64 _ _ z9] fin (by kernel_rfl)
  · have z0 : decide ((q : Int) < ((packets PA).length : Int)) = false := decide_eq_false (by omega)
    have fin := once_last (F := F) (ret := ret) (rp := rp) (eb := eb) (R := R) h (by omega) (by omega) hret hrp
    unfold onHE
    generalize pu.take nt = ta at *
    generalize packets PA = pks at *
    clear hJ h hpl
    exact leaf_cut (rgK Try.prog OnceF 48 []) _ _ calNone false 400 [hB 44 3 _ _ z0, .stop 48] calNone_ok (by kernel_rfl) fin
end
theorem once19_law (F : PnF) {a : Option Addr} {cap : Nat} {l : List PAct} (hR : ∀ b v, Rd (F b v) a (cellsL encAct l)) (hok : ∀ x ∈ l, PActOk x) :
    CallOK Try.prog OnceF [.val (.slice a l.length cap)] [((0, 9), .fam F)] [] (.val (.bool true)) [] := by
  have c5 := wakes19_c
  by_cases hl : 300 < l.length
  · have e : decide ((300 : Int) < (l.length : Int)) = true := decide_eq_true (by omega)
    exact callOK_run 400 [hB 1 2 _ _ e, hC 2 0 c5] (by kernel_rfl) (by kernel_rfl)
  have e : decide ((300 : Int) < (l.length : Int)) = false := decide_eq_false (by omega)
  have n1 := new_c 0 (by omega) (by omega) rfl
  have n2 := new_c 1 (by omega) (by omega) rfl
  refine callOK_intro (by kernel_rfl) fun eb R => ?_
  refine leaf_cut (rgK Try.prog OnceF 10 []) [(0, .val (.slice a l.length cap)), (3, .ptr 1 0 0), (5, .ptr 1 1 0), (7, .raw 1 3), (8, .raw 1 4), (9, .raw 1 5), (10, .raw 1 6)] (onHp F (newP 0 2) (newP 1 2) [] [] [] []) calNone false 400 [hB 1 2 _ _ e, hC 3 0 n1, hC 4 0 n2, .stop 10] calNone_ok (by kernel_rfl) ?_
  refine go_loop (X := { y : Nat × PostV × PostV × List Msg × Nat × List Pk × List Int // y.1 ≤ l.length ∧ OnceOk y.2.1 y.2.2.1 y.2.2.2.1 y.2.2.2.2.1 y.2.2.2.2.2.1 y.2.2.2.2.2.2 y.1 }) 0 [] (fun y => (onSl a l.length cap y.1.1, onHp F y.1.2.1 y.1.2.2.1 y.1.2.2.2.1 (y.1.2.2.2.1.take y.1.2.2.2.2.1) y.1.2.2.2.2.2.1 y.1.2.2.2.2.2.2)) (fun y => l.length - y.1.1) ⟨(0, newP 0 2, newP 1 2, [], 0, [], []), Nat.zero_le _, once_new⟩ calNone false 400 [] calNone_ok (by kernel_rfl) ?_
  rintro ⟨⟨i, PA, PB, pu, nt, way, acks⟩, hi, h⟩ J hJ
  have hi : i ≤ l.length := hi
  have h : OnceOk PA PB pu nt way acks i := h
  by_cases q : i < l.length
  · have z0 : decide ((i : Int) < (l.length : Int)) = true := decide_eq_true (by omega)
    have q1 := idx_openG (P := Try.prog) (t := 22) (e := 46) (size := 15) (j := 9) (k := .i64) (cap := cap) (n := l.length) Try.underlying22 (by kernel_rfl) (cellsL_len (enc := encAct) (size := 15) (fun _ => rfl) l) hR q
    have hpos : 0 < (cellsL encAct l).length := by rw [cellsL_len (enc := encAct) (size := 15) (fun _ => rfl) l]; omega
    have q2 := load_openG0 (P := Try.prog) (t := 46) (k := i * 15) (j := 9) (u := .agg (actS (l.getD i actZ))) (by kernel_rfl) hR (cells_nth (enc := encAct) (encS := actS) (fun p ε => rfl) (fun _ => rfl) (pnD_some q actZ)) hpos
    have ok := hok _ (List.mem_of_getElem? (pnD_some q actZ))
    have nx : ∀ PA' PB' pu' nt' way' acks', OnceOk PA' PB' pu' nt' way' acks' (i + 1) → Go Try.prog OnceF (.val (.bool true)) ([((0, 9), .fam F)] ++ []) eb R .nrm (rgK Try.prog OnceF 35 [J]) (onSl a l.length cap i) (onHp F PA' PB' pu' (pu'.take nt') way' acks') := fun PA' PB' pu' nt' way' acks' h' =>
      once_chk h' (by omega) (hJ ⟨(i + 1, PA', PB', pu', nt', way', acks'), q, h'⟩ (by show _ - (i + 1) < _ - i; omega))
    generalize l.getD i actZ = x at *
    have mid : Go Try.prog OnceF (.val (.bool true)) ([((0, 9), .fam F)] ++ []) eb R .nrm (rgK Try.prog OnceF 14 [J]) (onS1 a l.length cap i) (onH1 F x PA PB pu (pu.take nt) way acks) := by
      by_cases d0 : x.dO = 0
      · exact once_0 h (by omega) d0 fun PA' pu' h' => nx _ _ _ _ _ _ h'
      by_cases d1 : x.dO = 1
      · exact once_1 h (by omega) ok d1 fun way' h' => nx _ _ _ _ _ _ h'
      by_cases d2 : x.dO = 2
      · exact once_23 h (by omega) ok (.inl d2) fun PB' nt' way' h' => nx _ _ _ _ _ _ h'
      by_cases d3 : x.dO = 3
      · exact once_23 h (by omega) ok (.inr d3) fun PB' nt' way' h' => nx _ _ _ _ _ _ h'
      · exact once_4 h (by omega) ok ⟨d0, d1, d2, d3⟩ fun PA' acks' h' => nx _ _ _ _ _ _ h'
    clear nx hJ h
    generalize pu.take nt = ta at *
    exact leaf_cut (rgK Try.prog OnceF 14 [J]) _ _ calNone false 400 [hB 11 3 _ _ z0, hG 13 2 q1, hG 13 3 q2, .stop 14] calNone_ok (by kernel_rfl) mid
  · have z0 : decide ((i : Int) < (l.length : Int)) = false := decide_eq_false (by omega)
    have fin := once_end (F := F) (a := a) (n := l.length) (cap := cap) (eb := eb) (R := R) h (by omega) rfl rfl
    clear hJ h
    generalize pu.take nt = ta at *
    exact leaf_cut (rgK Try.prog OnceF 42 []) (onSl a l.length cap i) (onHp F PA PB pu ta way acks) calNone false 400 [hB 11 3 _ _ z0, .stop 42] calNone_ok (by kernel_rfl) fin
theorem once19_any (a : Option Addr) (l : List PAct) (c : Nat) (w : World) (hr : Row w a (cellsL encAct l)) (_ : a = none → c = 0) (_ : l.length ≤ maxLen) (ok : ∀ x ∈ l, PActOk x) :
    Calls Try.prog OnceF #[.slice a l.length c] w fun e w' => e = .returned (.bool true) ∧ Below w.heap.size w w' :=
  (once19_law (fun _ _ => oldC w) (cap := c) (fun _ _ => rd_old hr) ok (fun _ _ => (0, undef)) [] w (Mem.old w)).mono fun e w' ⟨x, h, hm⟩ => ⟨h, (show Mem (oldC w :: []) w' from hm).below 0 rfl⟩
end Go.Proofs.Ytfnneghddndeiaa
