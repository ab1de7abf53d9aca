/- Tb3, EbP4, Ky0, Ky1. -/
import Derived.Test.YtlekbdpdlalhbaaGreatMc9a0721
import Derived.Test.YtlekbdpdlalhbaaGreatM967e4a0
import Derived.Test.YtlekbdpdlalhbaaGreatEbP3
import Derived.Test.YtlekbdpdlalhbaaGreatM642530e
import Derived.Sort.MapsRangeIn
import Derived.RangeFuncSeq
import Derived.Test.YtlekbdpdlalhbaaGreatM5faae23
import Derived.RangeFuncBox
import Derived.RangeFuncNested
import Derived.RangeFuncBound
import Derived.RangeFuncCalls
import Derived.RangeFuncLeaves
import Derived.RangeFuncGives
import Derived.RangeFuncKeeps
import Derived.Shelf.Abstract
import Derived.Shelf.RegionOpen
import Derived.WalkKit
import Derived.OwnWalkIn
import Derived.TacticsInMore
import Derived.LoopNIn
import Derived.LoopIn
import Derived.Sort.LoopGhostIn
section
namespace Go.Proofs.YtlekbdpdlalhbaaGreat
set_option maxRecDepth 100000
open Go.RowKit Go.Lib Go.Tk Go.Shelf Go.Vc Go.Sx
set_option linter.unusedVariables false
set_option linter.unusedSimpArgs false
def toT (d : DocV) : TDocV := ⟨d.t.c, d.t.r, d.s, d.vals, d.frm.c, d.frm.r, d.dst.c, d.dst.r, d.credit, d.paid, d.back, d.kept, d.left⟩
def TBalF : Nat := 132
def boolZ (n : Nat) : SC := .row 4 1 n (.deep (List.replicate n (.val (.bool false)))) []
theorem tbal_w {d : DocV} {st : List Int} {n : Nat} (hn : st.length = n) (h1 : st.length ≤ 1000) (h2 : d.vals.length ≤ 1000) (h3 : n ≤ 1000) :
    CallOK Tryz.prog TBalF [docRaw d, .raw 0 13, .raw 0 14] (docI d ++ [((0, 13), .row 32 1 n (.shal (st.map (.int .u8))) []), ((0, 14), boolZ n)]) [] (.tup [.val (.int .i64 (balI (toT d) st n).1), eN (balI (toT d) st n).2]) [] := by
  intro ε R w hM
  have hM : Mem (rowC 31 3 (asSl (ε 0 10).2) d.s.legs.length (cellsL encLeg d.s.legs) :: rowC 214 2 (asSl (ε 0 11).2) d.s.taxes.length (cellsL encTax d.s.taxes) :: rowC 2 1 (asSl (ε 0 12).2) d.vals.length (d.vals.map (.int .i64)) :: rowC 32 1 (asSl (ε 0 13).2) n (st.map (.int .u8)) :: rowC 4 1 (asSl (ε 0 14).2) n (SV.dens ε (List.replicate n (.val (.bool false)))) :: R) w := hM
  obtain ⟨la, lc, hvl, okl⟩ := row_sl (hM.owns 0 rfl)
  obtain ⟨ta, tc, hvt, okt⟩ := row_sl (hM.owns 1 rfl)
  obtain ⟨va, vc, hvv, okv⟩ := row_sl (hM.owns 2 rfl)
  obtain ⟨sa, sc, hvs, oks⟩ := row_sl (hM.owns 3 rfl)
  obtain ⟨pa, pc, hvp, okp⟩ := row_sl (hM.owns 4 rfl)
  have hA : (SV.dens ε [docRaw d, .raw 0 13, .raw 0 14]).toArray = #[tdocAgg (toT d) ⟨⟨la, lc, ta, tc⟩, va, vc⟩, .slice sa n sc, .slice pa n pc] := by
    simp only [SV.dens, SV.den, docRaw, docS, hvl, hvt, hvv, hvs, hvp]; rfl
  rw [hA]
  have hM2 := hM
  rw [hvv, hvs] at hM2
  have rs : Row w sa (st.map (.int .u8)) := rd_row.row hM2 3 rfl
  have rv : Row w va (d.vals.map (.int .i64)) := rd_row.row hM2 2 rfl
  refine (balance_anyV (toT d) ⟨⟨la, lc, ta, tc⟩, va, vc⟩ st sa n sc pa n pc w hn rs rv h1 h2 h3).mono ?_
  rintro e w' ⟨rfl, hb⟩
  exact ⟨ε 1, rfl, by rw [eset_self]; exact hM.kept hb⟩
end Go.Proofs.YtlekbdpdlalhbaaGreat
end
section
namespace Go.Proofs.YtlekbdpdlalhbaaGreat
set_option maxRecDepth 100000
open Go.RowKit Go.Lib Go.Tk Go.Shelf Go.Vc Go.Sx
set_option linter.unusedVariables false
set_option linter.unusedSimpArgs false

theorem subAll_dn : ∀ (l : List Int) (x : Int), (∀ y ∈ l, 0 ≤ y) → l.sum ≤ x → x ≤ 1125899906842624 → subAll (x, 0) l = (x - l.sum, 0)
  | [], x, _, _, _ => by simp [subAll]
  | a :: l, x, h, hs, hx => by
    have ha := h a (by simp)
    have hl : ∀ y ∈ l, 0 ≤ y := fun y hy => h y (by simp [hy])
    have hn := sum_nonneg l hl
    rw [List.sum_cons] at hs
    have e : subStep (x, 0) a = (x - a, 0) := by
      unfold subStep subI
      have m1 : mayI x = true := by simp [mayI]; omega
      have m2 : mayI a = true := by simp [mayI]; omega
      have m3 : mayI (x - a) = true := by simp [mayI]; omega
      simp [m1, m2, m3]
    show subAll (subStep (x, 0) a) l = _
    rw [e, subAll_dn l (x - a) hl (by omega) (by omega), List.sum_cons]
    congr 1
    omega
theorem less_op : ∀ L : List OwnV, (lessL (L.map (·.k.v)) (L.map (·.k.s))).sum = opL L
  | [] => rfl
  | o :: L => by
    have ih := less_op L
    unfold lessL lessZ opL at ih ⊢
    rw [List.map_cons, List.map_cons, List.zip_cons_cons]
    by_cases h : o.k.s ≤ 4
    · rw [List.filter_cons_of_pos (by simp [h]), List.filter_cons_of_pos (by simp [h]), List.map_cons, List.map_cons, List.sum_cons, List.sum_cons, ih]
    · rw [List.filter_cons_of_neg (by simp [h]), List.filter_cons_of_neg (by simp [h]), ih]
theorem bal_val {d : DocV} {L : List OwnV} (h : DocI d L) (hb : d.paid + d.credit ≤ 1125899906842624) (h0 : 0 ≤ mD d L + d.credit) : balI (toT d) (L.map (·.k.s)) L.length = (mD d L + d.credit, 0) := by
  have hp := h.paid
  have hk := h.kept
  have hbk := h.back
  have hl := h.left
  have hlc := h.leftc
  have hv : (toT d).vals = L.map (·.k.v) := h.vals.symm
  have hok : balOk (toT d) (L.map (·.k.s)) L.length := by
    refine ⟨by rw [hv]; simp, by rw [hv]; simp, ?_⟩
    unfold badSt
    rw [List.any_eq_false]
    intro x hx
    obtain ⟨o, ho, rfl⟩ := List.mem_map.1 hx
    have := h.st o ho
    have e : stB o.k.s = true := by simp [stB]; omega
    rw [e]; decide
  unfold balI
  rw [if_pos hok]
  have e : sumFrom 0 [(toT d).paid, (toT d).cred] = (d.paid + d.credit, 0) := by
    rw [sumFrom_nn _ 0 (by decide) (by omega) (fun x hx => ?_)]
    · have : mayI (0 + [(toT d).paid, (toT d).cred].sum) = true := by simp [mayI, toT]; omega
      rw [if_pos this]
      simp [toT]
    · simp only [List.mem_cons, List.not_mem_nil, or_false] at hx
      rcases hx with rfl | rfl
      · exact hp
      · show 0 ≤ d.credit
        omega
  have hm : mD d L = d.paid - d.back - d.kept - d.left - opL L := rfl
  have hs : (lessAll (toT d) (L.map (·.k.s))).sum = d.back + d.kept + d.left + opL L := by
    unfold lessAll
    rw [hv, List.sum_append, less_op]
    simp [toT]; omega
  rw [e, subAll_dn, hs]
  · congr 1; omega
  · intro y hy
    unfold lessAll at hy
    rw [List.mem_append] at hy
    rcases hy with hy | hy
    · simp only [List.mem_cons, List.not_mem_nil, or_false] at hy
      rcases hy with rfl | rfl | rfl
      · exact hbk
      · exact hk
      · exact hl
    · have := mem_less hy
      rw [hv, h.vals] at this
      exact h.nn y this
  · rw [hs]; omega
  · exact hb
/-- what is asked of a document -/
structure DocG (B : BookV) (d : DocV) (w : Int) : Prop where
  bal : balI (toT d) (statusL B d.t) (statusL B d.t).length = (w, 0)
  paid : 0 ≤ d.paid ∧ d.paid ≤ 35184372088832
  back : 0 ≤ d.back ∧ d.back ≤ 35184372088832
  kept : 0 ≤ d.kept ∧ d.kept ≤ 35184372088832
  left : 0 ≤ d.left ∧ d.left ≤ 35184372088832
  op : 0 ≤ opL (coupL B d.t) ∧ opL (coupL B d.t) ≤ 35184372088832
  leftc : d.left ≤ d.credit
  vals : (coupL B d.t).map (·.k.v) = d.vals
theorem docG_of {B : BookV} (h : EB B) {d : DocV} (hd : d ∈ B.docs) {w : Int} (e : mD d (coupL B d.t) + d.credit = w) (hw : 0 ≤ w) : DocG B d w := by
  have hi := h.ei.doc d hd
  have hr := doc_r h.ex.bk hd
  have hm := h.ex.bk.many
  have hb := hi.bnd
  have h32 : 1099511627776 * d.t.r ≤ 35184372088832 := by omega
  have := hi.paid
  have := hi.back
  have := hi.kept
  have := hi.left
  have hlc := hi.leftc
  have hop := opL_nn hi
  have hmd : mD d (coupL B d.t) = d.paid - d.back - d.kept - d.left - opL (coupL B d.t) := rfl
  refine ⟨?_, by omega, by omega, by omega, by omega, by omega, hlc, hi.vals⟩
  have := bal_val hi (by omega) (by omega)
  rw [e] at this
  unfold statusL
  rw [List.length_map]
  exact this
theorem EB.non {B : BookV} (h : EB B) {d : DocV} (hd : d ∈ B.docs) (h0 : d.dst = tid0) : DocG B d 0 := docG_of h hd (h.ei.non d hd h0) (Int.le_refl _)
theorem lkD_mem_eq {ds : List DocV} (hn : (ds.map (·.t)).Nodup) {n : DocV} (h : n ∈ ds) : lkD ds n.t = some n := by
  obtain ⟨x, hx⟩ := lkD_some (List.mem_map_of_mem (f := fun d : DocV => d.t) h)
  obtain ⟨h1, h2⟩ := lkD_mem hx
  rw [hx, nodup_eq hn h1 h h2]
theorem EB.lnk {B : BookV} (h : EB B) {d : DocV} (hd : d ∈ B.docs) (h0 : d.dst ≠ tid0) : ∃ n, lkD B.docs d.dst = some n ∧ n.frm = d.t ∧ 0 ≤ n.credit ∧ DocG B d n.credit := by
  obtain ⟨n, hn, e1, e2, e3⟩ := h.ei.lnk d hd h0
  have hc : 0 ≤ n.credit := by have := (h.ei.doc n hn).left; have := (h.ei.doc n hn).leftc; omega
  exact ⟨n, by rw [← e1]; exact lkD_mem_eq h.nodup hn, e2, hc, docG_of h hd e3 hc⟩
theorem EB.docG {B : BookV} (h : EB B) {d : DocV} (hd : d ∈ B.docs) : ∃ w, DocG B d w := by
  by_cases h0 : d.dst = tid0
  · exact ⟨0, h.non hd h0⟩
  · obtain ⟨n, -, -, -, g⟩ := h.lnk hd h0; exact ⟨_, g⟩
/-! ### sums over documents -/
def paidB (d : DocV) : Int := d.paid - d.back
def restB (B : BookV) (d : DocV) : Int := d.kept + d.left + opL (coupL B d.t)
theorem sum_sub {α : Type} (f g h : α → Int) : ∀ l : List α, (∀ x, h x = f x - g x) → (l.map h).sum = (l.map f).sum - (l.map g).sum
  | [], _ => rfl
  | x :: l, e => by simp only [List.map_cons, List.sum_cons, sum_sub f g h l e, e x]; omega
theorem EB.total {B : BookV} (h : EB B) : (B.docs.map paidB).sum = (B.docs.map (restB B)).sum := by
  have := sum_sub paidB (restB B) (fun d => mD d (coupL B d.t)) B.docs fun d => by unfold mD paidB restB; omega
  rw [h.ei.tot] at this
  omega
def sumK (f : DocV → Int) (ds : List DocV) (k : Nat) : Int := ((ds.take k).map f).sum
theorem sumK_succ {f : DocV → Int} {ds : List DocV} {k : Nat} {d : DocV} (h : ds[k]? = some d) : sumK f ds (k + 1) = sumK f ds k + f d := by
  unfold sumK
  rw [List.take_add_one, h, List.map_append, List.sum_append]
  simp
theorem sumK_all (f : DocV → Int) (ds : List DocV) : sumK f ds ds.length = (ds.map f).sum := by unfold sumK; rw [List.take_length]
theorem sumK_bd {f : DocV → Int} {ds : List DocV} {M : Int} (hM : 0 ≤ M) (h : ∀ d ∈ ds, -M ≤ f d ∧ f d ≤ M) : ∀ k, k ≤ ds.length → -(M * k) ≤ sumK f ds k ∧ sumK f ds k ≤ M * k
  | 0, _ => by simp [sumK]
  | k + 1, hk => by
    have ih := sumK_bd hM h k (by omega)
    obtain ⟨d, hd⟩ : ∃ d, ds[k]? = some d := ⟨_, List.getElem?_eq_getElem (by omega)⟩
    rw [sumK_succ hd]
    have := h d (List.mem_of_getElem? hd)
    rw [show ((k + 1 : Nat) : Int) = (k : Int) + 1 by omega, Int.mul_add]
    omega
/-- of what is still open the first coupons -/
def opT (L : List OwnV) : Nat → Int
  | 0 => 0
  | j + 1 => opT L j + (bif decide ((L.getD j own0).k.s ≤ 4) then (L.getD j own0).k.v else 0)
theorem opT_cons (o : OwnV) (L : List OwnV) : ∀ j, opT (o :: L) (j + 1) = (bif decide (o.k.s ≤ 4) then o.k.v else 0) + opT L j
  | 0 => by simp [opT]
  | j + 1 => by
    have ih := opT_cons o L j
    show opT (o :: L) (j + 1) + _ = _ + (opT L j + _)
    rw [ih]
    simp only [List.getD_cons_succ]
    omega
theorem opT_all : ∀ L : List OwnV, opT L L.length = opL L
  | [] => rfl
  | o :: L => by
    show opT (o :: L) (L.length + 1) = _
    rw [opT_cons, opT_all L]
    unfold opL
    by_cases h : o.k.s ≤ 4
    · rw [List.filter_cons_of_pos (by simp [h]), List.map_cons, List.sum_cons, decide_eq_true h]; rfl
    · rw [List.filter_cons_of_neg (by simp [h]), decide_eq_false h]; simp
theorem opT_bd {L : List OwnV} (h : ∀ o ∈ L, 0 ≤ o.k.v) : ∀ {j : Nat}, j ≤ L.length → 0 ≤ opT L j ∧ opT L j ≤ opL L := by
  induction L with
  | nil => intro j hj; simp at hj; subst hj; exact ⟨Int.le_refl _, Int.le_refl _⟩
  | cons o L ih =>
    intro j hj
    have ho := h o List.mem_cons_self
    have hnn : 0 ≤ opL L := by
      refine sum_nonneg _ fun x hx => ?_
      obtain ⟨y, hy, rfl⟩ := List.mem_map.1 hx
      exact h y (List.mem_cons_of_mem _ (List.mem_filter.1 hy).1)
    have he : opL (o :: L) = (bif decide (o.k.s ≤ 4) then o.k.v else 0) + opL L := by rw [← opT_all, ← opT_all]; exact opT_cons o L _
    have hb : 0 ≤ (bif decide (o.k.s ≤ 4) then o.k.v else 0) := by cases decide (o.k.s ≤ 4) <;> simp <;> omega
    cases j with
    | zero => exact ⟨Int.le_refl _, by rw [he]; show (0 : Int) ≤ _; omega⟩
    | succ j =>
      have := ih (fun x hx => h x (List.mem_cons_of_mem _ hx)) (j := j) (by simpa using hj)
      rw [opT_cons, he]; omega
end Go.Proofs.YtlekbdpdlalhbaaGreat
end
section
namespace Go.Tk
set_option linter.unusedVariables false
set_option linter.unusedSimpArgs false
open Go.RowKit Go.Lib Go.Maps
variable {κ : Type} {P : Program} {k : TypeId}

theorem Ranging.of_walks {K : KeyKind P k κ} {w w' : World} {r b : Nat} {L left : List (κ × Value)} (h : Ranging K w r b L left) (hk : KeepsWalks w w') : Ranging K w' r b L left := by
  obtain ⟨es, clock, since, seen, hne, h1, h2, rest⟩ := h
  exact ⟨es, clock, since, seen, hne, hk.same r _ h1 rfl, hk.same b _ h2 rfl, rest⟩
theorem grown_of_below {w w' : World} (h : Below w.heap.size w w') : w.grownBy w' none := ⟨h.os, h.tape, h.output, h.size, fun k hk _ => h.block k hk⟩
section
variable {F : Fence} {n : Nat} {w : World} {ops : Array Oper} {rest : List Oper} {o : Oper} {a : Act} {Q : Exit → Act → World → Prop} {K : KeyKind P k κ} {b : Nat} {L : List (κ × Value)} {e : TypeId}
theorem wpListIn_range_mapA (hg : o.guard = none) (m : Operand) (t : TypeId) (hop : o.op = .range t m) (ht : P.underlying t = some (.map k e)) (hm : a.eval m = .map (some b)) (h : MapAt K w b L)
    (hK : ∀ w', Ranging K w' w.heap.size b L L → Below w.heap.size w w' → wpListIn F n P ops Q rest (a.put o.dst (.pointer (some ⟨w.heap.size, 0, none⟩))) w') : wpListIn F n P ops Q (o :: rest) a w := by
  refine wpListIn_plain hg fun K' hK' => ?_
  obtain ⟨w', hrun, h1, h2⟩ := h.range ht
  unfold Oper.wpIn
  refine ⟨?_, ?_⟩
  · simp [Oper.about, hop]
  · rw [Oper.semAt_plain F _ _ (by rw [hop]; intro c hc'; cases hc')]
    simp [execOp, hop, hm, hrun, Result.andThen]
    exact hK' _ _ (hK w' h1 h2)
theorem wpListIn_next_mapA {left : List (κ × Value)} {r : Nat} (hg : o.guard = none) (it : Operand) (hop : o.op = .next it false) (hit : a.eval it = .pointer (some ⟨r, 0, none⟩)) (h : Ranging K w r b L left)
    (hDone : left = [] → wpListIn F n P ops Q rest (a.put o.dst (.tuple #[.bool false])) w)
    (hMore : ∀ p left' w', left.Perm (p :: left') → p ∈ L → Ranging K w' r b L left' → w.grownBy w' (some r) → (Instr.entry (.pointer (some ⟨r, 0, none⟩))).run P w' = .ok (.tuple #[K.kv p.1, p.2]) w' →
      wpListIn F n P ops Q rest (a.put o.dst (.tuple #[.bool true, K.kv p.1, p.2])) w') : wpListIn F n P ops Q (o :: rest) a w := by
  refine wpListIn_plain hg fun K' hK' => ?_
  unfold Oper.wpIn
  refine ⟨by simp [Oper.about, hop], ?_⟩
  rw [Oper.semAt_plain F _ _ (by rw [hop]; intro c hc'; cases hc')]
  rcases h.next o.type with ⟨h0, hrun⟩ | ⟨p, left', w', h1, h2, hrun, h3, h4, h5⟩
  · simp [execOp, hop, hit, hrun, Result.andThen]
    exact hK' _ _ (hDone h0)
  · simp [execOp, hop, hit, hrun, Result.andThen]
    exact hK' _ _ (hMore p left' w' h1 h2 h3 h4 h5)
end
end Go.Tk
end
section
namespace Go.Proofs.YtlekbdpdlalhbaaGreat
set_option maxRecDepth 100000
open Go.RowKit Go.Lib Go.Tk Go.Shelf Go.Maps
attribute [local go_sem] Oper.semAt_some
def KeysT1 : Nat := 148
abbrev encT (x : Tid) : Array Value := #[tidV x]
set_option maxHeartbeats 4000000 in
theorem keysT1_in (F : Fence) (n : Nat) (hF : F.fn KeysT1) (hro : F.round = none) (hn : 1 ≤ n) (l Bn b : Nat) (L : List (Tid × Value)) (J Jx : List Tid → World → Prop) (W : World) (hA : AbidesFrom W.heap.size J)
    (hm : MapAt tidK W b L) (hBn : W.cell? ⟨Bn, 0, none⟩ = some (.map (some b)))
    (hY : ∀ pre x W1, J pre W1 → pre.length < L.length → YieldAt F (n - 1) Tryz.prog l (encT x) W1 fun e W' =>
      (e = .returned (.bool true) ∧ J (pre ++ [x]) W' ∧ KeepsWalks W1 W') ∨ (e = .returned (.bool false) ∧ Jx (pre ++ [x]) W')) (h0 : J [] W) :
    CallsIn F n Tryz.prog KeysT1 #[.func (.yield l) #[] #[], .pointer (some ⟨Bn, 0, none⟩)] W fun e W' => (∃ v, e = .returned v) ∧
      ((∃ ys, ys.Perm (L.map (·.1)) ∧ J ys W') ∨ (∃ pre, (∃ rest, (pre ++ rest).Perm (L.map (·.1))) ∧ Jx pre W')) := by
  have HY := hid hY
  have HA := hid hA
  have hsz : Aside (∀ x : Nat, x = W.heap.size → x = W.heap.size) := fun _ e => e
  clear hY hA
  refine callsIn_of_wp Tryz.func148 rfl hF ?_ hro
  simp only [Tryz.ntmps148, List.size_toArray, List.length_cons, List.length_nil, Nat.reduceAdd, Nat.reduceSub, Array.replicate_succ, Array.replicate_zero, List.push_toArray, List.append_toArray, List.nil_append, List.cons_append]
  gi_wp2_with (first
    | (gi_at_range; refine wpListIn_range_mapA rfl _ 133 rfl Tryz.underlying133 rfl hm ?_; intro w1 hrg hb1)
    | gi_in)
  go_frame
  have hJ1 := HA.out [] W w1 none h0 (grown_of_below hb1) (fun r e => by cases e)
  have Hrg := hid hrg
  have HB1 := hid hb1.size
  clear hrg hb1 hm hBn h0
  gi_loopg [] L.length (fun k wr => ∃ (done : List Tid) (left : List (Tid × Value)), k = left.length ∧ Hid (Ranging tidK wr W.heap.size b L left) ∧ Hid ((done ++ left.map (·.1)).Perm (L.map (·.1))) ∧ J done wr ∧ Hid (W.heap.size ≤ wr.heap.size))
  case atStart => exact ⟨[], L, rfl, Hrg, (by rw [List.nil_append]; exact List.Perm.refl _), hJ1, HB1⟩
  case round =>
    obtain ⟨done, left, rfl, hr, hp, hj, hs⟩ := hrel
    gi_wp2_with (first
      | (gi_at_next; refine wpListIn_next_mapA rfl _ rfl rfl hr.out ?_ ?_)
      | gi_in)
    · intro hnil
      subst hnil
      have hp' : done.Perm (L.map (·.1)) := by have := hp.out; simpa using this
      gi_wp2
      go_end0
      exact ⟨⟨_, rfl⟩, .inl ⟨done, hp', hj⟩⟩
    · intro pk pv left' w2 hpl hmem hr2 hg hen
      have hr2' := hid hr2
      have hj2 := HA.out done wr w2 (some W.heap.size) hj hg (fun r e => by cases e; exact ⟨Nat.le_refl _, by
        obtain ⟨es, clock, since, seen, -, h1, -⟩ := hr.out
        exact ⟨_, h1, rfl⟩⟩)
      have hlen := hpl.length_eq
      simp only [List.length_cons] at hlen
      have hp2 : (done ++ [pk] ++ left'.map (·.1)).Perm (L.map (·.1)) := by
        refine List.Perm.trans ?_ hp.out
        rw [List.append_assoc]
        have hq : (pk :: left'.map (fun p : Tid × Value => p.1)).Perm (left.map (fun p : Tid × Value => p.1)) := (List.Perm.map (fun p : Tid × Value => p.1) hpl).symm
        exact List.Perm.append_left done hq
      have hs2 : W.heap.size ≤ w2.heap.size := Nat.le_trans hs.out hg.size
      have hdl : done.length < L.length := by
        have := hp2.length_eq
        simp only [List.length_append, List.length_cons, List.length_nil, List.length_map] at this
        omega
      have HP2 := hid hp2
      have HS2 := hid hs2
      have HLE := hid hlen
      obtain ⟨w3, hw3⟩ : ∃ w3, w2.alloc (.cells #[.int .u8 pk.c, .int .u64 pk.r] 25) = w3 := ⟨_, rfl⟩
      have hb3 : Below w2.heap.size w2 w3 := by rw [← hw3]; exact (Below.refl w2.heap.size w2).alloc (Nat.le_refl _) _
      have hj3 := HA.out done w2 w3 none hj2 (grown_of_below hb3) (fun r e => by cases e)
      have hr3 := hid (hr2.of_walks (KeepsWalks.alloc w2 (.cells #[.int .u8 pk.c, .int .u64 pk.r] 25)))
      rw [hw3] at hr3
      have hB3 : w3.heap[w2.heap.size]? = some (.cells #[.int .u8 pk.c, .int .u64 pk.r] 25 (0, 0)) := by rw [← hw3]; exact World.alloc_heap_new w2 _
      have hcA : w3.cell? ⟨w2.heap.size, 0, none⟩ = some (.int .u8 pk.c) := by simp [World.cell?, hB3]
      have hcB : w3.cell? ⟨w2.heap.size, 1, none⟩ = some (.int .u64 pk.r) := by simp [World.cell?, hB3]
      have hs3 := hid (Nat.le_trans hs2 hb3.size)
      have HP2 := hid hp2
      have HLE := hid hlen
      clear hp hr hj hs hpl hmem hg hp2 hs2 hlen hr2 hr2' hj2 hb3 hB3
      obtain ⟨fn, tmps, assign, body, hy, hR⟩ := HY.out done pk w3 hj3 hdl
      simp only [encT, show tidV pk = .agg #[.int .u8 pk.c, .int .u64 pk.r] from rfl] at hy
      simp only [show tidK.kv pk = .agg #[.int .u8 pk.c, .int .u64 pk.r] from rfl] at hen ⊢
      gi_wp2
      refine hR.mono ?_
      rintro e W3 (⟨rfl, hJ3, hk3⟩ | ⟨rfl, hJx3⟩)
      · have hr4 := hid (hr3.out.of_walks hk3)
        have hs4 := hid (Nat.le_trans hs3.out hk3.1)
        have hle : left'.length < left.length := by have := HLE.out; omega
        gi_wp2
        gi_roundg left'.length
        case rel => exact ⟨done ++ [pk], left', rfl, hr4, HP2, hJ3, hs4⟩
        case measure => exact hle
      · gi_wp2
        refine bodyPost_ret (results_none rfl _ _ _) rfl ?_
        exact ⟨⟨_, rfl⟩, .inr ⟨done ++ [pk], ⟨_, HP2.out⟩, hJx3⟩⟩
end Go.Proofs.YtlekbdpdlalhbaaGreat
end
