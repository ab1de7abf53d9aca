/- EbP3, Ky0, Ky1. -/
import Derived.Test.YtlekbdpdlalhbaaM7f42ba3
import Derived.Test.YtlekbdpdlalhbaaHo4
import Derived.Test.YtlekbdpdlalhbaaM642530e
import Derived.Sort.MapsRangeIn
import Derived.RangeFuncSeq
import Derived.Test.YtlekbdpdlalhbaaMfa6bb7c
import Derived.RangeFuncBox
import Derived.RangeFuncNested
import Derived.RangeFuncBound
import Derived.RangeFuncCalls
import Derived.RangeFuncLeaves
import Derived.RangeFuncGives
import Derived.RangeFuncKeeps
import Derived.Shelf.Abstract
import Derived.Shelf.RegionOpen
import Derived.WalkKit
import Derived.OwnWalkIn
import Derived.TacticsInMore
import Derived.LoopNIn
import Derived.LoopIn
import Derived.Sort.LoopGhostIn
section
namespace Go.Proofs.Ytlekbdpdlalhbaa
set_option maxRecDepth 100000
open Go.RowKit Go.Lib Go.Tk Go.Shelf Go.Vc Go.Sx
set_option linter.unusedVariables false
set_option linter.unusedSimpArgs false

/-- the book's accounts -/
structure EB (B : BookV) : Prop where
  ex : ExOk B
  ks : KeysIn B
  ei : EI B.docs (coupL B)
theorem EB.nodup {B : BookV} (h : EB B) : (B.docs.map (·.t)).Nodup := h.ex.bk.nodup
theorem turnB_coup (B : BookV) (t : Tid) (s : Int) (d : DocV) : coupL (turnB (B.setD d) t s) t = (coupL B t).map (turnO s) := coupL_turn (B.setD d) t s
theorem turnB_coup_ne (B : BookV) {t t' : Tid} (s : Int) (d : DocV) (h : t' ≠ t) : coupL (turnB (B.setD d) t s) t' = coupL B t' := coupL_turn_ne (B.setD d) s h
theorem turnB_docsD (B : BookV) (t : Tid) (s : Int) (d : DocV) : (turnB (B.setD d) t s).docs = putD B.docs d := turnB_docs _ t s
/-- a document changed, its free coupons turned -/
theorem EB.change {B : BookV} (h : EB B) {d d' : DocV} {s : Int} (hs : 4 < s ∧ s ≤ 7) (hd : d ∈ B.docs) (ht : d'.t = d.t) (hsl : d'.s = d.s) (hv : d'.vals = d.vals) (hf : d'.frm = d.frm) (ho : d'.dst = d.dst) (hc : d'.credit = d.credit) (hp : d'.paid = d.paid)
    (hb : 0 ≤ d'.back) (hk : 0 ≤ d'.kept) (hl : 0 ≤ d'.left) (hl2 : d'.left ≤ d.left) (hm : d'.back + d'.kept + d'.left = d.back + d.kept + d.left + ((frL (coupL B d.t)).map (·.k.v)).sum) : EB (turnB (B.setD d') d.t s) := by
  have hi := h.ei.doc d hd
  refine ⟨(h.ex.setD (by rw [hsl]; exact h.ex.sal d hd) ⟨by rw [hsl]; exact (h.ex.sm d hd).nl, by rw [hsl]; exact (h.ex.sm d hd).nt, by rw [hv]; exact (h.ex.sm d hd).nv⟩).turnB d.t s, (h.ks.setD d').turnB d.t s, ?_⟩
  rw [turnB_docsD]
  have e := turnB_coup B d.t s d'
  refine h.ei.upd h.nodup hd ht hf ho hc ?_ ?_ (fun t q => turnB_coup_ne B s d' q)
  · rw [e]
    refine ⟨by rw [turn_vals, hv]; exact hi.vals, turn_st ⟨by omega, hs.2⟩ hi.st, by rw [hv]; exact hi.nn, by rw [hv, hsl]; exact hi.sum, by rw [hsl]; exact hi.pen, by rw [hp]; exact hi.paid, hb, hk, hl, by have := hi.leftc; rw [hc]; omega, fun q => ?_, by rw [hp, hc, ht]; exact hi.bnd⟩
    rw [hp, hc, hsl]; exact hi.frm (hf ▸ q)
  · rw [e]
    unfold mD
    rw [opL_turn hs.1, hp]; omega
/-! ### a ticket sold -/
structure MadeI (B : BookV) (s : SaleV) : Prop where
  vl : (shareV s.fare (wsOf s)).length ≤ 4
  op : opL (newL s) = s.fare
  vs : (shareV s.fare (wsOf s)).sum = s.fare
  nn : ∀ v ∈ shareV s.fare (wsOf s), 0 ≤ v
  st : ∀ o ∈ newL s, 1 ≤ o.k.s ∧ o.k.s ≤ 7
  pen : 0 ≤ s.pen
  fare : 0 ≤ s.fare
  many : B.docs.length < 32
theorem made_i {B : BookV} {s : SaleV} (ok : SaleOk s) (hm : B.issE s = 0) : MadeI B s := by
  obtain ⟨-, -, hsh, -⟩ := check_shape (issE_check hm)
  obtain ⟨hS, ha, l1, l4, f0, f1⟩ := shape_share ok hsh
  have hp : 0 ≤ s.pen ∧ s.pen ≤ 1125899906842624 := by
    simp only [shapeB, Bool.and_eq_true] at hsh
    obtain ⟨⟨⟨⟨-, -⟩, h3⟩, -⟩, -⟩ := hsh
    simp only [must3, List.all_cons, List.all_nil, Bool.and_true, Bool.and_eq_true, amtB, decide_eq_true_eq] at h3
    exact h3.2
  have hv : shareV s.fare (wsOf s) = shareL s.fare (wsOf s) := by unfold shareV; rw [if_pos hS]
  have hvs : (shareV s.fare (wsOf s)).sum = s.fare := by rw [hv]; exact shareL_sum _ _ ha
  have st1 : ∀ o ∈ newL s, o.k.s = 1 := fun o ho => by
    unfold newL at ho
    obtain ⟨i, -, rfl⟩ := List.mem_map.1 ho
    rfl
  refine ⟨by rw [shareV_len hS, ws_len]; exact l4, ?_, hvs, fun v hx => ?_, fun o ho => by rw [st1 o ho]; decide, hp.1, f0, issE_many hm⟩
  · unfold opL
    rw [List.filter_eq_self.2 fun o ho => by simp [st1 o ho], newL_vals, hvs]
  · rw [hv] at hx
    obtain ⟨i, hi, rfl⟩ := List.getElem_of_mem hx
    have := (shareL_bds (ws_pos ok) ha f0 (i := i) (by rw [shareL_len] at hi; exact hi)).1
    simpa [List.getD_eq_getElem?_getD, hi] using this
theorem nextT_fresh {B : BookV} (h : BookOk B) : ∀ x ∈ B.docs, x.t ≠ B.nextT := fun x hx e => by
  obtain ⟨j, hj, hjd⟩ := List.getElem_of_mem hx
  have := h.docs j x (by rw [List.getElem?_eq_getElem hj, hjd])
  rw [this] at e
  have e : (⟨B.self, (j : Int) + 1⟩ : Tid) = ⟨B.self, (B.docs.length : Int) + 1⟩ := e
  injection e with _ e
  omega
theorem EB.issued {B : BookV} (h : EB B) {s : SaleV} (ok : SaleOk s) (hs : s.fare < 1099511627776) (hm : B.issE s = 0) : EB (B.issued s) := by
  have m := made_i ok hm
  refine ⟨h.ex.issued ok hm, h.ks.issued s, ?_⟩
  have e := coupL_issued (s := s) (h.ks.next h.ex.bk) m.vl
  have hvl := newL_vals s
  refine h.ei.add (n := docMade B.nextT s) (nextT_fresh h.ex.bk) rfl ?_ ?_ rfl (fun t q => coupL_issued_ne q)
  · show DocI _ (coupL (B.issued s) B.nextT)
    rw [e]
    have := m.fare
    refine ⟨hvl, m.st, m.nn, m.vs, m.pen, m.fare, Int.le_refl _, Int.le_refl _, Int.le_refl _, Int.le_refl _, fun _ => ⟨rfl, rfl⟩, ?_⟩
    show s.fare + 0 ≤ 1099511627776 * ((B.docs.length : Int) + 1)
    omega
  · show mD _ (coupL (B.issued s) B.nextT) = 0
    rw [e]
    unfold mD
    rw [m.op]
    show s.fare - 0 - 0 - 0 - s.fare = 0
    omega
/-! ### a coupon handed on -/
def selL (a b c d : Option OwnV) : List OwnV :=
  match a with
  | none => []
  | some a => match b with
    | none => [a]
    | some b => match c with
      | none => [a, b]
      | some c => match d with
        | none => [a, b, c]
        | some d => [a, b, c, d]
def svO (o : OwnV) : Int × Int := (o.k.s, o.k.v)
theorem selL_stv {a b c d a' b' c' d' : Option OwnV} (h0 : a'.map svO = a.map svO) (h1 : b'.map svO = b.map svO) (h2 : c'.map svO = c.map svO) (h3 : d'.map svO = d.map svO) : stv (selL a' b' c' d') = stv (selL a b c d) := by
  cases a' <;> cases a <;> simp only [Option.map_none, Option.map_some, reduceCtorEq, Option.some.injEq] at h0
  · rfl
  cases b' <;> cases b <;> simp only [Option.map_none, Option.map_some, reduceCtorEq, Option.some.injEq] at h1
  · exact congrArg (fun x => [x]) h0
  cases c' <;> cases c <;> simp only [Option.map_none, Option.map_some, reduceCtorEq, Option.some.injEq] at h2
  · show [svO _, svO _] = [svO _, svO _]
    rw [h0, h1]
  cases d' <;> cases d <;> simp only [Option.map_none, Option.map_some, reduceCtorEq, Option.some.injEq] at h3
  · show [svO _, svO _, svO _] = [svO _, svO _, svO _]
    rw [h0, h1, h2]
  · show [svO _, svO _, svO _, svO _] = [svO _, svO _, svO _, svO _]
    rw [h0, h1, h2, h3]
theorem coupL_sel (B : BookV) (t : Tid) : coupL B t = selL (lkt B.owns ⟨t, 0⟩) (lkt B.owns ⟨t, 1⟩) (lkt B.owns ⟨t, 2⟩) (lkt B.owns ⟨t, 3⟩) := rfl
theorem coupL_setO {B : BookV} {k : Kid} {o o' : OwnV} (h : lkt B.owns k = some o) (e : svO o' = svO o) (t : Tid) : stv (coupL (B.setO k o') t) = stv (coupL B t) := by
  have key : ∀ i : Int, (lkt (B.setO k o').owns ⟨t, i⟩).map svO = (lkt B.owns ⟨t, i⟩).map svO := fun i => by
    rw [setO_some h]
    show (lkt (putt B.owns k o') ⟨t, i⟩).map svO = _
    rw [lkt_put]
    by_cases q : k = ⟨t, i⟩
    · rw [if_pos q, ← q, h]
      show some (svO o') = some (svO o)
      rw [e]
    · rw [if_neg q]
  rw [coupL_sel, coupL_sel]
  exact selL_stv (key 0) (key 1) (key 2) (key 3)
theorem setO_same (B : BookV) (k : Kid) (o : OwnV) : (B.setO k o).docs = B.docs ∧ (B.setO k o).self = B.self ∧ (B.setO k o).n = B.n ∧ (B.setO k o).helds = B.helds := by
  unfold BookV.setO; cases (lkt B.owns k).isSome <;> exact ⟨rfl, rfl, rfl, rfl⟩
theorem ExOk.setO {B : BookV} (h : ExOk B) {k : Kid} {o : OwnV} (ho : OwnOk o) : ExOk (B.setO k o) := by
  obtain ⟨e1, e2, e3, -⟩ := setO_same B k o
  refine ⟨⟨by rw [e2, e3]; exact h.bk.self, by rw [e3]; exact h.bk.n, by rw [e1, e2]; exact h.bk.docs, by rw [e1]; exact h.bk.many⟩, by rw [e1]; exact h.sal, by rw [e1]; exact h.sm, fun k' x hx => ?_⟩
  cases hl : lkt B.owns k with
  | none => rw [setO_none hl] at hx; exact h.own k' x hx
  | some y =>
    rw [setO_some hl] at hx
    have hx : lkt (putt B.owns k o) k' = some x := hx
    rw [lkt_put] at hx
    by_cases q : k = k'
    · rw [if_pos q] at hx; cases hx; exact ho
    · rw [if_neg q] at hx; exact h.own k' x hx
theorem EB.setO {B : BookV} (h : EB B) {k : Kid} {o o' : OwnV} (hl : lkt B.owns k = some o) (e : svO o' = svO o) : EB (B.setO k o') := by
  have ho := h.ex.own k o hl
  have ev : o'.k.v = o.k.v := (Prod.mk.inj e).2
  refine ⟨h.ex.setO (show OwnOk o' from by unfold OwnOk at ho ⊢; rw [ev]; exact ho), h.ks.setO k o', ?_⟩
  rw [(setO_same B k o').1]
  exact h.ei.stv fun t => coupL_setO hl e t
end Go.Proofs.Ytlekbdpdlalhbaa
end
section
namespace Go.Tk
set_option linter.unusedVariables false
set_option linter.unusedSimpArgs false
open Go.RowKit Go.Lib Go.Maps
variable {κ : Type} {P : Program} {k : TypeId}

theorem Ranging.of_walks {K : KeyKind P k κ} {w w' : World} {r b : Nat} {L left : List (κ × Value)} (h : Ranging K w r b L left) (hk : KeepsWalks w w') : Ranging K w' r b L left := by
  obtain ⟨es, clock, since, seen, hne, h1, h2, rest⟩ := h
  exact ⟨es, clock, since, seen, hne, hk.same r _ h1 rfl, hk.same b _ h2 rfl, rest⟩
theorem grown_of_below {w w' : World} (h : Below w.heap.size w w') : w.grownBy w' none := ⟨h.os, h.tape, h.output, h.size, fun k hk _ => h.block k hk⟩
section
variable {F : Fence} {n : Nat} {w : World} {ops : Array Oper} {rest : List Oper} {o : Oper} {a : Act} {Q : Exit → Act → World → Prop} {K : KeyKind P k κ} {b : Nat} {L : List (κ × Value)} {e : TypeId}
theorem wpListIn_range_mapA (hg : o.guard = none) (m : Operand) (t : TypeId) (hop : o.op = .range t m) (ht : P.underlying t = some (.map k e)) (hm : a.eval m = .map (some b)) (h : MapAt K w b L)
    (hK : ∀ w', Ranging K w' w.heap.size b L L → Below w.heap.size w w' → wpListIn F n P ops Q rest (a.put o.dst (.pointer (some ⟨w.heap.size, 0, none⟩))) w') : wpListIn F n P ops Q (o :: rest) a w := by
  refine wpListIn_plain hg fun K' hK' => ?_
  obtain ⟨w', hrun, h1, h2⟩ := h.range ht
  unfold Oper.wpIn
  refine ⟨?_, ?_⟩
  · simp [Oper.about, hop]
  · rw [Oper.semAt_plain F _ _ (by rw [hop]; intro c hc'; cases hc')]
    simp [execOp, hop, hm, hrun, Result.andThen]
    exact hK' _ _ (hK w' h1 h2)
theorem wpListIn_next_mapA {left : List (κ × Value)} {r : Nat} (hg : o.guard = none) (it : Operand) (hop : o.op = .next it false) (hit : a.eval it = .pointer (some ⟨r, 0, none⟩)) (h : Ranging K w r b L left)
    (hDone : left = [] → wpListIn F n P ops Q rest (a.put o.dst (.tuple #[.bool false])) w)
    (hMore : ∀ p left' w', left.Perm (p :: left') → p ∈ L → Ranging K w' r b L left' → w.grownBy w' (some r) → (Instr.entry (.pointer (some ⟨r, 0, none⟩))).run P w' = .ok (.tuple #[K.kv p.1, p.2]) w' →
      wpListIn F n P ops Q rest (a.put o.dst (.tuple #[.bool true, K.kv p.1, p.2])) w') : wpListIn F n P ops Q (o :: rest) a w := by
  refine wpListIn_plain hg fun K' hK' => ?_
  unfold Oper.wpIn
  refine ⟨by simp [Oper.about, hop], ?_⟩
  rw [Oper.semAt_plain F _ _ (by rw [hop]; intro c hc'; cases hc')]
  rcases h.next o.type with ⟨h0, hrun⟩ | ⟨p, left', w', h1, h2, hrun, h3, h4, h5⟩
  · simp [execOp, hop, hit, hrun, Result.andThen]
    exact hK' _ _ (hDone h0)
  · simp [execOp, hop, hit, hrun, Result.andThen]
    exact hK' _ _ (hMore p left' w' h1 h2 h3 h4 h5)
end
end Go.Tk
end
section
namespace Go.Proofs.Ytlekbdpdlalhbaa
set_option maxRecDepth 100000
open Go.RowKit Go.Lib Go.Tk Go.Shelf Go.Maps
attribute [local go_sem] Oper.semAt_some
def KeysT1 : Nat := 68
abbrev encT (x : Tid) : Array Value := #[tidV x]
set_option maxHeartbeats 4000000 in
theorem keysT1_in (F : Fence) (n : Nat) (hF : F.fn KeysT1) (hro : F.round = none) (hn : 1 ≤ n) (l Bn b : Nat) (L : List (Tid × Value)) (J Jx : List Tid → World → Prop) (W : World) (hA : AbidesFrom W.heap.size J)
    (hm : MapAt tidK W b L) (hBn : W.cell? ⟨Bn, 0, none⟩ = some (.map (some b)))
    (hY : ∀ pre x W1, J pre W1 → pre.length < L.length → YieldAt F (n - 1) Try.prog l (encT x) W1 fun e W' =>
      (e = .returned (.bool true) ∧ J (pre ++ [x]) W' ∧ KeepsWalks W1 W') ∨ (e = .returned (.bool false) ∧ Jx (pre ++ [x]) W')) (h0 : J [] W) :
    CallsIn F n Try.prog KeysT1 #[.func (.yield l) #[] #[], .pointer (some ⟨Bn, 0, none⟩)] W fun e W' => (∃ v, e = .returned v) ∧
      ((∃ ys, ys.Perm (L.map (·.1)) ∧ J ys W') ∨ (∃ pre, (∃ rest, (pre ++ rest).Perm (L.map (·.1))) ∧ Jx pre W')) := by
  have HY := hid hY
  have HA := hid hA
  have hsz : Aside (∀ x : Nat, x = W.heap.size → x = W.heap.size) := fun _ e => e
  clear hY hA
  refine callsIn_of_wp Try.func68 rfl hF ?_ hro
  simp only [Try.ntmps68, List.size_toArray, List.length_cons, List.length_nil, Nat.reduceAdd, Nat.reduceSub, Array.replicate_succ, Array.replicate_zero, List.push_toArray, List.append_toArray, List.nil_append, List.cons_append]
  gi_wp2_with (first
    | (gi_at_range; refine wpListIn_range_mapA rfl _ 76 rfl Try.underlying76 rfl hm ?_; intro w1 hrg hb1)
    | gi_in)
  go_frame
  have hJ1 := HA.out [] W w1 none h0 (grown_of_below hb1) (fun r e => by cases e)
  have Hrg := hid hrg
  have HB1 := hid hb1.size
  clear hrg hb1 hm hBn h0
  gi_loopg [] L.length (fun k wr => ∃ (done : List Tid) (left : List (Tid × Value)), k = left.length ∧ Hid (Ranging tidK wr W.heap.size b L left) ∧ Hid ((done ++ left.map (·.1)).Perm (L.map (·.1))) ∧ J done wr ∧ Hid (W.heap.size ≤ wr.heap.size))
  case atStart => exact ⟨[], L, rfl, Hrg, (by rw [List.nil_append]; exact List.Perm.refl _), hJ1, HB1⟩
  case round =>
    obtain ⟨done, left, rfl, hr, hp, hj, hs⟩ := hrel
    gi_wp2_with (first
      | (gi_at_next; refine wpListIn_next_mapA rfl _ rfl rfl hr.out ?_ ?_)
      | gi_in)
    · intro hnil
      subst hnil
      have hp' : done.Perm (L.map (·.1)) := by have := hp.out; simpa using this
      gi_wp2
      go_end0
      exact ⟨⟨_, rfl⟩, .inl ⟨done, hp', hj⟩⟩
    · intro pk pv left' w2 hpl hmem hr2 hg hen
      have hr2' := hid hr2
      have hj2 := HA.out done wr w2 (some W.heap.size) hj hg (fun r e => by cases e; exact ⟨Nat.le_refl _, by
        obtain ⟨es, clock, since, seen, -, h1, -⟩ := hr.out
        exact ⟨_, h1, rfl⟩⟩)
      have hlen := hpl.length_eq
      simp only [List.length_cons] at hlen
      have hp2 : (done ++ [pk] ++ left'.map (·.1)).Perm (L.map (·.1)) := by
        refine List.Perm.trans ?_ hp.out
        rw [List.append_assoc]
        have hq : (pk :: left'.map (fun p : Tid × Value => p.1)).Perm (left.map (fun p : Tid × Value => p.1)) := (List.Perm.map (fun p : Tid × Value => p.1) hpl).symm
        exact List.Perm.append_left done hq
      have hs2 : W.heap.size ≤ w2.heap.size := Nat.le_trans hs.out hg.size
      have hdl : done.length < L.length := by
        have := hp2.length_eq
        simp only [List.length_append, List.length_cons, List.length_nil, List.length_map] at this
        omega
      have HP2 := hid hp2
      have HS2 := hid hs2
      have HLE := hid hlen
      obtain ⟨w3, hw3⟩ : ∃ w3, w2.alloc (.cells #[.int .u8 pk.c, .int .u64 pk.r] 35) = w3 := ⟨_, rfl⟩
      have hb3 : Below w2.heap.size w2 w3 := by rw [← hw3]; exact (Below.refl w2.heap.size w2).alloc (Nat.le_refl _) _
      have hj3 := HA.out done w2 w3 none hj2 (grown_of_below hb3) (fun r e => by cases e)
      have hr3 := hid (hr2.of_walks (KeepsWalks.alloc w2 (.cells #[.int .u8 pk.c, .int .u64 pk.r] 35)))
      rw [hw3] at hr3
      have hB3 : w3.heap[w2.heap.size]? = some (.cells #[.int .u8 pk.c, .int .u64 pk.r] 35 (0, 0)) := by rw [← hw3]; exact World.alloc_heap_new w2 _
      have hcA : w3.cell? ⟨w2.heap.size, 0, none⟩ = some (.int .u8 pk.c) := by simp [World.cell?, hB3]
      have hcB : w3.cell? ⟨w2.heap.size, 1, none⟩ = some (.int .u64 pk.r) := by simp [World.cell?, hB3]
      have hs3 := hid (Nat.le_trans hs2 hb3.size)
      have HP2 := hid hp2
      have HLE := hid hlen
      clear hp hr hj hs hpl hmem hg hp2 hs2 hlen hr2 hr2' hj2 hb3 hB3
      obtain ⟨fn, tmps, assign, body, hy, hR⟩ := HY.out done pk w3 hj3 hdl
      simp only [encT, show tidV pk = .agg #[.int .u8 pk.c, .int .u64 pk.r] from rfl] at hy
      simp only [show tidK.kv pk = .agg #[.int .u8 pk.c, .int .u64 pk.r] from rfl] at hen ⊢
      gi_wp2
      refine hR.mono ?_
      rintro e W3 (⟨rfl, hJ3, hk3⟩ | ⟨rfl, hJx3⟩)
      · have hr4 := hid (hr3.out.of_walks hk3)
        have hs4 := hid (Nat.le_trans hs3.out hk3.1)
        have hle : left'.length < left.length := by have := HLE.out; omega
        gi_wp2
        gi_roundg left'.length
        case rel => exact ⟨done ++ [pk], left', rfl, hr4, HP2, hJ3, hs4⟩
        case measure => exact hle
      · gi_wp2
        refine bodyPost_ret (results_none rfl _ _ _) rfl ?_
        exact ⟨⟨_, rfl⟩, .inr ⟨done ++ [pk], ⟨_, HP2.out⟩, hJx3⟩⟩
end Go.Proofs.Ytlekbdpdlalhbaa
end
