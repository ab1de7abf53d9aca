/- SxN3, Ex7, Of3. -/
import Derived.Test.YtifapcpcemigdaaGreatSxN2
import Derived.Test.YtifapcpcemigdaaGreatMeeca872
import Derived.Test.YtifapcpcemigdaaGreatM50f98c5
set_option maxRecDepth 100000
set_option linter.unusedVariables false
set_option linter.unusedSimpArgs false
set_option linter.unusedSectionVars false
section
namespace Go.Sx
open Go.RowKit Go.Tk Go.Lib Go.Shelf Go.Vc Go.Maps
section
variable {P : Program} {cal : Callee P} {nt : Nat}
def isMapT (P : Program) (kt t : TypeId) : Bool := match P.underlying t with
  | some (.map kt' _) => Nat.beq kt kt'
  | _ => false
def dmB1 (P : Program) (kt jm : Nat) (ops : List Oper) : Bool := match ops[jm]? with
  | some o => (match o.op with
    | .makeMap t none => isMapT P kt t
    | _ => false)
  | none => false
def dmB2 (P : Program) (N kt jm : Nat) (ops : List Oper) (t : Ins) : Bool := match ops[t.1]? with
  | some o => (match o.op with
    | .insert ty _ _ _ => isMapT P kt ty && (isKey P kt t.2.1 && (okIns N (ancL ops) t && (((ancL ops).getD t.1 []).any (Nat.beq jm) && (!Nat.beq t.1 jm))))
    | _ => false)
  | none => false
def ndN : List Nat → Bool
  | [] => true
  | x :: l => !l.any (Nat.beq x) && ndN l
theorem ndN_nodup : ∀ {l : List Nat}, ndN l = true → l.Nodup
  | [], _ => List.nodup_nil
  | x :: l, h => by
    unfold ndN at h
    rw [Bool.and_eq_true] at h
    refine List.nodup_cons.2 ⟨fun hm => ?_, ndN_nodup h.2⟩
    have : (l.any (Nat.beq x)) = true := List.any_eq_true.2 ⟨x, hm, Nat.beq_refl x⟩
    rw [this] at h
    cases h.1
def ovC : Option SV → CV
  | some v => .sv v
  | none => .nat 0
theorem ovC_sv {o : Option SV} {v : SV} (h : ovC o = .sv v) : o = some v := by
  cases o with
  | none => cases h
  | some u => unfold ovC at h; injection h with h; rw [h]
def insChk (N jm : Nat) (ops : List Oper) (ev : Nat → Ev1) (t : Ins) : List (CV × CV) := match ops[t.1]? with
  | some o => (match o.op with
    | .insert _ x y z => [(ovC (ev t.1 x), .sv (.map (N + jm) 0)), (ovC (ev t.1 y), .sv (.val t.2.1)), (ovC (ev t.1 z), .sv t.2.2)]
    | _ => [])
  | none => []
theorem dm_ok {N kt jm : Nat} {ins : List Ins} {ops : List Oper} {ev : Nat → Ev1} (h1 : dmB1 P kt jm ops = true) (h2 : keyB P kt = true) (h3 : ins.all (dmB2 P N kt jm ops) = true) (h4 : ndN (ins.map (·.1)) = true) (h5 : (ins.map (·.2.1)).Nodup) (hk : ChkOK (ins.flatMap (insChk N jm ops ev))) : DmOK P N jm ins kt ops (ancL ops) ev where
  mke := by
    unfold dmB1 at h1
    split at h1 <;> try (cases h1; done)
    rename_i o ho
    split at h1 <;> try (cases h1; done)
    rename_i t hop
    unfold isMapT at h1
    split at h1 <;> try (cases h1; done)
    rename_i kt' e hT
    have := Nat.eq_of_beq_eq_true h1
    subst this
    exact ⟨o, t, e, ho, hop, hT⟩
  key := h2
  put := fun t ht => by
    have hb := List.all_eq_true.1 h3 t ht
    have hc : ChkOK (insChk N jm ops ev t) := fun c hc => hk c (List.mem_flatMap.2 ⟨t, ht, hc⟩)
    unfold dmB2 at hb
    unfold insChk at hc
    split at hb <;> try (cases hb; done)
    rename_i o ho
    simp only [ho] at hc
    split at hb <;> try (cases hb; done)
    rename_i ty x y z hop
    simp only [hop] at hc
    simp only [Bool.and_eq_true, Bool.not_eq_true'] at hb
    obtain ⟨b1, b2, b3, b4, b5⟩ := hb
    unfold isMapT at b1
    split at b1 <;> try (cases b1; done)
    rename_i kt' e hT
    have := Nat.eq_of_beq_eq_true b1
    subst this
    obtain ⟨m, hm, hb⟩ := List.any_eq_true.1 b4
    have := Nat.eq_of_beq_eq_true hb
    subst this
    have c1 := hc (ovC (ev t.1 x), .sv (.map (N + jm) 0)) (by simp)
    have c2 := hc (ovC (ev t.1 y), .sv (.val t.2.1)) (by simp)
    have c3 := hc (ovC (ev t.1 z), .sv t.2.2) (by simp)
    exact ⟨o, ty, e, x, y, z, ho, hop, hT, ovC_sv c1, ovC_sv c2, ovC_sv c3, b2, b3, hm, fun e => by rw [e, Nat.beq_refl] at b5; cases b5⟩
  nd := ndN_nodup h4
  ndk := h5
def objI (ins : List Ins) : SC := .obj (ins.map fun t => (t.2.1, t.2.2, 0)) 0
def dmH (jm : Nat) (ins : List Ins) (H : Heap) : Heap := ((2 + jm, 0), objI ins) :: H
def dmRun (P : Program) (cal : Callee P) (nt id jm kt : Nat) (ins : List Ins) (ops : List Oper) (sl : Slots) (H : Heap) (hs : List (Hint P)) (sl2 : Slots) (H2 : Heap) : Option (List (CV × CV)) :=
  match runOpsS P cal id nt (spV 2 jm ins) ops ops 0 2 sl H hs with
  | none => none
  | some q => bif drawOK P nt 2 ops q.outs && (dmB1 P kt jm ops && (keyB P kt && (ins.all (dmB2 P 2 kt jm ops) && (ndN (ins.map (·.1)) && (!nmIn (names q.heap) (2 + jm, 0) && hok (ltB (2 + ops.length)) (dmH jm ins [])))))) &&
      (ndB (namesR (gR (umH (dmH jm ins q.heap) H2 (umSl sl2 q.slots []))) H2) && (ndB (names H2) && (sl2.all (fun x => x.2.ok (ltB 2)) && (hok (ltB 2) H2 && nilsOK (gR (umH (dmH jm ins q.heap) H2 (umSl sl2 q.slots []))) H2)))) then
      some (chks q.outs ++ (ins.flatMap (insChk 2 jm ops fun j => slotsEv (slF ops q.outs j sl)) ++ (slChk (gR (umH (dmH jm ins q.heap) H2 (umSl sl2 q.slots []))) q.slots sl2 ++ chkOf (gR (umH (dmH jm ins q.heap) H2 (umSl sl2 q.slots []))) (dmH jm ins q.heap) H2))) else none
theorem go_drawMap {f : Nat} {ret : SV} {rp : Heap} {eb : Env} {R : List Chunk} {id : Nat} {opsA : Array Oper} {K : List It} {sl : Slots} {H : Heap} (jm kt : Nat) (ins : List Ins) (sl2 : Slots) (H2 : Heap) (hs : List (Hint P)) (hcal : CalleeOK P cal) (hnk : (ins.map (·.2.1)).Nodup)
    (h : cl (dmRun P cal (ntOf P f) id jm kt ins opsA.toList sl H hs sl2 H2) = cr (dmRun P cal (ntOf P f) id jm kt ins opsA.toList sl H hs sl2 H2)) (hg : Go P f ret rp eb R .nrm K sl2 H2) : Go P f ret rp eb R .nrm (.code (.region id opsA true) :: K) sl H := by
  obtain ⟨ck0, h1, hk⟩ := cl_cr h
  clear h
  unfold dmRun at h1
  split at h1 <;> try (cases h1; done)
  rename_i q hq
  generalize hG : umH (dmH jm ins q.heap) H2 (umSl sl2 q.slots []) = G at h1
  generalize hC : (drawOK P (ntOf P f) 2 opsA.toList q.outs && (dmB1 P kt jm opsA.toList && (keyB P kt && (ins.all (dmB2 P 2 kt jm opsA.toList) && (ndN (ins.map (·.1)) && (!nmIn (names q.heap) (2 + jm, 0) && hok (ltB (2 + opsA.toList.length)) (dmH jm ins [])))))) &&
      (ndB (namesR (gR G) H2) && (ndB (names H2) && (sl2.all (fun x => x.2.ok (ltB 2)) && (hok (ltB 2) H2 && nilsOK (gR G) H2))))) = C at h1
  cases C with
  | false => cases h1
  | true =>
    cases h1
    simp only [Bool.and_eq_true, Bool.not_eq_true'] at hC
    obtain ⟨⟨c1, c2, c3, c4, c5, c6, c7⟩, b1, b2, b3, b4, b5⟩ := hC
    intro ε a w hr
    have he : opsA = opsA.toList.toArray := by simp
    show (Code.region id opsA true).wp P (wpK P _ K) a w
    have key := draw_map (P := P) (cal := cal) (r := id) (nt := ntOf P f) (ops := opsA.toList) (lo := 1) (eb := eb) (R := R) (σ := ⟨sl, H, 2⟩) (ε := ε) (a0 := a) (w0 := w) (id := id) (Q := wpK P (bodyPost P (fnOf P f) (goalR ret rp eb R)) K) (kt := kt) hcal hq
      (dm_ok c2 c3 c4 c5 hnk hk.right.left) hk.left c1 hr ?_
    · rwa [← he] at key
    · intro ε' a' w' hrel
      have hn : ((2 + jm, 0) : Nm) ∉ names q.heap := fun hm => by rw [nmIn_iff.2 hm] at c6; cases c6
      have hrel2 : Rel (ntOf P f) 1 eb R ⟨q.slots, dmH jm ins q.heap, 2 + opsA.toList.length⟩ ε' a' w' := by
        refine ⟨hrel.size, hrel.defers, hrel.slots, ?_, ?_, ?_, hrel.e0, hrel.pos⟩
        · have hm : Mem (hden ε' q.heap ++ (objM (ε' (2 + jm) 0).1 (ins.map fun t => (t.2.1, t.2.2.den ε')) :: R)) w' := hrel.mem
          have h2 : Mem (objM (ε' (2 + jm) 0).1 (ins.map fun t => (t.2.1, t.2.2.den ε')) :: (hden ε' q.heap ++ R)) w' := mem_perm List.perm_middle hm
          have e1 : entsDen ε' (ins.map fun t => (t.2.1, t.2.2, 0)) = ins.map fun t => (t.2.1, t.2.2.den ε') := by unfold entsDen; rw [List.map_map]; rfl
          show Mem (objM (ε' (2 + jm) 0).1 (entsDen ε' (ins.map fun t => (t.2.1, t.2.2, 0))) :: (hden ε' q.heap ++ R)) w'
          rw [e1]; exact h2
        · exact List.nodup_cons.2 ⟨hn, hrel.nd⟩
        · unfold hok dmH at *
          rw [List.all_cons, Bool.and_eq_true] at c7 ⊢
          exact ⟨c7.1, hrel.sc⟩
      exact hg _ a' w' (pt_rel hk.right.right.left hk.right.right.right b1 b2 b3 b4 b5 hrel2)
end
end Go.Sx
end
section
namespace Go.Proofs.YtifapcpcemigdaaGreat
open Go.RowKit Go.Lib Go.Tk Go.Shelf Go.Vc Go.Sx
theorem shareL_bds {t : Int} {ws : List Int} (hp : PosRow ws) (ha : 0 < ws.sum) (ht : 0 ≤ t) {i : Nat} (hi : i < ws.length) : 0 ≤ (shareL t ws).getD i 0 ∧ (shareL t ws).getD i 0 ≤ t + 1 := by
  rw [shareL_get _ _ _ hi]
  have hx := posrow_get hp hi
  have e : ws.getD i 0 = ws[i] := by simp [List.getD_eq_getElem?_getD, hi]
  have := wh_bd (t := t) (S := ws.sum) ht ha hx.1 (by rw [e]; exact le_sum ws (fun y hy => (hp y hy).1) _ (List.getElem_mem hi))
  split <;> omega
theorem share_bd {s : SaleV} (ok : SaleOk s) {n : Int} (h : checkE s n = 0) (i : Nat) : 0 ≤ (shareV s.fare (wsOf s)).getD i 0 ∧ (shareV s.fare (wsOf s)).getD i 0 ≤ 1125899906842625 := by
  obtain ⟨-, -, hsh, -⟩ := check_shape h
  obtain ⟨hS, ha, l1, l4, f0, f1⟩ := shape_share ok hsh
  have hv : shareV s.fare (wsOf s) = shareL s.fare (wsOf s) := by unfold shareV; rw [if_pos hS]
  rw [hv]
  by_cases hi : i < (wsOf s).length
  · have := shareL_bds (ws_pos ok) ha f0 hi
    omega
  · rw [List.getD_eq_getElem?_getD, List.getElem?_eq_none (by rw [shareL_len]; omega)]
    exact ⟨Int.le_refl _, by decide⟩
theorem issO_lk (t : Tid) (s : SaleV) (vs : List Int) (L : OwnsV) (k : Kid) : ∀ n, (∃ i : Nat, i < n ∧ k = ⟨t, (i : Int)⟩ ∧ lkt (issO t s vs L n) k = some (ownNew (s.legs.getD i leg0) (vs.getD i 0))) ∨ ((∀ i : Nat, i < n → k ≠ ⟨t, (i : Int)⟩) ∧ lkt (issO t s vs L n) k = lkt L k)
  | 0 => .inr ⟨fun i hi => absurd hi (Nat.not_lt_zero _), rfl⟩
  | n + 1 => by
    have ih := issO_lk t s vs L k n
    have e : issO t s vs L (n + 1) = putt (issO t s vs L n) ⟨t, (n : Int)⟩ (ownNew (s.legs.getD n leg0) (vs.getD n 0)) := rfl
    rw [e, lkt_put]
    by_cases hk : (⟨t, (n : Int)⟩ : Kid) = k
    · rw [if_pos hk]
      exact .inl ⟨n, Nat.lt_succ_self _, hk.symm, rfl⟩
    · rw [if_neg hk]
      rcases ih with ⟨i, hi, h1, h2⟩ | ⟨h1, h2⟩
      · exact .inl ⟨i, by omega, h1, h2⟩
      · exact .inr ⟨fun i hi => by
          by_cases q : i = n
          · subst q; exact fun e => hk e.symm
          · exact h1 i (by omega), h2⟩
theorem ExOk.issued {B : BookV} (h : ExOk B) {s : SaleV} (ok : SaleOk s) (hm : B.issE s = 0) : ExOk (B.issued s) := by
  have hc := issE_check hm
  obtain ⟨-, -, hsh, -⟩ := check_shape hc
  obtain ⟨hS, ha, l1, l4, f0, f1⟩ := shape_share ok hsh
  have hvl : (shareV s.fare (wsOf s)).length = s.legs.length := by rw [shareV_len hS, ws_len]
  have hd : ∀ d ∈ (B.issued s).docs, d ∈ B.docs ∨ d = docMade B.nextT s := fun d hd => by
    have hd : d ∈ B.docs ++ [docMade B.nextT s] := hd
    rcases List.mem_append.1 hd with q | q
    · exact .inl q
    · exact .inr (List.mem_singleton.1 q)
  refine ⟨h.bk.issued hm, fun d q => ?_, fun d q => ?_, fun k o ho => ?_⟩
  · rcases hd d q with q | rfl
    · exact h.sal d q
    · exact ok
  · rcases hd d q with q | rfl
    · exact h.sm d q
    · exact ⟨by have := ok.nl; show s.legs.length ≤ _; omega, by have := ok.nt; show s.taxes.length ≤ _; omega, by show (shareV s.fare (wsOf s)).length ≤ _; omega⟩
  · have ho : lkt (issO B.nextT s (shareV s.fare (wsOf s)) B.owns (shareV s.fare (wsOf s)).length) k = some o := ho
    rcases issO_lk B.nextT s (shareV s.fare (wsOf s)) B.owns k (shareV s.fare (wsOf s)).length with ⟨i, hi, -, h2⟩ | ⟨-, h2⟩
    · rw [h2] at ho
      cases ho
      have := share_bd ok hc i
      show -9223372036854775808 ≤ (shareV s.fare (wsOf s)).getD i 0 ∧ (shareV s.fare (wsOf s)).getD i 0 ≤ 9223372036854775807
      omega
    · rw [h2] at ho
      exact h.own k o ho
theorem ExOk.setD {B : BookV} (h : ExOk B) {d : DocV} (ok : SaleOk d.s) (sm : DocSmall d) : ExOk (B.setD d) := by
  have hd : ∀ x ∈ (B.setD d).docs, x ∈ B.docs ∨ x = d := fun x hx => by
    obtain ⟨y, hy, e⟩ := List.mem_map.1 (show x ∈ putD B.docs d from hx)
    by_cases q : y.t = d.t
    · rw [if_pos q] at e; exact .inr e.symm
    · rw [if_neg q] at e; exact .inl (e ▸ hy)
  refine ⟨⟨h.bk.self, h.bk.n, fun i x hx => ?_, ?_⟩, fun x q => ?_, fun x q => ?_, h.own⟩
  · have e := putD_t B.docs d
    have h1 : ((putD B.docs d).map (·.t))[i]? = some x.t := by rw [List.getElem?_map, show (putD B.docs d)[i]? = some x from hx]; rfl
    rw [e, List.getElem?_map] at h1
    cases h2 : B.docs[i]? with
    | none => rw [h2] at h1; cases h1
    | some y =>
      rw [h2] at h1
      have h3 := h.bk.docs i y h2
      show x.t = ⟨B.self, (i : Int) + 1⟩
      rw [← h3]
      simpa using h1.symm
  · show (putD B.docs d).length ≤ 32
    unfold putD; rw [List.length_map]; exact h.bk.many
  · rcases hd x q with q | rfl
    · exact h.sal x q
    · exact ok
  · rcases hd x q with q | rfl
    · exact h.sm x q
    · exact sm
theorem ExOk.turn1 {B : BookV} (h : ExOk B) {k : Kid} {o : OwnV} (ho : OwnOk o) (s : Int) : ExOk (turn1 B k o s) := by
  have hd := turn1_docs B k o s
  have hs : (Go.Proofs.YtifapcpcemigdaaGreat.turn1 B k o s).self = B.self ∧ (Go.Proofs.YtifapcpcemigdaaGreat.turn1 B k o s).n = B.n := by
    unfold Go.Proofs.YtifapcpcemigdaaGreat.turn1 BookV.setO
    cases freeO o <;> cases (lkt B.owns k).isSome <;> exact ⟨rfl, rfl⟩
  refine ⟨⟨by rw [hs.1, hs.2]; exact h.bk.self, by rw [hs.2]; exact h.bk.n, by rw [hd, hs.1]; exact h.bk.docs, by rw [hd]; exact h.bk.many⟩, by rw [hd]; exact h.sal, by rw [hd]; exact h.sm, fun k' x hx => ?_⟩
  unfold Go.Proofs.YtifapcpcemigdaaGreat.turn1 BookV.setO at hx
  cases hf : freeO o
  · rw [hf] at hx; exact h.own k' x hx
  · rw [hf] at hx
    cases hl : (lkt B.owns k).isSome
    · rw [hl] at hx; exact h.own k' x hx
    · rw [hl] at hx
      have hx : lkt (putt B.owns k (asO o s)) k' = some x := hx
      rw [lkt_put] at hx
      by_cases e : k = k'
      · rw [if_pos e] at hx; cases hx; exact ho
      · rw [if_neg e] at hx; exact h.own k' x hx
theorem ExOk.turnL (s : Int) (t : Tid) : ∀ (l : List OwnV) {B : BookV} (i : Int), ExOk B → (∀ o ∈ l, OwnOk o) → ExOk (turnL s t B i l)
  | [], B, i, h, _ => h
  | o :: l, B, i, h, hl => ExOk.turnL s t l (i + 1) (h.turn1 (k := ⟨t, i⟩) (hl o List.mem_cons_self) s) fun x hx => hl x (List.mem_cons_of_mem _ hx)
theorem ExOk.turnB {B : BookV} (h : ExOk B) (t : Tid) (s : Int) : ExOk (turnB B t s) := ExOk.turnL s t _ 0 h (h.coup t)
theorem exIssue_ok {B : BookV} (h : ExOk B) {s : SaleV} (ok : SaleOk s) : ExOk (exIssue B s).b := by
  unfold exIssue
  rcases Bool.eq_false_or_eq_true (decide (B.issE s = 0)) with e | e <;> rw [e]
  · exact h.issued ok (of_decide_eq_true e)
  · exact h
theorem exDisplay_ok {B : BookV} (h : ExOk B) (t : Tid) : ExOk (exDisplay B t).b := by
  unfold exDisplay
  cases lkD B.docs t <;> exact h
theorem exVoid_ok {B : BookV} (h : ExOk B) (t : Tid) : ExOk (exVoid B t).b := by
  unfold exVoid
  cases hf : lkD B.docs t with
  | none => exact h
  | some d =>
    have hd := (lkD_mem hf).1
    show ExOk (exVoidD B t d).b
    unfold exVoidD
    cases (!voidL (tid0B d.frm) (coupL B t))
    · cases (!decide ((addI d.back d.paid).2 = 0))
      · exact (h.setD (d := voidD d) (h.sal d hd) ⟨(h.sm d hd).nl, (h.sm d hd).nt, (h.sm d hd).nv⟩).turnB t 5
      · exact h
    · exact h
theorem exRefund_ok {B : BookV} (h : ExOk B) (t : Tid) : ExOk (exRefund B t).b := by
  unfold exRefund
  cases hf : lkD B.docs t with
  | none => exact h
  | some d =>
    have hd := (lkD_mem hf).1
    show ExOk (exRefundD B t d).b
    unfold exRefundD
    cases noneB B d
    · cases (!decide (refE B d = 0))
      · exact (h.setD (d := refD B d) (h.sal d hd) ⟨(h.sm d hd).nl, (h.sm d hd).nt, (h.sm d hd).nv⟩).turnB t 6
      · exact h
    · exact h
theorem exExchange_ok {B : BookV} (h : ExOk B) (t : Tid) {s : SaleV} (ok : SaleOk s) : ExOk (exExchange B t s).b := by
  unfold exExchange
  cases hf : lkD B.docs t with
  | none => exact h
  | some d =>
    have hd := (lkD_mem hf).1
    show ExOk (exExchangeD B d s).b
    unfold exExchangeD
    cases (noneB B d || !tid0B d.dst)
    · cases (!decide (exE B d = 0))
      · rcases Bool.eq_false_or_eq_true (decide (B.issE s = 0)) with e | e
        · have hm := of_decide_eq_true e
          rw [e]
          obtain ⟨-, -, hsh, -⟩ := check_shape (issE_check hm)
          obtain ⟨hS, ha, l1, l4, f0, f1⟩ := shape_share ok hsh
          have hvl : (shareV s.fare (wsOf s)).length = s.legs.length := by rw [shareV_len hS, ws_len]
          have h1 := ((h.issued ok hm).setD (d := exD1 B d s) (h.sal d hd) ⟨(h.sm d hd).nl, (h.sm d hd).nt, (h.sm d hd).nv⟩).turnB d.t 7
          exact h1.setD (d := exD2 B d s) ok ⟨by have := ok.nl; show s.legs.length ≤ _; omega, by have := ok.nt; show s.taxes.length ≤ _; omega, by show (shareV s.fare (wsOf s)).length ≤ _; omega⟩
        · rw [e]; exact h
      · exact h
    · exact h
theorem new_ex (self n : Int) (h : 0 ≤ self ∧ self < n ∧ 2 ≤ n ∧ n ≤ 8) : ExOk (bookNew self n) := ⟨book_new_ok self n h, (fun d hd => by cases hd), (fun d hd => by cases hd), (fun k o ho => by cases ho)⟩
end Go.Proofs.YtifapcpcemigdaaGreat
end
section
namespace Go.Proofs.YtifapcpcemigdaaGreat
open Go.RowKit Go.Lib Go.Tk Go.Shelf Go.Vc Go.Sx
def cmdOS (c : CmdO) (A : SaleA) : List SV := [.val (.int .u8 c.kind), .val (.int .u8 c.t.c), .val (.int .u64 c.t.r), .val (.int .u8 c.i)] ++ salS c.s (.val (.slice A.la c.s.legs.length A.lc)) (.val (.slice A.ta c.s.taxes.length A.tc)) ++ [.val (.int .i64 c.amt)]
def Do1F : Nat := 81
def Do2F : Nat := 83
def Do21F : Nat := 84
def Do3F : Nat := 85
def Do31F : Nat := 86
def Do4F : Nat := 87
def Do5F : Nat := 89
def Do6F : Nat := 97
def DoingsF : Nat := 49
abbrev CoupK (f : Nat) (fr : List SV) (rd : Heap) (B : BookV) (k : Kid) (c : CmdO) (A : SaleA) (q : HR) : Prop := CallOK Tryz.prog f ([.ptr 0 0 0, .agg (kidS k), .agg (cmdOS c A)] ++ fr) rd (bkC B) (.tup [.raw 1 0, eN q.e]) (bkC q.b ++ [((1, 0), outsC q.out)])
abbrev TicK (f : Nat) (fr : List SV) (rd : Heap) (B : BookV) (c : CmdO) (A : SaleA) (q : XR) : Prop := CallOK Tryz.prog f ([.ptr 0 0 0, .agg (cmdOS c A)] ++ fr) rd (bkC B) (xrV q) (xrP q)
def fnB (f : Nat) : Heap := [((0, 4), .box none [.fn (.func f) [] []])]
theorem do1_w (B : BookV) {k : Kid} (hk : KidOk k) {c : CmdO} (A : SaleA) (hc : 0 ≤ c.kind ∧ c.kind ≤ 255) (hs : ∀ o, lkt B.owns k = some o → 0 ≤ o.k.s ∧ o.k.s ≤ 255) (hh : ∀ h, lkt B.helds k = some h → 0 ≤ h.k.s ∧ h.k.s ≤ 255) : CoupK Do1F [] [] B k c A (useQ B k c.kind) := by
  have c1 := use_c B hk hc hs hh
  exact callOK_run 400 [hC 1 4 c1] (by kernel_rfl) (by kernel_rfl)
theorem do6_w (B : BookV) {k : Kid} (hk : KidOk k) (c : CmdO) (A : SaleA) : CoupK Do6F [] [] B k c A (billQ B k c.amt) := by
  have c1 := bill_c B hk c.amt
  exact callOK_run 400 [hC 1 4 c1] (by kernel_rfl) (by kernel_rfl)
theorem do21_want (B : BookV) {k : Kid} (hk : KidOk k) (c : CmdO) (A : SaleA) : CoupK Do21F [.ptr 0 4 0] (fnB WantF) B k c A (wantQ B k) := by
  have c1 := want_c B hk
  exact callOK_run 400 [hC 1 3 c1] (by kernel_rfl) (by kernel_rfl)
theorem do21_return (B : BookV) {k : Kid} (hk : KidOk k) (c : CmdO) (A : SaleA) : CoupK Do21F [.ptr 0 4 0] (fnB ReturnF) B k c A (returnQ B k) := by
  have c1 := return_c B hk
  exact callOK_run 400 [hC 1 3 c1] (by kernel_rfl) (by kernel_rfl)
theorem do21_recall (B : BookV) {k : Kid} (hk : KidOk k) (c : CmdO) (A : SaleA) : CoupK Do21F [.ptr 0 4 0] (fnB RecallF) B k c A (recallQ B k) := by
  have c1 := recall_c B hk
  exact callOK_run 400 [hC 1 3 c1] (by kernel_rfl) (by kernel_rfl)
theorem do31_display {B : BookV} (h : ExOk B) {c : CmdO} (A : SaleA) (ht : TidOk c.t) : TicK Do31F [.ptr 0 4 0] (fnB DisplayF) B c A (exDisplay B c.t) := by
  have c1 := display_w h ht
  exact callOK_run 400 [hC 1 4 c1] (by kernel_rfl) (by kernel_rfl)
theorem do31_void {B : BookV} (h : ExOk B) {c : CmdO} (A : SaleA) (ht : TidOk c.t) : TicK Do31F [.ptr 0 4 0] (fnB VoidF) B c A (exVoid B c.t) := by
  have c1 := void_w h ht
  exact callOK_run 400 [hC 1 4 c1] (by kernel_rfl) (by kernel_rfl)
theorem do31_refund {B : BookV} (h : ExOk B) {c : CmdO} (A : SaleA) (ht : TidOk c.t) : TicK Do31F [.ptr 0 4 0] (fnB RefundF) B c A (exRefund B c.t) := by
  have c1 := refund_w h ht
  exact callOK_run 400 [hC 1 4 c1] (by kernel_rfl) (by kernel_rfl)
structure CmdRd (F : CF) (c : CmdO) (A : SaleA) : Prop where
  kind : 0 ≤ c.kind ∧ c.kind ≤ 255
  t : TidOk c.t
  i : 0 ≤ c.i ∧ c.i ≤ 255
  ok : SaleOk c.s
  hl : ∀ b v, Rd (F b v) A.la (cellsL encLeg c.s.legs)
  ht : ∀ b v, Rd (F b v) A.ta (cellsL encTax c.s.taxes)
  h1 : SlOk A.la c.s.legs.length A.lc
  h2 : SlOk A.ta c.s.taxes.length A.tc
theorem do4_w (F : CF) {B : BookV} (h : ExOk B) {c : CmdO} {A : SaleA} (a : CmdRd F c A) : TicK Do4F [] [((0, 9), .fam F)] B c A (exIssue B c.s) := by
  have c1 := exIssue_F F h.bk a.ok a.hl a.ht a.h1 a.h2
  exact callOK_run 400 [hC 1 3 c1] (by kernel_rfl) (by kernel_rfl)
theorem do5_w (F : CF) {B : BookV} (h : ExOk B) {c : CmdO} {A : SaleA} (a : CmdRd F c A) : TicK Do5F [] [((0, 9), .fam F)] B c A (exExchange B c.t c.s) := by
  have c1 := exchange_F F h a.t a.ok a.hl a.ht a.h1 a.h2
  exact callOK_run 400 [hC 1 5 c1] (by kernel_rfl) (by kernel_rfl)
def fnS (f : Nat) : SV := .fn (.func f) [] []
def nilF : SV := .val .nilFunc
def withS (s k : Nat) : SV := .agg [nilF, .fn (.func Do21F) [] [.ptr s k 0]]
def ofS (s k : Nat) : SV := .agg [.fn (.func Do31F) [] [.ptr s k 0], nilF]
theorem do2_want : CallOK Tryz.prog Do2F [fnS WantF] [] [] (withS 1 0) [((1, 0), .box none [fnS WantF])] := callOK_run 400 [] (by kernel_rfl) (by kernel_rfl)
theorem do2_return : CallOK Tryz.prog Do2F [fnS ReturnF] [] [] (withS 1 0) [((1, 0), .box none [fnS ReturnF])] := callOK_run 400 [] (by kernel_rfl) (by kernel_rfl)
theorem do2_recall : CallOK Tryz.prog Do2F [fnS RecallF] [] [] (withS 1 0) [((1, 0), .box none [fnS RecallF])] := callOK_run 400 [] (by kernel_rfl) (by kernel_rfl)
theorem do3_display : CallOK Tryz.prog Do3F [fnS DisplayF] [] [] (ofS 1 0) [((1, 0), .box none [fnS DisplayF])] := callOK_run 400 [] (by kernel_rfl) (by kernel_rfl)
theorem do3_void : CallOK Tryz.prog Do3F [fnS VoidF] [] [] (ofS 1 0) [((1, 0), .box none [fnS VoidF])] := callOK_run 400 [] (by kernel_rfl) (by kernel_rfl)
theorem do3_refund : CallOK Tryz.prog Do3F [fnS RefundF] [] [] (ofS 1 0) [((1, 0), .box none [fnS RefundF])] := callOK_run 400 [] (by kernel_rfl) (by kernel_rfl)
def doT (f : Nat) : SV := .agg [fnS f, nilF]
def doC (f : Nat) : SV := .agg [nilF, fnS f]
def doU : SV := doC Do1F
def doIns : List Ins := [(2, .int .u8 1, doT Do4F), (4, .int .u8 5, doT Do5F), (7, .int .u8 2, ofS 8 0), (10, .int .u8 3, ofS 11 0), (13, .int .u8 4, ofS 14 0), (16, .int .u8 6, withS 17 0), (19, .int .u8 7, withS 20 0), (22, .int .u8 8, withS 23 0), (24, .int .u8 9, doU), (26, .int .u8 10, doU), (28, .int .u8 11, doU), (30, .int .u8 12, doU), (32, .int .u8 13, doC Do6F)]
def doEs : List (Value × SV × Nat) := [(.int .u8 1, doT Do4F, 0), (.int .u8 5, doT Do5F, 0), (.int .u8 2, ofS 1 1, 0), (.int .u8 3, ofS 1 2, 0), (.int .u8 4, ofS 1 3, 0), (.int .u8 6, withS 1 4, 0), (.int .u8 7, withS 1 5, 0), (.int .u8 8, withS 1 6, 0), (.int .u8 9, doU, 0), (.int .u8 10, doU, 0), (.int .u8 11, doU, 0), (.int .u8 12, doU, 0), (.int .u8 13, doC Do6F, 0)]
def doH : Heap := [((1, 0), .obj doEs 0), ((1, 1), .box none [fnS DisplayF]), ((1, 2), .box none [fnS VoidF]), ((1, 3), .box none [fnS RefundF]), ((1, 4), .box none [fnS WantF]), ((1, 5), .box none [fnS ReturnF]), ((1, 6), .box none [fnS RecallF])]
theorem doings_w : CallOK Tryz.prog DoingsF [] [] [] (.map 1 0) doH := by
  refine callOK_intro (by kernel_rfl) fun eb R => ?_
  refine leaf_cut (rgK Tryz.prog DoingsF 4 []) [(1, .ptr 1 0 0), (2, fnS Do2F), (3, fnS Do3F)] [((1, 0), .box none [nilF, fnS Do1F])] calNone false 400 [.stop 4] calNone_ok (by kernel_rfl) ?_
  have c1 := do2_want
  have c2 := do2_return
  have c3 := do2_recall
  have c4 := do3_display
  have c5 := do3_void
  have c6 := do3_refund
  refine go_drawMap 0 5 doIns [(0, .map 1 0)] doH [hC 4 6 c4, hC 4 9 c5, hC 4 12 c6, hC 4 15 c1, hC 4 18 c2, hC 4 21 c3] calNone_ok (by simp [doIns]) (by kernel_rfl) ?_
  exact leaf_end calNone false 400 [] calNone_ok (by kernel_rfl)
end Go.Proofs.YtifapcpcemigdaaGreat
end
