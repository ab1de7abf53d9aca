/- SxR, Bk5, Ho4. -/
import Derived.Test.YtmhbpifhpolghaaGreatMe981801
set_option maxRecDepth 100000
set_option linter.unusedVariables false
set_option linter.unusedSimpArgs false
set_option linter.unusedSectionVars false
section
namespace Go.Sx
open Go.RowKit Go.Tk Go.Lib Go.Shelf Go.Vc Go.Maps
open Go.ChangeMaps (setBlock heap_setBlock_same)
section
variable {P : Program} {κ : Type} [DecidableEq κ] {kt t e : TypeId}
def rngC (K : KeyKind P kt κ) (r m : Nat) (L left : List (κ × Value)) : Chunk where
  at_ S w := S r ∧ S m ∧ Ranging K w r m L left
  stable hk hi h := ⟨h.1, h.2.1, h.2.2.same (hk.block _ h.1 (hi _ h.1)) (hk.block _ h.2.1 (hi _ h.2.1))⟩
def CurAt (K : KeyKind P kt κ) (w : World) (r m : Nat) (p : κ × Value) : Prop :=
  ∃ es clock since seen e, w.heap[r]? = some (.mapIter (some m) since (Array.push seen e.born) clock) ∧ w.heap[m]? = some (.map es clock) ∧ e ∈ es.toList ∧ (es.toList.map (·.born)).Nodup ∧ e.key = K.kv p.1 ∧ e.val = p.2
def curC (K : KeyKind P kt κ) (r m : Nat) (L left : List (κ × Value)) (p : κ × Value) (left' : List (κ × Value)) : Chunk where
  at_ S w := S r ∧ S m ∧ Ranging K w r m L left' ∧ CurAt K w r m p ∧ left.Perm (p :: left') ∧ p ∈ L
  stable hk hi h := ⟨h.1, h.2.1, h.2.2.1.same (hk.block _ h.1 (hi _ h.1)) (hk.block _ h.2.1 (hi _ h.2.1)), by
    obtain ⟨es, clock, since, seen, e, h1, h2, h3⟩ := h.2.2.2.1
    exact ⟨es, clock, since, seen, e, (hk.block _ h.1 (hi _ h.1)).trans h1, (hk.block _ h.2.1 (hi _ h.2.1)).trans h2, h3⟩, h.2.2.2.2⟩
theorem CurAt.entry {K : KeyKind P kt κ} {w : World} {r m : Nat} {p : κ × Value} (h : CurAt K w r m p) : (Instr.entry (.pointer (some ⟨r, 0, none⟩))).run P w = .ok (.tuple #[K.kv p.1, p.2]) w := by
  obtain ⟨es, clock, since, seen, e, h1, h2, h3, h4, h5, h6⟩ := h
  rw [run_entry_at w r m since seen es clock e h1 h2 h3 h4, h5, h6]
omit [DecidableEq κ] in
theorem Ranging.next' {K : KeyKind P kt κ} {w : World} {r b : Nat} {L left : List (κ × Value)} (h : Ranging K w r b L left) (ty : TypeId) :
    (left = [] ∧ (Instr.next (.pointer (some ⟨r, 0, none⟩)) false ty).run P w = .ok (.tuple #[.bool false]) w) ∨
    ∃ p left' w', left.Perm (p :: left') ∧ p ∈ L ∧ (Instr.next (.pointer (some ⟨r, 0, none⟩)) false ty).run P w = .ok (.tuple #[.bool true, K.kv p.1, p.2]) w' ∧ Ranging K w' r b L left' ∧ w.grownBy w' (some r) ∧ CurAt K w' r b p := by
  obtain ⟨es, clock, since, seen, hne, hr, hb, h1, h2, h3, h4, h5, h6, h7, h8, h9⟩ := h
  rcases run_next_at w ty r b since clock seen es clock hr hb h6 h7 with ⟨h0, hrun⟩ | ⟨e, he, w1, hw1, hrun⟩
  · left
    refine ⟨?_, hrun⟩
    have : left.length = 0 := by
      have := h8.length_eq
      simp only [List.length_map] at this
      rw [← this]; simpa using h0
    exact List.length_eq_zero_iff.1 this
  · right
    obtain ⟨p, left', hp, hl, hrest⟩ := perm_head (((leftOf_push h4 he).map fun e => (e.key, e.val)).symm.trans h8)
    simp only [Prod.mk.injEq] at hp
    have hw1h : w1.heap = w.heap := by rcases hw1 with rfl | rfl <;> rfl
    have hb1 : (setBlock w1 r (.mapIter (some b) since (seen.push e.born) clock)).heap[b]? = some (.map es clock) := by
      simp only [setBlock, hw1h, Array.getElem?_setIfInBounds]
      rw [if_neg hne]; exact hb
    have hlt := (Array.getElem?_eq_some_iff.1 hr).1
    have hr1 : (setBlock w1 r (.mapIter (some b) since (seen.push e.born) clock)).heap[r]? = some (.mapIter (some b) since (seen.push e.born) clock) := by
      simp [setBlock, hw1h, hlt]
    refine ⟨p, left', _, hl, h9 p (hl.mem_iff.2 (List.mem_cons_self)), ?_, ⟨es, clock, since, _, hne, hr1, hb1, h1, h2, h3, h4, h5, h6, h7, hrest, fun q hq => h9 q (hl.mem_iff.2 (List.mem_cons_of_mem _ hq))⟩, ?_, ⟨es, clock, since, seen, e, hr1, hb1, (mem_left he).1, h4, hp.1.symm, hp.2.symm⟩⟩
    · rw [hrun, hp.1, hp.2]
    · refine ⟨?_, ?_, ?_, by simp [setBlock, hw1h], fun i _ hi => ?_⟩
      · rcases hw1 with rfl | rfl <;> rfl
      · rcases hw1 with rfl | rfl <;> rfl
      · rcases hw1 with rfl | rfl <;> rfl
      · simp only [setBlock, hw1h, Array.getElem?_setIfInBounds]
        rw [if_neg (fun e => hi (by rw [e]))]
theorem perm_head' {α β : Type} {l : List α} {f : α → β} {x : β} {r : List β} (h : (x :: r).Perm (l.map f)) : ∃ p l', f p = x ∧ l.Perm (p :: l') ∧ r.Perm (l'.map f) := by
  obtain ⟨p, hp, hx⟩ := List.mem_map.1 (h.mem_iff.1 (List.mem_cons_self))
  obtain ⟨s, t, rfl⟩ := List.append_of_mem hp
  refine ⟨p, s ++ t, hx, List.perm_middle, ?_⟩
  have h2 : (x :: r).Perm (x :: (s ++ t).map f) := by
    refine h.trans ?_
    rw [← hx]
    simp only [List.map_append, List.map_cons]
    exact List.perm_middle
  exact List.Perm.cons_inv h2
def isRange (t : TypeId) (o : Oper) : Bool := match o.op with
  | .range t' _ => Nat.beq t t'
  | _ => false
def rangeX (o : Oper) : List Operand := match o.op with
  | .range _ x => [x]
  | _ => []
def isNext (o : Oper) : Bool := match o.op with
  | .next _ false => true
  | _ => false
def nextX (o : Oper) : List Operand := match o.op with
  | .next x _ => [x]
  | _ => []
def isEntry (o : Oper) : Bool := match o.op with
  | .entry _ => true
  | _ => false
def entryX (o : Oper) : List Operand := match o.op with
  | .entry x => [x]
  | _ => []
theorem rangeG {K : KeyKind P kt κ} {m j : Nat} {L : List (κ × Value)} (hT : P.underlying t = some (.map kt e)) :
    OpG P (isRange t) rangeX [.val (.map (some m))] [] [((0, j), .fam fun _ _ => mapC K m L)] (.ptr 1 0 0) [((1, 0), .fam fun r _ => rngC K r m L L)] := by
  intro o ho
  unfold isRange at ho
  split at ho <;> try (cases ho; done)
  rename_i t' x hop
  have e1 := Nat.eq_of_beq_eq_true ho
  subst e1
  have hx' : rangeX o = [x] := by unfold rangeX; rw [hop]
  rw [hx']
  refine ⟨fun q hq => by rw [hop]; simpa [Op.operands] using hq, fun ε ρ R w hx hM => ?_⟩
  simp only [List.map_cons, List.map_nil, SV.dens, SV.den, List.cons.injEq, and_true] at hx
  have hM : Mem (mapC K m L :: R) w := hM
  have hm := hM.of 0 rfl (φ := MapAt K w m L) (fun S hS => hS.2)
  obtain ⟨w', hrun, h1, h2⟩ := hm.range hT
  have hE : (execOp ρ o).run P w = .ok (.value (.pointer (some ⟨w.heap.size, 0, none⟩))) w' := by
    unfold execOp; rw [hop]
    simp only [hx]
    simp [hrun, go_sem]
  refine res_ok hE ⟨fun _ => (w.heap.size, undef), by simp only [SV.den, eset_at], ?_⟩
  have h3 := hM.step 0 rfl (c' := rngC K w.heap.size m L L) (fun S hS hlt => ⟨⟨h2.os, h2.tape, h2.output, h2.size, fun b hb _ => h2.block b hb⟩, fun b => S b ∨ b = w.heap.size, ⟨.inr rfl, .inl hS.1, h1⟩, fun b hb => by
    rcases hb with hb | hb
    · exact ⟨.inl hb, Nat.lt_of_lt_of_le (hlt b hb) h2.size⟩
    · subst hb; exact ⟨.inr (Nat.le_refl _), h1.lt.1⟩⟩)
  exact h3
theorem next_doneG {K : KeyKind P kt κ} {m : Nat} {L : List (κ × Value)} :
    OpG P isNext nextX [.ptr 0 0 0] [] [((0, 0), .fam fun r _ => rngC K r m L [])] (.tup [.val (.bool false)]) [((0, 0), .fam fun r _ => rngC K r m L [])] := by
  intro o ho
  unfold isNext at ho
  split at ho <;> try (cases ho; done)
  rename_i x hop
  have hx' : nextX o = [x] := by unfold nextX; rw [hop]
  rw [hx']
  refine ⟨fun q hq => by rw [hop]; simpa [Op.operands] using hq, fun ε ρ R w hx hM => ?_⟩
  simp only [List.map_cons, List.map_nil, SV.dens, SV.den, List.cons.injEq, and_true] at hx
  have hM : Mem (rngC K (ε 0 0).1 m L [] :: R) w := hM
  have hm := hM.of 0 rfl (φ := Ranging K w (ε 0 0).1 m L []) (fun S hS => hS.2.2)
  rcases Ranging.next' hm o.type with ⟨-, hrun⟩ | ⟨p, left', w', hp, -⟩
  · have hE : (execOp ρ o).run P w = .ok (.value (.tuple #[.bool false])) w := by
      unfold execOp; rw [hop]
      simp only [hx]
      simp [hrun, go_sem]
    exact res_ok hE ⟨ε 1, rfl, by rw [eset_self]; exact hM⟩
  · exact absurd hp.length_eq (by simp)
theorem next_moreG {K : KeyKind P kt κ} {m : Nat} {L left : List (κ × Value)} (hl : left ≠ []) :
    OpG P isNext nextX [.ptr 0 0 0] [] [((0, 0), .fam fun r _ => rngC K r m L left)] (.tup [.val (.bool true), .any 1 1, .any 1 2]) [((0, 0), .fam fun r _ => exC fun (x : (κ × Value) × List (κ × Value)) => curC K r m L left x.1 x.2)] := by
  intro o ho
  unfold isNext at ho
  split at ho <;> try (cases ho; done)
  rename_i x hop
  have hx' : nextX o = [x] := by unfold nextX; rw [hop]
  rw [hx']
  refine ⟨fun q hq => by rw [hop]; simpa [Op.operands] using hq, fun ε ρ R w hx hM => ?_⟩
  simp only [List.map_cons, List.map_nil, SV.dens, SV.den, List.cons.injEq, and_true] at hx
  have hM : Mem (rngC K (ε 0 0).1 m L left :: R) w := hM
  have hm := hM.of 0 rfl (φ := Ranging K w (ε 0 0).1 m L left) (fun S hS => hS.2.2)
  rcases Ranging.next' hm o.type with ⟨h0, -⟩ | ⟨p, left', w', hp, hpL, hrun, hr', hg, hc⟩
  · exact absurd h0 hl
  · have hE : (execOp ρ o).run P w = .ok (.value (.tuple #[.bool true, K.kv p.1, p.2])) w' := by
      unfold execOp; rw [hop]
      simp only [hx]
      simp [hrun, go_sem]
    refine res_ok hE ⟨fun k => match k with
      | 1 => (0, K.kv p.1)
      | _ => (0, p.2), by simp only [SV.den, SV.dens, eset_at], ?_⟩
    have h3 := hM.step 0 rfl (c' := exC fun (x : (κ × Value) × List (κ × Value)) => curC K (ε 0 0).1 m L left x.1 x.2) (fun S hS hlt => ⟨⟨hg.os, hg.tape, hg.output, hg.size, fun b hb hnb => hg.block b hb (fun e => hnb (by cases e; exact hS.1))⟩, S, ⟨(p, left'), hS.1, hS.2.1, hr', hc, hp, hpL⟩, fun b hb => ⟨.inl hb, Nat.lt_of_lt_of_le (hlt b hb) hg.size⟩⟩)
    have h3 : Mem ((exC fun (x : (κ × Value) × List (κ × Value)) => curC K (ε 0 0).1 m L left x.1 x.2) :: R) w' := h3
    rw [← eset_ne (ε := ε) (show (0 : Nat) ≠ 1 by decide) (x := fun k => match k with
      | 1 => (0, K.kv p.1)
      | _ => (0, p.2))] at h3
    exact h3
theorem entryG {K : KeyKind P kt κ} {m : Nat} {L left left' : List (κ × Value)} {p : κ × Value} {ks vs : SV} (hks : ∀ ε, ks.den ε = K.kv p.1) (hvs : ∀ ε, vs.den ε = p.2) :
    OpG P isEntry entryX [.ptr 0 0 0] [] [((0, 0), .fam fun r _ => curC K r m L left p left')] (.tup [ks, vs]) [((0, 0), .fam fun r _ => rngC K r m L left')] := by
  intro o ho
  unfold isEntry at ho
  split at ho <;> try (cases ho; done)
  rename_i x hop
  have hx' : entryX o = [x] := by unfold entryX; rw [hop]
  rw [hx']
  refine ⟨fun q hq => by rw [hop]; simpa [Op.operands] using hq, fun ε ρ R w hx hM => ?_⟩
  simp only [List.map_cons, List.map_nil, SV.dens, SV.den, List.cons.injEq, and_true] at hx
  have hM : Mem (curC K (ε 0 0).1 m L left p left' :: R) w := hM
  have hc := hM.of 0 rfl (φ := CurAt K w (ε 0 0).1 m p) (fun S hS => hS.2.2.2.1)
  have hE : (execOp ρ o).run P w = .ok (.value (.tuple #[K.kv p.1, p.2])) w := by
    unfold execOp; rw [hop]
    simp only [hx]
    simp [hc.entry, go_sem]
  refine res_ok hE ⟨ε 1, by rw [eset_self]; simp only [SV.den, SV.dens, hks, hvs], ?_⟩
  rw [eset_self]
  exact hM.weaken fun S hS => ⟨hS.1, hS.2.1, hS.2.2.1⟩
omit [DecidableEq κ] in
theorem Ranging.perm {K : KeyKind P kt κ} {w : World} {r b : Nat} {L left left' : List (κ × Value)} (h : Ranging K w r b L left) (hp : left.Perm left') : Ranging K w r b L left' := by
  obtain ⟨es, clock, since, seen, hne, hr, hb, h1, h2, h3, h4, h5, h6, h7, h8, h9⟩ := h
  exact ⟨es, clock, since, seen, hne, hr, hb, h1, h2, h3, h4, h5, h6, h7, h8.trans (hp.map _), fun p hp' => h9 p (hp.mem_iff.2 hp')⟩
theorem cur_typed {α : Type} {K : KeyKind P kt κ} {enc : α → Value} {r m : Nat} {L left : List (κ × α)} {R : List Chunk} {w : World} (h : Mem ((exC fun (x : (κ × Value) × List (κ × Value)) => curC K r m (ents enc L) (ents enc left) x.1 x.2) :: R) w) :
    ∃ y : { y : (κ × α) × List (κ × α) // left.Perm (y.1 :: y.2) }, Mem (curC K r m (ents enc L) (ents enc left) (y.1.1.1, enc y.1.1.2) (ents enc y.1.2) :: R) w := by
  obtain ⟨⟨p, l⟩, h⟩ := h.ex
  have hp := h.of 0 rfl (φ := (ents enc left).Perm (p :: l)) (fun S hS => hS.2.2.2.2.1)
  obtain ⟨q, l', hq, hl, hr⟩ := perm_head' (f := fun p : κ × α => (p.1, enc p.2)) hp.symm
  refine ⟨⟨(q, l'), hl⟩, h.weaken fun S hS => ?_⟩
  obtain ⟨h1, h2, h3, h4, h5, h6⟩ := hS
  refine ⟨h1, h2, Ranging.perm h3 hr, ?_, ?_, ?_⟩
  · rw [show (q.1, enc q.2) = p from hq]; exact h4
  · rw [show (q.1, enc q.2) = p from hq]; exact h5.trans (List.Perm.cons _ hr)
  · rw [show (q.1, enc q.2) = p from hq]; exact h6
end
end Go.Sx
end
section
namespace Go.Proofs.YtmhbpifhpolghaaGreat
open Go.RowKit Go.Lib Go.Tk Go.Shelf Go.Vc Go.Sx
structure BkA where
  d : Nat
  o : Nat
  h : Nat
def bookF (B : BookV) : CF := fun b _ => exC fun (a : BkA) => allC [boxE none b #[.int .u8 B.self, .int .i64 B.n, .map (some a.d), .map (some a.o), .map (some a.h)], docsX B.docs a.d undef, mapT kidK ownW B.owns a.o undef, mapT kidK heldW B.helds a.h undef]
def bkS (B : BookV) (s : Nat) : Heap := [((s, 0), .box none [.val (.int .u8 B.self), .val (.int .i64 B.n), .map s 1, .map s 2, .map s 3]), ((s, 1), .fam (docsX B.docs)), ((s, 2), ownsF B.owns), ((s, 3), heldsF B.helds)]
def bkC (B : BookV) : Heap := [((0, 0), .fam (bookF B))]
theorem bk_packs (B : BookV) : Packs (bookF B) (bkS B) 3 where
  opens := fun b v R w h => by
    obtain ⟨a, h1⟩ := h.ex
    have h2 := h1.all
    refine ⟨fun k => match k with
      | 0 => (b, v)
      | 1 => (a.d, undef)
      | 2 => (a.o, undef)
      | _ => (a.h, undef), rfl, fun ε he => ?_⟩
    have e0 := he 0 (by decide)
    have e1 := he 1 (by decide)
    have e2 := he 2 (by decide)
    have e3 := he 3 (by decide)
    simp only [bkS, hden, List.map_cons, List.map_nil, SC.den, SV.dens, SV.den, ownsF, heldsF, e0, e1, e2, e3]
    exact h2
  shuts := fun s ε R w h => by
    have h1 : Mem ([boxE none (ε s 0).1 #[.int .u8 B.self, .int .i64 B.n, .map (some (ε s 1).1), .map (some (ε s 2).1), .map (some (ε s 3).1)], docsX B.docs (ε s 1).1 undef, mapT kidK ownW B.owns (ε s 2).1 undef, mapT kidK heldW B.helds (ε s 3).1 undef] ++ R) w := h
    exact Mem.in_ex ⟨(ε s 1).1, (ε s 2).1, (ε s 3).1⟩ h1.in_all
theorem shut {f : Nat} {args : List SV} {rd post : Heap} {ret : SV} {B B' : BookV} (h : CallOK Tryz.prog f args rd (bkH (docsX B.docs) B) ret (bkH (docsX B'.docs) B' ++ post)) (h1 : SV.oks (noIn 3) args = true) (h2 : hok (noIn 3) rd = true) (h3 : ret.ok (noIn 3) = true) (h4 : hok (noIn 3) post = true) :
    CallOK Tryz.prog f args rd (bkC B) ret (bkC B' ++ post) := by
  have e : CallOK Tryz.prog f args [] (bkS B 0 ++ rd) ret (bkS B' 0 ++ (rd ++ post)) := by
    have h5 := (h.of_rd.pre_mono (pre' := bkS B 0 ++ rd) (fun ε R w hM => ?_)).post_mono (post' := bkS B' 0 ++ (rd ++ post)) (fun ε R w hM => ?_)
    · exact h5
    · rw [hden_append] at hM ⊢
      exact mem_perm (List.Perm.append_right R List.perm_append_comm) hM
    · rw [hden_append, hden_append] at hM
      rw [hden_append, hden_append]
      refine mem_perm (List.Perm.append_right R ?_) hM
      rw [← List.append_assoc, ← List.append_assoc]
      exact List.Perm.append_right _ List.perm_append_comm
  have h6 := CallOK.pack (bk_packs B) (bk_packs B') e h1 h2 h3 (by unfold hok at h2 h4 ⊢; rw [List.all_append, h2, h4]; rfl)
  refine CallOK.to_rd ((h6.pre_mono (pre' := rd ++ bkC B) (fun ε R w hM => ?_)).post_mono (post' := rd ++ (bkC B' ++ post)) (fun ε R w hM => ?_))
  · rw [hden_append] at hM
    have := mem_perm (List.Perm.append_right R List.perm_append_comm) hM
    exact this
  · have hM : Mem ((hden ε (bkC B') ++ hden ε (rd ++ post)) ++ R) w := hM
    rw [hden_append] at hM
    rw [hden_append, hden_append]
    refine mem_perm (List.Perm.append_right R ?_) hM
    rw [← List.append_assoc, ← List.append_assoc]
    exact List.Perm.append_right _ List.perm_append_comm
theorem shutR {f : Nat} {args : List SV} {ret : SV} {B : BookV} (h : CallOK Tryz.prog f args (bkH (docsX B.docs) B) [] ret []) (h1 : SV.oks (noIn 3) args = true) (h3 : ret.ok (noIn 3) = true) : CallOK Tryz.prog f args (bkC B) [] ret [] :=
  CallOK.to_rd (shut (B := B) (B' := B) (rd := []) (post := []) h.of_rd h1 rfl h3 rfl)
theorem own_c (B : BookV) {k : Kid} (hk : KidOk k) : CallOK Tryz.prog OwnF [.ptr 0 0 0, .agg (kidS k)] (bkC B) [] (.tup [.agg (ownS ((lkt B.owns k).getD own0)), eN (noneE (lkt B.owns k).isSome)]) [] := shutR (own_w (docsX B.docs) B hk) rfl rfl
theorem held_c (B : BookV) {k : Kid} (hk : KidOk k) : CallOK Tryz.prog HeldF [.ptr 0 0 0, .agg (kidS k)] (bkC B) [] (.tup [.agg (heldS ((lkt B.helds k).getD held0)), eN (noneE (lkt B.helds k).isSome)]) [] := shutR (held_w (docsX B.docs) B hk) rfl rfl
theorem setO_docs (B : BookV) (k : Kid) (o : OwnV) : (B.setO k o).docs = B.docs := by unfold BookV.setO; cases (lkt B.owns k).isSome <;> rfl
theorem setH_docs (B : BookV) (k : Kid) (h : HeldV) : (B.setH k h).docs = B.docs := by unfold BookV.setH; cases decide (B.setHE k = 0) <;> rfl
theorem setOwn_c (B : BookV) {k : Kid} (hk : KidOk k) (o : OwnV) : CallOK Tryz.prog SetOwnF [.ptr 0 0 0, .agg (kidS k), .agg (ownS o)] [] (bkC B) (eN (noneE (lkt B.owns k).isSome)) (bkC (B.setO k o)) := by
  have h := setOwn_w (docsX B.docs) B hk o
  rw [← setO_docs B k o] at h
  exact shut (post := []) (by rw [setO_docs] at h; rw [setO_docs]; exact h) rfl rfl rfl rfl
theorem setHeld_c (B : BookV) {k : Kid} (hk : KidOk k) (x : HeldV) : CallOK Tryz.prog SetHeldF [.ptr 0 0 0, .agg (kidS k), .agg (heldS x)] [] (bkC B) (eN (B.setHE k)) (bkC (B.setH k x)) := by
  have h := setHeld_w (docsX B.docs) B hk x
  exact shut (post := []) (by rw [setH_docs]; exact h) rfl rfl rfl rfl
theorem self_c (B : BookV) : CallOK Tryz.prog SelfF [.ptr 0 0 0] (bkC B) [] (.val (.int .u8 B.self)) [] := shutR (self_w (docsX B.docs) B) rfl rfl
theorem carr_c (B : BookV) : CallOK Tryz.prog CarrF [.ptr 0 0 0] (bkC B) [] (.val (.int .i64 B.n)) [] := shutR (carr_w (docsX B.docs) B) rfl rfl
theorem issue_noC (F : CF) {B : BookV} (hb : BookOk B) {s : SaleV} {A : SaleA} (ok : SaleOk s) (hl : ∀ b v, Rd (F b v) A.la (cellsL encLeg s.legs)) (ht : ∀ b v, Rd (F b v) A.ta (cellsL encTax s.taxes)) (h1 : SlOk A.la s.legs.length A.lc) (h2 : SlOk A.ta s.taxes.length A.tc) (hm : B.issE s ≠ 0) :
    CallOK Tryz.prog IssueF [.ptr 0 0 0, .agg (salS s (.val (.slice A.la s.legs.length A.lc)) (.val (.slice A.ta s.taxes.length A.tc)))] [((0, 9), .fam F)] (bkC B) (.tup [.agg (docS doc0 nilS nilS nilS), eN (B.issE s)]) (bkC B) :=
  shut (post := []) (B' := B) (issue_no F hb ok hl ht h1 h2 hm) rfl rfl rfl rfl
theorem issue_okC (F : CF) {B : BookV} (hb : BookOk B) {s : SaleV} {A : SaleA} (ok : SaleOk s) (hl : ∀ b v, Rd (F b v) A.la (cellsL encLeg s.legs)) (ht : ∀ b v, Rd (F b v) A.ta (cellsL encTax s.taxes)) (h1 : SlOk A.la s.legs.length A.lc) (h2 : SlOk A.ta s.taxes.length A.tc) (hm : B.issE s = 0) :
    CallOK Tryz.prog IssueF [.ptr 0 0 0, .agg (salS s (.val (.slice A.la s.legs.length A.lc)) (.val (.slice A.ta s.taxes.length A.tc)))] [((0, 9), .fam F)] (bkC B) (.tup [.agg (docS (docMade B.nextT s) (.raw 1 0) (.raw 1 1) (.raw 1 2)), eN 0]) (bkC (B.issued s) ++ docR (docMade B.nextT s)) :=
  shut (issue_ok F hb ok hl ht h1 h2 hm) rfl rfl rfl rfl
def NewF : Nat := 7
def bookE (self n : Int) : Int := bif decide (n < 2) || (decide (8 < n) || decide (n ≤ self)) then 1 else 0
def bookNew (self n : Int) : BookV := ⟨self, n, [], [], []⟩
theorem new_noC {self n : Int} (hs : 0 ≤ self ∧ self ≤ 255) (h : bookE self n ≠ 0) : CallOK Tryz.prog NewF [.val (.int .u8 self), .val (.int .i64 n)] [] [] (.tup [.val (.pointer none), eN 1]) [] := by
  have w1 : IntKind.i64.wrap self = self := wr_i64 (by omega)
  rcases Bool.eq_false_or_eq_true (decide (n < 2)) with e1 | e1
  · exact callOK_run 400 [hB 1 1 _ _ e1] (by kernel_rfl) (by kernel_rfl)
  rcases Bool.eq_false_or_eq_true (decide (8 < n)) with e2 | e2
  · exact callOK_run 400 [hB 1 1 _ _ e1, hB 1 4 _ _ e2] (by kernel_rfl) (by kernel_rfl)
  rcases Bool.eq_false_or_eq_true (decide (n ≤ self)) with e3 | e3
  · exact callOK_run 400 [hB 1 1 _ _ e1, hB 1 4 _ _ e2, hI 1 8 IntKind.i64 _ _ w1, hB 1 10 _ _ e3] (by kernel_rfl) (by kernel_rfl)
  · exact absurd (by unfold bookE; rw [e1, e2, e3]; rfl) h
theorem obj_map {kt : TypeId} {κ : Type} {K : KeyKind Tryz.prog kt κ} {α : Type} {enc : α → Value} {b : Nat} {v : Value} {S : Nat → Prop} {w : World} (h : (objM b []).at_ S w) : (mapT K enc [] b v).at_ S w := by
  obtain ⟨hb, es, clock, h1, h2, -, h4, h5⟩ := h
  exact ⟨hb, es, clock, h1, h2, by simp [ents], by simp [ents], h4, h5⟩
theorem obj_docs {b : Nat} {v : Value} {S : Nat → Prop} {w : World} (h : (objM b []).at_ S w) : (docsX [] b v).at_ S w :=
  ⟨⟨[], rfl⟩, ⟨h.1, (obj_map (K := tidK) (enc := docW) (v := v) h).2⟩, fun _ => False, fun k hk => hk.elim, fun p hp => (by cases hp), fun p hp => (by cases hp)⟩
def newS (self n : Int) : Heap := [((1, 0), .box none [.val (.int .u8 self), .val (.int .i64 n), .map 1 1, .map 1 2, .map 1 3]), ((1, 1), .obj [] 0), ((1, 2), .obj [] 0), ((1, 3), .obj [] 0)]
theorem new_shut (self n : Int) (ε : Env) (R : List Chunk) (w : World) (h : Mem (hden ε (newS self n) ++ R) w) : Mem (bookF (bookNew self n) (ε 1 0).1 (ε 1 0).2 :: R) w := by
  refine (bk_packs (bookNew self n)).shuts 1 ε R w ?_
  have h0 : Mem (boxE none (ε 1 0).1 #[.int .u8 self, .int .i64 n, .map (some (ε 1 1).1), .map (some (ε 1 2).1), .map (some (ε 1 3).1)] :: objM (ε 1 1).1 [] :: objM (ε 1 2).1 [] :: objM (ε 1 3).1 [] :: R) w := h
  have h1 := (h0.front 1 rfl).weaken (c' := docsX [] (ε 1 1).1 (ε 1 1).2) (fun S hS => obj_docs hS)
  have h2 := (h1.front 2 rfl).weaken (c' := mapT kidK ownW [] (ε 1 2).1 (ε 1 2).2) (fun S hS => obj_map hS)
  have h3 := (h2.front 3 rfl).weaken (c' := mapT kidK heldW [] (ε 1 3).1 (ε 1 3).2) (fun S hS => obj_map hS)
  exact (((h3.front 0 rfl).front 1 rfl).front 2 rfl).front 3 rfl
theorem new_okC {self n : Int} (hs : 0 ≤ self ∧ self ≤ 255) (h : bookE self n = 0) : CallOK Tryz.prog NewF [.val (.int .u8 self), .val (.int .i64 n)] [] [] (.tup [.ptr 1 0 0, eN 0]) [((1, 0), .fam (bookF (bookNew self n)))] := by
  have w1 : IntKind.i64.wrap self = self := wr_i64 (by omega)
  have h0 : (decide (n < 2) || (decide (8 < n) || decide (n ≤ self))) = false := by
    cases hb : (decide (n < 2) || (decide (8 < n) || decide (n ≤ self))) with
    | false => rfl
    | true => unfold bookE at h; rw [hb] at h; cases h
  simp only [Bool.or_eq_false_iff] at h0
  obtain ⟨e1, e2, e3⟩ := h0
  have key : CallOK Tryz.prog NewF [.val (.int .u8 self), .val (.int .i64 n)] [] [] (.tup [.ptr 1 0 0, eN 0]) (newS self n) := callOK_run 400 [hB 1 1 _ _ e1, hB 1 4 _ _ e2, hI 1 8 IntKind.i64 _ _ w1, hB 1 10 _ _ e3] (by kernel_rfl) (by kernel_rfl)
  exact key.post_mono (post' := [((1, 0), .fam (bookF (bookNew self n)))]) (new_shut self n)
def cntO (c : Int) (o : OwnV) : Nat := bif o.asked && (o.away && decide (o.dst = c)) then 1 else 0
def cntH (c : Int) (p : Kid × HeldV) : Nat := (bif decide (p.1.t.c = c) && p.2.wanted then 1 else 0) + (bif decide (p.1.t.c = c) && p.2.billed then 1 else 0)
def sumN {α : Type} (f : α → Nat) : List α → Nat
  | [] => 0
  | x :: l => f x + sumN f l
theorem sumN_perm {α : Type} {f : α → Nat} {l m : List α} (h : l.Perm m) : sumN f l = sumN f m := by
  induction h with
  | nil => rfl
  | cons x _ ih => unfold sumN; rw [ih]
  | swap x y l => simp only [sumN]; omega
  | trans _ _ h1 h2 => rw [h1, h2]
def openN (B : BookV) (c : Int) : Nat := sumN (fun p : Kid × OwnV => cntO c p.2) B.owns + sumN (cntH c) B.helds
def OpenF : Nat := 35
def Open1 : Nat := 75
theorem count1_w (n : Int) (hn : 0 ≤ n ∧ n ≤ 1000000) (b : Bool) : CallOK Tryz.prog Open1 [.raw 0 1, .ptr 0 0 0] [((0, 1), .row 4 1 1 (.deep [.val (.bool b)]) [])] [((0, 0), .box none [.val (.int .i64 n)])] noS [((0, 0), .box none [.val (.int .i64 (n + (bif b then 1 else 0)))])] := by
  have w1 : IntKind.i64.wrap (n + 1) = n + 1 := wr_i64 (by omega)
  cases b
  · rw [show n + (bif false then 1 else 0) = n from Int.add_zero n]
    exact callOK_runU 400 [] (by kernel_rfl) (by kernel_rfl)
  · exact callOK_runU 400 [hI 4 1 IntKind.i64 _ _ w1] (by kernel_rfl) (by kernel_rfl)
theorem count2_w (n : Int) (hn : 0 ≤ n ∧ n ≤ 1000000) (b d : Bool) : CallOK Tryz.prog Open1 [.raw 0 1, .ptr 0 0 0] [((0, 1), .row 4 1 2 (.deep [.val (.bool b), .val (.bool d)]) [])] [((0, 0), .box none [.val (.int .i64 n)])] noS [((0, 0), .box none [.val (.int .i64 (n + ((bif b then 1 else 0) + (bif d then 1 else 0))))])] := by
  have w1 : IntKind.i64.wrap (n + 1) = n + 1 := wr_i64 (by omega)
  have w2 : IntKind.i64.wrap (n + 1 + 1) = n + (1 + 1) := by rw [wr_i64 (by omega)]; omega
  cases b <;> cases d
  · rw [show n + ((bif false then 1 else 0) + (bif false then 1 else 0)) = n from Int.add_zero n]
    exact callOK_runU 400 [] (by kernel_rfl) (by kernel_rfl)
  · rw [show n + ((bif false then 1 else 0) + (bif true then 1 else 0)) = n + 1 from rfl]
    exact callOK_runU 400 [hI 4 1 IntKind.i64 _ _ w1] (by kernel_rfl) (by kernel_rfl)
  · rw [show n + ((bif true then 1 else 0) + (bif false then 1 else 0)) = n + 1 from rfl]
    exact callOK_runU 400 [hI 4 1 IntKind.i64 _ _ w1] (by kernel_rfl) (by kernel_rfl)
  · rw [show n + ((bif true then 1 else 0) + (bif true then 1 else 0)) = n + (1 + 1) from rfl]
    exact callOK_runU 400 [hI 4 1 IntKind.i64 _ _ w1, hI 4 1 IntKind.i64 _ _ w2] (by kernel_rfl) (by kernel_rfl)
theorem open_c (B : BookV) (c : Int) (hO : B.owns.length ≤ 1000) (hH : B.helds.length ≤ 1000) : CallOK Tryz.prog OpenF [.ptr 0 0 0, .val (.int .u8 c)] [] (bkC B) (.val (.int .i64 (openN B c : Int))) (bkC B) := by
  have cle : ∀ l : OwnsV, sumN (fun p : Kid × OwnV => cntO c p.2) l ≤ l.length := fun l => by
    induction l with
    | nil => exact Nat.le_refl _
    | cons p l ih =>
      have : cntO c p.2 ≤ 1 := by unfold cntO; cases (p.2.asked && (p.2.away && decide (p.2.dst = c))) <;> decide
      simp only [sumN, List.length_cons]; omega
  have hle : ∀ l : HeldsV, sumN (cntH c) l ≤ 2 * l.length := fun l => by
    induction l with
    | nil => exact Nat.le_refl _
    | cons p l ih =>
      have : cntH c p ≤ 2 := by unfold cntH; cases (decide (p.1.t.c = c) && p.2.wanted) <;> cases (decide (p.1.t.c = c) && p.2.billed) <;> decide
      simp only [sumN, List.length_cons]; omega
  refine callOK_intro (by kernel_rfl) fun eb R => ?_
  refine go_open (X := BkA) (fun a => [((0, 0), .box none [.val (.int .u8 B.self), .val (.int .i64 B.n), .val (.map (some a.d)), .val (.map (some a.o)), .val (.map (some a.h))]), ((0, 1), .fam fun _ _ => docsX B.docs a.d undef), ((0, 2), .fam fun _ _ => mapC kidK a.o (ents ownW B.owns)), ((0, 3), .fam fun _ _ => mapC kidK a.h (ents heldW B.helds))])
    (fun ε w hM => by obtain ⟨a, h⟩ := Mem.ex hM; exact ⟨a, h.all⟩) (fun a => by kernel_rfl) fun a => ?_
  have r1 := rangeG (P := Tryz.prog) (K := kidK) (t := OT) (m := a.o) (j := 2) (L := ents ownW B.owns) Tryz.underlying107
  have r2 := rangeG (P := Tryz.prog) (K := kidK) (t := HT) (m := a.h) (j := 3) (L := ents heldW B.helds) Tryz.underlying108
  have d1 := next_doneG (P := Tryz.prog) (K := kidK) (m := a.o) (L := ents ownW B.owns)
  have d2 := next_doneG (P := Tryz.prog) (K := kidK) (m := a.h) (L := ents heldW B.helds)
  refine go_loop (X := { x : OwnsV × OwnsV // B.owns.Perm (x.1 ++ x.2) }) 0 [] (fun x => ([(0, .ptr 0 0 0), (1, .val (.int .u8 c)), (5, .ptr 1 0 0), (6, .fn (.func Open1) [] [.ptr 1 0 0]), (19, .ptr 1 1 0)],
      [((0, 0), .box none [.val (.int .u8 B.self), .val (.int .i64 B.n), .val (.map (some a.d)), .val (.map (some a.o)), .val (.map (some a.h))]), ((0, 1), .fam fun _ _ => docsX B.docs a.d undef), ((0, 3), .fam fun _ _ => mapC kidK a.h (ents heldW B.helds)), ((1, 0), .box none [.val (.int .i64 (sumN (fun p : Kid × OwnV => cntO c p.2) x.1.1 : Int))]), ((1, 1), .fam fun r _ => rngC kidK r a.o (ents ownW B.owns) (ents ownW x.1.2))]))
    (fun x => x.1.2.length) ⟨([], B.owns), List.Perm.refl _⟩ calNone false 400 [hG 5 4 r1] calNone_ok (by kernel_rfl) ?_
  rintro ⟨⟨done, left⟩, hd⟩ J hJ
  cases left with
  | cons x l =>
    have m1 := next_moreG (P := Tryz.prog) (K := kidK) (m := a.o) (L := ents ownW B.owns) (left := ents ownW (x :: l)) (by simp [ents])
    refine leaf_cut (rgK Tryz.prog OpenF 7 [J]) [(0, .ptr 0 0 0), (1, .val (.int .u8 c)), (5, .ptr 1 0 0), (6, .fn (.func Open1) [] [.ptr 1 0 0]), (19, .ptr 1 1 0)]
      [((1, 1), .fam fun r _ => exC fun (y : (Kid × Value) × List (Kid × Value)) => curC kidK r a.o (ents ownW B.owns) (ents ownW (x :: l)) y.1 y.2), ((0, 0), .box none [.val (.int .u8 B.self), .val (.int .i64 B.n), .val (.map (some a.d)), .val (.map (some a.o)), .val (.map (some a.h))]), ((0, 1), .fam fun _ _ => docsX B.docs a.d undef), ((0, 3), .fam fun _ _ => mapC kidK a.h (ents heldW B.helds)), ((1, 0), .box none [.val (.int .i64 (sumN (fun p : Kid × OwnV => cntO c p.2) done : Int))])]
      calNone false 400 [hG 6 0 m1, .stop 7] calNone_ok (by kernel_rfl) ?_
    refine go_open (X := { y : (Kid × OwnV) × OwnsV // (x :: l).Perm (y.1 :: y.2) }) (fun y => [((1, 1), .fam fun r _ => curC kidK r a.o (ents ownW B.owns) (ents ownW (x :: l)) (y.1.1.1, ownW y.1.1.2) (ents ownW y.1.2)), ((0, 0), .box none [.val (.int .u8 B.self), .val (.int .i64 B.n), .val (.map (some a.d)), .val (.map (some a.o)), .val (.map (some a.h))]), ((0, 1), .fam fun _ _ => docsX B.docs a.d undef), ((0, 3), .fam fun _ _ => mapC kidK a.h (ents heldW B.helds)), ((1, 0), .box none [.val (.int .i64 (sumN (fun p : Kid × OwnV => cntO c p.2) done : Int))])])
      (fun ε w hM => cur_typed hM) (fun y => by kernel_rfl) ?_
    rintro ⟨⟨⟨k, o⟩, l'⟩, hp⟩
    have g1 := entryG (P := Tryz.prog) (K := kidK) (m := a.o) (L := ents ownW B.owns) (left := ents ownW (x :: l)) (left' := ents ownW l') (p := (k, ownW o)) (ks := .agg (kidS k)) (vs := .agg (ownS o)) (fun _ => rfl) (fun _ => rfl)
    have hd' : B.owns.Perm (((k, o) :: done) ++ l') := hd.trans ((List.Perm.append_left done hp).trans List.perm_middle)
    have hlen := hd'.length_eq
    simp only [List.length_append, List.length_cons] at hlen
    have hcl := cle done
    have c1 := count1_w (sumN (fun p : Kid × OwnV => cntO c p.2) done : Int) (by omega) (o.asked && (o.away && decide (o.dst = c)))
    have hc : (sumN (fun p : Kid × OwnV => cntO c p.2) done : Int) + (bif (o.asked && (o.away && decide (o.dst = c))) then 1 else 0) = ((sumN (fun p : Kid × OwnV => cntO c p.2) ((k, o) :: done) : Nat) : Int) := by
      simp only [sumN, cntO]
      cases (o.asked && (o.away && decide (o.dst = c))) <;> simp <;> omega
    rw [hc] at c1
    have hlt : l'.length < (x :: l).length := by have := hp.length_eq; simp only [List.length_cons] at this ⊢; omega
    rcases Bool.eq_false_or_eq_true o.asked with e1 | e1 <;> rcases Bool.eq_false_or_eq_true o.away with e2 | e2 <;> rcases Bool.eq_false_or_eq_true (decide (o.dst = c)) with e3 | e3 <;> rw [e1, e2, e3] at c1 <;> exact leaf_round (lpK Tryz.prog OpenF 0 []) false 400 [hG 7 0 g1, hB 8 2 _ _ e1, hB 8 5 _ _ e2, hB 8 11 _ _ e3, hC 8 14 c1] (hJ ⟨((k, o) :: done, l'), hd'⟩ hlt) (by kernel_rfl)
  | nil =>
    rw [List.append_nil] at hd
    have hdl : B.owns.length = done.length := hd.length_eq
    have hcl := cle done
    refine go_loop (X := { x : HeldsV × HeldsV // B.helds.Perm (x.1 ++ x.2) }) 1 [] (fun x => ([(1, .val (.int .u8 c)), (5, .ptr 1 0 0), (6, .fn (.func Open1) [] [.ptr 1 0 0]), (43, .ptr 1 2 0)],
        [((0, 0), .box none [.val (.int .u8 B.self), .val (.int .i64 B.n), .val (.map (some a.d)), .val (.map (some a.o)), .val (.map (some a.h))]), ((0, 1), .fam fun _ _ => docsX B.docs a.d undef), ((1, 0), .box none [.val (.int .i64 ((sumN (fun p : Kid × OwnV => cntO c p.2) done + sumN (cntH c) x.1.1 : Nat) : Int))]), ((1, 1), .fam fun r _ => rngC kidK r a.o (ents ownW B.owns) []), ((1, 2), .fam fun r _ => rngC kidK r a.h (ents heldW B.helds) (ents heldW x.1.2))]))
      (fun x => x.1.2.length) ⟨([], B.helds), List.Perm.refl _⟩ calNone false 400 [hG 6 0 d1, hG 9 4 r2] calNone_ok (by kernel_rfl) ?_
    rintro ⟨⟨done2, left⟩, hd2⟩ J hJ
    cases left with
    | cons x l =>
      have m2 := next_moreG (P := Tryz.prog) (K := kidK) (m := a.h) (L := ents heldW B.helds) (left := ents heldW (x :: l)) (by simp [ents])
      refine leaf_cut (rgK Tryz.prog OpenF 11 [J]) [(1, .val (.int .u8 c)), (5, .ptr 1 0 0), (6, .fn (.func Open1) [] [.ptr 1 0 0]), (43, .ptr 1 2 0)]
        [((1, 2), .fam fun r _ => exC fun (y : (Kid × Value) × List (Kid × Value)) => curC kidK r a.h (ents heldW B.helds) (ents heldW (x :: l)) y.1 y.2), ((0, 0), .box none [.val (.int .u8 B.self), .val (.int .i64 B.n), .val (.map (some a.d)), .val (.map (some a.o)), .val (.map (some a.h))]), ((0, 1), .fam fun _ _ => docsX B.docs a.d undef), ((1, 0), .box none [.val (.int .i64 ((sumN (fun p : Kid × OwnV => cntO c p.2) done + sumN (cntH c) done2 : Nat) : Int))]), ((1, 1), .fam fun r _ => rngC kidK r a.o (ents ownW B.owns) [])]
        calNone false 400 [hG 10 0 m2, .stop 11] calNone_ok (by kernel_rfl) ?_
      refine go_open (X := { y : (Kid × HeldV) × HeldsV // (x :: l).Perm (y.1 :: y.2) }) (fun y => [((1, 2), .fam fun r _ => curC kidK r a.h (ents heldW B.helds) (ents heldW (x :: l)) (y.1.1.1, heldW y.1.1.2) (ents heldW y.1.2)), ((0, 0), .box none [.val (.int .u8 B.self), .val (.int .i64 B.n), .val (.map (some a.d)), .val (.map (some a.o)), .val (.map (some a.h))]), ((0, 1), .fam fun _ _ => docsX B.docs a.d undef), ((1, 0), .box none [.val (.int .i64 ((sumN (fun p : Kid × OwnV => cntO c p.2) done + sumN (cntH c) done2 : Nat) : Int))]), ((1, 1), .fam fun r _ => rngC kidK r a.o (ents ownW B.owns) [])])
        (fun ε w hM => cur_typed hM) (fun y => by kernel_rfl) ?_
      rintro ⟨⟨⟨k, h⟩, l'⟩, hp⟩
      have g2 := entryG (P := Tryz.prog) (K := kidK) (m := a.h) (L := ents heldW B.helds) (left := ents heldW (x :: l)) (left' := ents heldW l') (p := (k, heldW h)) (ks := .agg (kidS k)) (vs := .agg (heldS h)) (fun _ => rfl) (fun _ => rfl)
      have hd' : B.helds.Perm (((k, h) :: done2) ++ l') := hd2.trans ((List.Perm.append_left done2 hp).trans List.perm_middle)
      have hlen := hd'.length_eq
      simp only [List.length_append, List.length_cons] at hlen
      have hcl2 := hle done2
      have c2 := count2_w ((sumN (fun p : Kid × OwnV => cntO c p.2) done + sumN (cntH c) done2 : Nat) : Int) (by omega) (decide (k.t.c = c) && h.wanted) (decide (k.t.c = c) && h.billed)
      have hc : ((sumN (fun p : Kid × OwnV => cntO c p.2) done + sumN (cntH c) done2 : Nat) : Int) + ((bif (decide (k.t.c = c) && h.wanted) then 1 else 0) + (bif (decide (k.t.c = c) && h.billed) then 1 else 0)) = ((sumN (fun p : Kid × OwnV => cntO c p.2) done + sumN (cntH c) ((k, h) :: done2) : Nat) : Int) := by
        simp only [sumN, cntH]
        cases (decide (k.t.c = c) && h.wanted) <;> cases (decide (k.t.c = c) && h.billed) <;> simp <;> omega
      rw [hc] at c2
      have hlt : l'.length < (x :: l).length := by have := hp.length_eq; simp only [List.length_cons] at this ⊢; omega
      rcases Bool.eq_false_or_eq_true (decide (k.t.c = c)) with e1 | e1 <;> rcases Bool.eq_false_or_eq_true h.wanted with e2 | e2 <;> rcases Bool.eq_false_or_eq_true h.billed with e3 | e3 <;> rw [e1, e2, e3] at c2 <;> exact leaf_round (lpK Tryz.prog OpenF 1 []) false 400 [hG 11 0 g2, hB 12 4 _ _ e1, hB 13 4 _ _ e2, hB 13 9 _ _ e3, hC 13 12 c2] (hJ ⟨((k, h) :: done2, l'), hd'⟩ hlt) (by kernel_rfl)
    | nil =>
      rw [List.append_nil] at hd2
      have hN : ((sumN (fun p : Kid × OwnV => cntO c p.2) done + sumN (cntH c) done2 : Nat) : Int) = (openN B c : Int) := by
        unfold openN; rw [sumN_perm hd, sumN_perm hd2]
      refine leaf_cut (rgK Tryz.prog OpenF 14 []) [(5, .ptr 1 0 0)]
        [((0, 0), .box none [.val (.int .u8 B.self), .val (.int .i64 B.n), .val (.map (some a.d)), .val (.map (some a.o)), .val (.map (some a.h))]), ((0, 1), .fam fun _ _ => docsX B.docs a.d undef), ((1, 0), .box none [.val (.int .i64 ((sumN (fun p : Kid × OwnV => cntO c p.2) done + sumN (cntH c) done2 : Nat) : Int))]), ((1, 1), .fam fun r _ => rngC kidK r a.o (ents ownW B.owns) []), ((1, 2), .fam fun r _ => rngC kidK r a.h (ents heldW B.helds) [])]
        calNone false 400 [hG 10 0 d2, .stop 14] calNone_ok (by kernel_rfl) ?_
      refine go_open (X := Unit) (fun _ => [((0, 0), .fam (bookF B)), ((1, 0), .box none [.val (.int .i64 ((sumN (fun p : Kid × OwnV => cntO c p.2) done + sumN (cntH c) done2 : Nat) : Int))])])
        (fun ε w hM => by
          have h1 := (hM.front 4 rfl).weaken (c' := mapT kidK heldW B.helds a.h undef) fun S hS => ⟨hS.2.1, hS.2.2.map⟩
          have h2 := (h1.front 4 rfl).weaken (c' := mapT kidK ownW B.owns a.o undef) fun S hS => ⟨hS.2.1, hS.2.2.map⟩
          have h4 := (h2.front 3 rfl).front 3 rfl
          exact ⟨(), Mem.in_ex a (Mem.in_all (l := [_, _, _, _]) h4)⟩) (fun _ => by kernel_rfl) fun _ => ?_
      exact leaf_end calNone false 400 [hI 14 0 IntKind.i64 _ _ hN] calNone_ok (by kernel_rfl)
end Go.Proofs.YtmhbpifhpolghaaGreat
end
