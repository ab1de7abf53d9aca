/- SX: queues: slices of one's own that may begin inside their block. -/
import Derived.Test.YtlamaakconjkcaaGreatSxE
namespace Go.Sx
set_option linter.unusedVariables false
set_option linter.unusedSimpArgs false
set_option linter.unusedSectionVars false
open Go.RowKit Go.Tk Go.Lib Go.Shelf Go.Vc

def QF (E : TypeId) (size : Nat) (w : World) (v : Value) (n : Nat) (xs : List Value) : Prop :=
  xs.length = n * size ∧ ((v = .slice none 0 0 ∧ n = 0) ∨ ∃ g lo cap cur, v = .slice (some ⟨g, lo * size, none⟩) n cap ∧ BoxE (some E) w g cur ∧ n ≤ cap ∧ cap ≤ maxLen ∧ (lo + cap) * size ≤ cur.size ∧ (cur.toList.drop (lo * size)).take (n * size) = xs)
theorem QF.cell {E : TypeId} {size : Nat} {w : World} {v : Value} {n : Nat} {xs : List Value} (h : QF E size w v n xs) {i : Nat} {u : Value} (hi : xs[i]? = some u) : ∃ g off cap, v = .slice (some ⟨g, off, none⟩) n cap ∧ w.cell? ⟨g, off + i, none⟩ = some u := by
  obtain ⟨hl, ⟨h1, h2⟩ | ⟨g, lo, cap, cur, hv, hb, h1, h2, h3, h4⟩⟩ := h
  · subst h2
    have := (List.getElem?_eq_some_iff.1 hi).1
    rw [hl, Nat.zero_mul] at this
    exact absurd this (Nat.not_lt_zero _)
  · refine ⟨g, _, cap, hv, hb.cell _ ?_⟩
    have hil := (List.getElem?_eq_some_iff.1 hi).1
    rw [← h4, List.getElem?_take_of_lt (by rw [← hl]; exact hil), List.getElem?_drop] at hi
    simpa using hi
theorem QF.is {E : TypeId} {size : Nat} {w : World} {v : Value} {n : Nat} {xs : List Value} (h : QF E size w v n xs) : ∃ a c, v = .slice a n c := by
  obtain ⟨hl, ⟨h1, h2⟩ | ⟨g, lo, cap, cur, hv, -⟩⟩ := h
  · exact ⟨_, _, by rw [h1, h2]⟩
  · exact ⟨_, _, hv⟩
def qcC (E : TypeId) (size : Nat) (v : Value) (n : Nat) (xs : List Value) : Chunk where
  at_ S w := (∀ g, v.ownBlock = some g → S g) ∧ QF E size w v n xs
  stable {S w w'} hk hi h := ⟨h.1, by
    obtain ⟨hl, h1 | ⟨g, lo, cap, cur, hv, ⟨E', fz, e1, e2, e3⟩, h2⟩⟩ := h.2
    · exact ⟨hl, .inl h1⟩
    · have e : S g := h.1 g (by rw [hv]; rfl)
      exact ⟨hl, .inr ⟨g, lo, cap, cur, hv, ⟨E', fz, e1, by rw [hk.block g e (hi g e)]; exact e2, e3⟩, h2⟩⟩⟩
theorem mem_noQ {cs : List Chunk} {w : World} (h : Mem cs w) (E : TypeId) (size : Nat) : Mem (qcC E size (.slice none 0 0) 0 [] :: cs) w :=
  h.fresh (w' := w) (c := qcC E size (.slice none 0 0) 0 []) (Below.refl _ _) (fun _ => False) ⟨(fun g hg => by cases hg), by simp, .inl ⟨rfl, rfl⟩⟩ (fun k hk => hk.elim)
theorem Mem.qs {cs : List Chunk} {w : World} (h : Mem cs w) (i : Nat) {E : TypeId} {size n : Nat} {v : Value} {xs : List Value} (hi : cs[i]? = some (qcC E size v n xs)) : QF E size w v n xs := by
  obtain ⟨F, h⟩ := h; exact (h.has i _ hi).2
section
variable {P : Program} {w : World}
theorem Mem.appQ {cs : List Chunk} (h : Mem cs w) (i : Nat) {e size n : Nat} {v : Value} {xs : List Value} (hi : cs[i]? = some (qcC e size v n xs)) {t tx ty bytes : Nat} {z src : Value} {m : Nat} {news : List Value} (ht : P.underlying t = some (.slice e)) (hinfo : (P.info? e).map (fun i => (i.zero, i.size, i.bytes)) = some (some z, size, bytes))
    (hs : Go.Src P size tx src m news w) (hm0 : 0 < m) (hzs : z.cells.size = size) (h63 : n + m ≤ maxLen) (hbytes : (n + m) * bytes ≤ 140737488355328) :
    ∃ v' w', (Builtin.append_ #[t, tx] ty #[v, src]).run P w = .ok v' w' ∧ Mem (cs.set i (qcC e size v' (n + m) (xs ++ news))) w' := by
  obtain ⟨ie, hie, hz, hz1, hz2⟩ := info_parts hinfo
  subst hz1
  subst hz2
  have hown := Mem.qs h i hi
  have hsmall : n + m ≤ 9223372036854775807 := by simp only [maxLen] at h63; omega
  have hfit : ∀ old, old < n + m → Builtin.nextslicecap (n + m) old * ie.bytes ≤ 281474976710656 := fun old ho => by
    have h2 := nextslicecap_le (need := n + m) (old := old) (by omega)
    have h3 : Builtin.nextslicecap (n + m) old * ie.bytes ≤ 2 * (n + m) * ie.bytes := Nat.mul_le_mul_right _ h2
    have h4 : 2 * (n + m) * ie.bytes = 2 * ((n + m) * ie.bytes) := Nat.mul_assoc _ _ _
    omega
  have hlen : (xs ++ news).length = (n + m) * ie.size := by rw [List.length_append, hown.1, hs.newsLen, Nat.add_mul]
  have grown : ∀ (old : Nat), old < n + m → Mem (cs.set i (qcC e ie.size (.slice (some ⟨w.heap.size, 0, Option.none⟩) (n + m) (grownCap w (n + m) old e)) (n + m) (xs ++ news))) (w.drew.alloc (.cells ((xs ++ news).toArray ++ Builtin.zeroCells z.cells (grownCap w (n + m) old e - (n + m))) e)) := by
    intro old ho
    have hge := grownCap_ge w (n + m) old e
    have hcm : grownCap w (n + m) old e ≤ maxLen := grownCap_le_maxLen w (n + m) old e h63
    refine h.step i hi (fun S hS hlt => ⟨(fr_below _ (drewN_below w 1)).trans (fr_below S (below_alloc w.drew _)) (fun _ _ h => h), fun k => k = w.heap.size, ⟨fun g hg => by cases hg; rfl, hlen, .inr ⟨w.heap.size, 0, _, _, by rw [Nat.zero_mul], ⟨e, (0, 0), (fun x hx => by cases hx; rfl), show (w.heap.push _)[w.heap.size]? = _ from Array.getElem?_push_size, noFz_none _⟩, hge, hcm, ?_, ?_⟩⟩, fun k hk => ⟨.inr (by rw [hk]; exact Nat.le_refl _), by rw [hk]; simp⟩⟩)
    · simp only [Array.size_append, List.size_toArray, Builtin.zeroCells, Array.size_map, Array.size_range, hzs, hlen, ← Nat.add_mul]
      refine Nat.mul_le_mul_right _ ?_
      omega
    · rw [Nat.zero_mul, List.drop_zero]
      simp only [Array.toList_append]
      rw [← hlen]
      exact List.take_left
  rcases hown.2 with ⟨hv, hn⟩ | ⟨g, lo, cap, cur, hv, hb, hnc, hcm, hcs, htake⟩
  · subst hv
    subst hn
    have hx : xs = [] := List.length_eq_zero_iff.1 (by simpa using hown.1)
    subst hx
    have := run_append_grow_src (P := P) w t tx ty e ie z ht hie hz none 0 0 [] (run_firstCells_none w.drew ie.size 0 0 0) src m news hs (by omega) (by omega) (hfit 0 (by omega))
    exact ⟨_, _, this, grown 0 (by omega)⟩
  · subst hv
    by_cases hroom : n + m ≤ cap
    · have hsz : (lo + n + m) * ie.size ≤ cur.size := Nat.le_trans (Nat.mul_le_mul_right _ (by omega)) hcs
      have hle : lo * ie.size + n * ie.size + news.length ≤ cur.size := by rw [hs.newsLen, ← Nat.add_mul, ← Nat.add_mul]; exact hsz
      obtain ⟨w', h4, h2, h3⟩ := run_storeCells P news (lo * ie.size + n * ie.size) 0 cur w hb (by rw [Nat.add_zero]; exact hle) (List.all_eq_true.2 hs.one)
      rw [Nat.add_zero] at h3
      have hrun : (Builtin.append_ #[t, tx] ty #[.slice (some ⟨g, lo * ie.size, none⟩) n cap, src]).run P w = .ok (.slice (some ⟨g, lo * ie.size, none⟩) (n + m) cap) w' := by
        rcases hs.kind with ⟨e', hk⟩ | hk <;> simp [Builtin.append_, run_underlying ht, run_underlying hk, sizeOf, typeInfo, hie, hs.len, hroom, hs.cells, Addr.add_lit, h4]
      refine ⟨_, _, hrun, h.step i hi (fun S hS hlt => ⟨h2.mono (fun k _ e => by rw [e]; exact hS.1 g rfl), fun k => k = g, ⟨fun g' hg => by cases hg; rfl, hlen, .inr ⟨g, lo, cap, _, rfl, h3, hroom, hcm, ?_, ?_⟩⟩, fun k hk => ⟨.inl (by rw [hk]; exact hS.1 g rfl), by rw [hk]; exact h3.lt⟩⟩)⟩
      · unfold over
        simp [List.length_take]
        omega
      · unfold over
        have hx1 : xs.length = n * ie.size := hown.1
        have hdrop : (cur.toList.take (lo * ie.size + n * ie.size)).drop (lo * ie.size) = xs := by
          rw [List.drop_take, Nat.add_sub_cancel_left]; exact htake
        have hl2 : lo * ie.size ≤ (cur.toList.take (lo * ie.size + n * ie.size)).length := by rw [List.length_take]; simp; omega
        rw [show ((cur.toList.take (lo * ie.size + n * ie.size) ++ news ++ cur.toList.drop (lo * ie.size + n * ie.size + news.length)).toArray).toList = cur.toList.take (lo * ie.size + n * ie.size) ++ (news ++ cur.toList.drop (lo * ie.size + n * ie.size + news.length)) from by simp]
        rw [List.drop_append_of_le_length hl2, hdrop, ← List.append_assoc, ← hlen]
        exact List.take_left
    · have holds : ∀ (j : Nat) v, xs[j]? = some v → w.cell? ((Addr.mk g (lo * ie.size) none).add j) = some v := fun j v hj => by
        obtain ⟨g', off, cap', e', hc⟩ := QF.cell hown hj
        cases e'
        rw [show (Addr.mk g (lo * ie.size) none).add j = ⟨g, lo * ie.size + j, none⟩ from addr_add g _ j]
        exact hc
      have := run_append_grow_src (P := P) w t tx ty e ie z ht hie hz (some ⟨g, lo * ie.size, none⟩) n cap xs (run_firstCells_some w.drew ie.size n ⟨g, lo * ie.size, none⟩ n cap xs hown.1 (fun j v hj => holds j v hj)) src m news hs (by omega) (by omega) (hfit cap (by omega))
      exact ⟨_, _, this, grown cap (by omega)⟩
variable {α : Type} {enc : α → List Value} {E size : Nat}
/-- a queue of things -/
def qF (E size : Nat) (enc : α → List Value) (l : List α) : Nat → Value → Chunk := fun _ v => qcC E size v l.length (cellsL enc l)
def isLenS (P : Program) (o : Oper) : Bool := match o.op with
  | .call c => (match c.callee with
    | .builtin .len => (match c.args.toList, c.argTypes[0]? with
      | [_], some t => (match P.underlying t with
        | some (.slice _) => true
        | _ => false)
      | _, _ => false)
    | _ => false)
  | _ => false
theorem q_len (l : List α) : OpG P (isLenS P) lenX [.any 0 0] [((0, 0), .fam (qF E size enc l))] [] (.val (.int .i64 (l.length : Int))) [] := by
  intro o ho
  unfold isLenS at ho
  split at ho <;> try (cases ho; done)
  rename_i c hop
  split at ho <;> try (cases ho; done)
  rename_i hc
  split at ho <;> try (cases ho; done)
  rename_i x t' ha ht
  split at ho <;> try (cases ho; done)
  rename_i e' hT
  have hx' : lenX o = [x] := by unfold lenX; rw [hop]; exact ha
  rw [hx']
  refine ⟨fun q hq => by rw [hop]; simp [Op.operands, Call.operands, hc]; have := arr_one ha; rw [this]; simpa using hq, fun ε ρ R w hx hM => ?_⟩
  simp only [List.map_cons, List.map_nil, SV.dens, SV.den, List.cons.injEq, and_true] at hx
  have hM : Mem (qcC E size (ε 0 0).2 l.length (cellsL enc l) :: R) w := hM
  obtain ⟨a, c', hv⟩ := (Mem.qs hM 0 rfl).is
  have := x_len' (P := P) (ρ := ρ) (o := o) (w := w) hop hc (arr_one ha) ht (hx.trans hv) hT
  exact res_ok this ⟨ε 1, by simp only [SV.den], by rw [eset_self]; exact hM⟩
theorem sliceT_of {t n : Nat} (h : sliceT P t n = true) : ∃ e ie, P.underlying t = some (.slice e) ∧ P.info? e = some ie ∧ ie.size = n := by
  unfold sliceT at h
  split at h
  · rename_i e hT
    split at h
    · rename_i i hi; exact ⟨e, i, hT, hi, by simpa using h⟩
    · cases h
  · cases h
theorem q_idx {t : TypeId} {i : Nat} {k : IntKind} (l : List α) (hk : ∀ x, (enc x).length = size) (h0 : 0 < size) (hT : sliceT P t size = true) (hi : i < l.length) :
    OpG P (isIdx t) idxXY [.any 0 0, .val (.int k (i : Int))] [((0, 0), .fam (qF E size enc l))] [] (.elt 0 0 0 (i * size) 0) [] := by
  intro o ho
  unfold isIdx at ho
  split at ho <;> try (cases ho; done)
  rename_i t' x y hop
  have e1 := Nat.eq_of_beq_eq_true ho
  subst e1
  have hx' : idxXY o = [x, y] := by unfold idxXY; rw [hop]
  rw [hx']
  refine ⟨fun z hz => by rw [hop]; simp [Op.operands]; simpa using hz, fun ε ρ R w hx hM => ?_⟩
  simp only [List.map_cons, List.map_nil, SV.dens, SV.den, List.cons.injEq, and_true] at hx
  have hM : Mem (qcC E size (ε 0 0).2 l.length (cellsL enc l) :: R) w := hM
  have hq := Mem.qs hM 0 rfl
  have hlen : 0 < (cellsL enc l).length := by rw [cellsL_len hk]; exact Nat.mul_pos (by omega) h0
  obtain ⟨g, off, cap, hv, -⟩ := hq.cell (List.getElem?_eq_getElem hlen)
  obtain ⟨e', ie, hT1, hT2, hT3⟩ := sliceT_of hT
  have := x_idx0 (P := P) (v := undef) (w := w) hop (hx.1.trans hv) hx.2 hT1 hT2 hi
  refine res_ok this ⟨ε 1, ?_, by rw [eset_self]; exact hM⟩
  rw [eset_self]
  simp only [SV.den, hv, adOf, hT3, Nat.add_zero]
  rw [addr_add]
theorem q_load {t b j : Nat} {cs : List SV} {u : SV} (l : List α) (hu : partAt P t cs j = some u) (hc : ∀ (ε : Env) (i : Nat) (v : SV), cs[i]? = some v → (cellsL enc l)[b + i]? = some (v.den ε)) :
    OpG P (isLoad t) loadX [.elt 0 0 0 b j] [((0, 0), .fam (qF E size enc l))] [] u [] := by
  intro o ho
  unfold isLoad at ho
  split at ho <;> try (cases ho; done)
  rename_i t' x hop
  have e1 := Nat.eq_of_beq_eq_true ho
  subst e1
  have hx' : loadX o = [x] := by unfold loadX; rw [hop]
  rw [hx']
  refine ⟨fun z hz => by rw [hop]; simp [Op.operands]; simpa using hz, fun ε ρ R w hx hM => ?_⟩
  simp only [List.map_cons, List.map_nil, SV.dens, SV.den, List.cons.injEq, and_true] at hx
  have hM : Mem (qcC E size (ε 0 0).2 l.length (cellsL enc l) :: R) w := hM
  have hq := Mem.qs hM 0 rfl
  have := partAt_load (P := P) (w := w) (ρ := ρ) (o := o) (x := x) (B := (adOf (ε 0 0).2).block) (O := (adOf (ε 0 0).2).off + b) (ε := ε) hu (fun i u hi => by
    obtain ⟨g, off, cap, hv, hcell⟩ := hq.cell (hc ε i u hi)
    rw [hv]
    simp only [adOf]
    rw [Nat.add_assoc]; exact hcell) hop (hx.trans (by simp [Nat.add_assoc]))
  exact res_ok this ⟨ε 1, by rw [eset_self], by rw [eset_self]; exact hM⟩
def isTail (t : TypeId) (o : Oper) : Bool := match o.op with
  | .slice t' _ (some (.const (.int .i64 (.ofNat 1)))) none none => Nat.beq t t'
  | _ => false
def sliceX (o : Oper) : List Operand := match o.op with
  | .slice _ x (some y) _ _ => [x, y]
  | _ => []
theorem q_tail {t : TypeId} (x : α) (l : List α) (hk : ∀ x, (enc x).length = size) (h0 : 0 < size) (hT : sliceT P t size = true) :
    OpG P (isTail t) sliceX [.any 0 0, .val (.int .i64 1)] [] [((0, 0), .fam (qF E size enc (x :: l)))] (.any 1 0) [((1, 0), .fam (qF E size enc l))] := by
  intro o ho
  unfold isTail at ho
  split at ho <;> try (cases ho; done)
  rename_i t' y hop
  have e1 := Nat.eq_of_beq_eq_true ho
  subst e1
  have hx' : sliceX o = [y, .const (.int .i64 1)] := by unfold sliceX; rw [hop]; rfl
  rw [hx']
  refine ⟨fun z hz => by rw [hop]; simp only [List.mem_cons, List.not_mem_nil, or_false] at hz; rcases hz with rfl | rfl <;> simp [Op.operands] <;> rfl, fun ε ρ R w hx hM => ?_⟩
  simp only [List.map_cons, List.map_nil, SV.dens, SV.den, List.cons.injEq, and_true] at hx
  have hM : Mem (qcC E size (ε 0 0).2 (l.length + 1) (cellsL enc (x :: l)) :: R) w := hM
  have hq := Mem.qs hM 0 rfl
  rcases hq.2 with ⟨-, hn⟩ | ⟨g, lo, cap, cur, hv, hb, hnc, hcm, hcs, htake⟩
  · exact absurd hn (Nat.succ_ne_zero _)
  have hrun := x_sliceN (P := P) (ρ := ρ) (o := o) (w := w) (t := t) (n := size) (l := 1) (h := l.length + 1) hop (hx.1.trans hv) hT (.inr ⟨_, .i64, rfl, hx.2⟩) (.inl ⟨rfl, rfl⟩) (by omega) hnc
  refine res_ok hrun ⟨fun _ => (0, .slice (if cap = 1 then some ⟨g, lo * size, none⟩ else (some (Addr.mk g (lo * size) none)).map (·.add (1 * size))) (l.length + 1 - 1) (cap - 1)), by simp only [SV.den, eset_at], ?_⟩
  have hl1 : (cellsL enc (x :: l)).length = (l.length + 1) * size := hq.1
  have hcells : (cellsL enc (x :: l)).drop size = cellsL enc l := by
    show ((enc x) ++ cellsL enc l).drop size = _
    rw [List.drop_append_of_le_length (by rw [hk]; exact Nat.le_refl _), List.drop_of_length_le (by rw [hk]; exact Nat.le_refl _), List.nil_append]
  have hres : QF E size w (.slice (if cap = 1 then some ⟨g, lo * size, none⟩ else (some (Addr.mk g (lo * size) none)).map (·.add (1 * size))) (l.length + 1 - 1) (cap - 1)) l.length (cellsL enc l) := by
    refine ⟨cellsL_len hk l, .inr ?_⟩
    by_cases hc1 : cap = 1
    · have hl0 : l = [] := List.length_eq_zero_iff.1 (by omega)
      subst hl0
      refine ⟨g, lo, 0, cur, by rw [if_pos hc1, hc1]; rfl, hb, Nat.le_refl _, Nat.zero_le _, Nat.le_trans (Nat.mul_le_mul_right _ (by omega)) hcs, ?_⟩
      simp [cellsL]
    · refine ⟨g, lo + 1, cap - 1, cur, ?_, hb, by omega, by omega, Nat.le_trans (Nat.mul_le_mul_right _ (by omega)) hcs, ?_⟩
      · rw [if_neg hc1]
        simp only [Option.map_some, Nat.one_mul, addr_add, Nat.add_mul, Nat.add_sub_cancel]
      · rw [← hcells, ← htake, List.drop_take, List.drop_drop]
        congr 1
        · rw [Nat.add_mul]; omega
        · rw [Nat.add_mul, Nat.one_mul]
  have h3 := hM.step 0 rfl (c' := qcC E size (.slice (if cap = 1 then some ⟨g, lo * size, none⟩ else (some (Addr.mk g (lo * size) none)).map (·.add (1 * size))) (l.length + 1 - 1) (cap - 1)) l.length (cellsL enc l)) (fun S hS hlt => ⟨Fr.refl _ _, S, ⟨fun g' hg => by
      have : g' = g := by
        by_cases hc1 : cap = 1
        · rw [if_pos hc1] at hg; cases hg; rfl
        · rw [if_neg hc1] at hg
          simp only [Option.map_some, addr_add] at hg
          cases hg; rfl
      rw [this]
      exact hS.1 g (by rw [hv]; rfl), hres⟩, fun b hb => ⟨.inl hb, hlt b hb⟩⟩)
  have h3 : Mem (qcC E size (.slice (if cap = 1 then some ⟨g, lo * size, none⟩ else (some (Addr.mk g (lo * size) none)).map (·.add (1 * size))) (l.length + 1 - 1) (cap - 1)) l.length (cellsL enc l) :: R) w := h3
  show Mem (qcC E size (eset ε 1 _ 1 0).2 l.length (cellsL enc l) :: R) w
  rw [eset_at]
  exact h3
theorem q_app {t e : TypeId} (l : List α) (x : α) (cs : List SV) (hcs : ∀ ε, SV.dens ε cs = enc x) (h1 : ∀ u ∈ enc x, u.oneCell' = true) (hk : (enc x).length = size) (hT : P.underlying t = some (.slice E)) (hi : infoB P E size = true) (hn : l.length + 1 ≤ 1073741824) :
    OpG P (isApp P t t) lenX [.any 0 0, .raw 0 1] [((0, 1), .row E size 1 (.deep cs) [])] [((0, 0), .fam (qF E size enc l))] (.any 1 0) [((1, 0), .fam (qF E size enc (l ++ [x])))] := by
  intro o ho
  obtain ⟨c, y, z, ho, hc, ha, hat, hx⟩ := isApp_of ho
  rw [hx]
  obtain ⟨i, zv, hi', hz, hsz, hzs, h0, hb⟩ := infoB_of hi
  refine ⟨fun q hq => by rw [ho]; simp [Op.operands, Call.operands, hc, ha]; simpa using hq, fun ε ρ R w hx hM => ?_⟩
  simp only [List.map_cons, List.map_nil, SV.dens, SV.den, List.cons.injEq, and_true] at hx
  obtain ⟨hx, hy⟩ := hx
  have hM : Mem (rowC E size (asSl (ε 0 1).2) 1 (SV.dens ε cs) :: qcC E size (ε 0 0).2 l.length (cellsL enc l) :: R) w := hM
  rw [hcs] at hM
  obtain ⟨c', hv⟩ := row_elem (hM.owns 0 rfl) 0 (by omega) h0
  have hrow := hM.owns 0 rfl
  have hS : Go.Src P size t (asSl (ε 0 1).2) 1 (enc x) w := by
    rw [hv]
    exact Go.Src.ofSlice (P := P) w hT _ 1 c' _ (by rw [hk, Nat.one_mul]) (fun j u' hj => by
      have := row_at hrow hj
      rw [adOf_asSl] at this
      rw [addr_add]; exact this) h1
  obtain ⟨v', w', hr, hm⟩ := Mem.appQ hM 1 rfl (ty := o.type) (bytes := i.bytes) hT (by rw [hi']; simp [hz, hsz]) hS (by omega) hzs (by simp only [maxLen]; omega) (by
    have : (l.length + 1) * i.bytes ≤ 1073741824 * 131072 := Nat.mul_le_mul hn hb
    omega)
  refine res_ok (x_append ho hc ha hat hx hy hr) ⟨fun _ => (0, v'), by simp only [SV.den, eset_at], ?_⟩
  have hm : Mem (rowC E size (asSl (ε 0 1).2) 1 (enc x) :: qcC E size v' (l.length + 1) (cellsL enc l ++ enc x) :: R) w' := hm
  have e1 : cellsL enc (l ++ [x]) = cellsL enc l ++ enc x := by unfold cellsL; simp
  show Mem (rowC E size (asSl (eset ε 1 (fun _ => (0, v')) 0 1).2) 1 (SV.dens (eset ε 1 fun _ => (0, v')) cs) :: qcC E size (eset ε 1 (fun _ => (0, v')) 1 0).2 (l ++ [x]).length (cellsL enc (l ++ [x])) :: R) w'
  rw [eset_at, eset_ne (show (0 : Nat) ≠ 1 by decide), hcs, e1, List.length_append]
  exact hm
/-- a value named -/
def isNm (k : Nat) : Nat → Nat → Bool := fun s j => !(Nat.beq s 1 && Nat.beq j k)
theorem go_named {f : Nat} {ret : SV} {rp : Heap} {eb : Env} {R : List Chunk} {e : Ex} {K : List It} {sl : Slots} {H : Heap} (d k : Nat) (u : Value) (F : Nat → Value → Chunk) (hu : lkS sl d = some (.val u)) (hm : ∀ cs w, Mem cs w → Mem (F 0 u :: cs) w)
    (h1 : sl.all (fun x => x.2.ok (isNm k)) = true) (h2 : hok (isNm k) H = true) (h3 : nmIn (names H) (1, k) = false)
    (h : Go P f ret rp eb R e K (putS sl d (.any 1 k)) (((1, k), .fam F) :: H)) : Go P f ret rp eb R e K sl H := by
  intro ε a w hr
  have key : ∀ s j, isNm k s j = true → ε s j = eset ε 1 (fun j => bif Nat.beq j k then (0, u) else ε 1 j) s j := fun s j hs => by
    by_cases h0 : s = 1
    · subst h0
      rw [eset_at]
      cases hb : Nat.beq j k with
      | false => rfl
      | true => unfold isNm at hs; rw [hb] at hs; cases hs
    · rw [eset_ne h0]
  have ek : eset ε 1 (fun j => bif Nat.beq j k then (0, u) else ε 1 j) 1 k = (0, u) := by rw [eset_at, Nat.beq_refl]; rfl
  refine h (eset ε 1 fun j => bif Nat.beq j k then (0, u) else ε 1 j) a w ⟨hr.size, hr.defers, ?_, ?_, ?_, ?_, ?_, hr.pos⟩
  · intro d' v hv
    rw [lkS_put] at hv
    by_cases hd : d' = d
    · rw [if_pos hd] at hv
      cases hv
      subst hd
      have := hr.slots d' _ hu
      refine ⟨?_, rfl⟩
      rw [this.1]
      simp only [SV.den, ek]
    · rw [if_neg hd] at hv
      have := hr.slots d' v hv
      refine ⟨?_, this.2⟩
      rw [this.1]
      have hok : v.ok (isNm k) = true := List.all_eq_true.1 h1 _ (lkS_mem hv)
      rw [SV.den_congr key v hok]
  · have h4 := hm _ _ hr.mem
    rw [hden_congr key h2] at h4
    show Mem (F (eset ε 1 _ 1 k).1 (eset ε 1 _ 1 k).2 :: (hden (eset ε 1 _) H ++ R)) w
    rw [ek]; exact h4
  · show (((1, k) : Nm) :: names H).Nodup
    rw [List.nodup_cons]
    exact ⟨fun hmem => (by rw [nmIn_iff.2 hmem] at h3; cases h3), hr.nd⟩
  · have := hr.sc
    unfold hok at this ⊢
    exact List.all_eq_true.2 fun x hx => by
      rcases List.mem_cons.1 hx with rfl | hx
      · rfl
      · exact List.all_eq_true.1 this x hx
  · intro t ht
    rw [eset_ne (by omega)]
    exact hr.e0 t ht
end
end Go.Sx
