/- Coup1, Coup2, Coup3, SxQ, Lw16, Ex0. -/
import Derived.Test.YtmhbpifhpolghaaGreatRows
import Derived.DeepKeys4
import Derived.Deep.LoopGhost
import Derived.Test.YtmhbpifhpolghaaGreatM533403a
set_option maxRecDepth 100000
set_option linter.unusedVariables false
set_option linter.unusedSimpArgs false
set_option linter.unusedSectionVars false
section
namespace Go.Proofs.YtmhbpifhpolghaaGreat
open Go.RowKit Go.Lib Go.Tk Go.Maps
end Go.Proofs.YtmhbpifhpolghaaGreat
end
section
namespace Go.Sx
open Go.RowKit Go.Tk Go.Lib Go.Shelf Go.Vc
def QF (E : TypeId) (size : Nat) (w : World) (v : Value) (n : Nat) (xs : List Value) : Prop :=
  xs.length = n * size ∧ ((v = .slice none 0 0 ∧ n = 0) ∨ ∃ g lo cap cur, v = .slice (some ⟨g, lo * size, none⟩) n cap ∧ BoxE (some E) w g cur ∧ n ≤ cap ∧ cap ≤ maxLen ∧ (lo + cap) * size ≤ cur.size ∧ (cur.toList.drop (lo * size)).take (n * size) = xs)
theorem QF.cell {E : TypeId} {size : Nat} {w : World} {v : Value} {n : Nat} {xs : List Value} (h : QF E size w v n xs) {i : Nat} {u : Value} (hi : xs[i]? = some u) : ∃ g off cap, v = .slice (some ⟨g, off, none⟩) n cap ∧ w.cell? ⟨g, off + i, none⟩ = some u := by
  obtain ⟨hl, ⟨h1, h2⟩ | ⟨g, lo, cap, cur, hv, hb, h1, h2, h3, h4⟩⟩ := h
  · subst h2
    have := (List.getElem?_eq_some_iff.1 hi).1
    rw [hl, Nat.zero_mul] at this
    exact absurd this (Nat.not_lt_zero _)
  · refine ⟨g, _, cap, hv, hb.cell _ ?_⟩
    have hil := (List.getElem?_eq_some_iff.1 hi).1
    rw [← h4, List.getElem?_take_of_lt (by rw [← hl]; exact hil), List.getElem?_drop] at hi
    simpa using hi
theorem QF.is {E : TypeId} {size : Nat} {w : World} {v : Value} {n : Nat} {xs : List Value} (h : QF E size w v n xs) : ∃ a c, v = .slice a n c := by
  obtain ⟨hl, ⟨h1, h2⟩ | ⟨g, lo, cap, cur, hv, -⟩⟩ := h
  · exact ⟨_, _, by rw [h1, h2]⟩
  · exact ⟨_, _, hv⟩
def qcC (E : TypeId) (size : Nat) (v : Value) (n : Nat) (xs : List Value) : Chunk where
  at_ S w := (∀ g, v.ownBlock = some g → S g) ∧ QF E size w v n xs
  stable {S w w'} hk hi h := ⟨h.1, by
    obtain ⟨hl, h1 | ⟨g, lo, cap, cur, hv, ⟨E', fz, e1, e2, e3⟩, h2⟩⟩ := h.2
    · exact ⟨hl, .inl h1⟩
    · have e : S g := h.1 g (by rw [hv]; rfl)
      exact ⟨hl, .inr ⟨g, lo, cap, cur, hv, ⟨E', fz, e1, by rw [hk.block g e (hi g e)]; exact e2, e3⟩, h2⟩⟩⟩
theorem mem_noQ {cs : List Chunk} {w : World} (h : Mem cs w) (E : TypeId) (size : Nat) : Mem (qcC E size (.slice none 0 0) 0 [] :: cs) w :=
  h.fresh (w' := w) (c := qcC E size (.slice none 0 0) 0 []) (Below.refl _ _) (fun _ => False) ⟨(fun g hg => by cases hg), by simp, .inl ⟨rfl, rfl⟩⟩ (fun k hk => hk.elim)
theorem Mem.qs {cs : List Chunk} {w : World} (h : Mem cs w) (i : Nat) {E : TypeId} {size n : Nat} {v : Value} {xs : List Value} (hi : cs[i]? = some (qcC E size v n xs)) : QF E size w v n xs := by
  obtain ⟨F, h⟩ := h; exact (h.has i _ hi).2
section
variable {P : Program} {w : World}
theorem Mem.appQ {cs : List Chunk} (h : Mem cs w) (i : Nat) {e size n : Nat} {v : Value} {xs : List Value} (hi : cs[i]? = some (qcC e size v n xs)) {t tx ty bytes : Nat} {z src : Value} {m : Nat} {news : List Value} (ht : P.underlying t = some (.slice e)) (hinfo : (P.info? e).map (fun i => (i.zero, i.size, i.bytes)) = some (some z, size, bytes))
    (hs : Go.Src P size tx src m news w) (hm0 : 0 < m) (hzs : z.cells.size = size) (h63 : n + m ≤ maxLen) (hbytes : (n + m) * bytes ≤ 140737488355328) :
    ∃ v' w', (Builtin.append_ #[t, tx] ty #[v, src]).run P w = .ok v' w' ∧ Mem (cs.set i (qcC e size v' (n + m) (xs ++ news))) w' := by
  obtain ⟨ie, hie, hz, hz1, hz2⟩ := info_parts hinfo
  subst hz1
  subst hz2
  have hown := Mem.qs h i hi
  have hsmall : n + m ≤ 9223372036854775807 := by simp only [maxLen] at h63; omega
  have hfit : ∀ old, old < n + m → Builtin.nextslicecap (n + m) old * ie.bytes ≤ 281474976710656 := fun old ho => by
    have h2 := nextslicecap_le (need := n + m) (old := old) (by omega)
    have h3 : Builtin.nextslicecap (n + m) old * ie.bytes ≤ 2 * (n + m) * ie.bytes := Nat.mul_le_mul_right _ h2
    have h4 : 2 * (n + m) * ie.bytes = 2 * ((n + m) * ie.bytes) := Nat.mul_assoc _ _ _
    omega
  have hlen : (xs ++ news).length = (n + m) * ie.size := by rw [List.length_append, hown.1, hs.newsLen, Nat.add_mul]
  have grown : ∀ (old : Nat), old < n + m → Mem (cs.set i (qcC e ie.size (.slice (some ⟨w.heap.size, 0, Option.none⟩) (n + m) (grownCap w (n + m) old e)) (n + m) (xs ++ news))) (w.drew.alloc (.cells ((xs ++ news).toArray ++ Builtin.zeroCells z.cells (grownCap w (n + m) old e - (n + m))) e)) := by
    intro old ho
    have hge := grownCap_ge w (n + m) old e
    have hcm : grownCap w (n + m) old e ≤ maxLen := grownCap_le_maxLen w (n + m) old e h63
    refine h.step i hi (fun S hS hlt => ⟨(fr_below _ (drewN_below w 1)).trans (fr_below S (below_alloc w.drew _)) (fun _ _ h => h), fun k => k = w.heap.size, ⟨fun g hg => by cases hg; rfl, hlen, .inr ⟨w.heap.size, 0, _, _, by rw [Nat.zero_mul], ⟨e, (0, 0), (fun x hx => by cases hx; rfl), show (w.heap.push _)[w.heap.size]? = _ from Array.getElem?_push_size, noFz_none _⟩, hge, hcm, ?_, ?_⟩⟩, fun k hk => ⟨.inr (by rw [hk]; exact Nat.le_refl _), by rw [hk]; simp⟩⟩)
    · simp only [Array.size_append, List.size_toArray, Builtin.zeroCells, Array.size_map, Array.size_range, hzs, hlen, ← Nat.add_mul]
      refine Nat.mul_le_mul_right _ ?_
      omega
    · rw [Nat.zero_mul, List.drop_zero]
      simp only [Array.toList_append]
      rw [← hlen]
      exact List.take_left
  rcases hown.2 with ⟨hv, hn⟩ | ⟨g, lo, cap, cur, hv, hb, hnc, hcm, hcs, htake⟩
  · subst hv
    subst hn
    have hx : xs = [] := List.length_eq_zero_iff.1 (by simpa using hown.1)
    subst hx
    have := run_append_grow_src (P := P) w t tx ty e ie z ht hie hz none 0 0 [] (run_firstCells_none w.drew ie.size 0 0 0) src m news hs (by omega) (by omega) (hfit 0 (by omega))
    exact ⟨_, _, this, grown 0 (by omega)⟩
  · subst hv
    by_cases hroom : n + m ≤ cap
    · have hsz : (lo + n + m) * ie.size ≤ cur.size := Nat.le_trans (Nat.mul_le_mul_right _ (by omega)) hcs
      have hle : lo * ie.size + n * ie.size + news.length ≤ cur.size := by rw [hs.newsLen, ← Nat.add_mul, ← Nat.add_mul]; exact hsz
      obtain ⟨w', h4, h2, h3⟩ := run_storeCells P news (lo * ie.size + n * ie.size) 0 cur w hb (by rw [Nat.add_zero]; exact hle) (List.all_eq_true.2 hs.one)
      rw [Nat.add_zero] at h3
      have hrun : (Builtin.append_ #[t, tx] ty #[.slice (some ⟨g, lo * ie.size, none⟩) n cap, src]).run P w = .ok (.slice (some ⟨g, lo * ie.size, none⟩) (n + m) cap) w' := by
        rcases hs.kind with ⟨e', hk⟩ | hk <;> simp [Builtin.append_, run_underlying ht, run_underlying hk, sizeOf, typeInfo, hie, hs.len, hroom, hs.cells, Addr.add_lit, h4]
      refine ⟨_, _, hrun, h.step i hi (fun S hS hlt => ⟨h2.mono (fun k _ e => by rw [e]; exact hS.1 g rfl), fun k => k = g, ⟨fun g' hg => by cases hg; rfl, hlen, .inr ⟨g, lo, cap, _, rfl, h3, hroom, hcm, ?_, ?_⟩⟩, fun k hk => ⟨.inl (by rw [hk]; exact hS.1 g rfl), by rw [hk]; exact h3.lt⟩⟩)⟩
      · unfold over
        simp [List.length_take]
        omega
      · unfold over
        have hx1 : xs.length = n * ie.size := hown.1
        have hdrop : (cur.toList.take (lo * ie.size + n * ie.size)).drop (lo * ie.size) = xs := by
          rw [List.drop_take, Nat.add_sub_cancel_left]; exact htake
        have hl2 : lo * ie.size ≤ (cur.toList.take (lo * ie.size + n * ie.size)).length := by rw [List.length_take]; simp; omega
        rw [show ((cur.toList.take (lo * ie.size + n * ie.size) ++ news ++ cur.toList.drop (lo * ie.size + n * ie.size + news.length)).toArray).toList = cur.toList.take (lo * ie.size + n * ie.size) ++ (news ++ cur.toList.drop (lo * ie.size + n * ie.size + news.length)) from by simp]
        rw [List.drop_append_of_le_length hl2, hdrop, ← List.append_assoc, ← hlen]
        exact List.take_left
    · have holds : ∀ (j : Nat) v, xs[j]? = some v → w.cell? ((Addr.mk g (lo * ie.size) none).add j) = some v := fun j v hj => by
        obtain ⟨g', off, cap', e', hc⟩ := QF.cell hown hj
        cases e'
        rw [show (Addr.mk g (lo * ie.size) none).add j = ⟨g, lo * ie.size + j, none⟩ from addr_add g _ j]
        exact hc
      have := run_append_grow_src (P := P) w t tx ty e ie z ht hie hz (some ⟨g, lo * ie.size, none⟩) n cap xs (run_firstCells_some w.drew ie.size n ⟨g, lo * ie.size, none⟩ n cap xs hown.1 (fun j v hj => holds j v hj)) src m news hs (by omega) (by omega) (hfit cap (by omega))
      exact ⟨_, _, this, grown cap (by omega)⟩
variable {α : Type} {enc : α → List Value} {E size : Nat}
def qF (E size : Nat) (enc : α → List Value) (l : List α) : Nat → Value → Chunk := fun _ v => qcC E size v l.length (cellsL enc l)
def isLenS (P : Program) (o : Oper) : Bool := match o.op with
  | .call c => (match c.callee with
    | .builtin .len => (match c.args.toList, c.argTypes[0]? with
      | [_], some t => (match P.underlying t with
        | some (.slice _) => true
        | _ => false)
      | _, _ => false)
    | _ => false)
  | _ => false
theorem q_len (l : List α) : OpG P (isLenS P) lenX [.any 0 0] [((0, 0), .fam (qF E size enc l))] [] (.val (.int .i64 (l.length : Int))) [] := by
  intro o ho
  unfold isLenS at ho
  split at ho <;> try (cases ho; done)
  rename_i c hop
  split at ho <;> try (cases ho; done)
  rename_i hc
  split at ho <;> try (cases ho; done)
  rename_i x t' ha ht
  split at ho <;> try (cases ho; done)
  rename_i e' hT
  have hx' : lenX o = [x] := by unfold lenX; rw [hop]; exact ha
  rw [hx']
  refine ⟨fun q hq => by rw [hop]; simp [Op.operands, Call.operands, hc]; have := arr_one ha; rw [this]; simpa using hq, fun ε ρ R w hx hM => ?_⟩
  simp only [List.map_cons, List.map_nil, SV.dens, SV.den, List.cons.injEq, and_true] at hx
  have hM : Mem (qcC E size (ε 0 0).2 l.length (cellsL enc l) :: R) w := hM
  obtain ⟨a, c', hv⟩ := (Mem.qs hM 0 rfl).is
  have := x_len' (P := P) (ρ := ρ) (o := o) (w := w) hop hc (arr_one ha) ht (hx.trans hv) hT
  exact res_ok this ⟨ε 1, by simp only [SV.den], by rw [eset_self]; exact hM⟩
theorem sliceT_of {t n : Nat} (h : sliceT P t n = true) : ∃ e ie, P.underlying t = some (.slice e) ∧ P.info? e = some ie ∧ ie.size = n := by
  unfold sliceT at h
  split at h
  · rename_i e hT
    split at h
    · rename_i i hi; exact ⟨e, i, hT, hi, by simpa using h⟩
    · cases h
  · cases h
theorem q_idx {t : TypeId} {i : Nat} {k : IntKind} (l : List α) (hk : ∀ x, (enc x).length = size) (h0 : 0 < size) (hT : sliceT P t size = true) (hi : i < l.length) :
    OpG P (isIdx t) idxXY [.any 0 0, .val (.int k (i : Int))] [((0, 0), .fam (qF E size enc l))] [] (.elt 0 0 0 (i * size) 0) [] := by
  intro o ho
  unfold isIdx at ho
  split at ho <;> try (cases ho; done)
  rename_i t' x y hop
  have e1 := Nat.eq_of_beq_eq_true ho
  subst e1
  have hx' : idxXY o = [x, y] := by unfold idxXY; rw [hop]
  rw [hx']
  refine ⟨fun z hz => by rw [hop]; simp [Op.operands]; simpa using hz, fun ε ρ R w hx hM => ?_⟩
  simp only [List.map_cons, List.map_nil, SV.dens, SV.den, List.cons.injEq, and_true] at hx
  have hM : Mem (qcC E size (ε 0 0).2 l.length (cellsL enc l) :: R) w := hM
  have hq := Mem.qs hM 0 rfl
  have hlen : 0 < (cellsL enc l).length := by rw [cellsL_len hk]; exact Nat.mul_pos (by omega) h0
  obtain ⟨g, off, cap, hv, -⟩ := hq.cell (List.getElem?_eq_getElem hlen)
  obtain ⟨e', ie, hT1, hT2, hT3⟩ := sliceT_of hT
  have := x_idx0 (P := P) (v := undef) (w := w) hop (hx.1.trans hv) hx.2 hT1 hT2 hi
  refine res_ok this ⟨ε 1, ?_, by rw [eset_self]; exact hM⟩
  rw [eset_self]
  simp only [SV.den, hv, adOf, hT3, Nat.add_zero]
  rw [addr_add]
theorem q_load {t b j : Nat} {cs : List SV} {u : SV} (l : List α) (hu : partAt P t cs j = some u) (hc : ∀ (ε : Env) (i : Nat) (v : SV), cs[i]? = some v → (cellsL enc l)[b + i]? = some (v.den ε)) :
    OpG P (isLoad t) loadX [.elt 0 0 0 b j] [((0, 0), .fam (qF E size enc l))] [] u [] := by
  intro o ho
  unfold isLoad at ho
  split at ho <;> try (cases ho; done)
  rename_i t' x hop
  have e1 := Nat.eq_of_beq_eq_true ho
  subst e1
  have hx' : loadX o = [x] := by unfold loadX; rw [hop]
  rw [hx']
  refine ⟨fun z hz => by rw [hop]; simp [Op.operands]; simpa using hz, fun ε ρ R w hx hM => ?_⟩
  simp only [List.map_cons, List.map_nil, SV.dens, SV.den, List.cons.injEq, and_true] at hx
  have hM : Mem (qcC E size (ε 0 0).2 l.length (cellsL enc l) :: R) w := hM
  have hq := Mem.qs hM 0 rfl
  have := partAt_load (P := P) (w := w) (ρ := ρ) (o := o) (x := x) (B := (adOf (ε 0 0).2).block) (O := (adOf (ε 0 0).2).off + b) (ε := ε) hu (fun i u hi => by
    obtain ⟨g, off, cap, hv, hcell⟩ := hq.cell (hc ε i u hi)
    rw [hv]
    simp only [adOf]
    rw [Nat.add_assoc]; exact hcell) hop (hx.trans (by simp [Nat.add_assoc]))
  exact res_ok this ⟨ε 1, by rw [eset_self], by rw [eset_self]; exact hM⟩
def sliceX (o : Oper) : List Operand := match o.op with
  | .slice _ x (some y) _ _ => [x, y]
  | _ => []
theorem q_app {t e : TypeId} (l : List α) (x : α) (cs : List SV) (hcs : ∀ ε, SV.dens ε cs = enc x) (h1 : ∀ u ∈ enc x, u.oneCell' = true) (hk : (enc x).length = size) (hT : P.underlying t = some (.slice E)) (hi : infoB P E size = true) (hn : l.length + 1 ≤ 1073741824) :
    OpG P (isApp P t t) lenX [.any 0 0, .raw 0 1] [((0, 1), .row E size 1 (.deep cs) [])] [((0, 0), .fam (qF E size enc l))] (.any 1 0) [((1, 0), .fam (qF E size enc (l ++ [x])))] := by
  intro o ho
  obtain ⟨c, y, z, ho, hc, ha, hat, hx⟩ := isApp_of ho
  rw [hx]
  obtain ⟨i, zv, hi', hz, hsz, hzs, h0, hb⟩ := infoB_of hi
  refine ⟨fun q hq => by rw [ho]; simp [Op.operands, Call.operands, hc, ha]; simpa using hq, fun ε ρ R w hx hM => ?_⟩
  simp only [List.map_cons, List.map_nil, SV.dens, SV.den, List.cons.injEq, and_true] at hx
  obtain ⟨hx, hy⟩ := hx
  have hM : Mem (rowC E size (asSl (ε 0 1).2) 1 (SV.dens ε cs) :: qcC E size (ε 0 0).2 l.length (cellsL enc l) :: R) w := hM
  rw [hcs] at hM
  obtain ⟨c', hv⟩ := row_elem (hM.owns 0 rfl) 0 (by omega) h0
  have hrow := hM.owns 0 rfl
  have hS : Go.Src P size t (asSl (ε 0 1).2) 1 (enc x) w := by
    rw [hv]
    exact Go.Src.ofSlice (P := P) w hT _ 1 c' _ (by rw [hk, Nat.one_mul]) (fun j u' hj => by
      have := row_at hrow hj
      rw [adOf_asSl] at this
      rw [addr_add]; exact this) h1
  obtain ⟨v', w', hr, hm⟩ := Mem.appQ hM 1 rfl (ty := o.type) (bytes := i.bytes) hT (by rw [hi']; simp [hz, hsz]) hS (by omega) hzs (by simp only [maxLen]; omega) (by
    have : (l.length + 1) * i.bytes ≤ 1073741824 * 131072 := Nat.mul_le_mul hn hb
    omega)
  refine res_ok (x_append ho hc ha hat hx hy hr) ⟨fun _ => (0, v'), by simp only [SV.den, eset_at], ?_⟩
  have hm : Mem (rowC E size (asSl (ε 0 1).2) 1 (enc x) :: qcC E size v' (l.length + 1) (cellsL enc l ++ enc x) :: R) w' := hm
  have e1 : cellsL enc (l ++ [x]) = cellsL enc l ++ enc x := by unfold cellsL; simp
  show Mem (rowC E size (asSl (eset ε 1 (fun _ => (0, v')) 0 1).2) 1 (SV.dens (eset ε 1 fun _ => (0, v')) cs) :: qcC E size (eset ε 1 (fun _ => (0, v')) 1 0).2 (l ++ [x]).length (cellsL enc (l ++ [x])) :: R) w'
  rw [eset_at, eset_ne (show (0 : Nat) ≠ 1 by decide), hcs, e1, List.length_append]
  exact hm
def isNm (k : Nat) : Nat → Nat → Bool := fun s j => !(Nat.beq s 1 && Nat.beq j k)
end
end Go.Sx
end
section
namespace Go.Proofs.YtmhbpifhpolghaaGreat
open Go.RowKit Go.Lib Go.Tk Go.Shelf Go.Vc Go.Sx
def legsS : List Leg → List SV
  | [] => []
  | x :: l => legS' x ++ legsS l
def taxesS : List Tax → List SV
  | [] => []
  | x :: l => taxS' x ++ taxesS l
theorem legs_dens (ε : Env) : ∀ l : List Leg, SV.dens ε (legsS l) = cellsL encLeg l
  | [] => rfl
  | x :: l => by
    unfold legsS
    rw [dens_append, legs_dens ε l]; rfl
theorem taxes_dens (ε : Env) : ∀ l : List Tax, SV.dens ε (taxesS l) = cellsL encTax l
  | [] => rfl
  | x :: l => by
    unfold taxesS
    rw [dens_append, taxes_dens ε l]; rfl
def legD (n : Nat) (l : List Leg) : SC := .row 48 3 n (.deep (legsS l)) []
def taxD (n : Nat) (l : List Tax) : SC := .row 172 2 n (.deep (taxesS l)) []
def noTen : Nat → Nat → Bool := fun s k => !(Nat.beq s 0 && (Nat.beq k 9))
theorem row_sl {E size : Nat} {w : World} {v : Value} {n : Nat} {xs : List Value} (h : RowF E size w v n xs) : ∃ a c, v = .slice a n c ∧ SlOk a n c := by
  obtain ⟨-, ⟨h1, h2⟩ | ⟨g, cap, cur, h1, -⟩⟩ := h
  · exact ⟨none, 0, by rw [h1, h2], ⟨fun _ => ⟨h2, rfl⟩⟩⟩
  · exact ⟨_, cap, h1, ⟨fun e => by cases e⟩⟩
theorem raw2 {f : Nat} {args : SV → SV → List SV} {pre post : Heap} {ret : SV} {s : SaleV} (hargs : ∀ ε ε' x y x' y', SV.den ε x = SV.den ε' x' → SV.den ε y = SV.den ε' y' → (∀ s k, noTen s k = true → ε s k = ε' s k) → SV.dens ε (args x y) = SV.dens ε' (args x' y'))
    (h : ∀ (F : CF) (A : SaleA), (∀ b v, Rd (F b v) A.la (cellsL encLeg s.legs)) → (∀ b v, Rd (F b v) A.ta (cellsL encTax s.taxes)) → SlOk A.la s.legs.length A.lc → SlOk A.ta s.taxes.length A.tc →
      CallOK Tryz.prog f (args (.val (.slice A.la s.legs.length A.lc)) (.val (.slice A.ta s.taxes.length A.tc))) [((0, 9), .fam F)] pre ret post)
    (h1 : hok noTen pre = true) (h2 : ret.ok noTen = true) (h3 : hok noTen post = true) :
    CallOK Tryz.prog f (args (.raw 0 10) (.raw 0 11)) [((0, 10), legD s.legs.length s.legs), ((0, 11), taxD s.taxes.length s.taxes)] pre ret post := by
  intro ε R w hM
  have hM : Mem (rowC 48 3 (asSl (ε 0 10).2) s.legs.length (SV.dens ε (legsS s.legs)) :: rowC 172 2 (asSl (ε 0 11).2) s.taxes.length (SV.dens ε (taxesS s.taxes)) :: (hden ε pre ++ R)) w := hM
  rw [legs_dens, taxes_dens] at hM
  obtain ⟨la, lc, hvl, okl⟩ := row_sl (hM.owns 0 rfl)
  obtain ⟨ta, tc, hvt, okt⟩ := row_sl (hM.owns 1 rfl)
  rw [hvl, hvt] at hM
  have hc := h (fun _ _ => allC [rowC 48 3 (.slice la s.legs.length lc) s.legs.length (cellsL encLeg s.legs), rowC 172 2 (.slice ta s.taxes.length tc) s.taxes.length (cellsL encTax s.taxes)]) ⟨la, lc, ta, tc⟩
    (fun b v S w hS => by obtain ⟨F, f1, f2, f3⟩ := hS; exact rd_row _ _ (f2 0 _ rfl)) (fun b v S w hS => by obtain ⟨F, f1, f2, f3⟩ := hS; exact rd_row _ _ (f2 1 _ rfl)) okl okt
  have key : ∀ s k, noTen s k = true → ε s k = eset ε 0 (fun k => bif Nat.beq k 9 then (0, undef) else ε 0 k) s k := fun s k hs => by
    by_cases h0 : s = 0
    · subst h0
      rw [eset_at]
      cases hb : Nat.beq k 9 with
      | false => rfl
      | true => unfold noTen at hs; rw [hb] at hs; cases hs
    · rw [eset_ne h0]
  have hA : SV.dens ε (args (.raw 0 10) (.raw 0 11)) = SV.dens (eset ε 0 fun k => bif Nat.beq k 9 then (0, undef) else ε 0 k) (args (.val (.slice la s.legs.length lc)) (.val (.slice ta s.taxes.length tc))) :=
    hargs _ _ _ _ _ _ (by simp only [SV.den]; exact hvl) (by simp only [SV.den]; exact hvt) key
  rw [hA]
  have hM2 := Mem.in_all (l := [rowC 48 3 (.slice la s.legs.length lc) s.legs.length (cellsL encLeg s.legs), rowC 172 2 (.slice ta s.taxes.length tc) s.taxes.length (cellsL encTax s.taxes)]) hM
  rw [hden_congr key h1] at hM2
  refine (hc _ R w hM2).mono ?_
  rintro e w' ⟨x, rfl, hm⟩
  have key' : ∀ s k, noTen s k = true → eset ε 1 x s k = eset (eset ε 0 fun k => bif Nat.beq k 9 then (0, undef) else ε 0 k) 1 x s k := fun s k hs => by
    by_cases h0 : s = 1
    · subst h0; rw [eset_at, eset_at]
    · rw [eset_ne h0, eset_ne h0]; exact key s k hs
  refine ⟨x, by rw [SV.den_congr key' ret h2], ?_⟩
  have hm : Mem (allC [rowC 48 3 (.slice la s.legs.length lc) s.legs.length (cellsL encLeg s.legs), rowC 172 2 (.slice ta s.taxes.length tc) s.taxes.length (cellsL encTax s.taxes)] :: (hden (eset (eset ε 0 fun k => bif Nat.beq k 9 then (0, undef) else ε 0 k) 1 x) post ++ R)) w' := hm
  rw [← hden_congr key' h3] at hm
  have hm := hm.all
  show Mem ((legD s.legs.length s.legs).den (eset ε 1 x) 0 10 :: (taxD s.taxes.length s.taxes).den (eset ε 1 x) 0 11 :: (hden (eset ε 1 x) post ++ R)) w'
  simp only [legD, taxD, SC.den, SL.den, legs_dens, taxes_dens]
  rw [eset_ne (show (0 : Nat) ≠ 1 by decide), hvl, hvt]
  exact hm
theorem issue_args (s : SaleV) : ∀ ε ε' x y x' y', SV.den ε x = SV.den ε' x' → SV.den ε y = SV.den ε' y' → (∀ s k, noTen s k = true → ε s k = ε' s k) → SV.dens ε [.ptr 0 0 0, .agg (salS s x y)] = SV.dens ε' [.ptr 0 0 0, .agg (salS s x' y')] := fun ε ε' x y x' y' h1 h2 h3 => by
  simp only [SV.dens, SV.den, salS, h1, h2, h3 0 0 rfl]
theorem issue_okR {B : BookV} (hb : BookOk B) {s : SaleV} (ok : SaleOk s) (hm : B.issE s = 0) :
    CallOK Tryz.prog IssueF [.ptr 0 0 0, .agg (salS s (.raw 0 10) (.raw 0 11))] [((0, 10), legD s.legs.length s.legs), ((0, 11), taxD s.taxes.length s.taxes)] (bkC B) (.tup [.agg (docS (docMade B.nextT s) (.raw 1 0) (.raw 1 1) (.raw 1 2)), eN 0]) (bkC (B.issued s) ++ docR (docMade B.nextT s)) :=
  raw2 (args := fun x y => [.ptr 0 0 0, .agg (salS s x y)]) (issue_args s) (fun F A hl ht h1 h2 => issue_okC F hb ok hl ht h1 h2 hm) rfl rfl rfl
theorem book_new_ok (self n : Int) (h : 0 ≤ self ∧ self < n ∧ 2 ≤ n ∧ n ≤ 8) : BookOk (bookNew self n) := ⟨⟨h.1, h.2.1⟩, ⟨h.2.2.1, h.2.2.2⟩, fun i d hd => by simp [bookNew] at hd, by simp [bookNew]⟩
theorem callOK_pure {f : Nat} {args : List SV} {ret : SV} (h : ∀ ε w, Calls Tryz.prog f (SV.dens ε args).toArray w fun e w' => e = .returned (ret.den ε) ∧ Below w.heap.size w w') : CallOK Tryz.prog f args [] [] ret [] := by
  intro ε R w hM
  have hM : Mem R w := hM
  refine (h ε w).mono ?_
  rintro e w' ⟨rfl, hb⟩
  exact ⟨ε 1, by rw [eset_self], by rw [eset_self]; exact hM.kept hb⟩
theorem callOK_row1 {f E size n : Nat} {xs : List Value} {ret : SV} {post : Heap} (hr : ret.ok no0 = true) (hp : hok no0 post = true)
    (h : ∀ (F : CF) (a : Option Addr) (c : Nat), (∀ b v, Rd (F b v) a xs) → SlOk a n c → CallOK Tryz.prog f [.val (.slice a n c)] [((0, 0), .fam F)] [] ret post) :
    CallOK Tryz.prog f [.raw 0 0] [((0, 0), .row E size n (.shal xs) [])] [] ret post := by
  intro ε R w hM
  have hM : Mem (rowC E size (asSl (ε 0 0).2) n xs :: R) w := hM
  obtain ⟨a, c, hv, hok⟩ := row_sl (hM.owns 0 rfl)
  have hA : (SV.dens ε [.raw 0 0]).toArray = (SV.dens ε [.val (.slice a n c)]).toArray := by simp only [SV.dens, SV.den]; rw [hv]
  rw [hA]
  rw [hv] at hM
  refine (h (fun _ _ => rowC E size (.slice a n c) n xs) a c (fun b v S w hS => rd_row _ _ hS) hok ε R w hM).mono ?_
  rintro e w' ⟨x, rfl, hm⟩
  refine ⟨x, rfl, ?_⟩
  have hm : Mem (rowC E size (.slice a n c) n xs :: (hden (eset ε 1 x) post ++ R)) w' := hm
  show Mem (rowC E size (asSl (eset ε 1 x 0 0).2) n xs :: (hden (eset ε 1 x) post ++ R)) w'
  rw [eset_ne (show (0 : Nat) ≠ 1 by decide), hv]
  exact hm
end Go.Proofs.YtmhbpifhpolghaaGreat
end
