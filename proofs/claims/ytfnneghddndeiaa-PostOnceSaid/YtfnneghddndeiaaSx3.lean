/- SX: operations that look at memory, or lay new memory. -/
import Derived.Test.YtfnneghddndeiaaSx2
namespace Go.Sx
set_option linter.unusedVariables false
set_option linter.unusedSimpArgs false
open Go.RowKit Go.Tk Go.Lib Go.Shelf Go.Vc
def SV.one : SV → Bool
  | .val v => v.oneCell'
  | .agg _ => false
  | .tup _ => false
  | .any _ _ => false
  | _ => true
def cellsOf : SV → List SV
  | .agg cs => cs
  | v => [v]
theorem one_den {ε : Env} {v : SV} (h : v.one = true) : (v.den ε).oneCell' = true := by
  cases v <;> simp only [SV.one, SV.den] at h ⊢ <;> try rfl
  all_goals first
    | exact h
    | (cases h; done)
    | (unfold asSl; split <;> rfl)
    | (unfold winV; split <;> rfl)
theorem cells_one {v : Value} (h : v.oneCell' = true) : v.cells = #[v] := by cases v <;> first | rfl | cases h
theorem cells_den {ε : Env} {v : SV} (h : (cellsOf v).all SV.one = true) : (v.den ε).cells = (SV.dens ε (cellsOf v)).toArray := by
  have key : v.one = true → (v.den ε).cells = #[v.den ε] := fun h => cells_one (one_den h)
  cases v with
  | agg cs => simp [SV.den, cellsOf, Value.cells]
  | _ =>
    simp only [cellsOf, List.all_cons, List.all_nil, Bool.and_true] at h
    rw [key h]; simp [cellsOf, SV.dens]
theorem dens_one {ε : Env} {l : List SV} (h : l.all SV.one = true) : (SV.dens ε l).all (·.oneCell') = true := by
  rw [dens_map, List.all_map]
  exact List.all_eq_true.2 fun v hv => one_den (List.all_eq_true.1 h v hv)
theorem oks_cellsOf {p : Nat → Nat → Bool} {v : SV} (h : v.ok p = true) : SV.oks p (cellsOf v) = true := by
  cases v <;> simp only [cellsOf, SV.ok, SV.oks, Bool.and_true] at h ⊢ <;> exact h
def aggN (P : Program) (t : TypeId) : Option Nat := match P.info? t with
  | some i => bif aggT P t i.size then some i.size else none
  | none => none
def partAt (P : Program) (t : TypeId) (cs : List SV) (j : Nat) : Option SV :=
  bif plainT P t then cs[j]?
  else match aggN P t with
    | some n => bif Nat.beq ((cs.drop j).take n).length n then some (.agg ((cs.drop j).take n)) else none
    | none => none
theorem aggN_T {P : Program} {t n : Nat} (h : aggN P t = some n) : aggT P t n = true := by
  unfold aggN at h
  split at h
  · rename_i i hi
    cases hb : aggT P t i.size with
    | true => rw [hb] at h; cases h; exact hb
    | false => rw [hb] at h; cases h
  · cases h
section
variable {P : Program} {s : Nat} {o : Oper} {ev : Ev1} {ρ : Operand → Value} {ε : Env} {H : Heap} {out : Out} {w : World}
theorem partAt_load {t j B O : Nat} {x : Operand} {cs : List SV} {v : SV} (h : partAt P t cs j = some v) (hc : ∀ (i : Nat) u, cs[i]? = some u → w.cell? ⟨B, O + i, none⟩ = some (u.den ε)) (ho : o.op = .load t x) (hx : ρ x = .pointer (some ⟨B, O + j, none⟩)) :
    (execOp ρ o).run P w = .ok (.value (v.den ε)) w := by
  unfold partAt at h
  cases hb : plainT P t with
  | true => rw [hb] at h; exact x_load ho hx hb (hc j v h)
  | false =>
    rw [hb] at h
    simp only [cond_false] at h
    split at h <;> try (cases h; done)
    rename_i n hn
    cases hl : Nat.beq ((cs.drop j).take n).length n with
    | false => rw [hl] at h; cases h
    | true =>
      rw [hl] at h; cases h
      have hl := Nat.eq_of_beq_eq_true hl
      simp only [SV.den]
      refine x_loads ho hx (aggN_T hn) (load_at (by rw [dens_length]; exact hl) fun i u hi => ?_)
      rw [dens_get] at hi
      obtain ⟨y, hy, rfl⟩ := Option.map_eq_some_iff.1 hi
      have hin : i < n := by rw [← hl]; exact (List.getElem?_eq_some_iff.1 hy).1
      rw [List.getElem?_take_of_lt hin, List.getElem?_drop] at hy
      rw [Nat.add_assoc]
      exact hc _ y hy
theorem adOf_asSl (v : Value) : adOf (asSl v) = adOf v := by cases v <;> rfl
theorem row_at {E : TypeId} {size n i : Nat} {v u : Value} {xs : List Value} (h : RowF E size w v n xs) (hi : xs[i]? = some u) : w.cell? ⟨(adOf v).block, (adOf v).off + i, none⟩ = some u := by
  obtain ⟨a, c, rfl, hr, -⟩ := h.row
  obtain ⟨hl, hu⟩ := List.getElem?_eq_some_iff.1 hi
  obtain ⟨b, off, rfl, hc⟩ := hr i hl
  rw [List.getD_eq_getElem?_getD, hi] at hc
  exact hc
def findWin : List (Nat × Nat × List SV) → Nat → Option (Nat × List SV)
  | [], _ => none
  | (q, b, cs) :: l, p => bif Nat.beq q p then some (b, cs) else findWin l p
theorem findWin_mem {p : Nat} {y : Nat × List SV} : ∀ {l : List (Nat × Nat × List SV)}, findWin l p = some y → ∃ q, (q, y.1, y.2) ∈ l
  | [], h => by cases h
  | (q, b, cs) :: l, h => by
    unfold findWin at h
    cases hb : Nat.beq q p with
    | true => rw [hb] at h; cases h; exact ⟨q, List.mem_cons_self⟩
    | false => rw [hb] at h; obtain ⟨r, hr⟩ := findWin_mem h; exact ⟨r, List.mem_cons_of_mem _ hr⟩
def winAt (p b : Nat) (xs : SL) (ws : List (Nat × Nat × List SV)) : Option (List SV × Nat) :=
  match p with
  | 0 => match xs with
    | .deep l => some (l, 0)
    | .shal l => some (l.map SV.val, 0)
  | q => match findWin ws q with
    | some (b', cs) => some (cs, b')
    | none => none
def sLoad (P : Program) (H : Heap) (t : TypeId) (v : SV) : Option Out :=
  match v with
  | .ptr s k off => match hget H (s, k) with
    | .box _ cs => match partAt P t cs off with
      | some u => some ⟨u, [], [(s, k)], []⟩
      | none => none
    | _ => none
  | .elt s k p b j => match hget H (s, k) with
    | .row E size n xs ws => match winAt p b xs ws with
      | some (cs, b') => match partAt P t cs j with
        | some u => some ⟨u, [], [(s, k)], [(.nat b, .nat b')]⟩
        | none => none
      | none => none
    | _ => none
  | _ => none
theorem row_den {s k E size n : Nat} {xs : SL} {ws : List (Nat × Nat × List SV)} {R : List Chunk} (h : Mem ((SC.row E size n xs ws).den ε s k :: R) w) :
    RowF E size w (asSl (ε s k).2) n (xs.den ε) ∧ ∀ y ∈ ws, winOK (xs.den ε) y.2.1 (SV.dens ε y.2.2) := by
  cases ws with
  | nil => exact ⟨h.owns 0 rfl, fun y hy => by cases hy⟩
  | cons y ws => exact ⟨h.of (c := andC _ _) 0 rfl (fun S hS => hS.1.2), h.of (c := andC _ _) 0 rfl (fun S hS => hS.2)⟩
theorem win_cells {s k E size n p b b' : Nat} {xs : SL} {cs : List SV} {ws : List (Nat × Nat × List SV)} {R : List Chunk} (h : Mem ((SC.row E size n xs ws).den ε s k :: R) w) (hw : winAt p b xs ws = some (cs, b')) (i : Nat) (u : SV) (hi : cs[i]? = some u) :
    w.cell? ⟨(adOf (ε s k).2).block, (adOf (ε s k).2).off + b' + i, none⟩ = some (u.den ε) := by
  obtain ⟨h1, h2⟩ := row_den h
  have hu : (SV.dens ε cs)[i]? = some (u.den ε) := by rw [dens_get, hi]; rfl
  have hx : (xs.den ε)[b' + i]? = some (u.den ε) := by
    unfold winAt at hw
    split at hw
    · split at hw
      · cases hw; rw [Nat.zero_add]; exact hu
      · cases hw
        rw [Nat.zero_add]
        rw [dens_val] at hu
        exact hu
    · split at hw <;> try (cases hw; done)
      rename_i b2 cs2 hf
      cases hw
      obtain ⟨q', hq⟩ := findWin_mem hf
      have h3 : winOK (xs.den ε) b' (SV.dens ε cs) := h2 _ hq
      unfold winOK at h3
      have h4 : (((xs.den ε).drop b').take (SV.dens ε cs).length)[i]? = some (u.den ε) := by rw [h3]; exact hu
      rw [List.getElem?_take_of_lt ((List.getElem?_eq_some_iff.1 hu).1), List.getElem?_drop] at h4
      exact h4
  have := row_at h1 hx
  rw [adOf_asSl, ← Nat.add_assoc] at this
  exact this
theorem sLoad_ok {t : TypeId} {x : Operand} {v : SV} (ho : o.op = .load t x) (hx : ρ x = v.den ε) (h : sLoad P H t v = some out) (hk : ChkOK out.chk) : Sound P s o ρ ε H out := by
  unfold sLoad at h
  split at h
  · rename_i s' k off
    split at h <;> try (cases h; done)
    rename_i q cs hg
    split at h <;> try (cases h; done)
    rename_i u hu
    cases h
    refine sound_pure fun R w hM => ?_
    simp only [tden, List.map_cons, List.map_nil, hg, SC.den, List.cons_append, List.nil_append] at hM
    refine partAt_load (B := (ε s' k).1) (O := 0) hu (fun i u hi => ?_) ho (hx.trans (by simp [SV.den]))
    rw [Nat.zero_add]
    refine (hM.box 0 rfl).cell i ?_
    rw [List.getElem?_toArray, dens_get, hi]; rfl
  · rename_i s' k p b j
    split at h <;> try (cases h; done)
    rename_i E size n xs ws hg
    split at h <;> try (cases h; done)
    rename_i cs b' hw
    split at h <;> try (cases h; done)
    rename_i u hu
    cases h
    have hb : b = b' := by have := hk _ List.mem_cons_self; simpa using this
    subst hb
    refine sound_pure fun R w hM => ?_
    simp only [tden, List.map_cons, List.map_nil, hg, List.cons_append, List.nil_append] at hM
    exact partAt_load hu (win_cells hM hw) ho (hx.trans (by simp [SV.den, Nat.add_assoc]))
  · cases h
def overS (cs : List SV) (off : Nat) (nc : List SV) : List SV := cs.take off ++ nc ++ cs.drop (off + nc.length)
theorem overS_den (ε : Env) (cs : List SV) (off : Nat) (nc : List SV) : over (SV.dens ε cs).toArray off (SV.dens ε nc) = (SV.dens ε (overS cs off nc)).toArray := by
  unfold over overS
  simp [dens_map]
def sizeIs (P : Program) (t n : Nat) : Bool := match P.info? t with
  | some i => Nat.beq i.size n
  | none => false
theorem sizeIs_ok {t n : Nat} (h : sizeIs P t n = true) : (P.info? t).map (·.size) = some n := by
  unfold sizeIs at h
  split at h
  · rename_i i hi; rw [hi, Option.map_some, Nat.eq_of_beq_eq_true h]
  · cases h
def overL (xs : SL) (b : Nat) (cs : List SV) : Option SL := match xs with
  | .deep l => some (.deep (overS l b cs))
  | .shal l => match plains cs with
    | some vs => some (.shal (over l.toArray b vs).toList)
    | none => none
theorem overL_den {xs xs' : SL} {b : Nat} {cs : List SV} (h : overL xs b cs = some xs') (ε : Env) : xs'.den ε = (over (xs.den ε).toArray b (SV.dens ε cs)).toList := by
  unfold overL at h
  split at h
  · cases h
    show SV.dens ε _ = _
    rw [show (SL.deep _).den ε = SV.dens ε _ from rfl, overS_den]
  · split at h <;> try (cases h; done)
    rename_i vs hvs
    cases h
    rw [plains_den ε cs vs hvs]; rfl
def sStore (P : Program) (H : Heap) (t : TypeId) (v : SV) (u : SV) : Option Out :=
  bif (cellsOf u).all SV.one && sizeIs P t (cellsOf u).length then
    match v with
    | .ptr s k off => match hget H (s, k) with
      | .box q cs => bif Nat.ble (off + (cellsOf u).length) cs.length then some ⟨.val undef, [((s, k), .box q (overS cs off (cellsOf u)))], [], []⟩ else none
      | _ => none
    | .elt s k p b j => match hget H (s, k) with
      | .row E size n xs ws => match p with
        | 0 => match xs with
          | .deep xs => bif Nat.ble (j + (cellsOf u).length) xs.length && Nat.blt 0 xs.length then some ⟨.val undef, [((s, k), .row E size n (.deep (overS xs j (cellsOf u))) [])], [], [(.nat b, .nat 0)]⟩ else none
          | .shal _ => none
        | q => match findWin ws q with
          | some (b', cs) => bif Nat.ble (j + (cellsOf u).length) cs.length && Nat.blt 0 cs.length then (match overL xs b' (overS cs j (cellsOf u)) with
              | some xs' => some ⟨.val undef, [((s, k), .row E size n xs' [(q, b', overS cs j (cellsOf u))])], [], [(.nat b, .nat b')]⟩
              | none => none) else none
          | none => none
      | _ => none
    | _ => none
  else none
theorem over_over {xs cs nc : List Value} {b j : Nat} (hw : winOK xs b cs) (hl : b + cs.length ≤ xs.length) (hj : j + nc.length ≤ cs.length) :
    (over xs.toArray (b + j) nc).toList = (over xs.toArray b (over cs.toArray j nc).toList).toList := by
  unfold winOK at hw
  unfold over
  simp only [List.append_assoc]
  have e1 : xs.take (b + j) = xs.take b ++ cs.take j := by
    rw [List.take_add]
    congr 1
    rw [← hw, List.take_take, Nat.min_eq_left (by omega)]
  have e2 : xs.drop (b + j + nc.length) = cs.drop (j + nc.length) ++ xs.drop (b + cs.length) := by
    have e3 := (List.take_append_drop (cs.length - (j + nc.length)) (xs.drop (b + j + nc.length))).symm
    rw [e3]
    congr 1
    · have e4 : cs.drop (j + nc.length) = ((xs.drop b).take cs.length).drop (j + nc.length) := by rw [hw]
      rw [e4, List.drop_take, List.drop_drop, Nat.add_assoc]
    · rw [List.drop_drop]; congr 1; omega
  rw [e1, e2]
  simp [List.length_take, List.length_drop]
  congr 5
  omega
theorem winOK_self {xs cs : List Value} {b : Nat} (hl : b + cs.length ≤ xs.length) : winOK (over xs.toArray b cs).toList b cs := by
  unfold winOK over
  simp only [List.append_assoc]
  rw [List.drop_append_of_le_length (by rw [List.length_take]; omega)]
  have : (xs.take b).drop b = [] := List.drop_eq_nil_of_le (by rw [List.length_take]; omega)
  rw [this, List.nil_append, List.take_left]
theorem winOK_len {xs cs : List Value} {b : Nat} (h : winOK xs b cs) (h0 : 0 < cs.length) : b + cs.length ≤ xs.length := by
  unfold winOK at h
  have := congrArg List.length h
  rw [List.length_take, List.length_drop] at this
  omega
attribute [-go_sem] Value.cells in
theorem Mem.storeRow {cs : List Chunk} {w : World} (h : Mem cs w) (i : Nat) {E size n : Nat} {v : Value} {xs : List Value} (hi : cs[i]? = some (rowC E size v n xs)) (t : TypeId) (off : Nat) (u : Value) (cells : List Value) (hv : u.cells = cells.toArray)
    (ht : (P.info? t).map (·.size) = some cells.length) (hl : off + cells.length ≤ xs.length) (h1 : cells.all (·.oneCell') = true) (h0 : 0 < xs.length) :
    ∃ w', Sem.run P (Instr.storeAt t (.pointer (some ⟨(adOf v).block, (adOf v).off + off, none⟩)) u) w = .ok () w' ∧ Mem (cs.set i (rowC E size v n (over xs.toArray off cells).toList)) w' := by
  have hb := h.owns i hi
  obtain ⟨hlen, ⟨h1', h2⟩ | ⟨g, cap, cur, rfl, hbx, hnc, hcm, hcs, htake⟩⟩ := hb
  · subst h2; simp at hlen; rw [hlen] at h0; simp at h0
  have hxl : xs.length ≤ cur.size := by rw [hlen, hcs]; exact Nat.mul_le_mul_right _ hnc
  obtain ⟨w', h4, h2, h3⟩ := run_storeCells P cells off 0 cur w hbx (by omega) h1
  rw [Nat.add_zero] at h3
  have hxc : xs = cur.toList.take xs.length := by rw [hlen]; exact htake.symm
  refine ⟨w', ?_, h.step i hi (fun S hS hlt => ⟨h2.mono (fun k _ e => by rw [e]; exact hS.1 g rfl), fun k => k = g, ⟨fun g' hg => by cases hg; rfl, ?_, .inr ⟨g, cap, _, rfl, h3, hnc, hcm, ?_, ?_⟩⟩, fun k hk => ⟨.inl (by rw [hk]; exact hS.1 g rfl), by rw [hk]; exact h3.lt⟩⟩)⟩
  · obtain ⟨i0, hi0, hs0⟩ := Option.map_eq_some_iff.1 ht
    have hv2 : u.cells.size = cells.length := by rw [hv]; simp
    have hv3 : u.cells.toList = cells := by rw [hv]
    simp [Instr.storeAt, Instr.sureAddr, storeVar, sizeOf, typeInfo, go_sem, hi0, hs0, adOf, hv2, hv3, h4]
  · rw [← hlen]; unfold over; simp [List.length_take]; omega
  · rw [← hcs]; unfold over; simp [List.length_take]; omega
  · rw [← hlen]
    unfold over
    simp only [List.append_assoc]
    rw [List.take_append, List.take_append]
    simp only [List.length_take, Array.length_toList]
    have e1 : min off cur.size = off := by omega
    have e2 : (cur.toList.take off).take xs.length = xs.take off := by
      have e5 : xs.take off = (cur.toList.take xs.length).take off := by rw [← hxc]
      rw [e5, List.take_take, List.take_take, Nat.min_comm]
    have e3 : cells.take (xs.length - off) = cells := List.take_of_length_le (by omega)
    rw [e1, e2, e3]
    congr 2
    have : xs.drop (off + cells.length) = (cur.toList.take xs.length).drop (off + cells.length) := by rw [← hxc]
    rw [this, List.drop_take]
    congr 1; omega
end
end Go.Sx
