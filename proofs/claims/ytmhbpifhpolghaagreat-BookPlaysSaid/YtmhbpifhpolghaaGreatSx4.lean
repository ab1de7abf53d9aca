/- SX: stores, new memory, parts. -/
import Derived.Test.YtmhbpifhpolghaaGreatM7a1dcb2
namespace Go.Sx
set_option linter.unusedVariables false
set_option linter.unusedSimpArgs false
open Go.RowKit Go.Tk Go.Lib Go.Shelf Go.Vc
section
variable {P : Program} {s : Nat} {o : Oper} {ev : Ev1} {ρ : Operand → Value} {ε : Env} {H : Heap} {out : Out} {w : World}
theorem row_plain {s k E size n : Nat} {xs : SL} {ws : List (Nat × Nat × List SV)} {R : List Chunk} (h : Mem ((SC.row E size n xs ws).den ε s k :: R) w) : Mem (rowC E size (asSl (ε s k).2) n (xs.den ε) :: R) w := by
  cases ws with
  | nil => exact h
  | cons y ws => exact Mem.weaken (c := andC _ _) h fun S hS => hS.1
theorem toList_overS (ε : Env) (cs : List SV) (off : Nat) (nc : List SV) : (over (SV.dens ε cs).toArray off (SV.dens ε nc)).toList = SV.dens ε (overS cs off nc) := by rw [overS_den]
theorem overS_length {cs nc : List SV} {off : Nat} (h : off + nc.length ≤ cs.length) : (overS cs off nc).length = cs.length := by
  unfold overS; simp [List.length_take]; omega
theorem sStore_ok {t : TypeId} {x y : Operand} {v u : SV} (ho : o.op = .store t x y) (hx : ρ x = v.den ε) (hy : ρ y = u.den ε) (h : sStore P H t v u = some out) (hk : ChkOK out.chk) : Sound P s o ρ ε H out := by
  unfold sStore at h
  cases hc : (cellsOf u).all SV.one && sizeIs P t (cellsOf u).length with
  | false => rw [hc] at h; cases h
  | true =>
    rw [hc] at h
    rw [Bool.and_eq_true] at hc
    have h1 := dens_one (ε := ε) hc.1
    have hv := cells_den (ε := ε) hc.1
    have ht : (P.info? t).map (·.size) = some (SV.dens ε (cellsOf u)).length := by rw [dens_length]; exact sizeIs_ok hc.2
    simp only [cond_true] at h
    split at h
    · rename_i s' k off
      split at h <;> try (cases h; done)
      rename_i q cs hg
      cases hb : Nat.ble (off + (cellsOf u).length) cs.length with
      | false => rw [hb] at h; cases h
      | true =>
        rw [hb] at h; cases h
        have hb := Nat.le_of_ble_eq_true hb
        intro R w hM
        simp only [Out.touch, names, tden, List.map_cons, List.map_nil, List.append_nil, hg, SC.den, List.cons_append, List.nil_append] at hM
        obtain ⟨w', hr, hm⟩ := Mem.store (P := P) hM 0 rfl t off (u.den ε) (SV.dens ε (cellsOf u)) hv ht (by simp [dens_length]; omega) h1
        refine res_st (x_store ho (hx.trans (by simp [SV.den])) hy hr) (after_same (by simp [SV.den]) ?_)
        simpa only [hden, tden, List.map_cons, List.map_nil, SC.den, List.cons_append, List.nil_append, ← overS_den, List.set_cons_zero] using hm
    · rename_i s' k p b j
      split at h <;> try (cases h; done)
      rename_i E size n xs ws hg
      split at h
      · split at h <;> try (cases h; done)
        rename_i xs
        cases hb : Nat.ble (j + (cellsOf u).length) xs.length && Nat.blt 0 xs.length with
        | false => rw [hb] at h; cases h
        | true =>
          rw [hb] at h; cases h
          rw [Bool.and_eq_true] at hb
          have h0 : 0 < xs.length := by have := hb.2; rwa [Nat.blt_eq] at this
          have hb := Nat.le_of_ble_eq_true hb.1
          have hb0 : b = 0 := by have := hk _ List.mem_cons_self; simpa using this
          subst hb0
          intro R w hM
          simp only [Out.touch, names, tden, List.map_cons, List.map_nil, List.append_nil, hg, List.cons_append, List.nil_append] at hM
          have hM : Mem (rowC E size (asSl (ε s' k).2) n (SV.dens ε xs) :: R) w := row_plain hM
          obtain ⟨w', hr, hm⟩ := Mem.storeRow (P := P) hM 0 rfl t j (u.den ε) (SV.dens ε (cellsOf u)) hv ht (by simp [dens_length]; omega) h1 (by rw [dens_length]; exact h0)
          rw [adOf_asSl] at hr
          refine res_st (x_store ho (hx.trans (by simp [SV.den])) hy hr) (after_same (by simp [SV.den]) ?_)
          simpa only [hden, tden, List.map_cons, List.map_nil, SC.den, SL.den, List.cons_append, List.nil_append, ← toList_overS, List.set_cons_zero] using hm
      · rename_i q hq
        split at h <;> try (cases h; done)
        rename_i b' cs hf
        cases hb : Nat.ble (j + (cellsOf u).length) cs.length && Nat.blt 0 cs.length with
        | false => rw [hb] at h; cases h
        | true =>
          rw [hb] at h
          simp only [cond_true] at h
          split at h <;> try (cases h; done)
          rename_i xs' hov
          cases h
          rw [Bool.and_eq_true] at hb
          have hb1 := Nat.le_of_ble_eq_true hb.1
          have hb2 : 0 < cs.length := by have := hb.2; rwa [Nat.blt_eq] at this
          have hb0 : b = b' := by have := hk _ List.mem_cons_self; simpa using this
          subst hb0
          intro R w hM
          simp only [Out.touch, names, tden, List.map_cons, List.map_nil, List.append_nil, hg, List.cons_append, List.nil_append] at hM
          have hwn := (row_den hM).2
          have hM := row_plain hM
          obtain ⟨q', hq'⟩ := findWin_mem hf
          have hw1 : winOK (xs.den ε) b (SV.dens ε cs) := hwn _ hq'
          have hl := winOK_len hw1 (by rw [dens_length]; exact hb2)
          simp only [dens_length] at hl
          obtain ⟨w', hr, hm⟩ := Mem.storeRow (P := P) hM 0 rfl t (b + j) (u.den ε) (SV.dens ε (cellsOf u)) hv ht (by simp [dens_length]; omega) h1 (by omega)
          rw [adOf_asSl] at hr
          refine res_st (x_store ho (hx.trans (by simp [SV.den])) hy hr) (after_same (by simp [SV.den]) ?_)
          rw [over_over hw1 (by simp [dens_length]; omega) (by simp [dens_length]; omega), toList_overS, ← overL_den hov ε] at hm
          have hm : Mem (rowC E size (asSl (ε s' k).2) n (xs'.den ε) :: R) w' := hm
          refine Mem.weaken hm fun S hS => ⟨hS, fun y hy => ?_⟩
          obtain rfl := List.mem_singleton.1 hy
          rw [overL_den hov ε]
          exact winOK_self (by rw [dens_length, overS_length hb1]; exact hl)
    · cases h
def sAlloc (P : Program) (s : Nat) (t : TypeId) : Option Out := match P.info? t with
  | some i => match i.zero with
    | some z => some ⟨.ptr s 0 0, [((s, 0), .box none (z.cells.toList.map .val))], [], []⟩
    | none => none
  | none => none
theorem mem_new {ε : Env} {H : Heap} {T : List Nm} {R : List Chunk} (h : Mem (tden ε H T ++ R) w) (vs : Array Value) (E : TypeId) : Mem (boxC w.heap.size vs :: R) (w.alloc (.cells vs E)) := (mem_app h).alloc vs E
theorem sAlloc_ok {t : TypeId} (ho : o.op = .alloc t) (h : sAlloc P s t = some out) : Sound P s o ρ ε H out := by
  unfold sAlloc at h
  split at h <;> try (cases h; done)
  rename_i i hi
  split at h <;> try (cases h; done)
  rename_i z hz
  cases h
  intro R w hM
  have hm := mem_new hM z.cells t
  refine res_ok (x_alloc (z := z) ho (by rw [hi]; exact hz)) ⟨fun _ => (w.heap.size, undef), by simp [SV.den, eset_at], ?_⟩
  simpa only [hden, tden, List.map_cons, List.map_nil, SC.den, List.cons_append, List.nil_append, eset_at, dens_val, Array.toArray_toList] using hm
def sBox (s : Nat) (u : SV) : Option Out :=
  bif (cellsOf u).all SV.one then some ⟨.ptr s 0 0, [((s, 0), .box none (cellsOf u))], [], []⟩ else none
theorem sBox_ok {t : TypeId} {x : Operand} {u : SV} (ho : o.op = .box t x) (hx : ρ x = u.den ε) (hu : u.ok (ltB s) = true) (h : sBox s u = some out) : Sound P s o ρ ε H out := by
  unfold sBox at h
  cases hc : (cellsOf u).all SV.one with
  | false => rw [hc] at h; cases h
  | true =>
    rw [hc] at h; cases h
    intro R w hM
    have hm := mem_new hM (u.den ε).cells t
    refine res_ok (x_box ho hx) ⟨fun _ => (w.heap.size, undef), by simp [SV.den, eset_at], ?_⟩
    simp only [hden, tden, List.map_cons, List.map_nil, SC.den, List.cons_append, List.nil_append, eset_at]
    rw [dens_eset (oks_cellsOf hu), ← cells_den hc]
    exact hm
def sfill (place : Nat → Option (Nat × Nat)) (cells : List SV) : List (Nat × SV) → Option (List SV)
  | [] => some cells
  | (i, v) :: rest => match place i with
    | none => none
    | some (off, size) => bif (cellsOf v).all SV.one && (Nat.beq (cellsOf v).length size && Nat.ble (off + (cellsOf v).length) cells.length) then sfill place (overS cells off (cellsOf v)) rest else none
theorem foldl_zip (off : Nat) : ∀ (l : List Value) (k : Nat) (arr : Array Value), off + k + l.length ≤ arr.size → (l.zipIdx k).foldl (fun (cs : Array Value) (x : Value × Nat) => cs.setIfInBounds (off + x.2) x.1) arr = over arr (off + k) l
  | [], k, arr, _ => by unfold over; simp
  | v :: l, k, arr, h => by
    simp at h
    rw [List.zipIdx_cons, List.foldl_cons, foldl_zip off l (k + 1) _ (by simp; omega), ← Nat.add_assoc, over_cons (by omega)]
theorem sfill_den (ε : Env) {place : Nat → Option (Nat × Nat)} : ∀ {parts : List (Nat × SV)} {cells r : List SV}, sfill place cells parts = some r → Instr.fill place (SV.dens ε cells).toArray (parts.map fun x => (x.1, x.2.den ε)) = some (SV.dens ε r).toArray
  | [], cells, r, h => by cases h; rfl
  | (i, v) :: rest, cells, r, h => by
    unfold sfill at h
    split at h
    · cases h
    · rename_i off size hp
      cases hb : (cellsOf v).all SV.one && (Nat.beq (cellsOf v).length size && Nat.ble (off + (cellsOf v).length) cells.length) with
      | false => rw [hb] at h; cases h
      | true =>
        rw [hb] at h
        rw [Bool.and_eq_true, Bool.and_eq_true] at hb
        have e1 := Nat.eq_of_beq_eq_true hb.2.1
        have e2 := Nat.le_of_ble_eq_true hb.2.2
        have ih := sfill_den ε h
        have hv := cells_den (ε := ε) hb.1
        show (match place i with | none => none | some (off, size) => if (v.den ε).cells.size ≠ size || off + (v.den ε).cells.size > (SV.dens ε cells).toArray.size then none else Instr.fill place ((v.den ε).cells.zipIdx.foldl (fun cs (c, j) => cs.setIfInBounds (off + j) c) (SV.dens ε cells).toArray) (rest.map fun x : Nat × SV => (x.1, x.2.den ε))) = _
        rw [hp, hv]
        simp only [List.size_toArray, dens_length]
        rw [if_neg (by simp [e1]; omega)]
        rw [← ih]
        congr 1
        rw [← Array.foldl_toList, Array.toList_zipIdx]
        have := foldl_zip off (SV.dens ε (cellsOf v)) 0 (SV.dens ε cells).toArray (by simp [dens_length]; omega)
        rw [Nat.add_zero, overS_den] at this
        exact this
def sBuilt (P : Program) (t : TypeId) (parts : List (Nat × SV)) : Option (List SV) :=
  match P.info? t, P.underlying t with
  | some it, some (.array _ e) =>
    match it.zero, P.info? e with
    | some z, some ie => sfill (fun i => some (i * ie.size, ie.size)) (z.cells.toList.map .val) parts
    | _, _ => none
  | some it, some (.struct fields) =>
    match it.zero, fields.toList.mapM (fun f => (P.info? f.type).map fun i => (f.offset, i.size)) with
    | some z, some places => sfill (fun i => places[i]?) (z.cells.toList.map .val) parts
    | _, _ => none
  | _, _ => none
theorem sBuilt_den (ε : Env) {t : TypeId} {parts : List (Nat × SV)} {r : List SV} (h : sBuilt P t parts = some r) : P.built t (parts.map fun x => (x.1, x.2.den ε)) = some (SV.dens ε r).toArray := by
  unfold sBuilt at h
  unfold Program.built
  split at h
  · rename_i it n e hi hu
    split at h <;> try (cases h; done)
    rename_i z ie hz hie
    have := sfill_den ε h
    rw [dens_val, Array.toArray_toList] at this
    simp only [hi, hu, hz, hie]
    exact this
  · rename_i it fields hi hu
    split at h <;> try (cases h; done)
    rename_i z places hz hp
    have := sfill_den ε h
    rw [dens_val, Array.toArray_toList] at this
    simp only [hi, hu, hz, hp]
    simpa using this
  · cases h
def evp (ev : Ev1) : List (Nat × Operand) → Option (List (Nat × SV))
  | [] => some []
  | (i, x) :: l => match ev x with
    | some v => match evp ev l with
      | some vs => some ((i, v) :: vs)
      | none => none
    | none => none
theorem evp_ok {p : Nat → Nat → Bool} : ∀ {l : List (Nat × Operand)} {vs : List (Nat × SV)}, evp ev l = some vs → (∀ x ∈ l.map (·.2), ∀ v, ev x = some v → ρ x = v.den ε ∧ v.ok p = true) → l.map (fun x => (x.1, ρ x.2)) = vs.map (fun x => (x.1, x.2.den ε)) ∧ ∀ y ∈ vs, y.2.ok p = true
  | [], vs, h, _ => by cases h; simp
  | (i, x) :: l, vs, h, hx => by
    unfold evp at h
    split at h <;> try (cases h; done)
    rename_i v hv
    split at h <;> try (cases h; done)
    rename_i us hus
    cases h
    have h1 := hx x (by simp) v hv
    have h2 := evp_ok hus fun y hy => hx y (by simp at hy ⊢; exact .inr hy)
    refine ⟨by simp [h1.1, h2.1], fun y hy => ?_⟩
    rcases List.mem_cons.1 hy with rfl | hy
    · exact h1.2
    · exact h2.2 y hy
def sBuild (P : Program) (ev : Ev1) (t : TypeId) (ps : Array (Nat × Operand)) : Option Out := match evp ev ps.toList with
  | some vs => match sBuilt P t vs with
    | some cs => some ⟨.agg cs, [], [], []⟩
    | none => none
  | none => none
theorem sBuild_ok {t : TypeId} {ps : Array (Nat × Operand)} (ho : o.op = .build t ps) (h : sBuild P ev t ps = some out) (hev : EvOK ev o ρ ε s) : Sound P s o ρ ε H out := by
  unfold sBuild at h
  split at h <;> try (cases h; done)
  rename_i vs hvs
  split at h <;> try (cases h; done)
  rename_i cs hcs
  cases h
  have h1 := (evp_ok (p := ltB s) (ε := ε) (ρ := ρ) hvs fun x hx v hv => hev x (by rw [ho]; simpa [Op.operands] using hx) v hv).1
  refine sound_pure fun R w hM => ?_
  unfold execOp
  rw [ho]
  have e : (ps.map fun (i, x) => (i, ρ x)).toList = vs.map fun x => (x.1, x.2.den ε) := by rw [← h1, Array.toList_map]
  have := run_build w t (ps.map fun (i, x) => (i, ρ x)) (SV.dens ε cs).toArray (by rw [e]; exact sBuilt_den ε hcs)
  simp [this, SV.den]
def zerosOf (z : Value) (n : Nat) : List SV := (List.range n).map fun i => .val (z.cells.toList.getD (i % z.cells.toList.length) undef)
theorem zerosOf_den (ε : Env) (z : Value) (n : Nat) (hz : 0 < z.cells.size ∨ n = 0) : (SV.dens ε (zerosOf z n)).toArray = (Array.range n).map (z.cells[· % z.cells.size]!) := by
  apply Array.ext'
  simp only [dens_map, zerosOf, List.map_map, Array.toList_map, Array.toList_range]
  refine List.map_congr_left fun i hi => ?_
  rw [List.mem_range] at hi
  have hzp : 0 < z.cells.size := hz.resolve_right (by omega)
  have hlt : i % z.cells.size < z.cells.size := Nat.mod_lt _ hzp
  simp only [Function.comp, SV.den]
  rw [getElem!_pos z.cells (i % z.cells.size) hlt, Array.length_toList, List.getD_eq_getElem?_getD]
  simp [hlt]
def sBuildS (P : Program) (ev : Ev1) (s : Nat) (t : TypeId) (n : Nat) (ps : Array (Nat × Operand)) : Option Out := match P.underlying t with
  | some (.slice e) => match P.info? e with
    | some ie => match ie.zero with
      | some z => match evp ev ps.toList with
        | some vs => bif Nat.ble (n * ie.size) 16777216 && (Nat.ble n 1073741824 && (Nat.beq z.cells.size ie.size && Nat.blt 0 ie.size)) then match sfill (fun i => some (i * ie.size, ie.size)) (zerosOf z (n * ie.size)) vs with
            | some cs => bif Nat.beq cs.length (n * ie.size) then some ⟨.raw s 0, [((s, 0), .row e ie.size n (.deep cs) [])], [], []⟩ else none
            | none => none
          else none
        | none => none
      | none => none
    | none => none
  | _ => none
theorem run_buildSlice0 (w : World) (t e : TypeId) (ie : TypeInfo) (hu : P.underlying t = some (.slice e)) (hie : P.info? e = some ie) :
    (Instr.buildSlice t 0 #[]).run P w = .ok (.slice (some ⟨w.heap.size, 0, none⟩) 0 0) (w.alloc (.cells #[] e)) := by
  simp [Instr.buildSlice, run_underlying hu, sizeOf, typeInfo, hie, newRow, Instr.fill, Array.range_zero']
theorem maxLen_big : (1073741824 : Nat) ≤ maxLen := by unfold maxLen; decide
theorem mem_newRow {ε : Env} {H : Heap} {T : List Nm} {R : List Chunk} (h : Mem (tden ε H T ++ R) w) {e size n : Nat} {cells : List Value} (hl : cells.length = n * size) (hn : n ≤ 1073741824) :
    Mem (rowC e size (.slice (some ⟨w.heap.size, 0, none⟩) n n) n cells :: R) (w.alloc (.cells cells.toArray e)) :=
  (mem_app h).fresh (below_alloc _ _) (fun k => k = w.heap.size) ⟨fun g hg => by cases hg; rfl, hl, .inr ⟨_, n, cells.toArray, rfl, ⟨e, (0, 0), (fun x hx => by cases hx; rfl), show (w.heap.push _)[w.heap.size]? = _ from Array.getElem?_push_size, noFz_none _⟩, Nat.le_refl _, Nat.le_trans hn maxLen_big, by simpa using hl, by rw [← hl]; simp⟩⟩ (fun k hk => by subst hk; exact ⟨Nat.le_refl _, by simp⟩)
theorem sfill_oks {p : Nat → Nat → Bool} {place : Nat → Option (Nat × Nat)} : ∀ {parts : List (Nat × SV)} {cells r : List SV}, sfill place cells parts = some r → SV.oks p cells = true → (∀ y ∈ parts, y.2.ok p = true) → SV.oks p r = true
  | [], cells, r, h, hc, _ => by cases h; exact hc
  | (i, v) :: rest, cells, r, h, hc, hp => by
    unfold sfill at h
    split at h
    · cases h
    · rename_i off size hpl
      cases hb : (cellsOf v).all SV.one && (Nat.beq (cellsOf v).length size && Nat.ble (off + (cellsOf v).length) cells.length) with
      | false => rw [hb] at h; cases h
      | true =>
        rw [hb] at h
        refine sfill_oks h ?_ fun y hy => hp y (List.mem_cons_of_mem _ hy)
        have hv := oks_cellsOf (hp (i, v) List.mem_cons_self)
        rw [oks_all] at hc hv ⊢
        refine List.all_eq_true.2 fun x hx => ?_
        unfold overS at hx
        rcases List.mem_append.1 hx with hx | hx
        · rcases List.mem_append.1 hx with hx | hx
          · exact List.all_eq_true.1 hc x (List.mem_of_mem_take hx)
          · exact List.all_eq_true.1 hv x hx
        · exact List.all_eq_true.1 hc x (List.mem_of_mem_drop hx)
theorem oks_zeros {p : Nat → Nat → Bool} (z : Value) (n : Nat) : SV.oks p (zerosOf z n) = true := by
  rw [oks_all]
  refine List.all_eq_true.2 fun v hv => ?_
  unfold zerosOf at hv
  obtain ⟨i, -, rfl⟩ := List.mem_map.1 hv
  simp [SV.ok]
theorem sBuildS_ok {t n : Nat} {ps : Array (Nat × Operand)} (ho : o.op = .buildSlice t n ps) (h : sBuildS P ev s t n ps = some out) (hev : EvOK ev o ρ ε s) : Sound P s o ρ ε H out := by
  unfold sBuildS at h
  split at h <;> try (cases h; done)
  rename_i e hu
  split at h <;> try (cases h; done)
  rename_i ie hie
  split at h <;> try (cases h; done)
  rename_i z hz
  split at h <;> try (cases h; done)
  rename_i vs hvs
  cases hc : Nat.ble (n * ie.size) 16777216 && (Nat.ble n 1073741824 && (Nat.beq z.cells.size ie.size && Nat.blt 0 ie.size)) with
  | false => rw [hc] at h; cases h
  | true =>
    rw [hc] at h
    simp only [cond_true] at h
    split at h <;> try (cases h; done)
    rename_i cs hcs
    cases hb : Nat.beq cs.length (n * ie.size) with
    | false => rw [hb] at h; cases h
    | true =>
      rw [hb] at h; cases h
      simp only [Bool.and_eq_true] at hc
      have c1 := Nat.le_of_ble_eq_true hc.1
      have c2 := Nat.le_of_ble_eq_true hc.2.1
      have c3 := Nat.eq_of_beq_eq_true hc.2.2.1
      have c4 : 0 < ie.size := by have := hc.2.2.2; rwa [Nat.blt_eq] at this
      have hb := Nat.eq_of_beq_eq_true hb
      have h1 := evp_ok (p := ltB s) (ε := ε) (ρ := ρ) hvs fun x hx v hv => hev x (by rw [ho]; simpa [Op.operands] using hx) v hv
      have hoks := sfill_oks (p := ltB s) hcs (oks_zeros _ _) h1.2
      have hf := sfill_den ε hcs
      rw [zerosOf_den ε z _ (.inl (by omega))] at hf
      have e1 : (ps.map fun (i, x) => (i, ρ x)).toList = vs.map fun x => (x.1, x.2.den ε) := by rw [← h1.1, Array.toList_map]
      intro R w hM
      have hm := mem_newRow (e := e) (size := ie.size) (n := n) (cells := SV.dens ε cs) hM (by rw [dens_length]; exact hb) c2
      have hrun : (execOp ρ o).run P w = .ok (.value (.slice (some ⟨w.heap.size, 0, none⟩) n n)) (w.alloc (.cells (SV.dens ε cs).toArray e)) := by
        by_cases h0 : n = 0
        · subst h0
          have hc0 : cs = [] := List.length_eq_zero_iff.1 (by simpa using hb)
          subst hc0
          have hv0 : vs = [] := by
            cases vs with
            | nil => rfl
            | cons y l =>
              obtain ⟨i, v⟩ := y
              change (bif (cellsOf v).all SV.one && (Nat.beq (cellsOf v).length ie.size && Nat.ble (i * ie.size + (cellsOf v).length) (zerosOf z (0 * ie.size)).length) then sfill _ _ l else none) = some [] at hcs
              cases hq : (cellsOf v).all SV.one && (Nat.beq (cellsOf v).length ie.size && Nat.ble (i * ie.size + (cellsOf v).length) (zerosOf z (0 * ie.size)).length) with
              | false => rw [hq] at hcs; cases hcs
              | true =>
                rw [Bool.and_eq_true, Bool.and_eq_true] at hq
                have q1 := Nat.eq_of_beq_eq_true hq.2.1
                have q2 := Nat.le_of_ble_eq_true hq.2.2
                have q3 : (zerosOf z (0 * ie.size)).length = 0 := by simp [zerosOf]
                rw [q3] at q2
                omega
          subst hv0
          have e2 : (ps.map fun (i, x) => (i, ρ x)) = #[] := Array.ext' (by rw [e1]; rfl)
          have := run_buildSlice0 (P := P) w t e ie hu hie
          unfold execOp
          rw [ho]
          simp only [e2]
          simp [this, SV.dens]
        · have hne : ¬ n * ie.size = 0 := Nat.mul_ne_zero h0 (by omega)
          have := run_buildSlice (P := P) w t e n (ps.map fun (i, x) => (i, ρ x)) (SV.dens ε cs).toArray ie z hu hie hz (by omega) hne (by rw [e1]; exact hf)
          unfold execOp
          rw [ho]
          simp [this]
      refine res_ok hrun ⟨fun _ => (w.heap.size, .slice (some ⟨w.heap.size, 0, none⟩) n n), by simp [SV.den, eset_at, asSl], ?_⟩
      simp only [hden, tden, List.map_cons, List.map_nil, SC.den, SL.den, List.cons_append, List.nil_append, eset_at]
      rw [dens_eset hoks]
      exact hm
def fieldO (P : Program) (t i : Nat) : Option Nat := match P.underlying t with
  | some (.struct fs) => match fs[i]? with
    | some f => bif fieldT P t i f.offset then some f.offset else none
    | none => none
  | _ => none
theorem fieldO_T {t i off : Nat} (h : fieldO P t i = some off) : fieldT P t i off = true := by
  unfold fieldO at h
  split at h <;> try (cases h; done)
  split at h <;> try (cases h; done)
  rename_i f hf
  cases hb : fieldT P t i f.offset with
  | false => rw [hb] at h; cases h
  | true => rw [hb] at h; cases h; exact hb
def sFieldAddr (P : Program) (t i : Nat) (v : SV) : Option Out := match fieldO P t i with
  | some o => match v with
    | .ptr s k off => some ⟨.ptr s k (off + o), [], [], []⟩
    | .elt s k p b j => some ⟨.elt s k p b (j + o), [], [], []⟩
    | _ => none
  | none => none
theorem sFieldAddr_ok {t i : Nat} {x : Operand} {v : SV} (ho : o.op = .fieldAddr t x i) (hx : ρ x = v.den ε) (h : sFieldAddr P t i v = some out) : Sound P s o ρ ε H out := by
  unfold sFieldAddr at h
  split at h <;> try (cases h; done)
  rename_i off hf
  split at h <;> try (cases h; done)
  · cases h
    refine sound_pure fun R w hM => ?_
    rw [x_fieldAddr ho (hx.trans (by simp only [SV.den]; rfl)) (fieldO_T hf) rfl]
    simp [SV.den]
  · cases h
    refine sound_pure fun R w hM => ?_
    rw [x_fieldAddr ho (hx.trans (by simp only [SV.den]; rfl)) (fieldO_T hf) rfl]
    simp [SV.den, Nat.add_assoc]
def sField (P : Program) (t i : Nat) (v : SV) : Option Out := match P.underlying t with
  | some (.struct fs) => match fs[i]? with
    | some f => match v with
      | .agg cs => match partAt P f.type cs f.offset with
        | some u => some ⟨u, [], [], []⟩
        | none => none
      | _ => none
    | none => none
  | _ => none
theorem run_partAt {t j : Nat} {cs : List SV} {v : SV} (h : partAt P t cs j = some v) : (part t (SV.dens ε cs).toArray j).run P w = .ok (v.den ε) w := by
  unfold partAt at h
  cases hb : plainT P t with
  | true =>
    rw [hb] at h
    have hv : (SV.dens ε cs)[j]? = some (v.den ε) := by rw [dens_get, show cs[j]? = some v from h]; rfl
    unfold plainT at hb
    cases hd : P.underlying t with
    | none => rw [hd] at hb; cases hb
    | some d => cases d <;> simp only [hd] at hb <;> first | (cases hb; done) | simp [part, isAgg, go_sem, run_und hd, hv, Result.andThen]
  | false =>
    rw [hb] at h
    simp only [cond_false] at h
    split at h <;> try (cases h; done)
    rename_i n hn
    cases hl : Nat.beq ((cs.drop j).take n).length n with
    | false => rw [hl] at h; cases h
    | true =>
      rw [hl] at h; cases h
      have hT := aggN_T hn
      unfold aggT at hT
      rw [Bool.and_eq_true] at hT
      obtain ⟨h1, h2⟩ := hT
      split at h2 <;> try (cases h2; done)
      rename_i i0 hi
      have h2 : i0.size = n := by simpa using h2
      have e : (SV.dens ε cs).toArray.extract j (j + n) = (SV.dens ε ((cs.drop j).take n)).toArray := by
        apply Array.ext'
        simp [dens_map, List.map_take, List.map_drop]
      cases hd : P.underlying t with
      | none => simp [hd] at h1
      | some d => cases d <;> simp only [hd] at h1 <;> first | (cases h1; done) | (simp [part, isAgg, go_sem, sizeOf, typeInfo, run_und hd, hi, h2, Result.andThen, SV.den]; simp [dens_map, List.map_take, List.map_drop])
attribute [-go_sem] part in
theorem sField_ok {t i : Nat} {x : Operand} {v : SV} (ho : o.op = .field t x i) (hx : ρ x = v.den ε) (h : sField P t i v = some out) : Sound P s o ρ ε H out := by
  unfold sField at h
  split at h <;> try (cases h; done)
  rename_i fs hu
  split at h <;> try (cases h; done)
  rename_i f hf
  split at h <;> try (cases h; done)
  rename_i cs
  split at h <;> try (cases h; done)
  rename_i u hp
  cases h
  refine sound_pure fun R w hM => ?_
  have := run_partAt (w := w) (ε := ε) hp
  unfold execOp
  rw [ho]
  simp [hx, SV.den, Instr.field, go_sem, run_und hu, hf, asAgg, this, Result.andThen]
def sLen (P : Program) (H : Heap) (t : Nat) (v : SV) : Option Out := match v with
  | .raw s k => match hget H (s, k) with
    | .row _ size n _ _ => match P.underlying t with
      | some (.slice _) => some ⟨.val (.int .i64 (n : Int)), [], [(s, k)], []⟩
      | _ => none
    | _ => none
  | .map s k => match hget H (s, k) with
    | .obj es _ => match P.underlying t with
      | some (.map _ _) => some ⟨.val (.int .i64 (es.length : Int)), [], [(s, k)], []⟩
      | _ => none
    | _ => none
  | .win _ _ _ _ n => match P.underlying t with
    | some (.slice _) => some ⟨.val (.int .i64 (n : Int)), [], [], []⟩
    | _ => none
  | _ => none
theorem winV_is (v : Value) (size lo n : Nat) : ∃ a c, winV v size lo n = .slice a n c := by
  unfold winV; split <;> exact ⟨_, _, rfl⟩
theorem x_len' {t : Nat} {x : Operand} {c : Call} {a : Option Addr} {l m : Nat} {e : TypeId} (ho : o.op = .call c) (hc : c.callee = .builtin .len) (ha : c.args = #[x]) (ht : c.argTypes[0]? = some t) (hx : ρ x = .slice a l m) (hT : P.underlying t = some (.slice e)) : (execOp ρ o).run P w = .ok (.value (.int .i64 l)) w := by
  unfold execOp; rw [ho]
  simp [resolve, hc, ha, ht, hx, invoke, builtin, Builtin.len_, go_sem, run_und hT, goInt, Result.andThen]
theorem x_lenM {t : Nat} {x : Operand} {c : Call} {b : Nat} {es : Array MapEntry} {clock : Nat} {k e : TypeId} (ho : o.op = .call c) (hc : c.callee = .builtin .len) (ha : c.args = #[x]) (ht : c.argTypes[0]? = some t) (hx : ρ x = .map (some b)) (hT : P.underlying t = some (.map k e)) (hb : w.heap[b]? = some (.map es clock)) : (execOp ρ o).run P w = .ok (.value (.int .i64 es.size)) w := by
  have hg : (getObj b).run P w = .ok (.map es clock) w := by simp [getObj, Sem.run, hb]
  unfold execOp; rw [ho]
  simp [resolve, hc, ha, ht, hx, invoke, builtin, Builtin.len_, go_sem, run_und hT, goInt, Result.andThen, hg]
theorem asSl_row {E size n : Nat} {v : Value} {xs : List Value} (h : RowF E size w (asSl v) n xs) : ∃ a c, asSl v = .slice a n c := by
  obtain ⟨a, c, h, -⟩ := h.row; exact ⟨a, c, h⟩
theorem sLen_ok {t : Nat} {x : Operand} {c : Call} {v : SV} (ho : o.op = .call c) (hc : c.callee = .builtin .len) (ha : c.args = #[x]) (ht : c.argTypes[0]? = some t) (hx : ρ x = v.den ε) (h : sLen P H t v = some out) : Sound P s o ρ ε H out := by
  unfold sLen at h
  split at h
  · split at h <;> try (cases h; done)
    rename_i s' k E size n xs ws hg
    split at h <;> try (cases h; done)
    rename_i e hT
    cases h
    refine sound_pure fun R w hM => ?_
    simp only [tden, List.map_cons, List.map_nil, hg, List.cons_append, List.nil_append] at hM
    obtain ⟨a, cp, h1⟩ := asSl_row (row_den hM).1
    rw [x_len' ho hc ha ht (hx.trans (by simp only [SV.den]; exact h1)) hT]
    simp [SV.den]
  · split at h <;> try (cases h; done)
    rename_i s' k es clock hg
    split at h <;> try (cases h; done)
    rename_i kt et hT
    cases h
    refine sound_pure fun R w hM => ?_
    simp only [tden, List.map_cons, List.map_nil, hg, List.cons_append, List.nil_append, SC.den] at hM
    obtain ⟨arr, cl, hb, hp, -⟩ := hM.of (c := objM _ _) 0 rfl (fun S hS => hS.2)
    rw [x_lenM ho hc ha ht (hx.trans (by simp only [SV.den])) hT hb]
    have hl : arr.size = es.length := by have := hp.length_eq; simpa [entsDen] using this
    simp [SV.den, hl]
  · rename_i s' k size lo n
    split at h <;> try (cases h; done)
    rename_i e hT
    cases h
    refine sound_pure fun R w hM => ?_
    obtain ⟨a, cp, h1⟩ := winV_is (ε s' k).2 size lo n
    rw [x_len' ho hc ha ht (hx.trans (by simp only [SV.den]; exact h1)) hT]
    simp [SV.den]
  · cases h
end
end Go.Sx
