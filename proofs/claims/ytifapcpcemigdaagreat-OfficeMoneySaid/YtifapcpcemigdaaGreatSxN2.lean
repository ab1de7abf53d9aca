/- SX: a drawn region that makes a map and fills it, in whatever order. -/
import Derived.Test.YtifapcpcemigdaaGreatM50f98c5
namespace Go.Sx
set_option linter.unusedVariables false
set_option linter.unusedSimpArgs false
open Go.RowKit Go.Tk Go.Lib Go.Shelf Go.Vc Go.Maps
noncomputable local instance instDecValueN2 : DecidableEq Value := Classical.typeDecidableEq Value
abbrev Ins := Nat × Value × SV
def spV (N jm : Nat) (ins : List Ins) (j : Nat) : Option SV := bif Nat.beq j jm then some (.map (N + jm) 0) else bif ins.any (fun t => Nat.beq t.1 j) then some (.val undef) else none
section
variable {P : Program} {cal : Callee P} {r nt : Nat}
def runOpsS (P : Program) (cal : Callee P) (r nt : Nat) (sv : Nat → Option SV) (all : List Oper) : List Oper → Nat → Nat → Slots → Heap → List (Hint P) → Option (Ran P)
  | [], _, _, sl, H, hs => some ⟨[], sl, H, hs⟩
  | o :: l, i, s, sl, H, hs => match sv i with
    | some v => bif v.ok (ltB (s + 1)) && o.guard.isNone then (match runOpsS P cal r nt sv all l (i + 1) (s + 1) (putD sl o.dst v) (hput H []) hs with
      | some q => some ⟨⟨v, [], [], []⟩ :: q.outs, q.slots, q.heap, q.hs⟩
      | none => none) else none
    | none => match oneOp P cal r nt all i s o sl H hs with
      | some (out, hs') => match runOpsS P cal r nt sv all l (i + 1) (s + 1) (putD sl o.dst out.v) (hput H out.upd) hs' with
        | some q => some ⟨out :: q.outs, q.slots, q.heap, q.hs⟩
        | none => none
      | none => none
theorem heapAt_here (i : Nat) : ∀ (l : List Out) (k : Nat) (H : Heap), i ≤ k → heapAt l (fun x => Nat.blt x (i + 0)) k H = H
  | [], _, _, _ => rfl
  | y :: l, k, H, hk => by
    have hb : Nat.blt k (i + 0) = false := by
      cases hb : Nat.blt k (i + 0) with
      | false => rfl
      | true => rw [Nat.blt_eq] at hb; omega
    show heapAt l _ (k + 1) (bif Nat.blt k (i + 0) then hput H y.upd else H) = H
    rw [hb]; exact heapAt_here i l (k + 1) H (by omega)
theorem runOpsS_at {sv : Nat → Option SV} {all : List Oper} : ∀ {l : List Oper} {i s : Nat} {sl : Slots} {H : Heap} {hs : List (Hint P)} {q : Ran P}, runOpsS P cal r nt sv all l i s sl H hs = some q → q.outs.length = l.length ∧ q.slots = slF l q.outs l.length sl ∧ q.heap = heapAt q.outs (fun j => Nat.blt j (i + l.length)) i H ∧
    ∀ j o, l[j]? = some o → ∃ out, q.outs[j]? = some out ∧ ((sv (i + j) = none ∧ ∃ hs1 hs2, oneOp P cal r nt all (i + j) (s + j) o (slF l q.outs j sl) (heapAt q.outs (fun x => Nat.blt x (i + j)) i H) hs1 = some (out, hs2)) ∨ (∃ v, sv (i + j) = some v ∧ out = ⟨v, [], [], []⟩ ∧ v.ok (ltB (s + j + 1)) = true ∧ o.guard = none))
  | [], i, s, sl, H, hs, q, h => by
    cases h
    exact ⟨rfl, rfl, rfl, fun j o h => by simp at h⟩
  | o :: l, i, s, sl, H, hs, q, h => by
    have step : ∀ (out : Out) (hs' : List (Hint P)) (q' : Ran P), runOpsS P cal r nt sv all l (i + 1) (s + 1) (putD sl o.dst out.v) (hput H out.upd) hs' = some q' → q = ⟨out :: q'.outs, q'.slots, q'.heap, q'.hs⟩ →
        ((sv i = none ∧ oneOp P cal r nt all i s o sl H hs = some (out, hs')) ∨ (∃ v, sv i = some v ∧ out = ⟨v, [], [], []⟩ ∧ v.ok (ltB (s + 1)) = true ∧ o.guard = none)) →
        q.outs.length = (o :: l).length ∧ q.slots = slF (o :: l) q.outs (o :: l).length sl ∧ q.heap = heapAt q.outs (fun j => Nat.blt j (i + (o :: l).length)) i H ∧
        ∀ j o', (o :: l)[j]? = some o' → ∃ out, q.outs[j]? = some out ∧ ((sv (i + j) = none ∧ ∃ hs1 hs2, oneOp P cal r nt all (i + j) (s + j) o' (slF (o :: l) q.outs j sl) (heapAt q.outs (fun x => Nat.blt x (i + j)) i H) hs1 = some (out, hs2)) ∨ (∃ v, sv (i + j) = some v ∧ out = ⟨v, [], [], []⟩ ∧ v.ok (ltB (s + j + 1)) = true ∧ o'.guard = none)) := by
      rintro out hs' q' hq rfl hone
      obtain ⟨h1, h2, h3, h4⟩ := runOpsS_at hq
      refine ⟨by simp [h1], by rw [h2]; rfl, ?_, fun j o' hj => ?_⟩
      · show q'.heap = heapAt q'.outs _ (i + 1) (bif Nat.blt i (i + (o :: l).length) then hput H out.upd else H)
        have : Nat.blt i (i + (o :: l).length) = true := by rw [Nat.blt_eq]; simp
        rw [this, h3]
        show _ = heapAt q'.outs _ (i + 1) (hput H out.upd)
        congr 1
        funext j
        congr 1
        simp
        omega
      · cases j with
        | zero =>
          cases hj
          refine ⟨out, rfl, ?_⟩
          have e : heapAt (out :: q'.outs) (fun x => Nat.blt x (i + 0)) i H = H := heapAt_here i _ i H (Nat.le_refl _)
          rcases hone with ⟨g1, g2⟩ | g
          · exact .inl ⟨g1, hs, hs', by rw [e]; exact g2⟩
          · exact .inr g
        | succ j =>
          obtain ⟨out', g1, g2⟩ := h4 j o' hj
          refine ⟨out', g1, ?_⟩
          have hb : Nat.blt i (i + (j + 1)) = true := by rw [Nat.blt_eq]; omega
          have e : heapAt (out :: q'.outs) (fun x => Nat.blt x (i + (j + 1))) i H = heapAt q'.outs (fun x => Nat.blt x (i + 1 + j)) (i + 1) (hput H out.upd) := by
            show heapAt q'.outs _ (i + 1) (bif Nat.blt i (i + (j + 1)) then hput H out.upd else H) = _
            rw [hb, show i + (j + 1) = i + 1 + j from by omega]; rfl
          rw [e, show i + (j + 1) = i + 1 + j from by omega, show s + (j + 1) = s + 1 + j from by omega]
          exact g2
    unfold runOpsS at h
    split at h
    · rename_i v hv
      cases hb : v.ok (ltB (s + 1)) && o.guard.isNone with
      | false => rw [hb] at h; cases h
      | true =>
        rw [hb] at h
        simp only [cond_true] at h
        split at h <;> try (cases h; done)
        rename_i q' hq
        cases h
        rw [Bool.and_eq_true] at hb
        exact step ⟨v, [], [], []⟩ hs q' hq rfl (.inr ⟨v, hv, rfl, hb.1, Option.isNone_iff_eq_none.1 hb.2⟩)
    · rename_i hv
      split at h <;> try (cases h; done)
      rename_i out hs' hone
      split at h <;> try (cases h; done)
      rename_i q' hq
      cases h
      exact step out hs' q' hq rfl (.inl ⟨hv, hone⟩)
def entsI (ins : List Ins) (L : Nat → Bool) (ε : Env) : List (Value × Value) := (ins.filter fun t => L t.1).map fun t => (t.2.1, t.2.2.den ε)
def mapRR (N jm : Nat) (ins : List Ins) (L : Nat → Bool) (ε : Env) : List Chunk := bif L jm then [objM (ε (N + jm) 0).1 (entsI ins L ε)] else []
def okIns (N : Nat) (anc : List (List Nat)) (t : Ins) : Bool := t.2.2.ok (fun s _ => Nat.blt s N || (anc.getD t.1 []).any fun k => Nat.beq s (N + k))
theorem den_same {N : Nat} {anc : List (List Nat)} {t : Ins} (h : okIns N anc t = true) {L : Nat → Bool} {j : Nat} {ε : Env} {x : Nat → Rv} (hl : ∀ k, k ∈ anc.getD t.1 [] → L k = true) (hj : L j = false) : t.2.2.den (eset ε (N + j) x) = t.2.2.den ε :=
  SV.den_congr (fun s k hs => by
    rw [eset_ne' ]
    intro e
    rw [Bool.or_eq_true] at hs
    rcases hs with hs | hs
    · rw [Nat.blt_eq] at hs; omega
    · obtain ⟨m, hm, hb⟩ := List.any_eq_true.1 hs
      have := Nat.eq_of_beq_eq_true hb
      have : j = m := by omega
      subst this
      rw [hl j hm] at hj; cases hj) t.2.2 h
theorem objM_at {kt : TypeId} {K : Keyed P kt} {b : Nat} {L : List (Value × Value)} {S : Nat → Prop} {w : World} (hk : ∀ p ∈ L, isKey P kt p.1 = true) (h : (objM b L).at_ S w) : MapAt (KV kt K) w b L := by
  obtain ⟨hb, arr, clock, h1, h2, h3, h4, h5⟩ := h
  exact ⟨arr, clock, h1, by simpa [KV] using h2, h3, fun p hp => isKey_at (hk p hp), h4, h5⟩
structure DmOK (P : Program) (N jm : Nat) (ins : List Ins) (kt : TypeId) (ops : List Oper) (anc : List (List Nat)) (ev : Nat → Ev1) : Prop where
  mke : ∃ o t e, ops[jm]? = some o ∧ o.op = .makeMap t none ∧ P.underlying t = some (.map kt e)
  key : keyB P kt = true
  put : ∀ t ∈ ins, ∃ o ty e x y z, ops[t.1]? = some o ∧ o.op = .insert ty x y z ∧ P.underlying ty = some (.map kt e) ∧ ev t.1 x = some (.map (N + jm) 0) ∧ ev t.1 y = some (.val t.2.1) ∧ ev t.1 z = some t.2.2 ∧ isKey P kt t.2.1 = true ∧ okIns N anc t = true ∧ jm ∈ anc.getD t.1 [] ∧ t.1 ≠ jm
  nd : (ins.map (·.1)).Nodup
  ndk : (ins.map (·.2.1)).Nodup
variable {ops : List Oper} {lo : Nat} {eb : Env} {R : List Chunk} {σ : St} {ε : Env} {a0 : Act} {w0 : World}
theorem spV_some {N jm : Nat} {ins : List Ins} {j : Nat} {v : SV} (h : spV N jm ins j = some v) : (j = jm ∧ v = .map (N + jm) 0) ∨ (j ≠ jm ∧ v = .val undef ∧ ∃ t ∈ ins, t.1 = j) := by
  unfold spV at h
  cases hb : Nat.beq j jm with
  | true => rw [hb] at h; cases h; exact .inl ⟨Nat.eq_of_beq_eq_true hb, rfl⟩
  | false =>
    rw [hb] at h
    cases hi : ins.any fun t => Nat.beq t.1 j with
    | false => rw [hi] at h; cases h
    | true =>
      rw [hi] at h; cases h
      obtain ⟨t, ht, hb2⟩ := List.any_eq_true.1 hi
      exact .inr ⟨(fun e => by rw [e, Nat.beq_refl] at hb; cases hb), rfl, t, ht, Nat.eq_of_beq_eq_true hb2⟩
theorem spV_none {N jm : Nat} {ins : List Ins} {j : Nat} (h : spV N jm ins j = none) : j ≠ jm ∧ ∀ t ∈ ins, t.1 ≠ j := by
  unfold spV at h
  cases hb : Nat.beq j jm with
  | true => rw [hb] at h; cases h
  | false =>
    rw [hb] at h
    cases hi : ins.any fun t => Nat.beq t.1 j with
    | true => rw [hi] at h; cases h
    | false =>
      refine ⟨(fun e => by rw [e, Nat.beq_refl] at hb; cases hb), fun t ht e => ?_⟩
      have := List.any_eq_false.1 hi t ht
      rw [e, Nat.beq_refl] at this
      exact this rfl
theorem entsI_other {N : Nat} {anc : List (List Nat)} {ins : List Ins} (hok : ∀ t ∈ ins, okIns N anc t = true) {L : Nat → Bool} {j : Nat} {ε : Env} {x : Nat → Rv} (hj : L j = false) (hd : ∀ t ∈ ins, L t.1 = true → ∀ k, k ∈ anc.getD t.1 [] → L k = true) (hne : ∀ t ∈ ins, t.1 ≠ j) : entsI ins (setL L j) (eset ε (N + j) x) = entsI ins L ε := by
  unfold entsI
  have hf : (ins.filter fun t => setL L j t.1) = ins.filter fun t => L t.1 := List.filter_congr fun t ht => by
    unfold setL
    cases hb : Nat.beq t.1 j with
    | true => exact absurd (Nat.eq_of_beq_eq_true hb) (hne t ht)
    | false => rfl
  rw [hf]
  refine List.map_congr_left fun t ht => ?_
  obtain ⟨h1, h2⟩ := List.mem_filter.1 ht
  rw [den_same (hok t h1) (hd t h1 h2) hj]
theorem draw_map {id : Nat} {Q : Exit → Act → World → Prop} {hs : List (Hint P)} {q : Ran P} {jm : Nat} {ins : List Ins} {kt : TypeId} (hcal : CalleeOK P cal) (h : runOpsS P cal r nt (spV σ.next jm ins) ops ops 0 σ.next σ.slots σ.heap hs = some q)
    (D : DmOK P σ.next jm ins kt ops (ancL ops) fun j => slotsEv (slF ops q.outs j σ.slots)) (hk : ChkOK (chks q.outs)) (hd : drawOK P nt σ.next ops q.outs = true) (hr : Rel nt lo eb R σ ε a0 w0)
    (hQ : ∀ ε' a' w', Rel nt lo eb (objM (ε' (σ.next + jm) 0).1 (ins.map fun t => (t.2.1, t.2.2.den ε')) :: R) ⟨q.slots, q.heap, σ.next + ops.length⟩ ε' a' w' → Q .normal a' w') : (Code.region id ops.toArray true).wp P Q a0 w0 := by
  have d1 := hd
  unfold drawOK at d1
  simp only [Bool.and_eq_true] at d1
  obtain ⟨r1, r2, r3, r4⟩ := runOpsS_at h
  have K := keyB_ok D.key
  have lenI : ∀ t ∈ ins, t.1 < ops.length := fun t ht => by
    obtain ⟨o, ty, e, x, y, z, ho, -⟩ := D.put t ht
    exact (List.getElem?_eq_some_iff.1 ho).1
  have okT : ∀ t ∈ ins, okIns σ.next (ancL ops) t = true := fun t ht => by
    obtain ⟨o, ty, e, x, y, z, -, -, -, -, -, -, -, h, -⟩ := D.put t ht; exact h
  have ancT : ∀ t ∈ ins, jm ∈ (ancL ops).getD t.1 [] ∧ t.1 ≠ jm := fun t ht => by
    obtain ⟨o, ty, e, x, y, z, -, -, -, -, -, -, -, -, h⟩ := D.put t ht; exact h
  have keyT : ∀ t ∈ ins, isKey P kt t.2.1 = true := fun t ht => by
    obtain ⟨o, ty, e, x, y, z, -, -, -, -, -, -, h, -⟩ := D.put t ht; exact h
  refine wp_region_any d1.1 (anyRes_wp (runOps_drawG (r := r) (fun j => (spV σ.next jm ins j).isSome) (mapRR σ.next jm ins) hcal r1 r2 r3 (fun j o ho => ?_) hk hd hr ?_ (fun ε1 => rfl) ?_ ?_))
  · obtain ⟨out, h1, h2⟩ := r4 j o ho
    refine ⟨out, h1, ?_⟩
    rw [Nat.zero_add] at h2
    rcases h2 with ⟨g, h3⟩ | ⟨v, g, rfl, h3, h4⟩
    · exact .inl ⟨by rw [g]; rfl, by rw [Nat.zero_add]; exact h3⟩
    · exact .inr ⟨by rw [g]; rfl, rfl, rfl, h3, h4⟩
  · intro j o out ho hout hsp L ε1 w ρ R' hL hpre hdown hev hM
    obtain ⟨out', h1, h2⟩ := r4 j o ho
    rw [hout] at h1; cases h1
    rw [Nat.zero_add] at h2
    rcases h2 with ⟨g, -⟩ | ⟨v, g, rfl, -, -⟩
    · rw [g] at hsp; cases hsp
    rcases spV_some g with ⟨rfl, rfl⟩ | ⟨hne, rfl, t, ht, rfl⟩
    · obtain ⟨o', ty, e, ho', hop, hT⟩ := D.mke
      rw [ho] at ho'; cases ho'
      have hrun : (execOp ρ o).run P w = .ok (.value (.map (some w.heap.size))) (w.alloc (.map #[] 0)) := by
        unfold execOp; rw [hop]
        simp [Instr.makeMap, newObj, go_sem, Sem.run, Result.andThen]
      rw [hrun]
      unfold mapRR at hM ⊢
      rw [hL] at hM
      have hM : Mem R' w := hM
      refine ⟨fun _ => (w.heap.size, undef), by simp [SV.den, eset_at], ?_⟩
      have h1 : setL L j j = true := by unfold setL; rw [Nat.beq_refl]; rfl
      rw [h1]
      have h2 : entsI ins (setL L j) (eset ε1 (σ.next + j) fun _ => (w.heap.size, undef)) = [] := by
        unfold entsI
        have : (ins.filter fun t => setL L j t.1) = [] := List.filter_eq_nil_iff.2 fun t ht h => by
          unfold setL at h
          cases hb : Nat.beq t.1 j with
          | true => exact (ancT t ht).2 (Nat.eq_of_beq_eq_true hb)
          | false =>
            rw [hb] at h
            have := hdown t.1 (lenI t ht) h j (ancT t ht).1
            rw [hL] at this; cases this
        rw [this]; rfl
      show Mem ([objM _ _] ++ R') _
      rw [h2, eset_at]
      exact mem_obj hM
    · obtain ⟨o', ty, e, x, y, z, ho', hop, hT, hx, hy, hz, hkey, hokt, hjm, -⟩ := D.put t ht
      rw [ho] at ho'; cases ho'
      have hLm : L jm = true := hpre jm hjm
      unfold mapRR at hM
      rw [hLm] at hM
      have hM : Mem (objM (ε1 (σ.next + jm) 0).1 (entsI ins L ε1) :: R') w := hM
      have opr : ∀ u ∈ [x, y, z], u ∈ o.op.operands := fun u hu => by rw [hop]; simpa [Op.operands] using hu
      have ex := (hev x (opr x (by simp)) _ hx).1
      have ey := (hev y (opr y (by simp)) _ hy).1
      have ez := (hev z (opr z (by simp)) _ hz).1
      have hkL : ∀ p ∈ entsI ins L ε1, isKey P kt p.1 = true := fun p hp => by
        obtain ⟨t', ht', rfl⟩ := List.mem_map.1 hp
        exact keyT t' (List.mem_filter.1 ht').1
      have hm := hM.of (c := objM _ _) 0 rfl (φ := MapAt (KV kt K) w (ε1 (σ.next + jm) 0).1 (entsI ins L ε1)) (fun S hS => objM_at hkL hS)
      obtain ⟨w', hr', hm', hg'⟩ := hm.update hT (x := t.2.1) (isKey_at hkey) (t.2.2.den ε1)
      have hr' : (Instr.mapUpdate ty (.map (some (ε1 (σ.next + jm) 0).1)) t.2.1 (t.2.2.den ε1)).run P w = .ok () w' := hr'
      have hrun : (execOp ρ o).run P w = .ok .skip w' := by
        unfold execOp
        rw [hop]
        simp only [ex, ey, ez, SV.den]
        simp [hr', go_sem]
      rw [hrun]
      refine ⟨fun _ => (0, undef), by simp only [SV.den], ?_⟩
      have hb' : (eset ε1 (σ.next + t.1) (fun _ => ((0 : Nat), undef)) (σ.next + jm) 0).1 = (ε1 (σ.next + jm) 0).1 := by rw [eset_ne (by omega)]
      have hLs : setL L t.1 jm = true := by
        unfold setL
        cases hb : Nat.beq jm t.1 with
        | true => rfl
        | false => exact hLm
      have hperm : (putL (entsI ins L ε1) t.2.1 (t.2.2.den ε1)).Perm (entsI ins (setL L t.1) (eset ε1 (σ.next + t.1) fun _ => (0, undef))) := by
        have hfr : ∀ p ∈ entsI ins L ε1, p.1 ≠ t.2.1 := fun p hp e => by
          obtain ⟨t', ht', rfl⟩ := List.mem_map.1 hp
          obtain ⟨h1, h2⟩ := List.mem_filter.1 ht'
          have e : t'.2.1 = t.2.1 := e
          have : t' = t := by
            obtain ⟨i1, hi1, e1⟩ := List.mem_iff_getElem.1 h1
            obtain ⟨i2, hi2, e2⟩ := List.mem_iff_getElem.1 ht
            have : i1 = i2 := (List.getElem_inj (h₀ := by rw [List.length_map]; exact hi1) (h₁ := by rw [List.length_map]; exact hi2) D.ndk).1 (by rw [List.getElem_map, List.getElem_map, e1, e2]; exact e)
            subst this
            rw [← e1, e2]
          subst this
          have h2 : L t'.1 = true := h2
          rw [hL] at h2; cases h2
        have e1 : putL (entsI ins L ε1) t.2.1 (t.2.2.den ε1) = (t.2.1, t.2.2.den ε1) :: entsI ins L ε1 := by
          unfold putL
          rw [List.filter_eq_self.2 fun p hp => by simpa using hfr p hp]
        rw [e1]
        have hden : ∀ t' ∈ ins, (setL L t.1 t'.1 = true) → t'.2.2.den (eset ε1 (σ.next + t.1) fun _ => ((0 : Nat), undef)) = t'.2.2.den ε1 := fun t' ht' hs => by
          refine den_same (okT t' ht') (fun k hk' => ?_) hL
          unfold setL at hs
          cases hb : Nat.beq t'.1 t.1 with
          | true => rw [Nat.eq_of_beq_eq_true hb] at hk'; exact hpre k hk'
          | false => rw [hb] at hs; exact hdown t'.1 (lenI t' ht') hs k hk'
        unfold entsI
        have key : ∀ M : List Ins, (M.map (·.1)).Nodup → t ∈ M → ((t :: M.filter fun t' => L t'.1)).Perm (M.filter fun t' => setL L t.1 t'.1) := by
          intro M
          induction M with
          | nil => intro _ h; cases h
          | cons m M ih =>
            intro hn hm
            rw [List.map_cons, List.nodup_cons] at hn
            by_cases e : m = t
            · subst e
              have h1 : setL L m.1 m.1 = true := by unfold setL; rw [Nat.beq_refl]; rfl
              rw [List.filter_cons_of_neg (p := fun t' : Ins => L t'.1) (by rw [hL]; decide), List.filter_cons_of_pos (p := fun t' : Ins => setL L m.1 t'.1) h1]
              have : (M.filter fun t' => setL L m.1 t'.1) = M.filter fun t' => L t'.1 := List.filter_congr fun t' ht' => by
                unfold setL
                cases hb : Nat.beq t'.1 m.1 with
                | true => exact absurd (List.mem_map.2 ⟨t', ht', Nat.eq_of_beq_eq_true hb⟩) hn.1
                | false => rfl
              rw [this]
            · have hm' : t ∈ M := (List.mem_cons.1 hm).resolve_left (fun h => e h.symm)
              have ih := ih hn.2 hm'
              have h2 : setL L t.1 m.1 = L m.1 := by
                unfold setL
                cases hb : Nat.beq m.1 t.1 with
                | true => exact absurd (List.mem_map.2 ⟨t, hm', (Nat.eq_of_beq_eq_true hb).symm⟩) hn.1
                | false => rfl
              cases hl : L m.1 with
              | true =>
                rw [List.filter_cons_of_pos (p := fun t' : Ins => L t'.1) hl, List.filter_cons_of_pos (p := fun t' : Ins => setL L t.1 t'.1) (by rw [h2]; exact hl)]
                exact (List.Perm.swap _ _ _).trans (ih.cons m)
              | false =>
                rw [List.filter_cons_of_neg (p := fun t' : Ins => L t'.1) (by rw [hl]; decide), List.filter_cons_of_neg (p := fun t' : Ins => setL L t.1 t'.1) (by rw [h2, hl]; decide)]
                exact ih
        have p2 := (key ins D.nd ht).map fun t' => (t'.2.1, t'.2.2.den ε1)
        have p3 : ((ins.filter fun t' => setL L t.1 t'.1).map fun t' => (t'.2.1, t'.2.2.den (eset ε1 (σ.next + t.1) fun _ => ((0 : Nat), undef)))) = (ins.filter fun t' => setL L t.1 t'.1).map fun t' => (t'.2.1, t'.2.2.den ε1) :=
          List.map_congr_left fun t' ht' => by
            obtain ⟨h1, h2⟩ := List.mem_filter.1 ht'
            rw [hden t' h1 h2]
        rw [p3]
        exact p2
      unfold mapRR
      rw [hLs]
      show Mem ([objM _ _] ++ R') w'
      rw [hb']
      exact hM.step 0 rfl (c' := objM (ε1 (σ.next + jm) 0).1 (entsI ins (setL L t.1) (eset ε1 (σ.next + t.1) fun _ => (0, undef)))) (fun S hS hlt => ⟨⟨hg'.os, hg'.tape, hg'.output, hg'.size, fun b hb hnb => hg'.block b hb (fun e => hnb (by cases e; exact hS.1))⟩, S, map_objM hS.1 (hm'.perm hperm), fun b hb => ⟨.inl hb, Nat.lt_of_lt_of_le (hlt b hb) hg'.size⟩⟩)
  · intro j hjl hsp L ε1 x hL hdown
    have hn : spV σ.next jm ins j = none := by
      cases e : spV σ.next jm ins j with
      | none => rfl
      | some v => rw [e] at hsp; cases hsp
    obtain ⟨hne, hni⟩ := spV_none hn
    unfold mapRR
    have e1 : setL L j jm = L jm := by
      unfold setL
      cases hb : Nat.beq jm j with
      | true => exact absurd (Nat.eq_of_beq_eq_true hb).symm hne
      | false => rfl
    rw [e1, entsI_other okT hL (fun t ht h2 => hdown t.1 (lenI t ht) h2) hni, eset_ne (by omega)]
  · intro ε' a' w' hrel
    refine hQ ε' a' w' ?_
    have hjl : jm < ops.length := by
      obtain ⟨o, ty, e, ho, -⟩ := D.mke
      exact (List.getElem?_eq_some_iff.1 ho).1
    have e1 : mapRR σ.next jm ins (fun j => Nat.blt j ops.length) ε' = [objM (ε' (σ.next + jm) 0).1 (ins.map fun t => (t.2.1, t.2.2.den ε'))] := by
      have : Nat.blt jm ops.length = true := by rw [Nat.blt_eq]; exact hjl
      show (bif Nat.blt jm ops.length then [objM (ε' (σ.next + jm) 0).1 ((ins.filter fun t => Nat.blt t.1 ops.length).map fun t => (t.2.1, t.2.2.den ε'))] else []) = _
      rw [this]
      have h2 : (ins.filter fun t => Nat.blt t.1 ops.length) = ins := List.filter_eq_self.2 fun t ht => by rw [Nat.blt_eq]; exact lenI t ht
      rw [h2]; rfl
    rw [e1] at hrel
    exact hrel
end
end Go.Sx
