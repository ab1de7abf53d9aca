/- SX: a region in any order: what is unlike in order touches nothing that the other changes. -/
import Derived.Test.YtmhbpifhpolghaaGreatM9af8010
namespace Go.Sx
set_option linter.unusedVariables false
set_option linter.unusedSimpArgs false
open Go.RowKit Go.Tk Go.Lib Go.Shelf Go.Vc
def ddup : List Nat → List Nat
  | [] => []
  | x :: l => bif (ddup l).contains x then ddup l else x :: ddup l
def ancGo : List Oper → List (List Nat) → List (List Nat)
  | [], acc => acc
  | o :: l, acc => ancGo l (acc ++ [ddup ((o.after.toList.filter (Region.binds .any)).flatMap fun e => e.on :: acc.getD e.on [])])
def ancL (ops : List Oper) : List (List Nat) := ancGo ops []
def oldOf (ops : List Oper) (i t : Nat) : Bool := ((ops.take i).all fun o => o.dst != some t) && ops.any fun o => o.dst == some t
def scopeQ (N : Nat) (anc : List (List Nat)) (i : Nat) : Nat → Nat → Bool := fun t _ => Nat.blt t N || (Nat.beq t (N + i) || (anc.getD i []).any fun k => Nat.beq t (N + k))
def scopeB (N : Nat) (anc : List (List Nat)) : List Out → Nat → Bool
  | [], _ => true
  | o :: l, i => o.v.ok (scopeQ N anc i) && (hok (scopeQ N anc i) o.upd && scopeB N anc l (i + 1))
def disj (a b : List Nm) : Bool := a.all fun n => !nmIn b n
def indepRow (anc : List (List Nat)) (o : Out) (i : Nat) : List Out → Nat → Bool
  | [], _ => true
  | o' :: l, j => ((anc.getD j []).contains i || (disj (names o.upd) o'.touch && disj (names o'.upd) o.touch)) && indepRow anc o i l (j + 1)
def indepB (anc : List (List Nat)) : List Out → Nat → Bool
  | [], _ => true
  | o :: l, i => indepRow anc o i l (i + 1) && indepB anc l (i + 1)
def drawOK (P : Program) (nt N : Nat) (ops : List Oper) (outs : List Out) : Bool :=
  P.follows .mixedOrders && (ssaB2 ops.toArray nt [] (ancL ops) [] [] && (oldB ops.toArray (ancL ops) (oldOf ops) && (Region.noSelect ops.toArray && (guardB2 ops.toArray && (scopeB N (ancL ops) outs 0 && indepB (ancL ops) outs 0)))))
theorem disj_iff {a b : List Nm} : disj a b = true ↔ ∀ n ∈ a, n ∉ b := by
  unfold disj
  rw [List.all_eq_true]
  constructor
  · intro h n hn hb
    have := h n hn
    rw [nmIn_iff.2 hb] at this; cases this
  · intro h n hn
    cases hb : nmIn b n with
    | false => rfl
    | true => exact absurd (nmIn_iff.1 hb) (h n hn)
theorem scopeB_at {N : Nat} {anc : List (List Nat)} : ∀ {l : List Out} {i : Nat}, scopeB N anc l i = true → ∀ j o, l[j]? = some o → o.v.ok (scopeQ N anc (i + j)) = true ∧ hok (scopeQ N anc (i + j)) o.upd = true
  | [], _, _, j, o, h => by simp at h
  | x :: l, i, h, j, o, ho => by
    unfold scopeB at h
    simp only [Bool.and_eq_true] at h
    cases j with
    | zero => cases ho; exact ⟨h.1, h.2.1⟩
    | succ j =>
      have := scopeB_at h.2.2 j o ho
      rwa [show i + 1 + j = i + (j + 1) from by omega] at this
theorem indepRow_at {anc : List (List Nat)} {o : Out} {i : Nat} : ∀ {l : List Out} {k : Nat}, indepRow anc o i l k = true → ∀ j o', l[j]? = some o' → i ∈ anc.getD (k + j) [] ∨ ((∀ n ∈ names o.upd, n ∉ o'.touch) ∧ ∀ n ∈ names o'.upd, n ∉ o.touch)
  | [], _, _, j, o', h => by simp at h
  | x :: l, k, h, j, o', ho => by
    unfold indepRow at h
    rw [Bool.and_eq_true, Bool.or_eq_true, Bool.and_eq_true] at h
    cases j with
    | zero =>
      cases ho
      rcases h.1 with h1 | h1
      · exact .inl (List.contains_iff_mem.1 h1)
      · exact .inr ⟨disj_iff.1 h1.1, disj_iff.1 h1.2⟩
    | succ j =>
      have := indepRow_at h.2 j o' ho
      rwa [show k + 1 + j = k + (j + 1) from by omega] at this
theorem indepB_at {anc : List (List Nat)} : ∀ {l : List Out} {k : Nat}, indepB anc l k = true → ∀ i j o o', i < j → l[i]? = some o → l[j]? = some o' → (k + i) ∈ anc.getD (k + j) [] ∨ ((∀ n ∈ names o.upd, n ∉ o'.touch) ∧ ∀ n ∈ names o'.upd, n ∉ o.touch)
  | [], _, _, i, j, o, o', _, h, _ => by simp at h
  | x :: l, k, h, i, j, o, o', hij, hi, hj => by
    unfold indepB at h
    rw [Bool.and_eq_true] at h
    cases j with
    | zero => omega
    | succ j =>
      cases i with
      | zero =>
        cases hi
        have := indepRow_at h.1 j o' hj
        rwa [show k + 1 + j = k + (j + 1) from by omega] at this
      | succ i =>
        have := indepB_at h.2 i j o o' (by omega) hi hj
        rwa [show k + 1 + j = k + (j + 1) from by omega, show k + 1 + i = k + (i + 1) from by omega] at this
def heapAt : List Out → (Nat → Bool) → Nat → Heap → Heap
  | [], _, _, H => H
  | o :: l, L, k, H => heapAt l L (k + 1) (bif L k then hput H o.upd else H)
theorem heapAt_congr {n : Nm} {L L' : Nat → Bool} : ∀ {l : List Out} {k : Nat} {H H' : Heap}, hget H n = hget H' n → (∀ (j : Nat) (o : Out), l[j]? = some o → n ∈ names o.upd → L (k + j) = L' (k + j)) → hget (heapAt l L k H) n = hget (heapAt l L' k H') n
  | [], k, H, H', h, _ => h
  | o :: l, k, H, H', h, hL => by
    show hget (heapAt l L (k + 1) (bif L k then hput H o.upd else H)) n = hget (heapAt l L' (k + 1) (bif L' k then hput H' o.upd else H')) n
    refine heapAt_congr (l := l) (k := k + 1) ?_ fun j o' hj hn => by
      have := hL (j + 1) o' hj hn
      rwa [show k + (j + 1) = k + 1 + j from by omega] at this
    by_cases hn : n ∈ names o.upd
    · have := hL 0 o rfl hn
      rw [Nat.add_zero] at this
      rw [this]
      cases L' k with
      | true => show hget (hput H o.upd) n = hget (hput H' o.upd) n; rw [hget_put, hget_put, if_pos hn, if_pos hn]
      | false => exact h
    · have e : ∀ (b : Bool) (H : Heap), hget (bif b then hput H o.upd else H) n = hget H n := fun b H => by
        cases b with
        | true => show hget (hput H o.upd) n = _; rw [hget_put, if_neg hn]
        | false => rfl
      rw [e, e, h]
theorem heapAt_none {n : Nm} {L : Nat → Bool} : ∀ {l : List Out} {k : Nat} {H : Heap}, (∀ (j : Nat) (o : Out), l[j]? = some o → n ∈ names o.upd → L (k + j) = false) → hget (heapAt l L k H) n = hget H n
  | [], k, H, _ => rfl
  | o :: l, k, H, hL => by
    show hget (heapAt l L (k + 1) (bif L k then hput H o.upd else H)) n = _
    rw [heapAt_none fun j o' hj hn => by
      have := hL (j + 1) o' hj hn
      rwa [show k + (j + 1) = k + 1 + j from by omega] at this]
    cases hb : L k with
    | false => rfl
    | true =>
      have : n ∉ names o.upd := fun hn => by have := hL 0 o rfl hn; rw [Nat.add_zero, hb] at this; cases this
      show hget (hput H o.upd) n = _
      rw [hget_put, if_neg this]
theorem heapAt_last {n : Nm} {L : Nat → Bool} : ∀ {l : List Out} {k i : Nat} {H : Heap} {o : Out}, l[i]? = some o → n ∈ names o.upd → L (k + i) = true → (∀ (j : Nat) (o' : Out), i < j → l[j]? = some o' → n ∈ names o'.upd → L (k + j) = false) → hget (heapAt l L k H) n = hget o.upd n
  | [], k, i, H, o, h, _, _, _ => by simp at h
  | x :: l, k, 0, H, o, h, hn, hL, hj => by
    cases h
    show hget (heapAt l L (k + 1) (bif L k then hput H x.upd else H)) n = _
    rw [heapAt_none fun j o' hj' hn' => by
      have := hj (j + 1) o' (by omega) hj' hn'
      rwa [show k + (j + 1) = k + 1 + j from by omega] at this]
    rw [Nat.add_zero] at hL
    rw [hL]
    show hget (hput H x.upd) n = _
    rw [hget_put, if_pos hn]
  | x :: l, k, i + 1, H, o, h, hn, hL, hj => by
    refine heapAt_last (l := l) (k := k + 1) (i := i) h hn (by rwa [show k + 1 + i = k + (i + 1) from by omega]) fun j o' hij hj' hn' => ?_
    have := hj (j + 1) o' (by omega) hj' hn'
    rwa [show k + (j + 1) = k + 1 + j from by omega] at this
theorem heapAt_nodup {L : Nat → Bool} : ∀ {l : List Out} {k : Nat} {H : Heap}, (names H).Nodup → (∀ (j : Nat) (o : Out), l[j]? = some o → (names o.upd).Nodup) → (names (heapAt l L k H)).Nodup
  | [], _, _, h, _ => h
  | o :: l, k, H, h, hl => by
    show (names (heapAt l L (k + 1) (bif L k then hput H o.upd else H))).Nodup
    refine heapAt_nodup (l := l) (k := k + 1) ?_ fun j o' hj => hl (j + 1) o' hj
    cases L k with
    | true => exact hput_nodup h (hl 0 o rfl)
    | false => exact h
theorem heapAt_ok {p : Nat → Nat → Bool} {L : Nat → Bool} : ∀ {l : List Out} {k : Nat} {H : Heap}, hok p H = true → (∀ (j : Nat) (o : Out), l[j]? = some o → L (k + j) = true → hok p o.upd = true) → hok p (heapAt l L k H) = true
  | [], _, _, h, _ => h
  | o :: l, k, H, h, hl => by
    show hok p (heapAt l L (k + 1) (bif L k then hput H o.upd else H)) = true
    refine heapAt_ok (l := l) (k := k + 1) ?_ fun j o' hj hL => hl (j + 1) o' hj (by rwa [show k + (j + 1) = k + 1 + j from by omega])
    cases hb : L k with
    | true => exact hok_put h (hl 0 o rfl (by rwa [Nat.add_zero]))
    | false => exact h
def slF : List Oper → List Out → Nat → Slots → Slots
  | o :: l, x :: outs, j + 1, sl => slF l outs j (putD sl o.dst x.v)
  | _, _, _, sl => sl
section
variable {P : Program} {cal : Callee P} {r nt : Nat} {all : List Oper}
theorem runOps_at : ∀ {l : List Oper} {i s : Nat} {sl : Slots} {H : Heap} {hs : List (Hint P)} {q : Ran P}, runOps P cal r nt all l i s sl H hs = some q → q.outs.length = l.length ∧ q.slots = slF l q.outs l.length sl ∧ q.heap = heapAt q.outs (fun j => Nat.blt j (i + l.length)) i H ∧
    ∀ j o, l[j]? = some o → ∃ out hs1 hs2, q.outs[j]? = some out ∧ oneOp P cal r nt all (i + j) (s + j) o (slF l q.outs j sl) (heapAt q.outs (fun x => Nat.blt x (i + j)) i H) hs1 = some (out, hs2)
  | [], i, s, sl, H, hs, q, h => by
    cases h
    exact ⟨rfl, rfl, rfl, fun j o h => by simp at h⟩
  | o :: l, i, s, sl, H, hs, q, h => by
    unfold runOps at h
    split at h <;> try (cases h; done)
    rename_i out hs' hone
    split at h <;> try (cases h; done)
    rename_i q' hq
    cases h
    obtain ⟨h1, h2, h3, h4⟩ := runOps_at hq
    have key : ∀ (m : Nat) (H' : Heap), heapAt q'.outs (fun x => Nat.blt x m) (i + 1) H' = heapAt q'.outs (fun x => Nat.blt x m) (i + 1) H' := fun _ _ => rfl
    refine ⟨by simp [h1], by rw [h2]; rfl, ?_, fun j o' hj => ?_⟩
    · show q'.heap = heapAt q'.outs _ (i + 1) (bif Nat.blt i (i + (o :: l).length) then hput H out.upd else H)
      have : Nat.blt i (i + (o :: l).length) = true := by rw [Nat.blt_eq]; simp
      rw [this, h3]
      show _ = heapAt q'.outs _ (i + 1) (hput H out.upd)
      congr 1
      funext j
      congr 1
      simp
      omega
    · cases j with
      | zero =>
        cases hj
        refine ⟨out, hs, hs', rfl, ?_⟩
        have e : heapAt (out :: q'.outs) (fun x => Nat.blt x (i + 0)) i H = H := by
          have : ∀ (l : List Out) (k : Nat), i ≤ k → heapAt l (fun x => Nat.blt x (i + 0)) k H = H := by
            intro l
            induction l with
            | nil => intros; rfl
            | cons y l ih =>
              intro k hk
              have hb : Nat.blt k (i + 0) = false := by
                cases hb : Nat.blt k (i + 0) with
                | false => rfl
                | true => rw [Nat.blt_eq] at hb; omega
              show heapAt l _ (k + 1) (bif Nat.blt k (i + 0) then hput H y.upd else H) = H
              rw [hb]; exact ih (k + 1) (by omega)
          exact this _ i (Nat.le_refl _)
        rw [e]
        exact hone
      | succ j =>
        obtain ⟨out', hs1, hs2, g1, g2⟩ := h4 j o' hj
        refine ⟨out', hs1, hs2, g1, ?_⟩
        have hb : Nat.blt i (i + (j + 1)) = true := by rw [Nat.blt_eq]; omega
        have e : heapAt (out :: q'.outs) (fun x => Nat.blt x (i + (j + 1))) i H = heapAt q'.outs (fun x => Nat.blt x (i + 1 + j)) (i + 1) (hput H out.upd) := by
          show heapAt q'.outs _ (i + 1) (bif Nat.blt i (i + (j + 1)) then hput H out.upd else H) = _
          rw [hb, show i + (j + 1) = i + 1 + j from by omega]; rfl
        rw [e, show i + (j + 1) = i + 1 + j from by omega, show s + (j + 1) = s + 1 + j from by omega]
        exact g2
theorem slF_at : ∀ {l : List Oper} {outs : List Out} {j t : Nat} {sl : Slots}, outs.length = l.length → (∃ (k : Nat) (o : Oper) (x : Out), k < j ∧ l[k]? = some o ∧ outs[k]? = some x ∧ o.dst = some t ∧ lkS (slF l outs j sl) t = some x.v) ∨ ((∀ (k : Nat) (o : Oper), k < j → l[k]? = some o → o.dst ≠ some t) ∧ lkS (slF l outs j sl) t = lkS sl t)
  | [], outs, j, t, sl, _ => .inr ⟨fun k o _ h => by simp at h, by cases outs <;> rfl⟩
  | o :: l, [], j, t, sl, h => by simp at h
  | o :: l, x :: outs, 0, t, sl, _ => .inr ⟨fun k o h _ => by omega, rfl⟩
  | o :: l, x :: outs, j + 1, t, sl, h => by
    have h : outs.length = l.length := by simpa using h
    rcases slF_at (l := l) (outs := outs) (j := j) (t := t) (sl := putD sl o.dst x.v) h with ⟨k, o', x', h1, h2, h3, h4, h5⟩ | ⟨h1, h2⟩
    · exact .inl ⟨k + 1, o', x', by omega, h2, h3, h4, h5⟩
    · have h2 : lkS (slF l outs j (putD sl o.dst x.v)) t = _ := h2
      rw [lkS_putD] at h2
      by_cases hd : o.dst = some t
      · rw [if_pos hd] at h2
        exact .inl ⟨0, o, x, by omega, rfl, rfl, hd, h2⟩
      · rw [if_neg hd] at h2
        refine .inr ⟨fun k o' hk ho' => ?_, h2⟩
        cases k with
        | zero => cases ho'; exact hd
        | succ k => exact h1 k o' (by omega) ho'
end
theorem runsM_mk {P : Program} {l0 : List Oper} {old : Nat → Nat → Bool} {a0 : Act} {V : Nat → (Nat → (Nat → Rv)) → Value} {Ω : (Nat → Bool) → (Nat → (Nat → Rv)) → World → Prop} {anc : List (List Nat)} : ∀ {l : List Oper} {i : Nat}, (∀ j o, l[j]? = some o → ∀ L e w ρ, L (i + j) = false → (∀ x, x ∈ anc.getD (i + j) [] → L x = true) → (∀ x, x < l0.length → (i + j) ∈ anc.getD x [] → L x = false) → (∀ x, x < l0.length → L x = true → ∀ y, y ∈ anc.getD x [] → L y = true) → Ω L e w → Ev l0 old (i + j) (fun j => V j e) a0 ρ →
      if want (fun j => V j e) o.guard = true then Res P (GoesM V Ω (i + j) L e) ((execOp ρ o).run P w) else GoesM V Ω (i + j) L e undef w) → runsM P l0 old a0 V Ω anc l i
  | [], _, _ => trivial
  | o :: l, i, h => ⟨h 0 o rfl, runsM_mk fun j o' hj => by
      have := h (j + 1) o' hj
      rwa [show i + (j + 1) = i + 1 + j from by omega] at this⟩
theorem depsM_mk {V : Nat → (Nat → (Nat → Rv)) → Value} {anc : List (List Nat)} : ∀ {n i : Nat}, (∀ j, j < n → ∀ e e' : Nat → (Nat → Rv), (∀ r, (r = i + j ∨ r ∈ anc.getD (i + j) []) → e r = e' r) → V (i + j) e = V (i + j) e') → depsM V anc n i
  | 0, _, _ => trivial
  | n + 1, i, h => ⟨h 0 (by omega), depsM_mk fun j hj => by
      have := h (j + 1) (by omega)
      rwa [show i + (j + 1) = i + 1 + j from by omega] at this⟩
def ext (ε : Env) (N : Nat) (e : Nat → Nat → Rv) : Env := fun s => bif Nat.blt s N then ε s else e (s - N)
theorem ext_lo {ε : Env} {N s : Nat} {e : Nat → Nat → Rv} (h : s < N) : ext ε N e s = ε s := by
  unfold ext; rw [show Nat.blt s N = true by rw [Nat.blt_eq]; exact h]; rfl
theorem ext_hi {ε : Env} {N k : Nat} {e : Nat → Nat → Rv} : ext ε N e (N + k) = e k := by
  unfold ext
  have : Nat.blt (N + k) N = false := by
    cases hb : Nat.blt (N + k) N with
    | false => rfl
    | true => rw [Nat.blt_eq] at hb; omega
  rw [this, Nat.add_sub_cancel_left]; rfl
theorem ext_upd {ε : Env} {N i : Nat} {e : Nat → Nat → Rv} {x : Nat → Rv} : ext ε N (updE e i x) = eset (ext ε N e) (N + i) x := by
  funext s
  by_cases h : s < N
  · rw [ext_lo h, eset_ne (by omega), ext_lo h]
  · obtain ⟨k, rfl⟩ : ∃ k, s = N + k := ⟨s - N, by omega⟩
    rw [ext_hi]
    unfold updE
    cases hb : Nat.beq k i with
    | true => rw [Nat.eq_of_beq_eq_true hb, eset_at]; rfl
    | false =>
      have : k ≠ i := fun e => by rw [e, Nat.beq_refl] at hb; cases hb
      rw [eset_ne (by omega), ext_hi]; rfl
section
variable {P : Program} {cal : Callee P} {r nt : Nat} {ops : List Oper} {lo : Nat} {eb : Env} {R : List Chunk} {σ : St} {ε : Env} {a0 : Act} {w0 : World}
theorem runOps_drawA {Q : Exit → Act → World → Prop} {hs : List (Hint P)} {q : Ran P} (hcal : CalleeOK P cal) (h : runOps P cal r nt ops ops 0 σ.next σ.slots σ.heap hs = some q) (hk : ChkOK (chks q.outs)) (hd : drawOK P nt σ.next ops q.outs = true) (hr : Rel nt lo eb R σ ε a0 w0)
    (hQ : ∀ ε' a' w', Rel nt lo eb R ⟨q.slots, q.heap, σ.next + ops.length⟩ ε' a' w' → Q .normal a' w') : anyRes P .any ops.toArray Q ops.toArray.size (Array.replicate ops.toArray.size false) a0 w0.drew := by
  unfold drawOK at hd
  simp only [Bool.and_eq_true] at hd
  obtain ⟨d1, d2, d3, d4, d5, d6, d7⟩ := hd
  obtain ⟨r1, r2, r3, r4⟩ := runOps_at h
  have C := ssaC2 d2
  generalize hanc : ancL ops = anc at *
  generalize hN : σ.next = N at *
  have hNpos : lo ≤ N := by rw [← hN]; exact hr.pos
  have scAt := fun (j : Nat) (o : Out) (ho : q.outs[j]? = some o) => by have := scopeB_at d6 j o ho; rwa [Nat.zero_add] at this
  have inAt : ∀ (i j : Nat) (o o' : Out), i ≠ j → q.outs[i]? = some o → q.outs[j]? = some o' → i ∈ anc.getD j [] ∨ j ∈ anc.getD i [] ∨ ((∀ n ∈ names o.upd, n ∉ o'.touch) ∧ ∀ n ∈ names o'.upd, n ∉ o.touch) := fun i j o o' hne hi hj => by
    rcases Nat.lt_or_ge i j with hlt | hge
    · have := indepB_at d7 i j o o' hlt hi hj
      rw [Nat.zero_add, Nat.zero_add] at this
      rcases this with h | h
      · exact .inl h
      · exact .inr (.inr h)
    · have := indepB_at d7 j i o' o (by omega) hj hi
      rw [Nat.zero_add, Nat.zero_add] at this
      rcases this with h | h
      · exact .inr (.inl h)
      · exact .inr (.inr ⟨h.2, h.1⟩)
  have hlen : ∀ {j : Nat} {out : Out}, q.outs[j]? = some out → ∃ o, ops[j]? = some o := fun {j out} hj => by
    have := (List.getElem?_eq_some_iff.1 hj).1
    exact ⟨_, List.getElem?_eq_getElem (by omega)⟩
  have okAt : ∀ (j : Nat) (out : Out), q.outs[j]? = some out → out.v.ok (ltB (N + j + 1)) = true ∧ hok (ltB (N + j + 1)) out.upd = true ∧ out.touch.Nodup := fun j out hj => by
    obtain ⟨o, ho⟩ := hlen hj
    obtain ⟨out', hs1, hs2, g1, g2⟩ := r4 j o ho
    rw [hj] at g1; cases g1
    rcases oneOp_cases g2 with ⟨-, -, hok⟩ | ⟨-, -, rfl, -⟩
    · unfold okOut at hok
      simp only [Bool.and_eq_true] at hok
      exact ⟨hok.2.1, hok.2.2.1, ndB_nodup hok.2.2.2⟩
    · exact ⟨by simp [SV.ok], rfl, List.nodup_nil⟩
  have ndU : ∀ (j : Nat) (out : Out), q.outs[j]? = some out → (names out.upd).Nodup := fun j out hj => (List.nodup_append.1 (okAt j out hj).2.2).1
  have ancLt : ∀ i x, i < ops.length → x ∈ anc.getD i [] → x < i := by
    intro i
    induction i using Nat.strongRecOn with
    | ind i ih =>
      intro x hi hx
      have ho : ops.toArray[i]? = some ops[i] := by simp [hi]
      obtain ⟨e, he, hb, h | h⟩ := C.up i _ ho x hx
      · rw [← h]; exact C.back i _ ho e he hb
      · have hl := C.back i _ ho e he hb
        have := ih e.on hl x (by omega) h
        omega
  let V : Nat → (Nat → (Nat → Rv)) → Value := fun j e => (((q.outs[j]?).map (fun x : Out => x.v)).getD (SV.val undef)).den (ext ε N e)
  let Ω : (Nat → Bool) → (Nat → (Nat → Rv)) → World → Prop := fun L e w => Mem (hden (ext ε N e) (heapAt q.outs L 0 σ.heap) ++ R) w
  have hV : ∀ (j : Nat) (out : Out) e, q.outs[j]? = some out → V j e = out.v.den (ext ε N e) := fun j out e hj => by
    show (((q.outs[j]?).map (fun x : Out => x.v)).getD (SV.val undef)).den (ext ε N e) = _
    rw [hj]; rfl
  have scDep : ∀ j (e e' : Nat → Nat → Rv), (∀ r, (r = j ∨ r ∈ anc.getD j []) → e r = e' r) → ∀ s k, scopeQ N anc j s k = true → ext ε N e s k = ext ε N e' s k := fun j e e' he s k0 hs => by
    unfold scopeQ at hs
    rw [Bool.or_eq_true, Bool.or_eq_true] at hs
    rcases hs with hs | hs | hs
    · rw [Nat.blt_eq] at hs; rw [ext_lo hs, ext_lo hs]
    · rw [Nat.eq_of_beq_eq_true hs, ext_hi, ext_hi]; exact congrFun (he j (.inl rfl)) k0
    · obtain ⟨k, hk, hb⟩ := List.any_eq_true.1 hs
      rw [Nat.eq_of_beq_eq_true hb, ext_hi, ext_hi]; exact congrFun (he k (.inr hk)) k0
  refine region_maskA nt V Ω (fun j => ε (N + j)) anc [] [] (oldOf ops) hr.size d3 d2 d4 d5 ?_ ?_ ?_ ?_
  · refine depsM_mk fun j hj e e' he => ?_
    rw [Nat.zero_add] at he ⊢
    obtain ⟨out, hout⟩ : ∃ out, q.outs[j]? = some out := ⟨_, List.getElem?_eq_getElem (by omega)⟩
    rw [hV j out e hout, hV j out e' hout]
    exact SV.den_congr (scDep j e e' he) _ (scAt j out hout).1
  · show Mem (hden (ext ε N fun j => ε (N + j)) (heapAt q.outs (fun _ => false) 0 σ.heap) ++ R) w0.drew
    have e1 : (ext ε N fun j => ε (N + j)) = ε := by
      funext s
      by_cases h : s < N
      · exact ext_lo h
      · obtain ⟨k, rfl⟩ : ∃ k, s = N + k := ⟨s - N, by omega⟩
        exact ext_hi
    have e2 : ∀ (l : List Out) k, heapAt l (fun _ => false) k σ.heap = σ.heap := by
      intro l
      induction l with
      | nil => intros; rfl
      | cons o l ih => intro k; exact ih (k + 1)
    rw [e1, e2]
    exact hr.mem.drew
  · refine runsM_mk fun j o ho L e w ρ hL hpre hsucc hdown hΩ hEv => ?_
    rw [Nat.zero_add] at hL hpre hsucc hEv ⊢
    obtain ⟨out, hs1, hs2, hout, hone⟩ := r4 j o ho
    rw [Nat.zero_add] at hone
    have hjl : j < ops.length := (List.getElem?_eq_some_iff.1 ho).1
    have hslot : ∀ t v, lkS (slF ops q.outs j σ.slots) t = some v → ρ (.tmp t) = v.den (ext ε N e) ∧ v.ok (ltB (N + j)) = true := fun t v hv => by
      rcases slF_at (l := ops) (outs := q.outs) (j := j) (t := t) (sl := σ.slots) r1 with ⟨k, ok, xk, h1, h2, h3, h4, h5⟩ | ⟨h1, h2⟩
      · rw [h5] at hv; cases hv
        have hold : oldOf ops j t = false := by
          unfold oldOf
          have : ((ops.take j).all fun o => o.dst != some t) = false := by
            rw [List.all_eq_false]
            exact ⟨ok, List.mem_of_getElem? (i := k) (by rw [List.getElem?_take_of_lt h1]; exact h2), by simp [h4]⟩
          rw [this]; rfl
        rw [hEv.d k ok t h2 h4 hold]
        exact ⟨hV k xk e h3, SV.ok_mono (ok_up (by omega)) _ (okAt k xk h3).1⟩
      · rw [h2] at hv
        have hs := hr.slots t v hv
        rw [hN] at hs
        have hc : (oldOf ops j t || ops.all fun o => o.dst != some t) = true := by
          by_cases hw : (ops.any fun o => o.dst == some t) = true
          · have : ((ops.take j).all fun o => o.dst != some t) = true := List.all_eq_true.2 fun o' ho' => by
              obtain ⟨k, hk⟩ := List.getElem?_of_mem ho'
              have hkj : k < j := by
                have := (List.getElem?_eq_some_iff.1 hk).1
                rw [List.length_take] at this; omega
              rw [List.getElem?_take_of_lt hkj] at hk
              simpa using h1 k o' hkj hk
            unfold oldOf; rw [this, hw]; rfl
          · have : (ops.all fun o => o.dst != some t) = true := List.all_eq_true.2 fun o' ho' => by
              have hn : ¬ (o'.dst == some t) = true := fun h => hw (List.any_eq_true.2 ⟨o', ho', h⟩)
              simpa using hn
            rw [this, Bool.or_true]
        rw [hEv.o t _ hc hs.1]
        exact ⟨SV.den_congr (fun s k hs => congrFun (ext_lo (ltB_iff.1 hs)).symm k) v hs.2, SV.ok_mono (ok_up (by omega)) v hs.2⟩
    have hev : EvOK (slotsEv (slF ops q.outs j σ.slots)) o ρ (ext ε N e) (N + j) := fun x _ v hv => by
      cases x with
      | tmp t => exact hslot t v hv
      | const c =>
        have hv : some (ofV c) = some v := hv
        cases hv
        exact ⟨by rw [ofV_den]; exact hEv.c c, ofV_ok _ c⟩
      | func f =>
        have hv : some (SV.fn (.func f) [] []) = some v := hv
        cases hv
        exact ⟨by rw [hEv.f f]; simp [SV.den, SV.dens], by simp [SV.ok, SV.oks]⟩
      | global g => cases hv
    have hwant : ∀ b, wantS ops (slF ops q.outs j σ.slots) o = some b → want (fun j => V j e) o.guard = b := fun b hb => by
      unfold wantS at hb
      unfold want
      split at hb
      · rename_i hg; rw [hg]; cases hb; rfl
      · rename_i g c hg
        rw [hg]
        split at hb <;> try (cases hb; done)
        rename_i og hog
        split at hb <;> try (cases hb; done)
        rename_i d hd
        have hgj : g < j := by
          have h5 := Array.all_eq_true_iff_forall_mem.1 d5 o (by simpa using List.mem_of_getElem? ho)
          rw [hg] at h5
          simp only [Bool.and_eq_true] at h5
          obtain ⟨e', he', h6⟩ := any_mem h5.2
          rw [Bool.and_eq_true] at h6
          have := C.back j o (by simpa using ho) e' he' h6.1
          rw [show e'.on = g by simpa using h6.2] at this
          exact this
        have hval : ∀ x, lkS (slF ops q.outs j σ.slots) d = some (.val (.bool x)) → V g e = .bool x := fun x hx => by
          rcases slF_at (l := ops) (outs := q.outs) (j := j) (t := d) (sl := σ.slots) r1 with ⟨k, ok, xk, h1, h2, h3, h4, h5⟩ | ⟨h1, -⟩
          · have hkg : k = g := C.once k ok g og d (by simpa using h2) (by simpa using hog) hd h4
            subst hkg
            rw [hV k xk e h3]
            rw [h5] at hx
            cases hx' : xk.v with
            | val v => rw [hx'] at hx; cases hx; simp [SV.den]
            | _ => rw [hx'] at hx; cases hx
          · exact absurd hd (h1 g og hgj hog)
        have hvalT : ∀ x, lkS (slF ops q.outs j σ.slots) d = some (.val (.tuple x)) → V g e = .tuple x := fun x hx => by
          rcases slF_at (l := ops) (outs := q.outs) (j := j) (t := d) (sl := σ.slots) r1 with ⟨k, ok, xk, h1, h2, h3, h4, h5⟩ | ⟨h1, -⟩
          · have hkg : k = g := C.once k ok g og d (by simpa using h2) (by simpa using hog) hd h4
            subst hkg
            rw [hV k xk e h3]
            rw [h5] at hx
            cases hx' : xk.v with
            | val v => rw [hx'] at hx; cases hx; simp [SV.den]
            | _ => rw [hx'] at hx; cases hx
          · exact absurd hd (h1 g og hgj hog)
        split at hb <;> try (cases hb; done)
        · rename_i hl; cases hb; simp only [hval _ hl]; cases b <;> rfl
        · rename_i hl; cases hb; simp only [hval _ hl]; cases c <;> rfl
        · rename_i vs hl; cases hb; simp only [hvalT _ hl]
    have hT : out.touch.Nodup := (okAt j out hout).2.2
    have hget1 : ∀ n ∈ out.touch, hget (heapAt q.outs L 0 σ.heap) n = hget (heapAt q.outs (fun x => Nat.blt x j) 0 σ.heap) n := fun n hn => by
      refine heapAt_congr rfl fun k xk hk hnk => ?_
      rw [Nat.zero_add]
      by_cases hkj : k = j
      · subst hkj
        rw [hL]
        symm
        cases hb : Nat.blt k k with
        | false => rfl
        | true => rw [Nat.blt_eq] at hb; omega
      · have hkl : k < ops.length := by have := (List.getElem?_eq_some_iff.1 hk).1; omega
        rcases inAt k j xk out hkj hk hout with h | h | h
        · rw [hpre k h]; symm; rw [Nat.blt_eq]; exact ancLt j k hjl h
        · rw [hsucc k hkl h]
          symm
          have := ancLt k j hkl h
          cases hb : Nat.blt k j with
          | false => rfl
          | true => rw [Nat.blt_eq] at hb; omega
        · exact absurd hn (h.1 n hnk)
    have hndL : (names (heapAt q.outs L 0 σ.heap)).Nodup := heapAt_nodup hr.nd ndU
    have hndS : (names (heapAt q.outs (setL L j) 0 σ.heap)).Nodup := heapAt_nodup hr.nd ndU
    have hstep : ∀ n, hget (hput (heapAt q.outs L 0 σ.heap) out.upd) n = hget (heapAt q.outs (setL L j) 0 σ.heap) n := fun n => by
      rw [hget_put]
      by_cases hn : n ∈ names out.upd
      · rw [if_pos hn]
        symm
        refine heapAt_last hout hn (by rw [Nat.zero_add]; unfold setL; rw [Nat.beq_refl]; rfl) fun k xk hjk hk hnk => ?_
        rw [Nat.zero_add]
        have hkl : k < ops.length := by have := (List.getElem?_eq_some_iff.1 hk).1; omega
        have hs : setL L j k = L k := by
          unfold setL
          cases hb : Nat.beq k j with
          | false => rfl
          | true => have := Nat.eq_of_beq_eq_true hb; omega
        rw [hs]
        rcases inAt j k out xk (by omega) hout hk with h | h | h
        · exact hsucc k hkl h
        · have := ancLt j k hjl h; omega
        · exact absurd (List.mem_append_left _ hnk) (h.1 n hn)
      · rw [if_neg hn]
        refine heapAt_congr rfl fun k xk hk hnk => ?_
        rw [Nat.zero_add]
        unfold setL
        cases hb : Nat.beq k j with
        | false => rfl
        | true =>
          have := Nat.eq_of_beq_eq_true hb
          subst this
          rw [hout] at hk; cases hk
          exact absurd hnk hn
    have hscL : ∀ x, hden (ext ε N e) (heapAt q.outs L 0 σ.heap) = hden (eset (ext ε N e) (N + j) x) (heapAt q.outs L 0 σ.heap) ∧ ∀ T, hden (ext ε N e) (hdels (heapAt q.outs L 0 σ.heap) T) = hden (eset (ext ε N e) (N + j) x) (hdels (heapAt q.outs L 0 σ.heap) T) := fun x => by
      have hp : hok (fun s _ => !Nat.beq s (N + j)) (heapAt q.outs L 0 σ.heap) = true := by
        refine heapAt_ok (hok_mono (fun s k' hs => ?_) hr.sc) fun k xk hk hLk => hok_mono (fun s k' hs => ?_) (scAt k xk hk).2
        · rw [hN] at hs
          have := ltB_iff.1 hs
          cases hb : Nat.beq s (N + j) with
          | false => rfl
          | true => have := Nat.eq_of_beq_eq_true hb; omega
        · rw [Nat.zero_add] at hLk
          have hkl : k < ops.length := by have := (List.getElem?_eq_some_iff.1 hk).1; omega
          cases hb : Nat.beq s (N + j) with
          | false => rfl
          | true =>
            have := Nat.eq_of_beq_eq_true hb
            subst this
            unfold scopeQ at hs
            rw [Bool.or_eq_true, Bool.or_eq_true] at hs
            rcases hs with hs | hs | hs
            · rw [Nat.blt_eq] at hs; omega
            · have := Nat.eq_of_beq_eq_true hs
              have : j = k := by omega
              subst this
              rw [hL] at hLk; cases hLk
            · obtain ⟨m, hm, hb⟩ := List.any_eq_true.1 hs
              have := Nat.eq_of_beq_eq_true hb
              have : j = m := by omega
              subst this
              have := hdown k hkl hLk j hm
              rw [hL] at this; cases this
      have hne : ∀ s k, (!Nat.beq s (N + j)) = true → ext ε N e s k = eset (ext ε N e) (N + j) x s k := fun s k hs => (eset_ne' fun h => by rw [h, Nat.beq_refl] at hs; cases hs).symm
      exact ⟨hden_congr hne hp, fun T => hden_congr hne (hok_dels hp)⟩
    rcases oneOp_cases hone with ⟨hw, hop, hok⟩ | ⟨hw, -, hout', -⟩
    · rw [hwant _ hw, if_pos rfl]
      have hk1 : ChkOK out.chk := fun c hc => hk c (List.mem_flatMap.2 ⟨out, List.mem_of_getElem? hout, hc⟩)
      have hsc : ScOK (N + j) (heapAt q.outs (fun x => Nat.blt x j) 0 σ.heap) := by
        refine heapAt_ok (hok_mono (ok_up (by omega)) hr.sc) fun k xk hk hLk => hok_mono (ok_up ?_) (okAt k xk hk).2.1
        rw [Nat.zero_add, Nat.blt_eq] at hLk
        omega
      have hM := (focus hT hndL).1 hΩ
      rw [tden_congr hget1] at hM
      have hs := sOp_ok hcal hop hev hk1 hsc _ w hM
      refine res_mono (fun u w' ha => ?_) hs
      obtain ⟨x, rfl, hm⟩ := ha
      refine ⟨x, ?_, ?_⟩
      · rw [hV j out _ hout, ext_upd]
      · show Mem (hden (ext ε N (updE e j x)) (heapAt q.outs (setL L j) 0 σ.heap) ++ R) w'
        rw [ext_upd]
        have hrd : tden (eset (ext ε N e) (N + j) x) (heapAt q.outs (fun x => Nat.blt x j) 0 σ.heap) out.rd = tden (eset (ext ε N e) (N + j) x) (heapAt q.outs L 0 σ.heap) out.rd := tden_congr fun n hn => (hget1 n (List.mem_append_right _ hn)).symm
        rw [hrd, (hscL x).2] at hm
        have h1 := unfocus hndL hT hm
        exact mem_ext (hput_nodup hndL (ndU j out hout)) hndS (fun n _ => hstep n) h1
    · subst hout'
      rw [hwant _ hw, if_neg (by decide)]
      refine ⟨e j, ?_, ?_⟩
      · rw [hV j _ _ hout]; simp [SV.den]
      · have e1 : updE e j (e j) = e := by
          funext s; unfold updE
          cases hb : Nat.beq s j with
          | true => rw [Nat.eq_of_beq_eq_true hb]; rfl
          | false => rfl
        show Mem (hden (ext ε N (updE e j (e j))) (heapAt q.outs (setL L j) 0 σ.heap) ++ R) w
        rw [e1]
        exact mem_ext hndL hndS (fun n _ => by have := hstep n; rwa [hget_put, if_neg (by simp [names])] at this) hΩ
  · intro e a' w' hz hdf hgot hold hΩ
    refine hQ (ext ε N e) a' w' ⟨hz, by rw [hdf]; exact hr.defers, fun d v hv => ?_, ?_, ?_, ?_, fun t ht => by rw [ext_lo (by omega)]; exact hr.e0 t ht, by show lo ≤ N + ops.length; omega⟩
    · have hv : lkS q.slots d = some v := hv
      rw [r2] at hv
      rcases slF_at (l := ops) (outs := q.outs) (j := ops.length) (t := d) (sl := σ.slots) r1 with ⟨k, ok, xk, h1, h2, h3, h4, h5⟩ | ⟨h1, h2⟩
      · rw [h5] at hv; cases hv
        exact ⟨by rw [hgot k ok d h2 h4, hV k xk e h3], SV.ok_mono (ok_up (by show N + k + 1 ≤ N + ops.length; omega)) _ (okAt k xk h3).1⟩
      · rw [h2] at hv
        have hs := hr.slots d v hv
        rw [hN] at hs
        refine ⟨?_, SV.ok_mono (ok_up (by show N ≤ N + ops.length; omega)) v hs.2⟩
        rw [hold d (List.all_eq_true.2 fun o ho => by
          obtain ⟨k, hk⟩ := List.getElem?_of_mem ho
          simpa using h1 k o ((List.getElem?_eq_some_iff.1 hk).1) hk), hs.1]
        exact congrArg some (SV.den_congr (fun s k hs => congrFun (ext_lo (ltB_iff.1 hs)).symm k) v hs.2)
    · show Mem (hden (ext ε N e) q.heap ++ R) w'
      rw [r3, Nat.zero_add]
      exact hΩ
    · show (names q.heap).Nodup
      rw [r3]; exact heapAt_nodup hr.nd ndU
    · show hok (ltB (N + ops.length)) q.heap = true
      rw [r3]
      refine heapAt_ok (hok_mono (ok_up (by omega)) hr.sc) fun k xk hk hLk => hok_mono (ok_up ?_) (okAt k xk hk).2.1
      have := (List.getElem?_eq_some_iff.1 hk).1
      omega
theorem runOps_draw {id : Nat} {Q : Exit → Act → World → Prop} {hs : List (Hint P)} {q : Ran P} (hcal : CalleeOK P cal) (h : runOps P cal r nt ops ops 0 σ.next σ.slots σ.heap hs = some q) (hk : ChkOK (chks q.outs)) (hd : drawOK P nt σ.next ops q.outs = true) (hr : Rel nt lo eb R σ ε a0 w0)
    (hQ : ∀ ε' a' w', Rel nt lo eb R ⟨q.slots, q.heap, σ.next + ops.length⟩ ε' a' w' → Q .normal a' w') : (Code.region id ops.toArray true).wp P Q a0 w0 := by
  have d1 := hd
  unfold drawOK at d1
  simp only [Bool.and_eq_true] at d1
  exact wp_region_any d1.1 (anyRes_wp (runOps_drawA hcal h hk hd hr hQ))
end
end Go.Sx
