/- SX: open maps. -/
import Derived.Test.YtmhbpifhpolghaaGreatMf87a7b5
namespace Go.Sx
set_option linter.unusedVariables false
set_option linter.unusedSimpArgs false
open Go.RowKit Go.Tk Go.Lib Go.Shelf Go.Vc
section
variable {κ α : Type} [DecidableEq κ]
def lkt : List (κ × α) → κ → Option α
  | [], _ => none
  | p :: l, k => if p.1 = k then some p.2 else lkt l k
def putt : List (κ × α) → κ → α → List (κ × α)
  | [], k, a => [(k, a)]
  | p :: l, k, a => if p.1 = k then (k, a) :: l else p :: putt l k a
def ents (enc : α → Value) (L : List (κ × α)) : List (κ × Value) := L.map fun p => (p.1, enc p.2)
theorem lk_ents (enc : α → Value) (k : κ) : ∀ L : List (κ × α), lk (ents enc L) k = (lkt L k).map enc
  | [] => rfl
  | p :: l => by
    have ih := lk_ents enc k l
    unfold ents lk at ih ⊢
    rw [List.map_cons, List.find?_cons]
    unfold lkt
    by_cases h : p.1 = k
    · simp [h]
    · simp only [h, decide_false, if_false]; exact ih
theorem lkt_none {L : List (κ × α)} {k : κ} : lkt L k = none ↔ k ∉ L.map (·.1) := by
  induction L with
  | nil => simp [lkt]
  | cons p l ih =>
    unfold lkt
    by_cases h : p.1 = k
    · simp [h]
    · rw [if_neg h, ih]; simp [Ne.symm h]
theorem lkt_mem {L : List (κ × α)} {k : κ} {a : α} (h : lkt L k = some a) : (k, a) ∈ L := by
  induction L with
  | nil => cases h
  | cons p l ih =>
    unfold lkt at h
    by_cases hk : p.1 = k
    · rw [if_pos hk] at h; cases h; subst hk; exact List.mem_cons_self
    · rw [if_neg hk] at h; exact List.mem_cons_of_mem _ (ih h)
theorem lkt_of {L : List (κ × α)} (hn : (L.map (·.1)).Nodup) {k : κ} {a : α} (h : (k, a) ∈ L) : lkt L k = some a := by
  induction L with
  | nil => cases h
  | cons p l ih =>
    rw [List.map_cons, List.nodup_cons] at hn
    unfold lkt
    rcases List.mem_cons.1 h with h | h
    · rw [← h]; simp
    · have : p.1 ≠ k := fun e => hn.1 (by rw [e]; exact List.mem_map_of_mem (f := (·.1)) h)
      rw [if_neg this]; exact ih hn.2 h
theorem lkt_perm {L L' : List (κ × α)} (hn : (L.map (·.1)).Nodup) (hp : L.Perm L') (k : κ) : lkt L k = lkt L' k := by
  have hn' : (L'.map (·.1)).Nodup := (hp.map _).nodup_iff.1 hn
  cases h : lkt L k with
  | none =>
    symm; rw [lkt_none] at h ⊢
    exact fun e => h ((hp.map _).mem_iff.2 e)
  | some a => exact (lkt_of hn' (hp.mem_iff.1 (lkt_mem h))).symm
theorem lkt_put (k j : κ) (a : α) : ∀ L : List (κ × α), lkt (putt L k a) j = if k = j then some a else lkt L j
  | [] => by simp [putt, lkt]
  | p :: l => by
    unfold putt
    by_cases h : p.1 = k
    · rw [if_pos h]
      by_cases hj : k = j
      · simp [lkt, hj]
      · have : ¬ p.1 = j := fun e => hj (h.symm.trans e)
        simp [lkt, hj, this]
    · rw [if_neg h]
      unfold lkt
      by_cases hj : p.1 = j
      · have : ¬ k = j := fun e => h (hj.trans e.symm)
        simp [hj, this]
      · rw [if_neg hj, if_neg hj]; exact lkt_put k j a l
theorem putt_keys (k : κ) (a : α) : ∀ {L : List (κ × α)}, k ∈ L.map (·.1) → (putt L k a).map (·.1) = L.map (·.1)
  | [], h => by cases h
  | p :: l, h => by
    unfold putt
    by_cases hk : p.1 = k
    · rw [if_pos hk]; simp [hk]
    · rw [if_neg hk]
      rw [List.map_cons, List.map_cons, putt_keys k a]
      rw [List.map_cons, List.mem_cons] at h
      exact h.resolve_left (Ne.symm hk)
theorem putt_new (k : κ) (a : α) : ∀ {L : List (κ × α)}, k ∉ L.map (·.1) → putt L k a = L ++ [(k, a)]
  | [], _ => rfl
  | p :: l, h => by
    rw [List.map_cons, List.mem_cons, not_or] at h
    unfold putt
    rw [if_neg (Ne.symm h.1), putt_new k a h.2]; rfl
theorem putt_nodup {L : List (κ × α)} (hn : (L.map (·.1)).Nodup) (k : κ) (a : α) : ((putt L k a).map (·.1)).Nodup := by
  by_cases h : k ∈ L.map (·.1)
  · rw [putt_keys k a h]; exact hn
  · rw [putt_new k a h, List.map_append, List.nodup_append]
    exact ⟨hn, by simp, fun x hx y hy e => by simp only [List.map_cons, List.map_nil, List.mem_singleton] at hy; rw [e, hy] at hx; exact h hx⟩
theorem put_ents (enc : α → Value) (k : κ) (a : α) : ∀ {L : List (κ × α)}, (L.map (·.1)).Nodup → (putL (ents enc L) k (enc a)).Perm (ents enc (putt L k a))
  | [], _ => List.Perm.refl _
  | p :: l, hn => by
    rw [List.map_cons, List.nodup_cons] at hn
    have ih := put_ents enc k a hn.2
    unfold putt
    by_cases h : p.1 = k
    · rw [if_pos h]
      have : (ents enc l).filter (fun q => !decide (q.1 = k)) = ents enc l := by
        rw [List.filter_eq_self]
        intro q hq
        obtain ⟨r, hr, rfl⟩ := List.mem_map.1 hq
        have : r.1 ≠ k := fun e => hn.1 (by rw [h, ← e]; exact List.mem_map_of_mem (f := (·.1)) hr)
        simp [this]
      unfold putL ents at this ⊢
      rw [List.map_cons, List.filter_cons, List.map_cons]
      simp only [h, decide_true, Bool.not_true, Bool.false_eq_true, if_false]
      rw [this]
    · rw [if_neg h]
      unfold putL ents at ih ⊢
      rw [List.map_cons, List.filter_cons, List.map_cons]
      simp only [h, decide_false, Bool.not_false, if_true]
      exact (List.Perm.swap _ _ _).trans (ih.cons _)
end
def isLk (t : TypeId) (c : Bool) (o : Oper) : Bool := match o.op with
  | .lookup t' _ _ c' => Nat.beq t t' && (c == c')
  | _ => false
def lkXY (o : Oper) : List Operand := match o.op with
  | .lookup _ x y _ => [x, y]
  | _ => []
theorem isLk_of {t : TypeId} {c : Bool} {o : Oper} (h : isLk t c o = true) : ∃ x y, o.op = .lookup t x y c ∧ lkXY o = [x, y] := by
  unfold isLk at h
  unfold lkXY
  split at h
  · rename_i t' x y c' ho
    simp only [Bool.and_eq_true] at h
    have e1 := Nat.eq_of_beq_eq_true h.1
    have e2 : c = c' := by simpa using h.2
    subst e1; subst e2
    rw [ho]; exact ⟨x, y, rfl, rfl⟩
  · cases h
def isUp (t : TypeId) (o : Oper) : Bool := match o.op with
  | .mapUpdate t' _ _ _ => Nat.beq t t'
  | _ => false
def upXYZ (o : Oper) : List Operand := match o.op with
  | .mapUpdate _ x y z => [x, y, z]
  | _ => []
theorem isUp_of {t : TypeId} {o : Oper} (h : isUp t o = true) : ∃ x y z, o.op = .mapUpdate t x y z ∧ upXYZ o = [x, y, z] := by
  unfold isUp at h
  unfold upXYZ
  split at h
  · rename_i t' x y z ho
    have e1 := Nat.eq_of_beq_eq_true h
    subst e1
    rw [ho]; exact ⟨x, y, z, rfl, rfl⟩
  · cases h
def isLenM (P : Program) (o : Oper) : Bool := match o.op with
  | .call c => (match c.callee with
    | .builtin .len => (match c.args.toList, c.argTypes[0]? with
      | [_], some t => (match P.underlying t with
        | some (.map _ _) => true
        | _ => false)
      | _, _ => false)
    | _ => false)
  | _ => false
def lenX (o : Oper) : List Operand := match o.op with
  | .call c => c.args.toList
  | _ => []
section
variable {P : Program} {κ : Type} [DecidableEq κ] {t kt e : TypeId}
theorem look_open {K : KeyKind P kt κ} {F : Nat → Value → Chunk} {L : List (κ × Value)} {key : κ} {ks ret : SV} {z : Value} {c : Bool} (hT : P.underlying t = some (.map kt e)) (hz : ∀ w, (zeroValue e).run P w = .ok z w)
    (hF : ∀ b v S w, (F b v).at_ S w → MapAt K w b L) (hk : K.ok key) (hks : ∀ ε, ks.den ε = K.kv key) (hr : ∀ ε, ret.den ε = if c then .tuple #[(lk L key).getD z, .bool (lk L key).isSome] else (lk L key).getD z) (hro : ret.ok (ltB 0) = true) :
    OpG P (isLk t c) lkXY [.map 0 0, ks] [((0, 0), .fam F)] [] ret [] := by
  intro o ho
  obtain ⟨x, y, ho, hxy⟩ := isLk_of ho
  rw [hxy]
  refine ⟨fun q hq => by rw [ho]; simpa [Op.operands] using hq, fun ε ρ R w hx hM => ?_⟩
  simp only [List.map_cons, List.map_nil, SV.dens, SV.den, List.cons.injEq, and_true] at hx
  obtain ⟨hx, hy⟩ := hx
  have hM : Mem (F (ε 0 0).1 (ε 0 0).2 :: R) w := hM
  have hm := hM.of 0 rfl (φ := MapAt K w (ε 0 0).1 L) (fun S hS => hF _ _ _ _ hS)
  have hrun := hm.lookup (w := w) hT hz hk c
  have hE : (execOp ρ o).run P w = .ok (.value (ret.den ε)) w := by
    unfold execOp; rw [ho]
    simp only [hx, hy, hks]
    rw [hr ε]
    simp [hrun, go_sem]
  refine res_ok hE ⟨fun _ => (0, undef), ?_, hM⟩
  exact SV.den_congr (p := ltB 0) (fun s k h => by simp [ltB] at h) ret hro
theorem upd_open {K : KeyKind P kt κ} {F F' : Nat → Value → Chunk} {L : List (κ × Value)} {key : κ} {ks vs : SV} {val : Value} (hT : P.underlying t = some (.map kt e))
    (hF : ∀ b v S w, (F b v).at_ S w → S b ∧ MapAt K w b L) (hF' : ∀ b v S w w', (F b v).at_ S w → (∀ k, S k → k < w.heap.size) → MapAt K w' b (putL L key val) → w.grownBy w' (some b) → (F' b v).at_ S w')
    (hk : K.ok key) (hks : ∀ ε, ks.den ε = K.kv key) (hvs : ∀ ε, vs.den ε = val) :
    OpG P (isUp t) upXYZ [.map 0 0, ks, vs] [] [((0, 0), .fam F)] (.val undef) [((0, 0), .fam F')] := by
  intro o ho
  obtain ⟨x, y, z, ho, hxy⟩ := isUp_of ho
  rw [hxy]
  refine ⟨fun q hq => by rw [ho]; simpa [Op.operands] using hq, fun ε ρ R w hx hM => ?_⟩
  simp only [List.map_cons, List.map_nil, SV.dens, SV.den, List.cons.injEq, and_true] at hx
  obtain ⟨hx, hy, hz⟩ := hx
  have hM : Mem (F (ε 0 0).1 (ε 0 0).2 :: R) w := hM
  have hm := hM.of 0 rfl (φ := MapAt K w (ε 0 0).1 L) (fun S hS => (hF _ _ _ _ hS).2)
  obtain ⟨w', hr, hm', hg'⟩ := hm.update hT hk val
  have hE : (execOp ρ o).run P w = .ok .skip w' := by
    unfold execOp; rw [ho]
    simp only [hx, hy, hz, hks, hvs]
    simp [hr, go_sem]
  rw [hE]
  refine ⟨fun _ => (0, undef), by simp only [SV.den], ?_⟩
  have := hM.step 0 rfl (c' := F' (ε 0 0).1 (ε 0 0).2) (fun S hS hlt => ⟨⟨hg'.os, hg'.tape, hg'.output, hg'.size, fun b hb hnb => hg'.block b hb (fun e => hnb (by cases e; exact (hF _ _ _ _ hS).1))⟩, S, hF' _ _ _ _ _ hS hlt hm' hg', fun b hb => ⟨.inl hb, Nat.lt_of_lt_of_le (hlt b hb) hg'.size⟩⟩)
  have e0 : eset ε 1 (fun _ => (0, undef)) 0 0 = ε 0 0 := by rw [eset_ne (by decide)]
  show Mem (F' (eset ε 1 (fun _ => (0, undef)) 0 0).1 (eset ε 1 (fun _ => (0, undef)) 0 0).2 :: R) w'
  rw [e0]
  exact this
omit [DecidableEq κ] in
theorem len_open {K : KeyKind P kt κ} {F : Nat → Value → Chunk} {L : List (κ × Value)} {n : Nat} (hF : ∀ b v S w, (F b v).at_ S w → MapAt K w b L) (hn : L.length = n) :
    OpG P (isLenM P) lenX [.map 0 0] [((0, 0), .fam F)] [] (.val (.int .i64 (n : Int))) [] := by
  intro o ho
  unfold isLenM at ho
  split at ho <;> try (cases ho; done)
  rename_i c hop
  split at ho <;> try (cases ho; done)
  rename_i hc
  split at ho <;> try (cases ho; done)
  rename_i x t' ha ht
  split at ho <;> try (cases ho; done)
  rename_i k' e' hT
  have hx' : lenX o = [x] := by unfold lenX; rw [hop]; exact ha
  rw [hx']
  refine ⟨fun q hq => by rw [hop]; simp [Op.operands, Call.operands, hc]; have := arr_one ha; rw [this]; simpa using hq, fun ε ρ R w hx hM => ?_⟩
  simp only [List.map_cons, List.map_nil, SV.dens, SV.den, List.cons.injEq, and_true] at hx
  have hM : Mem (F (ε 0 0).1 (ε 0 0).2 :: R) w := hM
  obtain ⟨es, clock, hb, hp, -⟩ := hM.of 0 rfl (φ := MapAt K w (ε 0 0).1 L) (fun S hS => hF _ _ _ _ hS)
  have hlen : es.size = n := by have := hp.length_eq; simp at this; omega
  have := x_lenM (P := P) (ρ := ρ) (o := o) (w := w) hop hc (arr_one ha) ht hx hT hb
  rw [hlen] at this
  exact res_ok this ⟨fun _ => (0, undef), by simp only [SV.den], hM⟩
variable {α : Type} {enc : α → Value} {encS : α → SV}
def mapT (K : KeyKind P kt κ) (enc : α → Value) (L : List (κ × α)) : Nat → Value → Chunk := fun b _ => mapC K b (ents enc L)
theorem look_map {K : KeyKind P kt κ} (z : α) (L : List (κ × α)) (key : κ) {ks : SV} (hT : P.underlying t = some (.map kt e)) (hz : ∀ w, (zeroValue e).run P w = .ok (enc z) w) (he : ∀ ε a, (encS a).den ε = enc a) (heo : ∀ a, (encS a).ok (ltB 0) = true) (hk : K.ok key) (hks : ∀ ε, ks.den ε = K.kv key) :
    OpG P (isLk t true) lkXY [.map 0 0, ks] [((0, 0), .fam (mapT K enc L))] [] (.tup [encS ((lkt L key).getD z), .val (.bool (lkt L key).isSome)]) [] :=
  look_open hT hz (fun b v S w h => h.2) hk hks (fun ε => by
    rw [lk_ents]
    simp only [SV.den, SV.dens, he, if_true]
    cases lkt L key <;> rfl) (by simp [SV.ok, SV.oks, heo])
theorem upd_map {K : KeyKind P kt κ} (L L' : List (κ × α)) (key : κ) (a : α) {ks vs : SV} (hT : P.underlying t = some (.map kt e)) (hp : (putt L key a).Perm L') (hk : K.ok key) (hks : ∀ ε, ks.den ε = K.kv key) (hvs : ∀ ε, vs.den ε = enc a) :
    OpG P (isUp t) upXYZ [.map 0 0, ks, vs] [] [((0, 0), .fam (mapT K enc L))] (.val undef) [((0, 0), .fam (mapT K enc L'))] :=
  upd_open (K := K) hT (fun b v S w h => h) (fun b v S w w' h _ hm hg => ⟨h.1, by
    obtain ⟨es, clock, hb, hp0, hn, -⟩ := h.2
    have hn : (L.map (·.1)).Nodup := by have := hn; unfold ents at this; rwa [List.map_map] at this
    refine hm.perm ((put_ents enc key a hn).trans ?_)
    unfold ents; exact hp.map _⟩) hk hks hvs
omit [DecidableEq κ] in
theorem len_map {K : KeyKind P kt κ} (L : List (κ × α)) : OpG P (isLenM P) lenX [.map 0 0] [((0, 0), .fam (mapT K enc L))] [] (.val (.int .i64 (L.length : Int))) [] :=
  len_open (fun b v S w h => h.2) (by simp [ents])
end
def isApp (P : Program) (t t' : TypeId) (o : Oper) : Bool := match o.op with
  | .call c => (match c.callee with
    | .builtin .append => (match c.args.toList, c.argTypes.toList with
      | [_, _], [u, u'] => Nat.beq u t && Nat.beq u' t'
      | _, _ => false)
    | _ => false)
  | _ => false
theorem isApp_of {P : Program} {t t' : TypeId} {o : Oper} (h : isApp P t t' o = true) : ∃ c x y, o.op = .call c ∧ c.callee = .builtin .append ∧ c.args = #[x, y] ∧ c.argTypes = #[t, t'] ∧ lenX o = [x, y] := by
  unfold isApp at h
  split at h <;> try (cases h; done)
  rename_i c ho
  split at h <;> try (cases h; done)
  rename_i hc
  split at h <;> try (cases h; done)
  rename_i x y u u' ha ht
  rw [Bool.and_eq_true] at h
  have e1 := Nat.eq_of_beq_eq_true h.1
  have e2 := Nat.eq_of_beq_eq_true h.2
  subst e1; subst e2
  exact ⟨c, x, y, ho, hc, Array.ext' ha, Array.ext' ht, by unfold lenX; rw [ho]; exact ha⟩
def infoB (P : Program) (e size : Nat) : Bool := match P.info? e with
  | some i => (match i.zero with
    | some z => Nat.beq i.size size && (Nat.beq z.cells.size size && (Nat.blt 0 size && Nat.ble i.bytes 131072))
    | none => false)
  | none => false
theorem infoB_of {P : Program} {e size : Nat} (h : infoB P e size = true) : ∃ i z, P.info? e = some i ∧ i.zero = some z ∧ i.size = size ∧ z.cells.size = size ∧ 0 < size ∧ i.bytes ≤ 131072 := by
  unfold infoB at h
  split at h <;> try (cases h; done)
  rename_i i hi
  split at h <;> try (cases h; done)
  rename_i z hz
  simp only [Bool.and_eq_true] at h
  exact ⟨i, z, hi, hz, Nat.eq_of_beq_eq_true h.1, Nat.eq_of_beq_eq_true h.2.1, by have := h.2.2.1; rwa [Nat.blt_eq] at this, Nat.le_of_ble_eq_true h.2.2.2⟩
theorem app_openG {P : Program} {t t' e e' size j : Nat} {F : Nat → Value → Chunk} {a : Option Addr} {n cap : Nat} {xs : List Value} (hu : P.underlying t = some (.slice e)) (hy : P.underlying t' = some (.slice e')) (hi : infoB P e size = true)
    (hl : xs.length = n * size) (h1 : ∀ u ∈ xs, u.oneCell' = true) (hR : ∀ b v, Rd (F b v) a xs) (hn : n ≤ 1073741824) :
    OpG P (isApp P t t') lenX [.raw 0 100, .val (.slice a n cap)] [((0, j), .fam F)] [((0, 100), .row e size 0 (.deep []) [])] (.raw 1 0) [((1, 0), .row e size n (.shal xs) [])] := by
  intro o ho
  obtain ⟨c, x, y, ho, hc, ha, hat, hx⟩ := isApp_of ho
  rw [hx]
  obtain ⟨i, z, hi', hz, rfl, hzs, h0, hb⟩ := infoB_of hi
  refine ⟨fun q hq => by rw [ho]; simp [Op.operands, Call.operands, hc, ha]; simpa using hq, fun ε ρ R w hx hM => ?_⟩
  simp only [List.map_cons, List.map_nil, SV.dens, SV.den, List.cons.injEq, and_true] at hx
  obtain ⟨hx, hy'⟩ := hx
  have hM : Mem (F (ε 0 j).1 (ε 0 j).2 :: rowC e i.size (asSl (ε 0 100).2) 0 [] :: R) w := hM
  have hrow : Row w a xs := (hR _ _).row hM 0 rfl
  have hS : Go.Src P i.size t' (.slice a n cap) n xs w := by
    cases a with
    | some ad => exact Go.Src.ofSlice (P := P) w hy ad n cap _ hl (fun j u' hj => by
        have hjl := (List.getElem?_eq_some_iff.1 hj).1
        obtain ⟨b, off, hab, hcell⟩ := hrow j hjl
        cases hab
        have : (Addr.add ⟨b, off, none⟩ j) = ⟨b, off + j, none⟩ := addr_add b off j
        rw [this, hcell, List.getD_eq_getElem?_getD, hj]; rfl) h1
    | none =>
      have hy0 : xs = [] := by
        cases xs with
        | nil => rfl
        | cons q l => obtain ⟨b, off, h, -⟩ := hrow 0 (by simp); cases h
      have hm0 : n = 0 := by
        have h2 : n * i.size = 0 := by rw [hy0] at hl; simpa using hl.symm
        rcases Nat.mul_eq_zero.1 h2 with h | h
        · exact h
        · omega
      subst hm0
      rw [hy0]
      exact Go.Src.ofNil (P := P) w hy cap
  have h63 : 0 + n ≤ maxLen := by simp only [maxLen]; omega
  have hA := apps_src (P := P) t t' o.type e i.size i.bytes 0 n z hu (by rw [hi']; simp [hz]) hS h63 (by
    have : n * i.bytes ≤ 1073741824 * 131072 := Nat.mul_le_mul hn hb
    rw [Nat.zero_add]; omega)
  have hx0 : asSl (ε 0 100).2 = asSl (ε 0 100).2 := rfl
  obtain ⟨v', w', hr, hm⟩ := Mem.apps hM 1 rfl hA hzs h63
  have hm : Mem (F (ε 0 j).1 (ε 0 j).2 :: rowC e i.size v' (0 + n) ([] ++ xs) :: R) w' := hm
  have hv' : asSl v' = v' := asSl_self (hm.owns 1 rfl)
  rw [Nat.zero_add, List.nil_append] at hm
  refine res_ok (x_append ho hc ha hat hx hy' hr) ⟨fun _ => (0, v'), by simp only [SV.den, eset_at]; exact hv'.symm, ?_⟩
  have e0 : eset ε 1 (fun _ => (0, v')) 0 j = ε 0 j := by rw [eset_ne (by decide)]
  simp only [hden, List.map_cons, List.map_nil, List.cons_append, List.nil_append, SC.den, SL.den, eset_at, hv', e0]
  exact hm
def isIdx (t : TypeId) (o : Oper) : Bool := match o.op with
  | .indexAddr t' _ _ => Nat.beq t t'
  | _ => false
def idxXY (o : Oper) : List Operand := match o.op with
  | .indexAddr _ x y => [x, y]
  | _ => []
def isLoad (t : TypeId) (o : Oper) : Bool := match o.op with
  | .load t' _ => Nat.beq t t'
  | _ => false
def loadX (o : Oper) : List Operand := match o.op with
  | .load _ x => [x]
  | _ => []
theorem idx_openG {P : Program} {t e size j : Nat} {F : Nat → Value → Chunk} {a : Option Addr} {n cap i : Nat} {k : IntKind} {xs : List Value} (hT : P.underlying t = some (.slice e)) (hi : infoB P e size = true)
    (hl : xs.length = n * size) (hR : ∀ b v, Rd (F b v) a xs) (hn : i < n) :
    OpG P (isIdx t) idxXY [.val (.slice a n cap), .val (.int k (i : Int))] [((0, j), .fam F)] [] (.val (adR a (i * size))) [] := by
  intro o ho
  unfold isIdx at ho
  split at ho <;> try (cases ho; done)
  rename_i t' x y hop
  have e1 := Nat.eq_of_beq_eq_true ho
  subst e1
  have hx' : idxXY o = [x, y] := by unfold idxXY; rw [hop]
  rw [hx']
  obtain ⟨ie, z, hi, -, hs, -, h0, -⟩ := infoB_of hi
  refine ⟨fun z hz => by rw [hop]; simp [Op.operands]; simpa using hz, fun ε ρ R w hx hM => ?_⟩
  simp only [List.map_cons, List.map_nil, SV.dens, SV.den, List.cons.injEq, and_true] at hx
  have hM : Mem (F (ε 0 j).1 (ε 0 j).2 :: R) w := hM
  have hrow : Row w a xs := (hR _ _).row hM 0 rfl
  obtain ⟨b, off, ha, -⟩ := hrow 0 (by rw [hl]; exact Nat.mul_pos (by omega) h0)
  subst ha
  exact res_ok (x_idx0 (v := undef) hop hx.1 hx.2 hT hi hn) ⟨ε 1, by simp only [SV.den, adR, Option.getD_some, hs], by rw [eset_self]; exact hM⟩
theorem load_openG {P : Program} {t k j : Nat} {F : Nat → Value → Chunk} {a : Option Addr} {xs : List Value} {cs : List SV} {u : SV} (q : Nat) (hu : partAt P t cs q = some u) (hR : ∀ b v, Rd (F b v) a xs) (hc : ∀ ε i v, cs[i]? = some v → xs[k + i]? = some (v.den ε)) (h0 : 0 < xs.length) :
    OpG P (isLoad t) loadX [.val (.pointer (some (((a.getD ⟨0, 0, none⟩).add k).add q)))] [((0, j), .fam F)] [] u [] := by
  intro o ho
  unfold isLoad at ho
  split at ho <;> try (cases ho; done)
  rename_i t' x hop
  have e1 := Nat.eq_of_beq_eq_true ho
  subst e1
  have hx' : loadX o = [x] := by unfold loadX; rw [hop]
  rw [hx']
  refine ⟨fun z hz => by rw [hop]; simp [Op.operands]; simpa using hz, fun ε ρ R w hx hM => ?_⟩
  simp only [List.map_cons, List.map_nil, SV.dens, SV.den, List.cons.injEq, and_true] at hx
  have hM : Mem (F (ε 0 j).1 (ε 0 j).2 :: R) w := hM
  have hrow : Row w a xs := (hR _ _).row hM 0 rfl
  obtain ⟨b, off, ha, -⟩ := hrow 0 h0
  subst ha
  have e : ∀ x : Addr, (x.add k).add q = x.add (k + q) := fun x => by
    by_cases hk : k = 0 <;> by_cases hj : q = 0 <;> simp [Addr.add, hk, hj, Nat.add_assoc]
  have := partAt_load (P := P) (w := w) (ρ := ρ) (o := o) (x := x) (B := b) (O := off + k) (ε := ε) hu (fun i u hi => by
    have h := hc ε i u hi
    have hl := (List.getElem?_eq_some_iff.1 h).1
    obtain ⟨b', off', hab, hcell⟩ := hrow (k + i) hl
    cases hab
    rw [Nat.add_assoc, hcell, List.getD_eq_getElem?_getD, h]; rfl) hop (hx.trans (by rw [e]; simp [Addr.add, Nat.add_assoc]))
  exact res_ok this ⟨ε 1, by rw [eset_self], by rw [eset_self]; exact hM⟩
theorem load_openG2 {P : Program} {t k j : Nat} {F : Nat → Value → Chunk} {a : Option Addr} {xs : List Value} {cs : List SV} {u : SV} (q1 q2 : Nat) (hu : partAt P t cs (q1 + q2) = some u) (hR : ∀ b v, Rd (F b v) a xs) (hc : ∀ ε i v, cs[i]? = some v → xs[k + i]? = some (v.den ε)) (h0 : 0 < xs.length) :
    OpG P (isLoad t) loadX [.val (.pointer (some ((((a.getD ⟨0, 0, none⟩).add k).add q1).add q2)))] [((0, j), .fam F)] [] u [] := by
  have := load_openG (j := j) (q1 + q2) hu hR hc h0
  have e : ∀ x : Addr, (x.add q1).add q2 = x.add (q1 + q2) := fun x => by
    by_cases hk : q1 = 0 <;> by_cases hj : q2 = 0 <;> simp [Addr.add, hk, hj, Nat.add_assoc]
  rw [e]
  exact this
theorem load_openG0 {P : Program} {t k j : Nat} {F : Nat → Value → Chunk} {a : Option Addr} {xs : List Value} {cs : List SV} {u : SV} (hu : partAt P t cs 0 = some u) (hR : ∀ b v, Rd (F b v) a xs) (hc : ∀ ε i v, cs[i]? = some v → xs[k + i]? = some (v.den ε)) (h0 : 0 < xs.length) :
    OpG P (isLoad t) loadX [.val (adR a k)] [((0, j), .fam F)] [] u [] := by
  have := load_openG (j := j) 0 hu hR hc h0
  have e : (((a.getD ⟨0, 0, none⟩).add k).add 0) = (a.getD ⟨0, 0, none⟩).add k := by simp [Addr.add]
  rw [e] at this
  exact this
theorem cells_nth {α : Type} {enc : α → List Value} {encS : α → List SV} {size : Nat} (he : ∀ x ε, SV.dens ε (encS x) = enc x) (hk : ∀ x, (enc x).length = size) {l : List α} {i : Nat} {x : α} (hx : l[i]? = some x) : ∀ (ε : Env) (q : Nat) (v : SV), (encS x)[q]? = some v → (cellsL enc l)[i * size + q]? = some (v.den ε) := fun ε q v hv =>
  cells_at hk hx (by rw [← he x ε, dens_get, hv]; rfl)
def no0 : Nat → Nat → Bool := fun s _ => Nat.beq s 1
theorem CallOK.mv {P : Program} {f : Nat} {args : List SV} {F : Nat → Value → Chunk} {ret : SV} {post : Heap} (j : Nat) (h : CallOK P f args [((0, 0), .fam F)] [] ret post) (ha : SV.oks (fun _ _ => false) args = true) (hr : ret.ok no0 = true) (hp : hok no0 post = true) : CallOK P f args [((0, j), .fam F)] [] ret post := by
  intro ε R w hM
  have hM : Mem (F (ε 0 j).1 (ε 0 j).2 :: R) w := hM
  have e1 : SV.dens ε args = SV.dens (eset ε 0 fun _ => ε 0 j) args := SV.dens_congr (fun s k h => by cases h) args ha
  rw [e1]
  refine (h (eset ε 0 fun _ => ε 0 j) R w (by simpa [hden, SC.den, eset_at] using hM)).mono ?_
  rintro e w' ⟨x, rfl, hm⟩
  have key : ∀ s k, no0 s k = true → eset (eset ε 0 fun _ => ε 0 j) 1 x s k = eset ε 1 x s k := fun s k hs => by
    have := Nat.eq_of_beq_eq_true hs
    subst this
    rw [eset_at, eset_at]
  refine ⟨x, by rw [SV.den_congr key ret hr], ?_⟩
  have hm : Mem ((SC.fam F).den (eset (eset ε 0 fun _ => ε 0 j) 1 x) 0 0 :: (hden (eset (eset ε 0 fun _ => ε 0 j) 1 x) post ++ R)) w' := hm
  rw [hden_congr key hp] at hm
  have e0 : (SC.fam F).den (eset (eset ε 0 fun _ => ε 0 j) 1 x) 0 0 = (SC.fam F).den (eset ε 1 x) 0 j := by
    simp only [SC.den]
    rw [eset_ne (show (0 : Nat) ≠ 1 by decide), eset_at, eset_ne (show (0 : Nat) ≠ 1 by decide)]
  rw [e0] at hm
  exact hm
theorem load_eltG {P : Program} {t E size n p b j : Nat} {xs : List Value} {cs : List SV} {u : SV} (hu : partAt P t cs j = some u) (hc : ∀ (ε : Env) (i : Nat) (v : SV), cs[i]? = some v → xs[b + i]? = some (v.den ε)) :
    OpG P (isLoad t) loadX [.elt 0 0 p b j] [((0, 0), .row E size n (.shal xs) [])] [] u [] := by
  intro o ho
  unfold isLoad at ho
  split at ho <;> try (cases ho; done)
  rename_i t' x hop
  have e1 := Nat.eq_of_beq_eq_true ho
  subst e1
  have hx' : loadX o = [x] := by unfold loadX; rw [hop]
  rw [hx']
  exact load_elt hop hu hc
mutual
def SV.kn (s k : Nat) (v : Value) : SV → SV
  | .val u => .val u
  | .ptr a b o => .ptr a b o
  | .elt a b p c j => .elt a b p c j
  | .raw a b => bif Nat.beq a s && Nat.beq b k then .val v else .raw a b
  | .map a b => .map a b
  | .any a b => .any a b
  | .win a b z l n => .win a b z l n
  | .fn f a b => .fn f (SV.kns s k v a) (SV.kns s k v b)
  | .agg cs => .agg (SV.kns s k v cs)
  | .tup cs => .tup (SV.kns s k v cs)
def SV.kns (s k : Nat) (v : Value) : List SV → List SV
  | [] => []
  | x :: l => SV.kn s k v x :: SV.kns s k v l
end
mutual
theorem SV.kn_den {s k : Nat} {v : Value} {ε : Env} (h : asSl (ε s k).2 = v) : ∀ x : SV, (x.kn s k v).den ε = x.den ε
  | .val u => by simp [SV.kn]
  | .ptr a b o => by simp [SV.kn]
  | .elt a b p c j => by simp [SV.kn]
  | .raw a b => by
    unfold SV.kn
    cases hb : Nat.beq a s && Nat.beq b k with
    | false => rfl
    | true =>
      rw [Bool.and_eq_true] at hb
      have e1 := Nat.eq_of_beq_eq_true hb.1
      have e2 := Nat.eq_of_beq_eq_true hb.2
      subst e1; subst e2
      simp only [cond_true, SV.den]; exact h.symm
  | .map a b => by simp [SV.kn]
  | .any a b => by simp [SV.kn]
  | .win a b z l n => by simp [SV.kn]
  | .fn f a b => by simp [SV.kn, SV.den, SV.kns_den h a, SV.kns_den h b]
  | .agg cs => by simp [SV.kn, SV.den, SV.kns_den h cs]
  | .tup cs => by simp [SV.kn, SV.den, SV.kns_den h cs]
theorem SV.kns_den {s k : Nat} {v : Value} {ε : Env} (h : asSl (ε s k).2 = v) : ∀ l : List SV, SV.dens ε (SV.kns s k v l) = SV.dens ε l
  | [] => by simp [SV.kns]
  | x :: l => by simp [SV.kns, SV.dens, SV.kn_den h x, SV.kns_den h l]
end
mutual
theorem SV.kn_ok {s k : Nat} {v : Value} {p : Nat → Nat → Bool} : ∀ x : SV, x.ok p = true → (x.kn s k v).ok p = true
  | .val u, h => by simp [SV.kn, SV.ok]
  | .ptr a b o, h => by simpa [SV.kn] using h
  | .elt a b q c j, h => by simpa [SV.kn] using h
  | .raw a b, h => by
    unfold SV.kn
    cases hb : Nat.beq a s && Nat.beq b k with
    | false => exact h
    | true => simp [SV.ok]
  | .map a b, h => by simpa [SV.kn] using h
  | .any a b, h => by simpa [SV.kn] using h
  | .win a b z l n, h => by simpa [SV.kn] using h
  | .fn f a b, h => by
    simp only [SV.ok, Bool.and_eq_true] at h
    simp [SV.kn, SV.ok, SV.kns_ok a h.1, SV.kns_ok b h.2]
  | .agg cs, h => by simp only [SV.ok] at h; simp [SV.kn, SV.ok, SV.kns_ok cs h]
  | .tup cs, h => by simp only [SV.ok] at h; simp [SV.kn, SV.ok, SV.kns_ok cs h]
theorem SV.kns_ok {s k : Nat} {v : Value} {p : Nat → Nat → Bool} : ∀ l : List SV, SV.oks p l = true → SV.oks p (SV.kns s k v l) = true
  | [], h => by simp [SV.kns, SV.oks]
  | x :: l, h => by
    simp only [SV.oks, Bool.and_eq_true] at h
    simp [SV.kns, SV.oks, SV.kn_ok x h.1, SV.kns_ok l h.2]
end
def SC.kn (s k : Nat) (v : Value) (m : Nm) : SC → SC
  | .box q cs => .box q (SV.kns s k v cs)
  | .famE vs f => .famE (SV.kns s k v vs) f
  | .row E size n (.shal l) [] => bif Nat.beq m.1 s && Nat.beq m.2 k then .fam (fun _ _ => rowC E size v n l) else .row E size n (.shal l) []
  | .row E size n (.deep l) [] => .row E size n (.deep (SV.kns s k v l)) []
  | .obj es c => .obj (es.map fun e => (e.1, e.2.1.kn s k v, e.2.2)) c
  | c => c
theorem SC.kn_den {s k : Nat} {v : Value} {ε : Env} (h : asSl (ε s k).2 = v) (m : Nm) (c : SC) : (c.kn s k v m).den ε m.1 m.2 = c.den ε m.1 m.2 := by
  unfold SC.kn
  split
  · simp only [SC.den, SV.kns_den h]
  · simp only [SC.den, SV.kns_den h]
  · rename_i E size n l
    cases hb : Nat.beq m.1 s && Nat.beq m.2 k with
    | false => rfl
    | true =>
      rw [Bool.and_eq_true] at hb
      have e1 := Nat.eq_of_beq_eq_true hb.1
      have e2 := Nat.eq_of_beq_eq_true hb.2
      simp only [cond_true, SC.den, SL.den, e1, e2, h]
  · simp only [SC.den, SL.den, SV.kns_den h]
  · rename_i es c
    have : entsDen ε (es.map fun e => (e.1, e.2.1.kn s k v, e.2.2)) = entsDen ε es := by
      unfold entsDen
      rw [List.map_map]
      exact List.map_congr_left fun e _ => by simp only [Function.comp, SV.kn_den h]
    simp only [SC.den, this]
  · rfl
theorem SC.kn_ok {s k : Nat} {v : Value} {m : Nm} {p : Nat → Nat → Bool} (c : SC) (h : c.ok p = true) : (c.kn s k v m).ok p = true := by
  unfold SC.kn
  split
  · exact SV.kns_ok _ h
  · exact SV.kns_ok _ h
  · cases hb : Nat.beq m.1 s && Nat.beq m.2 k with
    | false => exact h
    | true => rfl
  · simp only [SC.ok, SL.ok, Bool.and_eq_true] at h ⊢
    exact ⟨SV.kns_ok _ h.1, h.2⟩
  · rename_i es c
    simp only [SC.ok, List.all_map, List.all_eq_true] at h ⊢
    exact fun e he => SV.kn_ok _ (h e he)
  · exact h
def knSl (n : Nm) (v : Value) (sl : Slots) : Slots := sl.map fun x => (x.1, x.2.kn n.1 n.2 v)
def knH (n : Nm) (v : Value) (H : Heap) : Heap := H.map fun x => (x.1, x.2.kn n.1 n.2 v x.1)
theorem lkS_kn {n : Nm} {v : Value} {d : Nat} {u : SV} : ∀ {sl : Slots}, lkS (knSl n v sl) d = some u → ∃ x, lkS sl d = some x ∧ u = x.kn n.1 n.2 v
  | [], h => by cases h
  | (d', x) :: l, h => by
    unfold knSl at h
    rw [List.map_cons] at h
    unfold lkS at h ⊢
    cases hb : Nat.beq d' d with
    | true => rw [hb] at h; cases h; exact ⟨x, rfl, rfl⟩
    | false => rw [hb] at h; exact lkS_kn (sl := l) h
theorem go_row {P : Program} {f : Nat} {ret : SV} {rp : Heap} {eb : Env} {R : List Chunk} {e : Ex} {K : List It} {sl : Slots} {H : Heap} (n : Nm) (E size m : Nat) (xs : List Value) (hg : hget H n = SC.row E size m (.shal xs) [])
    (h : ∀ a c, (a = none → m = 0 ∧ c = 0) → Go P f ret rp eb R e K (knSl n (.slice a m c) sl) (knH n (.slice a m c) H)) : Go P f ret rp eb R e K sl H := by
  intro ε a w hr
  have hm : Mem (hden ε H ++ R) w := hr.mem
  have h0 := (focus1 (n := n) hr.nd).1 hm
  rw [hg] at h0
  have hrow : RowF E size w (asSl (ε n.1 n.2).2) m xs := h0.owns 0 rfl
  have key : ∃ a c, asSl (ε n.1 n.2).2 = .slice a m c ∧ (a = none → m = 0 ∧ c = 0) := by
    obtain ⟨-, ⟨h1, h2⟩ | ⟨g, cap, cur, h1, -⟩⟩ := hrow
    · exact ⟨none, 0, by rw [h1, h2], fun _ => ⟨h2, rfl⟩⟩
    · exact ⟨_, cap, h1, fun e => by cases e⟩
  obtain ⟨a', c, hv, hac⟩ := key
  refine h a' c hac ε a w ⟨hr.size, hr.defers, ?_, ?_, ?_, ?_, hr.e0, hr.pos⟩
  · intro d u hu
    obtain ⟨x, hx, rfl⟩ := lkS_kn hu
    have := hr.slots d x hx
    exact ⟨by rw [SV.kn_den hv]; exact this.1, SV.kn_ok _ this.2⟩
  · have e1 : hden ε (knH n (.slice a' m c) H) = hden ε H := by
      unfold hden knH
      rw [List.map_map]
      exact List.map_congr_left fun x _ => SC.kn_den hv x.1 x.2
    show Mem (hden ε (knH n (.slice a' m c) H) ++ R) w
    rw [e1]; exact hm
  · have e1 : names (knH n (.slice a' m c) H) = names H := by unfold names knH; rw [List.map_map]; rfl
    show (names (knH n (.slice a' m c) H)).Nodup
    rw [e1]; exact hr.nd
  · have := hr.sc
    unfold hok knH at *
    simp only [List.all_map, List.all_eq_true, Bool.and_eq_true, Function.comp] at this ⊢
    exact fun x hx => ⟨(this x hx).1, SC.kn_ok _ (this x hx).2⟩
theorem go_as {P : Program} {f : Nat} {ret : SV} {rp : Heap} {eb : Env} {R : List Chunk} {e : Ex} {K : List It} {sl : Slots} {H : Heap} (sl' : Slots) (H' : Heap) (h1 : sl = sl') (h2 : H = H') (h : Go P f ret rp eb R e K sl' H') : Go P f ret rp eb R e K sl H := by
  subst h1; subst h2; exact h
theorem mem_join {l cs : List Chunk} {c : Chunk} {w : World} (h : Mem (l ++ cs) w) (hc : ∀ S, (allC l).at_ S w → c.at_ S w) : Mem (c :: cs) w := h.in_all.weaken hc
theorem CallOK.post_mono {P : Program} {f : Nat} {args : List SV} {rd pre post post' : Heap} {ret : SV} (h : CallOK P f args rd pre ret post) (hp : ∀ ε R w, Mem (hden ε post ++ R) w → Mem (hden ε post' ++ R) w) : CallOK P f args rd pre ret post' := fun ε R w hM =>
  (h ε R w hM).mono fun e w' ⟨x, h1, h2⟩ => ⟨x, h1, by
    rw [hden_append, List.append_assoc] at h2 ⊢
    have h3 := mem_perm (List.perm_append_comm) h2
    rw [List.append_assoc] at h3
    have h4 := hp _ _ _ h3
    have h5 := mem_perm (List.perm_append_comm) h4
    rw [List.append_assoc] at h5
    have h6 := mem_perm (List.perm_append_comm) h5
    rwa [List.append_assoc] at h6⟩
theorem CallOK.pre_mono {P : Program} {f : Nat} {args : List SV} {rd pre pre' post : Heap} {ret : SV} (h : CallOK P f args rd pre ret post) (hp : ∀ ε R w, Mem (hden ε pre' ++ R) w → Mem (hden ε pre ++ R) w) : CallOK P f args rd pre' ret post := fun ε R w hM => h ε R w (by
    rw [hden_append, List.append_assoc] at hM ⊢
    have h3 := mem_perm (List.perm_append_comm) hM
    rw [List.append_assoc] at h3
    have h4 := hp _ _ _ h3
    have h5 := mem_perm (List.perm_append_comm) h4
    rw [List.append_assoc] at h5
    have h6 := mem_perm (List.perm_append_comm) h5
    rwa [List.append_assoc] at h6)
theorem CallOK.of_rd {P : Program} {f : Nat} {args : List SV} {rd pre post : Heap} {ret : SV} (h : CallOK P f args rd pre ret post) : CallOK P f args [] (rd ++ pre) ret (rd ++ post) := h
theorem CallOK.to_rd {P : Program} {f : Nat} {args : List SV} {rd pre post : Heap} {ret : SV} (h : CallOK P f args [] (rd ++ pre) ret (rd ++ post)) : CallOK P f args rd pre ret post := h
structure Packs (F : Nat → Value → Chunk) (Hs : Nat → Heap) (m : Nat) : Prop where
  opens : ∀ b v R w, Mem (F b v :: R) w → ∃ xs : Nat → Rv, xs 0 = (b, v) ∧ ∀ ε, (∀ k, k ≤ m → ε 0 k = xs k) → Mem (hden ε (Hs 0) ++ R) w
  shuts : ∀ s ε R w, Mem (hden ε (Hs s) ++ R) w → Mem (F (ε s 0).1 (ε s 0).2 :: R) w
def noIn (m : Nat) : Nat → Nat → Bool := fun s k => !(Nat.beq s 0 && (Nat.ble 1 k && Nat.ble k m))
theorem noIn_ne {m s k : Nat} (h : noIn m s k = true) : s = 0 → k ≤ m → k = 0 := by
  intro h1 h2
  subst h1
  unfold noIn at h
  cases k with
  | zero => rfl
  | succ k =>
    rw [Nat.ble_eq_true_of_le h2, Nat.ble_eq_true_of_le (show 1 ≤ k + 1 by omega)] at h
    cases h
theorem CallOK.pack {P : Program} {f : Nat} {args : List SV} {pre post : Heap} {ret : SV} {F F' : Nat → Value → Chunk} {Hs Hs' : Nat → Heap} {m : Nat} (hp : Packs F Hs m) (hp' : Packs F' Hs' m) (h : CallOK P f args [] (Hs 0 ++ pre) ret (Hs' 0 ++ post))
    (h1 : SV.oks (noIn m) args = true) (h2 : hok (noIn m) pre = true) (h3 : ret.ok (noIn m) = true) (h4 : hok (noIn m) post = true) : CallOK P f args [] (((0, 0), .fam F) :: pre) ret (((0, 0), .fam F') :: post) := by
  intro ε R w hM
  have hM : Mem (F (ε 0 0).1 (ε 0 0).2 :: (hden ε pre ++ R)) w := hM
  obtain ⟨xs, x0, hx⟩ := hp.opens _ _ _ _ hM
  have h5 := hx (eset ε 0 fun k => bif Nat.ble k m then xs k else ε 0 k) (fun k hk => by rw [eset_at, Nat.ble_eq_true_of_le hk]; rfl)
  have key : ∀ s k, noIn m s k = true → ε s k = (eset ε 0 fun k => bif Nat.ble k m then xs k else ε 0 k) s k := fun s k hs => by
    by_cases h0 : s = 0
    · subst h0
      rw [eset_at]
      cases hb : Nat.ble k m with
      | false => rfl
      | true =>
        have := noIn_ne hs rfl (Nat.le_of_ble_eq_true hb)
        subst this
        exact x0.symm
    · rw [eset_ne h0]
  rw [hden_congr key h2] at h5
  rw [SV.dens_congr key args h1]
  refine (h _ R w (by rw [List.nil_append, hden_append, List.append_assoc]; exact h5)).mono ?_
  rintro e w' ⟨x, rfl, hm⟩
  have key' : ∀ s k, noIn m s k = true → (eset ε 1 x) s k = (eset (eset ε 0 fun k => bif Nat.ble k m then xs k else ε 0 k) 1 x) s k := fun s k hs => by
    by_cases h0 : s = 1
    · subst h0; rw [eset_at, eset_at]
    · rw [eset_ne h0, eset_ne h0]; exact key s k hs
  refine ⟨x, by rw [SV.den_congr key' ret h3], ?_⟩
  rw [List.nil_append, hden_append, List.append_assoc] at hm
  have h6 := hp'.shuts 0 _ _ _ hm
  rw [← hden_congr key' h4] at h6
  have e0 : eset (eset ε 0 fun k => bif Nat.ble k m then xs k else ε 0 k) 1 x 0 0 = eset ε 1 x 0 0 := (key' 0 0 (by unfold noIn; rfl)).symm
  rw [e0] at h6
  exact h6
theorem CallOK.mv2 {P : Program} {f : Nat} {args : List SV} {F F' : Nat → Value → Chunk} {ret : SV} {post : Heap} (j : Nat) (h : CallOK P f args [] [((0, 0), .fam F)] ret (((0, 0), .fam F') :: post)) (ha : SV.oks (fun _ _ => false) args = true) (hr : ret.ok no0 = true) (hp : hok no0 post = true) : CallOK P f args [] [((0, j), .fam F)] ret (((0, j), .fam F') :: post) := by
  intro ε R w hM
  have hM : Mem (F (ε 0 j).1 (ε 0 j).2 :: R) w := hM
  have e1 : SV.dens ε args = SV.dens (eset ε 0 fun _ => ε 0 j) args := SV.dens_congr (fun s k h => by cases h) args ha
  rw [e1]
  refine (h (eset ε 0 fun _ => ε 0 j) R w (by simpa [hden, SC.den, eset_at] using hM)).mono ?_
  rintro e w' ⟨x, rfl, hm⟩
  have key : ∀ s k, no0 s k = true → eset (eset ε 0 fun _ => ε 0 j) 1 x s k = eset ε 1 x s k := fun s k hs => by
    have := Nat.eq_of_beq_eq_true hs
    subst this
    rw [eset_at, eset_at]
  refine ⟨x, by rw [SV.den_congr key ret hr], ?_⟩
  have hm : Mem ((SC.fam F').den (eset (eset ε 0 fun _ => ε 0 j) 1 x) 0 0 :: (hden (eset (eset ε 0 fun _ => ε 0 j) 1 x) post ++ R)) w' := hm
  rw [hden_congr key hp] at hm
  have e0 : (SC.fam F').den (eset (eset ε 0 fun _ => ε 0 j) 1 x) 0 0 = (SC.fam F').den (eset ε 1 x) 0 j := by
    simp only [SC.den]
    rw [eset_ne (show (0 : Nat) ≠ 1 by decide), eset_at, eset_ne (show (0 : Nat) ≠ 1 by decide)]
  rw [e0] at hm
  exact hm
theorem leaf_round {P : Program} {f : Nat} {ret : SV} {rp : Heap} {eb : Env} {R : List Chunk} {e : Ex} {K : List It} {sl0 sl : Slots} {H0 H : Heap} {J : Act → World → Prop} (K2 : List It) (un : Bool) (n : Nat) (hs : List (Hint P)) (hJ : ∀ ε a w, Rel (ntOf P f) 1 eb R ⟨sl, H, 2⟩ ε a w → J a w)
    (h : kl (ptRun P calNone (ntOf P f) un n sl H ⟨e, K, ⟨sl0, H0, 2⟩, hs⟩) = kr (.lp J :: K2) (ptRun P calNone (ntOf P f) un n sl H ⟨e, K, ⟨sl0, H0, 2⟩, hs⟩)) : Go P f ret rp eb R e K sl0 H0 :=
  pt_run calNone un n hs calNone_ok fine_body h fun ε a w hr => hJ ε a w hr
theorem callOK_run {P : Program} {f : Nat} {args : List SV} {rd pre post : Heap} {ret : SV} (n : Nat) (hs : List (Hint P)) (h1 : startB P f args (rd ++ pre) = true)
    (h2 : cl (endRun P calNone (ntOf P f) false n (rsOf P f) ret (rd ++ post) ⟨.nrm, [.code (bodyOf P f)], ⟨argSlots 0 args, rd ++ pre, 2⟩, hs⟩) = cr (endRun P calNone (ntOf P f) false n (rsOf P f) ret (rd ++ post) ⟨.nrm, [.code (bodyOf P f)], ⟨argSlots 0 args, rd ++ pre, 2⟩, hs⟩)) : CallOK P f args rd pre ret post :=
  callOK_intro h1 fun eb R => leaf_end calNone false n hs calNone_ok h2
theorem callOK_runU {P : Program} {f : Nat} {args : List SV} {rd pre post : Heap} {ret : SV} (n : Nat) (hs : List (Hint P)) (h1 : startB P f args (rd ++ pre) = true)
    (h2 : cl (endRun P calNone (ntOf P f) true n (rsOf P f) ret (rd ++ post) ⟨.nrm, [.code (bodyOf P f)], ⟨argSlots 0 args, rd ++ pre, 2⟩, hs⟩) = cr (endRun P calNone (ntOf P f) true n (rsOf P f) ret (rd ++ post) ⟨.nrm, [.code (bodyOf P f)], ⟨argSlots 0 args, rd ++ pre, 2⟩, hs⟩)) : CallOK P f args rd pre ret post :=
  callOK_intro h1 fun eb R => leaf_end calNone true n hs calNone_ok h2
noncomputable local instance : DecidableEq Value := Classical.typeDecidableEq Value
end Go.Sx
