/- SX: open maps. -/
import Derived.Test.YtfnneghddndeiaaMe68d2cb
namespace Go.Sx
set_option linter.unusedVariables false
set_option linter.unusedSimpArgs false
open Go.RowKit Go.Tk Go.Lib Go.Shelf Go.Vc
section
variable {κ α : Type} [DecidableEq κ]
end
def lenX (o : Oper) : List Operand := match o.op with
  | .call c => c.args.toList
  | _ => []
section
variable {P : Program} {κ : Type} [DecidableEq κ] {t kt e : TypeId}
variable {α : Type} {enc : α → Value} {encS : α → SV}
end
def isApp (P : Program) (t t' : TypeId) (o : Oper) : Bool := match o.op with
  | .call c => (match c.callee with
    | .builtin .append => (match c.args.toList, c.argTypes.toList with
      | [_, _], [u, u'] => Nat.beq u t && Nat.beq u' t'
      | _, _ => false)
    | _ => false)
  | _ => false
theorem isApp_of {P : Program} {t t' : TypeId} {o : Oper} (h : isApp P t t' o = true) : ∃ c x y, o.op = .call c ∧ c.callee = .builtin .append ∧ c.args = #[x, y] ∧ c.argTypes = #[t, t'] ∧ lenX o = [x, y] := by
  unfold isApp at h
  split at h <;> try (cases h; done)
  rename_i c ho
  split at h <;> try (cases h; done)
  rename_i hc
  split at h <;> try (cases h; done)
  rename_i x y u u' ha ht
  rw [Bool.and_eq_true] at h
  have e1 := Nat.eq_of_beq_eq_true h.1
  have e2 := Nat.eq_of_beq_eq_true h.2
  subst e1; subst e2
  exact ⟨c, x, y, ho, hc, Array.ext' ha, Array.ext' ht, by unfold lenX; rw [ho]; exact ha⟩
def infoB (P : Program) (e size : Nat) : Bool := match P.info? e with
  | some i => (match i.zero with
    | some z => Nat.beq i.size size && (Nat.beq z.cells.size size && (Nat.blt 0 size && Nat.ble i.bytes 131072))
    | none => false)
  | none => false
theorem infoB_of {P : Program} {e size : Nat} (h : infoB P e size = true) : ∃ i z, P.info? e = some i ∧ i.zero = some z ∧ i.size = size ∧ z.cells.size = size ∧ 0 < size ∧ i.bytes ≤ 131072 := by
  unfold infoB at h
  split at h <;> try (cases h; done)
  rename_i i hi
  split at h <;> try (cases h; done)
  rename_i z hz
  simp only [Bool.and_eq_true] at h
  exact ⟨i, z, hi, hz, Nat.eq_of_beq_eq_true h.1, Nat.eq_of_beq_eq_true h.2.1, by have := h.2.2.1; rwa [Nat.blt_eq] at this, Nat.le_of_ble_eq_true h.2.2.2⟩
theorem app_openG {P : Program} {t t' e e' size j : Nat} {F : Nat → Value → Chunk} {a : Option Addr} {n cap : Nat} {xs : List Value} (hu : P.underlying t = some (.slice e)) (hy : P.underlying t' = some (.slice e')) (hi : infoB P e size = true)
    (hl : xs.length = n * size) (h1 : ∀ u ∈ xs, u.oneCell' = true) (hR : ∀ b v, Rd (F b v) a xs) (hn : n ≤ 1073741824) :
    OpG P (isApp P t t') lenX [.raw 0 100, .val (.slice a n cap)] [((0, j), .fam F)] [((0, 100), .row e size 0 (.deep []) [])] (.raw 1 0) [((1, 0), .row e size n (.shal xs) [])] := by
  intro o ho
  obtain ⟨c, x, y, ho, hc, ha, hat, hx⟩ := isApp_of ho
  rw [hx]
  obtain ⟨i, z, hi', hz, rfl, hzs, h0, hb⟩ := infoB_of hi
  refine ⟨fun q hq => by rw [ho]; simp [Op.operands, Call.operands, hc, ha]; simpa using hq, fun ε ρ R w hx hM => ?_⟩
  simp only [List.map_cons, List.map_nil, SV.dens, SV.den, List.cons.injEq, and_true] at hx
  obtain ⟨hx, hy'⟩ := hx
  have hM : Mem (F (ε 0 j).1 (ε 0 j).2 :: rowC e i.size (asSl (ε 0 100).2) 0 [] :: R) w := hM
  have hrow : Row w a xs := (hR _ _).row hM 0 rfl
  have hS : Go.Src P i.size t' (.slice a n cap) n xs w := by
    cases a with
    | some ad => exact Go.Src.ofSlice (P := P) w hy ad n cap _ hl (fun j u' hj => by
        have hjl := (List.getElem?_eq_some_iff.1 hj).1
        obtain ⟨b, off, hab, hcell⟩ := hrow j hjl
        cases hab
        have : (Addr.add ⟨b, off, none⟩ j) = ⟨b, off + j, none⟩ := addr_add b off j
        rw [this, hcell, List.getD_eq_getElem?_getD, hj]; rfl) h1
    | none =>
      have hy0 : xs = [] := by
        cases xs with
        | nil => rfl
        | cons q l => obtain ⟨b, off, h, -⟩ := hrow 0 (by simp); cases h
      have hm0 : n = 0 := by
        have h2 : n * i.size = 0 := by rw [hy0] at hl; simpa using hl.symm
        rcases Nat.mul_eq_zero.1 h2 with h | h
        · exact h
        · omega
      subst hm0
      rw [hy0]
      exact Go.Src.ofNil (P := P) w hy cap
  have h63 : 0 + n ≤ maxLen := by simp only [maxLen]; omega
  have hA := apps_src (P := P) t t' o.type e i.size i.bytes 0 n z hu (by rw [hi']; simp [hz]) hS h63 (by
    have : n * i.bytes ≤ 1073741824 * 131072 := Nat.mul_le_mul hn hb
    rw [Nat.zero_add]; omega)
  have hx0 : asSl (ε 0 100).2 = asSl (ε 0 100).2 := rfl
  obtain ⟨v', w', hr, hm⟩ := Mem.apps hM 1 rfl hA hzs h63
  have hm : Mem (F (ε 0 j).1 (ε 0 j).2 :: rowC e i.size v' (0 + n) ([] ++ xs) :: R) w' := hm
  have hv' : asSl v' = v' := asSl_self (hm.owns 1 rfl)
  rw [Nat.zero_add, List.nil_append] at hm
  refine res_ok (x_append ho hc ha hat hx hy' hr) ⟨fun _ => (0, v'), by simp only [SV.den, eset_at]; exact hv'.symm, ?_⟩
  have e0 : eset ε 1 (fun _ => (0, v')) 0 j = ε 0 j := by rw [eset_ne (by decide)]
  simp only [hden, List.map_cons, List.map_nil, List.cons_append, List.nil_append, SC.den, SL.den, eset_at, hv', e0]
  exact hm
def isIdx (t : TypeId) (o : Oper) : Bool := match o.op with
  | .indexAddr t' _ _ => Nat.beq t t'
  | _ => false
def idxXY (o : Oper) : List Operand := match o.op with
  | .indexAddr _ x y => [x, y]
  | _ => []
def isLoad (t : TypeId) (o : Oper) : Bool := match o.op with
  | .load t' _ => Nat.beq t t'
  | _ => false
def loadX (o : Oper) : List Operand := match o.op with
  | .load _ x => [x]
  | _ => []
theorem idx_openG {P : Program} {t e size j : Nat} {F : Nat → Value → Chunk} {a : Option Addr} {n cap i : Nat} {k : IntKind} {xs : List Value} (hT : P.underlying t = some (.slice e)) (hi : infoB P e size = true)
    (hl : xs.length = n * size) (hR : ∀ b v, Rd (F b v) a xs) (hn : i < n) :
    OpG P (isIdx t) idxXY [.val (.slice a n cap), .val (.int k (i : Int))] [((0, j), .fam F)] [] (.val (adR a (i * size))) [] := by
  intro o ho
  unfold isIdx at ho
  split at ho <;> try (cases ho; done)
  rename_i t' x y hop
  have e1 := Nat.eq_of_beq_eq_true ho
  subst e1
  have hx' : idxXY o = [x, y] := by unfold idxXY; rw [hop]
  rw [hx']
  obtain ⟨ie, z, hi, -, hs, -, h0, -⟩ := infoB_of hi
  refine ⟨fun z hz => by rw [hop]; simp [Op.operands]; simpa using hz, fun ε ρ R w hx hM => ?_⟩
  simp only [List.map_cons, List.map_nil, SV.dens, SV.den, List.cons.injEq, and_true] at hx
  have hM : Mem (F (ε 0 j).1 (ε 0 j).2 :: R) w := hM
  have hrow : Row w a xs := (hR _ _).row hM 0 rfl
  obtain ⟨b, off, ha, -⟩ := hrow 0 (by rw [hl]; exact Nat.mul_pos (by omega) h0)
  subst ha
  exact res_ok (x_idx0 (v := undef) hop hx.1 hx.2 hT hi hn) ⟨ε 1, by simp only [SV.den, adR, Option.getD_some, hs], by rw [eset_self]; exact hM⟩
theorem load_openG {P : Program} {t k j : Nat} {F : Nat → Value → Chunk} {a : Option Addr} {xs : List Value} {cs : List SV} {u : SV} (q : Nat) (hu : partAt P t cs q = some u) (hR : ∀ b v, Rd (F b v) a xs) (hc : ∀ ε i v, cs[i]? = some v → xs[k + i]? = some (v.den ε)) (h0 : 0 < xs.length) :
    OpG P (isLoad t) loadX [.val (.pointer (some (((a.getD ⟨0, 0, none⟩).add k).add q)))] [((0, j), .fam F)] [] u [] := by
  intro o ho
  unfold isLoad at ho
  split at ho <;> try (cases ho; done)
  rename_i t' x hop
  have e1 := Nat.eq_of_beq_eq_true ho
  subst e1
  have hx' : loadX o = [x] := by unfold loadX; rw [hop]
  rw [hx']
  refine ⟨fun z hz => by rw [hop]; simp [Op.operands]; simpa using hz, fun ε ρ R w hx hM => ?_⟩
  simp only [List.map_cons, List.map_nil, SV.dens, SV.den, List.cons.injEq, and_true] at hx
  have hM : Mem (F (ε 0 j).1 (ε 0 j).2 :: R) w := hM
  have hrow : Row w a xs := (hR _ _).row hM 0 rfl
  obtain ⟨b, off, ha, -⟩ := hrow 0 h0
  subst ha
  have e : ∀ x : Addr, (x.add k).add q = x.add (k + q) := fun x => by
    by_cases hk : k = 0 <;> by_cases hj : q = 0 <;> simp [Addr.add, hk, hj, Nat.add_assoc]
  have := partAt_load (P := P) (w := w) (ρ := ρ) (o := o) (x := x) (B := b) (O := off + k) (ε := ε) hu (fun i u hi => by
    have h := hc ε i u hi
    have hl := (List.getElem?_eq_some_iff.1 h).1
    obtain ⟨b', off', hab, hcell⟩ := hrow (k + i) hl
    cases hab
    rw [Nat.add_assoc, hcell, List.getD_eq_getElem?_getD, h]; rfl) hop (hx.trans (by rw [e]; simp [Addr.add, Nat.add_assoc]))
  exact res_ok this ⟨ε 1, by rw [eset_self], by rw [eset_self]; exact hM⟩
theorem load_openG0 {P : Program} {t k j : Nat} {F : Nat → Value → Chunk} {a : Option Addr} {xs : List Value} {cs : List SV} {u : SV} (hu : partAt P t cs 0 = some u) (hR : ∀ b v, Rd (F b v) a xs) (hc : ∀ ε i v, cs[i]? = some v → xs[k + i]? = some (v.den ε)) (h0 : 0 < xs.length) :
    OpG P (isLoad t) loadX [.val (adR a k)] [((0, j), .fam F)] [] u [] := by
  have := load_openG (j := j) 0 hu hR hc h0
  have e : (((a.getD ⟨0, 0, none⟩).add k).add 0) = (a.getD ⟨0, 0, none⟩).add k := by simp [Addr.add]
  rw [e] at this
  exact this
theorem cells_nth {α : Type} {enc : α → List Value} {encS : α → List SV} {size : Nat} (he : ∀ x ε, SV.dens ε (encS x) = enc x) (hk : ∀ x, (enc x).length = size) {l : List α} {i : Nat} {x : α} (hx : l[i]? = some x) : ∀ (ε : Env) (q : Nat) (v : SV), (encS x)[q]? = some v → (cellsL enc l)[i * size + q]? = some (v.den ε) := fun ε q v hv =>
  cells_at hk hx (by rw [← he x ε, dens_get, hv]; rfl)
theorem load_eltG {P : Program} {t E size n p b j : Nat} {xs : List Value} {cs : List SV} {u : SV} (hu : partAt P t cs j = some u) (hc : ∀ (ε : Env) (i : Nat) (v : SV), cs[i]? = some v → xs[b + i]? = some (v.den ε)) :
    OpG P (isLoad t) loadX [.elt 0 0 p b j] [((0, 0), .row E size n (.shal xs) [])] [] u [] := by
  intro o ho
  unfold isLoad at ho
  split at ho <;> try (cases ho; done)
  rename_i t' x hop
  have e1 := Nat.eq_of_beq_eq_true ho
  subst e1
  have hx' : loadX o = [x] := by unfold loadX; rw [hop]
  rw [hx']
  exact load_elt hop hu hc
mutual
def SV.kn (s k : Nat) (v : Value) : SV → SV
  | .val u => .val u
  | .ptr a b o => .ptr a b o
  | .elt a b p c j => .elt a b p c j
  | .raw a b => bif Nat.beq a s && Nat.beq b k then .val v else .raw a b
  | .map a b => .map a b
  | .any a b => .any a b
  | .win a b z l n => .win a b z l n
  | .fn f a b => .fn f (SV.kns s k v a) (SV.kns s k v b)
  | .agg cs => .agg (SV.kns s k v cs)
  | .tup cs => .tup (SV.kns s k v cs)
def SV.kns (s k : Nat) (v : Value) : List SV → List SV
  | [] => []
  | x :: l => SV.kn s k v x :: SV.kns s k v l
end
mutual
theorem SV.kn_den {s k : Nat} {v : Value} {ε : Env} (h : asSl (ε s k).2 = v) : ∀ x : SV, (x.kn s k v).den ε = x.den ε
  | .val u => by simp [SV.kn]
  | .ptr a b o => by simp [SV.kn]
  | .elt a b p c j => by simp [SV.kn]
  | .raw a b => by
    unfold SV.kn
    cases hb : Nat.beq a s && Nat.beq b k with
    | false => rfl
    | true =>
      rw [Bool.and_eq_true] at hb
      have e1 := Nat.eq_of_beq_eq_true hb.1
      have e2 := Nat.eq_of_beq_eq_true hb.2
      subst e1; subst e2
      simp only [cond_true, SV.den]; exact h.symm
  | .map a b => by simp [SV.kn]
  | .any a b => by simp [SV.kn]
  | .win a b z l n => by simp [SV.kn]
  | .fn f a b => by simp [SV.kn, SV.den, SV.kns_den h a, SV.kns_den h b]
  | .agg cs => by simp [SV.kn, SV.den, SV.kns_den h cs]
  | .tup cs => by simp [SV.kn, SV.den, SV.kns_den h cs]
theorem SV.kns_den {s k : Nat} {v : Value} {ε : Env} (h : asSl (ε s k).2 = v) : ∀ l : List SV, SV.dens ε (SV.kns s k v l) = SV.dens ε l
  | [] => by simp [SV.kns]
  | x :: l => by simp [SV.kns, SV.dens, SV.kn_den h x, SV.kns_den h l]
end
mutual
theorem SV.kn_ok {s k : Nat} {v : Value} {p : Nat → Nat → Bool} : ∀ x : SV, x.ok p = true → (x.kn s k v).ok p = true
  | .val u, h => by simp [SV.kn, SV.ok]
  | .ptr a b o, h => by simpa [SV.kn] using h
  | .elt a b q c j, h => by simpa [SV.kn] using h
  | .raw a b, h => by
    unfold SV.kn
    cases hb : Nat.beq a s && Nat.beq b k with
    | false => exact h
    | true => simp [SV.ok]
  | .map a b, h => by simpa [SV.kn] using h
  | .any a b, h => by simpa [SV.kn] using h
  | .win a b z l n, h => by simpa [SV.kn] using h
  | .fn f a b, h => by
    simp only [SV.ok, Bool.and_eq_true] at h
    simp [SV.kn, SV.ok, SV.kns_ok a h.1, SV.kns_ok b h.2]
  | .agg cs, h => by simp only [SV.ok] at h; simp [SV.kn, SV.ok, SV.kns_ok cs h]
  | .tup cs, h => by simp only [SV.ok] at h; simp [SV.kn, SV.ok, SV.kns_ok cs h]
theorem SV.kns_ok {s k : Nat} {v : Value} {p : Nat → Nat → Bool} : ∀ l : List SV, SV.oks p l = true → SV.oks p (SV.kns s k v l) = true
  | [], h => by simp [SV.kns, SV.oks]
  | x :: l, h => by
    simp only [SV.oks, Bool.and_eq_true] at h
    simp [SV.kns, SV.oks, SV.kn_ok x h.1, SV.kns_ok l h.2]
end
def SC.kn (s k : Nat) (v : Value) (m : Nm) : SC → SC
  | .box q cs => .box q (SV.kns s k v cs)
  | .famE vs f => .famE (SV.kns s k v vs) f
  | .row E size n (.shal l) [] => bif Nat.beq m.1 s && Nat.beq m.2 k then .fam (fun _ _ => rowC E size v n l) else .row E size n (.shal l) []
  | .row E size n (.deep l) [] => .row E size n (.deep (SV.kns s k v l)) []
  | .obj es c => .obj (es.map fun e => (e.1, e.2.1.kn s k v, e.2.2)) c
  | c => c
theorem SC.kn_den {s k : Nat} {v : Value} {ε : Env} (h : asSl (ε s k).2 = v) (m : Nm) (c : SC) : (c.kn s k v m).den ε m.1 m.2 = c.den ε m.1 m.2 := by
  unfold SC.kn
  split
  · simp only [SC.den, SV.kns_den h]
  · simp only [SC.den, SV.kns_den h]
  · rename_i E size n l
    cases hb : Nat.beq m.1 s && Nat.beq m.2 k with
    | false => rfl
    | true =>
      rw [Bool.and_eq_true] at hb
      have e1 := Nat.eq_of_beq_eq_true hb.1
      have e2 := Nat.eq_of_beq_eq_true hb.2
      simp only [cond_true, SC.den, SL.den, e1, e2, h]
  · simp only [SC.den, SL.den, SV.kns_den h]
  · rename_i es c
    have : entsDen ε (es.map fun e => (e.1, e.2.1.kn s k v, e.2.2)) = entsDen ε es := by
      unfold entsDen
      rw [List.map_map]
      exact List.map_congr_left fun e _ => by simp only [Function.comp, SV.kn_den h]
    simp only [SC.den, this]
  · rfl
theorem SC.kn_ok {s k : Nat} {v : Value} {m : Nm} {p : Nat → Nat → Bool} (c : SC) (h : c.ok p = true) : (c.kn s k v m).ok p = true := by
  unfold SC.kn
  split
  · exact SV.kns_ok _ h
  · exact SV.kns_ok _ h
  · cases hb : Nat.beq m.1 s && Nat.beq m.2 k with
    | false => exact h
    | true => rfl
  · simp only [SC.ok, SL.ok, Bool.and_eq_true] at h ⊢
    exact ⟨SV.kns_ok _ h.1, h.2⟩
  · rename_i es c
    simp only [SC.ok, List.all_map, List.all_eq_true] at h ⊢
    exact fun e he => SV.kn_ok _ (h e he)
  · exact h
def knSl (n : Nm) (v : Value) (sl : Slots) : Slots := sl.map fun x => (x.1, x.2.kn n.1 n.2 v)
def knH (n : Nm) (v : Value) (H : Heap) : Heap := H.map fun x => (x.1, x.2.kn n.1 n.2 v x.1)
theorem lkS_kn {n : Nm} {v : Value} {d : Nat} {u : SV} : ∀ {sl : Slots}, lkS (knSl n v sl) d = some u → ∃ x, lkS sl d = some x ∧ u = x.kn n.1 n.2 v
  | [], h => by cases h
  | (d', x) :: l, h => by
    unfold knSl at h
    rw [List.map_cons] at h
    unfold lkS at h ⊢
    cases hb : Nat.beq d' d with
    | true => rw [hb] at h; cases h; exact ⟨x, rfl, rfl⟩
    | false => rw [hb] at h; exact lkS_kn (sl := l) h
theorem leaf_round {P : Program} {f : Nat} {ret : SV} {rp : Heap} {eb : Env} {R : List Chunk} {e : Ex} {K : List It} {sl0 sl : Slots} {H0 H : Heap} {J : Act → World → Prop} (K2 : List It) (un : Bool) (n : Nat) (hs : List (Hint P)) (hJ : ∀ ε a w, Rel (ntOf P f) 1 eb R ⟨sl, H, 2⟩ ε a w → J a w)
    (h : kl (ptRun P calNone (ntOf P f) un n sl H ⟨e, K, ⟨sl0, H0, 2⟩, hs⟩) = kr (.lp J :: K2) (ptRun P calNone (ntOf P f) un n sl H ⟨e, K, ⟨sl0, H0, 2⟩, hs⟩)) : Go P f ret rp eb R e K sl0 H0 :=
  pt_run calNone un n hs calNone_ok fine_body h fun ε a w hr => hJ ε a w hr
theorem callOK_run {P : Program} {f : Nat} {args : List SV} {rd pre post : Heap} {ret : SV} (n : Nat) (hs : List (Hint P)) (h1 : startB P f args (rd ++ pre) = true)
    (h2 : cl (endRun P calNone (ntOf P f) false n (rsOf P f) ret (rd ++ post) ⟨.nrm, [.code (bodyOf P f)], ⟨argSlots 0 args, rd ++ pre, 2⟩, hs⟩) = cr (endRun P calNone (ntOf P f) false n (rsOf P f) ret (rd ++ post) ⟨.nrm, [.code (bodyOf P f)], ⟨argSlots 0 args, rd ++ pre, 2⟩, hs⟩)) : CallOK P f args rd pre ret post :=
  callOK_intro h1 fun eb R => leaf_end calNone false n hs calNone_ok h2
noncomputable local instance : DecidableEq Value := Classical.typeDecidableEq Value
end Go.Sx
