/- SxB, SxC, SxD. -/
import Derived.Test.YtlamaakconjkcaaGreatSxA
section
namespace Go.Sx
set_option linter.unusedVariables false
set_option linter.unusedSimpArgs false
open Go.RowKit Go.Tk Go.Lib Go.Shelf Go.Vc
/-- a slice of something open, appended to nothing -/
theorem app_open {P : Program} {o : Oper} {c : Call} {x y : Operand} {t t' e e' size : Nat} {D : Chunk} {a : Option Addr} {n cap : Nat} {xs : List Value} (ho : o.op = .call c) (hc : c.callee = .builtin .append) (ha : c.args = #[x, y]) (hat : c.argTypes = #[t, t']) (hu : P.underlying t = some (.slice e)) (hy : P.underlying t' = some (.slice e'))
    (hi : ∃ i z, P.info? e = some i ∧ i.zero = some z ∧ i.size = size ∧ z.cells.size = size ∧ 0 < size ∧ i.bytes ≤ 131072)
    (hl : xs.length = n * size) (h1 : ∀ u ∈ xs, u.oneCell' = true) (hR : Rd D a xs) (hn : n ≤ 1073741824) :
    (∀ z ∈ [x, y], z ∈ o.op.operands) ∧ OpOK P o [x, y] [.val (.slice none 0 0), .val (.slice a n cap)] [((0, 0), .fam fun _ _ => D)] [] (.raw 1 0) [((1, 0), .row e size n (.shal xs) [])] := by
  refine ⟨fun z hz => by rw [ho]; simp [Op.operands, Call.operands, hc, ha]; simpa using hz, fun ε ρ R w hx hM => ?_⟩
  obtain ⟨i, z, hi, hz, rfl, hzs, h0, hb⟩ := hi
  simp only [List.map_cons, List.map_nil, SV.dens, SV.den, List.cons.injEq, and_true] at hx
  obtain ⟨hx, hy'⟩ := hx
  have hM : Mem (D :: R) w := hM
  have hrow : Row w a xs := hR.row hM 0 rfl
  have hS : Go.Src P i.size t' (.slice a n cap) n xs w := by
    cases a with
    | some ad => exact Go.Src.ofSlice (P := P) w hy ad n cap _ hl (fun j u' hj => by
        have hjl := (List.getElem?_eq_some_iff.1 hj).1
        obtain ⟨b, off, hab, hcell⟩ := hrow j hjl
        cases hab
        have : (Addr.add ⟨b, off, none⟩ j) = ⟨b, off + j, none⟩ := addr_add b off j
        rw [this, hcell, List.getD_eq_getElem?_getD, hj]; rfl) h1
    | none =>
      have hy0 : xs = [] := by
        cases xs with
        | nil => rfl
        | cons q l => obtain ⟨b, off, h, -⟩ := hrow 0 (by simp); cases h
      have hm0 : n = 0 := by
        have h2 : n * i.size = 0 := by rw [hy0] at hl; simpa using hl.symm
        rcases Nat.mul_eq_zero.1 h2 with h | h
        · exact h
        · omega
      subst hm0
      rw [hy0]
      exact Go.Src.ofNil (P := P) w hy cap
  have h63 : 0 + n ≤ maxLen := by simp only [maxLen]; omega
  have hA := apps_src (P := P) t t' o.type e i.size i.bytes 0 n z hu (by rw [hi]; simp [hz]) hS h63 (by
    have : n * i.bytes ≤ 1073741824 * 131072 := Nat.mul_le_mul hn hb
    rw [Nat.zero_add]; omega)
  obtain ⟨v', w', hr, hm⟩ := Mem.apps (Mem.noRow hM e i.size) 0 rfl hA hzs h63
  have hm : Mem (rowC e i.size v' (0 + n) ([] ++ xs) :: D :: R) w' := hm
  have hv' : asSl v' = v' := asSl_self (hm.owns 0 rfl)
  rw [Nat.zero_add, List.nil_append] at hm
  refine res_ok (x_append ho hc ha hat hx hy' hr) ⟨fun _ => (0, v'), by simp only [SV.den, eset_at]; exact hv'.symm, ?_⟩
  simp only [hden, List.map_cons, List.map_nil, List.cons_append, List.nil_append, SC.den, SL.den, eset_at, hv']
  exact mem_perm (List.Perm.swap _ _ _) hm
/-- bytes that are open, as a text -/
theorem str_open {P : Program} {o : Oper} {x : Operand} {src dst e : Nat} {D : Chunk} {a : Option Addr} {n cap : Nat} {bs : List Int} (ho : o.op = .convert src dst x) (hs : P.underlying src = some (.slice e)) (he : P.underlying e = some (.int .u8)) (hd : P.underlying dst = some .string) (hl : bs.length = n) (hR : Rd D a (bs.map (.int .u8))) :
    (∀ z ∈ [x], z ∈ o.op.operands) ∧ OpOK P o [x] [.val (.slice a n cap)] [((0, 0), .fam fun _ _ => D)] [] (.val (.string (ofBytes bs))) [] := by
  refine ⟨fun z hz => by rw [ho]; simp [Op.operands]; simpa using hz, fun ε ρ R w hx hM => ?_⟩
  simp only [List.map_cons, List.map_nil, SV.dens, SV.den, List.cons.injEq, and_true] at hx
  have hM : Mem (D :: R) w := hM
  exact res_ok (x_convert ho hx (run_ofBytes hs he hd hl (hR.row hM 0 rfl))) ⟨fun _ => (0, undef), by simp only [SV.den], hM⟩
/-- structures compared -/
theorem eq_agg {P : Program} {o : Oper} {x y : Operand} {t t' : Nat} {cs ds : List SV} {xs ys : Array Value} {b : Bool} (ho : o.op = .binOp .eql t x y t') (hg : P.eqGuardType P.depth t = false) (h1 : ∀ ε, (SV.agg cs).den ε = .agg xs) (h2 : ∀ ε, (SV.agg ds).den ε = .agg ys) (he : ∀ w, (Op.equalIn 10000 t (.agg xs) (.agg ys)).run P w = .ok b w) :
    (∀ z ∈ [x, y], z ∈ o.op.operands) ∧ OpOK P o [x, y] [.agg cs, .agg ds] [] [] (.val (.bool b)) [] := by
  refine ⟨fun z hz => by rw [ho]; simp [Op.operands]; simpa using hz, fun ε ρ R w hx hM => ?_⟩
  simp only [List.map_cons, List.map_nil, SV.dens, List.cons.injEq, and_true] at hx
  exact res_ok (x_eqA ho (hx.1.trans (h1 ε)) (hx.2.trans (h2 ε)) hg (he w)) ⟨ε 1, by simp only [SV.den], by rw [eset_self]; exact hM⟩
theorem ne_agg {P : Program} {o : Oper} {x y : Operand} {t t' : Nat} {cs ds : List SV} {xs ys : Array Value} {b : Bool} (ho : o.op = .binOp .neq t x y t') (hg : P.eqGuardType P.depth t = false) (h1 : ∀ ε, (SV.agg cs).den ε = .agg xs) (h2 : ∀ ε, (SV.agg ds).den ε = .agg ys) (he : ∀ w, (Op.equalIn 10000 t (.agg xs) (.agg ys)).run P w = .ok b w) :
    (∀ z ∈ [x, y], z ∈ o.op.operands) ∧ OpOK P o [x, y] [.agg cs, .agg ds] [] [] (.val (.bool (!b))) [] := by
  refine ⟨fun z hz => by rw [ho]; simp [Op.operands]; simpa using hz, fun ε ρ R w hx hM => ?_⟩
  simp only [List.map_cons, List.map_nil, SV.dens, List.cons.injEq, and_true] at hx
  exact res_ok (x_neA ho (hx.1.trans (h1 ε)) (hx.2.trans (h2 ε)) hg (he w) rfl) ⟨ε 1, by simp only [SV.den], by rw [eset_self]; exact hM⟩
/-- an element of an open row, as far as it is known -/
theorem load_elt {P : Program} {o : Oper} {x : Operand} {t E size n p b j : Nat} {xs : List Value} {cs : List SV} {u : SV} (ho : o.op = .load t x) (hu : partAt P t cs j = some u) (hc : ∀ ε i v, cs[i]? = some v → xs[b + i]? = some (v.den ε)) :
    (∀ z ∈ [x], z ∈ o.op.operands) ∧ OpOK P o [x] [.elt 0 0 p b j] [((0, 0), .row E size n (.shal xs) [])] [] u [] := by
  refine ⟨fun z hz => by rw [ho]; simp [Op.operands]; simpa using hz, fun ε ρ R w hx hM => ?_⟩
  simp only [List.map_cons, List.map_nil, SV.dens, SV.den, List.cons.injEq, and_true] at hx
  have hM : Mem (rowC E size (asSl (ε 0 0).2) n xs :: R) w := hM
  have := partAt_load (P := P) (w := w) (ρ := ρ) (o := o) (x := x) (B := (adOf (ε 0 0).2).block) (O := (adOf (ε 0 0).2).off + b) (ε := ε) hu (fun i u hi => by
    have h := row_at (hM.owns 0 rfl) (hc ε i u hi)
    rw [adOf_asSl, ← Nat.add_assoc] at h
    exact h) ho (hx.trans (by simp [Nat.add_assoc]))
  exact res_ok this ⟨ε 1, by rw [eset_self], by rw [eset_self]; exact hM⟩
theorem cells_at {α : Type} {enc : α → List Value} {size : Nat} (hk : ∀ x, (enc x).length = size) : ∀ {l : List α} {i : Nat} {x : α} {j : Nat} {v : Value}, l[i]? = some x → (enc x)[j]? = some v → (cellsL enc l)[i * size + j]? = some v
  | [], i, x, j, v, h, _ => by cases h
  | y :: l, 0, x, j, v, h, hv => by
    have e : y = x := by simpa using h
    subst e
    have hl := (List.getElem?_eq_some_iff.1 hv).1
    rw [Nat.zero_mul, Nat.zero_add]
    show (enc y ++ cellsL enc l)[j]? = _
    rw [List.getElem?_append_left hl]; exact hv
  | y :: l, i + 1, x, j, v, h, hv => by
    have ih := cells_at hk (l := l) (i := i) h hv
    show (enc y ++ cellsL enc l)[(i + 1) * size + j]? = _
    rw [List.getElem?_append_right (by rw [hk, Nat.add_mul]; omega), hk, show (i + 1) * size + j - size = i * size + j by rw [Nat.add_mul]; omega]
    exact ih
end Go.Sx
end
section
namespace Go.Sx
set_option linter.unusedVariables false
set_option linter.unusedSimpArgs false
open Go.RowKit Go.Tk Go.Lib Go.Shelf Go.Vc
theorem CallOK.to_post {P : Program} {f : Nat} {args : List SV} {rd pre : Heap} {ret : SV} {post post' : Heap} (h : CallOK P f args rd pre ret post) (he : ∀ ε, hden ε post = hden ε post') : CallOK P f args rd pre ret post' := fun ε R w hM =>
  (h ε R w hM).mono fun e w' ⟨x, h1, h2⟩ => ⟨x, h1, by
    rw [hden_append] at h2 ⊢
    rw [← he]; exact h2⟩
/-- the place of an element of an open slice -/
def adR (a : Option Addr) (k : Nat) : Value := .pointer (some ((a.getD ⟨0, 0, none⟩).add k))
theorem idx_open {P : Program} {o : Oper} {x y : Operand} {t e size : Nat} {D : Chunk} {a : Option Addr} {n cap i : Nat} {k : IntKind} {xs : List Value} {ie : TypeInfo} (ho : o.op = .indexAddr t x y) (hT : P.underlying t = some (.slice e)) (hi : P.info? e = some ie) (hs : ie.size = size) (h0 : 0 < size)
    (hl : xs.length = n * size) (hR : Rd D a xs) (hn : i < n) :
    (∀ z ∈ [x, y], z ∈ o.op.operands) ∧ OpOK P o [x, y] [.val (.slice a n cap), .val (.int k (i : Int))] [((0, 0), .fam fun _ _ => D)] [] (.val (adR a (i * size))) [] := by
  refine ⟨fun z hz => by rw [ho]; simp [Op.operands]; simpa using hz, fun ε ρ R w hx hM => ?_⟩
  simp only [List.map_cons, List.map_nil, SV.dens, SV.den, List.cons.injEq, and_true] at hx
  have hM : Mem (D :: R) w := hM
  have hrow : Row w a xs := hR.row hM 0 rfl
  obtain ⟨b, off, ha, -⟩ := hrow 0 (by rw [hl]; exact Nat.mul_pos (by omega) h0)
  subst ha
  exact res_ok (x_idx0 (v := undef) ho hx.1 hx.2 hT hi hn) ⟨ε 1, by simp only [SV.den, adR, Option.getD_some, hs], by rw [eset_self]; exact hM⟩
theorem load_open {P : Program} {o : Oper} {x : Operand} {t k : Nat} {D : Chunk} {a : Option Addr} {xs : List Value} {cs : List SV} {u : SV} {j : Nat} (ho : o.op = .load t x) (hu : partAt P t cs j = some u) (hR : Rd D a xs) (hc : ∀ ε i v, cs[i]? = some v → xs[k + i]? = some (v.den ε)) (h0 : 0 < xs.length) :
    (∀ z ∈ [x], z ∈ o.op.operands) ∧ OpOK P o [x] [.val (adR a (k + j))] [((0, 0), .fam fun _ _ => D)] [] u [] := by
  refine ⟨fun z hz => by rw [ho]; simp [Op.operands]; simpa using hz, fun ε ρ R w hx hM => ?_⟩
  simp only [List.map_cons, List.map_nil, SV.dens, SV.den, List.cons.injEq, and_true] at hx
  have hM : Mem (D :: R) w := hM
  have hrow : Row w a xs := hR.row hM 0 rfl
  obtain ⟨b, off, ha, -⟩ := hrow 0 h0
  subst ha
  have := partAt_load (P := P) (w := w) (ρ := ρ) (o := o) (x := x) (B := b) (O := off + k) (ε := ε) hu (fun i u hi => by
    have h := hc ε i u hi
    have hl := (List.getElem?_eq_some_iff.1 h).1
    obtain ⟨b', off', hab, hcell⟩ := hrow (k + i) hl
    cases hab
    rw [Nat.add_assoc, hcell, List.getD_eq_getElem?_getD, h]; rfl) ho (hx.trans (by simp [adR, Addr.add, Nat.add_assoc]))
  exact res_ok this ⟨ε 1, by rw [eset_self], by rw [eset_self]; exact hM⟩
theorem load_open2 {P : Program} {o : Oper} {x : Operand} {t k : Nat} {D : Chunk} {a : Option Addr} {xs : List Value} {cs : List SV} {u : SV} {j : Nat} (ho : o.op = .load t x) (hu : partAt P t cs j = some u) (hR : Rd D a xs) (hc : ∀ ε i v, cs[i]? = some v → xs[k + i]? = some (v.den ε)) (h0 : 0 < xs.length) :
    (∀ z ∈ [x], z ∈ o.op.operands) ∧ OpOK P o [x] [.val (.pointer (some (((a.getD ⟨0, 0, none⟩).add k).add j)))] [((0, 0), .fam fun _ _ => D)] [] u [] := by
  have e : ∀ x : Addr, (x.add k).add j = x.add (k + j) := fun x => by
    by_cases hk : k = 0 <;> by_cases hj : j = 0 <;> simp [Addr.add, hk, hj, Nat.add_assoc]
  rw [e]
  exact load_open ho hu hR hc h0
/-- a slice of something open, appended to an empty row -/
theorem app_open0 {P : Program} {o : Oper} {c : Call} {x y : Operand} {t t' e e' size : Nat} {D : Chunk} {a : Option Addr} {n cap : Nat} {xs : List Value} (ho : o.op = .call c) (hc : c.callee = .builtin .append) (ha : c.args = #[x, y]) (hat : c.argTypes = #[t, t']) (hu : P.underlying t = some (.slice e)) (hy : P.underlying t' = some (.slice e'))
    (hi : ∃ i z, P.info? e = some i ∧ i.zero = some z ∧ i.size = size ∧ z.cells.size = size ∧ 0 < size ∧ i.bytes ≤ 131072)
    (hl : xs.length = n * size) (h1 : ∀ u ∈ xs, u.oneCell' = true) (hR : Rd D a xs) (hn : n ≤ 1073741824) :
    (∀ z ∈ [x, y], z ∈ o.op.operands) ∧ OpOK P o [x, y] [.raw 0 1, .val (.slice a n cap)] [((0, 0), .fam fun _ _ => D)] [((0, 1), .row e size 0 (.deep []) [])] (.raw 1 0) [((1, 0), .row e size n (.shal xs) [])] := by
  refine ⟨fun z hz => by rw [ho]; simp [Op.operands, Call.operands, hc, ha]; simpa using hz, fun ε ρ R w hx hM => ?_⟩
  obtain ⟨i, z, hi, hz, rfl, hzs, h0, hb⟩ := hi
  simp only [List.map_cons, List.map_nil, SV.dens, SV.den, List.cons.injEq, and_true] at hx
  obtain ⟨hx, hy'⟩ := hx
  have hM : Mem (D :: rowC e i.size (asSl (ε 0 1).2) 0 [] :: R) w := hM
  have hrow : Row w a xs := hR.row hM 0 rfl
  have hS : Go.Src P i.size t' (.slice a n cap) n xs w := by
    cases a with
    | some ad => exact Go.Src.ofSlice (P := P) w hy ad n cap _ hl (fun j u' hj => by
        have hjl := (List.getElem?_eq_some_iff.1 hj).1
        obtain ⟨b, off, hab, hcell⟩ := hrow j hjl
        cases hab
        have : (Addr.add ⟨b, off, none⟩ j) = ⟨b, off + j, none⟩ := addr_add b off j
        rw [this, hcell, List.getD_eq_getElem?_getD, hj]; rfl) h1
    | none =>
      have hy0 : xs = [] := by
        cases xs with
        | nil => rfl
        | cons q l => obtain ⟨b, off, h, -⟩ := hrow 0 (by simp); cases h
      have hm0 : n = 0 := by
        have h2 : n * i.size = 0 := by rw [hy0] at hl; simpa using hl.symm
        rcases Nat.mul_eq_zero.1 h2 with h | h
        · exact h
        · omega
      subst hm0
      rw [hy0]
      exact Go.Src.ofNil (P := P) w hy cap
  have h63 : 0 + n ≤ maxLen := by simp only [maxLen]; omega
  have hA := apps_src (P := P) t t' o.type e i.size i.bytes 0 n z hu (by rw [hi]; simp [hz]) hS h63 (by
    have : n * i.bytes ≤ 1073741824 * 131072 := Nat.mul_le_mul hn hb
    rw [Nat.zero_add]; omega)
  obtain ⟨v', w', hr, hm⟩ := Mem.apps hM 1 rfl hA hzs h63
  have hm : Mem (D :: rowC e i.size v' (0 + n) ([] ++ xs) :: R) w' := hm
  have hv' : asSl v' = v' := asSl_self (hm.owns 1 rfl)
  rw [Nat.zero_add, List.nil_append] at hm
  refine res_ok (x_append ho hc ha hat hx hy' hr) ⟨fun _ => (0, v'), by simp only [SV.den, eset_at]; exact hv'.symm, ?_⟩
  simp only [hden, List.map_cons, List.map_nil, List.cons_append, List.nil_append, SC.den, SL.den, eset_at, hv']
  exact hm
end Go.Sx
end
section
namespace Go.Sx
set_option linter.unusedVariables false
set_option linter.unusedSimpArgs false
open Go.RowKit Go.Tk Go.Lib Go.Shelf Go.Vc
mutual
def SV.nms : SV → List Nm
  | .val _ => []
  | .ptr s k _ => [(s, k)]
  | .elt s k _ _ _ => [(s, k)]
  | .raw s k => [(s, k)]
  | .map s k => [(s, k)]
  | .any s k => [(s, k)]
  | .win s k _ _ _ => [(s, k)]
  | .fn _ a b => SV.nmss a ++ SV.nmss b
  | .agg cs => SV.nmss cs
  | .tup cs => SV.nmss cs
def SV.nmss : List SV → List Nm
  | [] => []
  | v :: l => SV.nms v ++ SV.nmss l
end
def SC.nms : SC → List Nm
  | .emp => []
  | .box _ cs => SV.nmss cs
  | .row _ _ _ (.deep l) ws => SV.nmss l ++ ws.flatMap fun y => SV.nmss y.2.2
  | .row _ _ _ (.shal _) ws => ws.flatMap fun y => SV.nmss y.2.2
  | .obj es _ => es.flatMap fun e => e.2.1.nms
  | .fam _ => []
/-- the things that some names come to -/
def reach (H : Heap) : Nat → List Nm → List Nm → List Nm
  | 0, _, seen => seen
  | _ + 1, [], seen => seen
  | n + 1, t :: l, seen => bif nmIn seen t then reach H n l seen else match hget H t with
    | .emp => reach H n l seen
    | c => reach H n (c.nms ++ l) (t :: seen)
def famNms (H : Heap) : List Nm := (H.filter fun e => match e.2 with
  | .fam _ => true
  | _ => false).map (·.1)
def idxN : List Nm → Nm → Nat
  | [], _ => 0
  | m :: l, n => bif nmB m n then 0 else idxN l n + 1
def gI (N : List Nm) (s : Nat) : Nat → Nat → Nm := fun t k => bif Nat.blt t s then (t, k) else (s, idxN N (t, k))
def okI (N : List Nm) (s : Nat) : Nat → Nat → Bool := fun t k => Nat.blt t s || nmIn N (t, k)
def newN (s : Nat) (H : Heap) : List Nm := (names H).filter fun n => !Nat.blt n.1 s
theorem idxN_at {n : Nm} : ∀ {l : List Nm}, n ∈ l → l[idxN l n]? = some n
  | [], h => by cases h
  | m :: l, h => by
    unfold idxN
    cases hb : nmB m n with
    | true => rw [nmB_iff.1 hb]; rfl
    | false =>
      have : n ∈ l := by
        rcases List.mem_cons.1 h with rfl | h
        · rw [nmB_self] at hb; cases hb
        · exact h
      exact idxN_at this
def calN (P : Program) (n : Nat) : Nat → Callee P
  | 0 => calNone
  | d + 1 => fun f args H hs s =>
    let L := reach H 10000 (SV.nmss args ++ famNms H) []
    let Hr : Heap := L.map fun m => (m, hget H m)
    bif (P.funcs[f]?).isSome && ((fnOf P f).body.isSome && (Nat.ble args.length (ntOf P f) && (Nat.blt s 1000000000 && (ndB L && L.all fun m => Nat.blt m.1 s)))) then
      match exec P (calN P n d) (ntOf P f) true n ⟨.nrm, [.code (bodyOf P f)], ⟨argSlots 0 args, Hr, s⟩, hs⟩ with
      | (c, ck) => match c.K with
        | [] => match c.e with
          | .ext _ => none
          | _ => match retV P c.σ (rsOf P f) with
            | some v =>
              let keep := reach c.σ.heap 10000 (v.nms ++ L) []
              let Hf := c.σ.heap.filter fun e => nmIn keep e.1
              bif v.ok (okI (newN s Hf) s) && hok (okI (newN s Hf) s) Hf then
                some (⟨v.ren (gI (newN s Hf) s), Hf.map (fun e => (gI (newN s Hf) s e.1.1 e.1.2, e.2.ren (gI (newN s Hf) s))) ++ (L.filter fun m => !nmIn (names Hf) m).map (fun m => (m, SC.emp)), [], ck⟩, c.hs)
              else none
            | none => none
        | _ :: _ => none
    else none
theorem mem_filter {ε : Env} {p : Nm × SC → Bool} {w : World} : ∀ {H : Heap} {R : List Chunk}, Mem (hden ε H ++ R) w → Mem (hden ε (H.filter p) ++ R) w
  | [], R, h => h
  | e :: H, R, h => by
    have h : Mem (e.2.den ε e.1.1 e.1.2 :: (hden ε H ++ R)) w := h
    rw [List.filter_cons]
    cases p e with
    | false => exact mem_filter h.tail
    | true =>
      have ih := mem_filter (p := p) (H := H) (R := e.2.den ε e.1.1 e.1.2 :: R) (mem_perm List.perm_middle.symm h)
      exact mem_perm List.perm_middle ih
theorem gI_lt {N : List Nm} {s t k : Nat} (h : t < s) : gI N s t k = (t, k) := by unfold gI; rw [show Nat.blt t s = true from by rw [Nat.blt_eq]; exact h]; rfl
theorem gI_ge {N : List Nm} {s t k : Nat} (h : s ≤ t) : gI N s t k = (s, idxN N (t, k)) := by
  unfold gI
  rw [show Nat.blt t s = false from by
    cases hb : Nat.blt t s with
    | false => rfl
    | true => rw [Nat.blt_eq] at hb; omega]
  rfl
theorem gI_nil {N : List Nm} {s : Nat} (h : s < 1000000000) (t k : Nat) : isNil (gI N s t k) = false := by
  rcases Nat.lt_or_ge t s with h1 | h1
  · rw [gI_lt h1]; exact isNil_ne (by show t ≠ _; omega)
  · rw [gI_ge h1]; exact isNil_ne (by show s ≠ _; omega)
/-- all the new names told by one step -/
def xI (ε : Env) (N : List Nm) : Nat → Rv := fun j => match N[j]? with
  | some n => ε n.1 n.2
  | none => (0, undef)
theorem gI_env {ε ε' : Env} {N : List Nm} {s : Nat} (h9 : s < 1000000000) (h : ∀ t, t < s → ε' t = ε t) (t k : Nat) (hp : okI N s t k = true) : gE (eset ε s (xI ε' N)) (gI N s) t k = ε' t k := by
  rw [gE_n (gI_nil h9 t k)]
  rcases Nat.lt_or_ge t s with h1 | h1
  · rw [gI_lt h1, eset_ne' (by show t ≠ s; omega), h t h1]
  · rw [gI_ge h1, eset_at]
    unfold okI at hp
    have hk : (t, k) ∈ N := by
      rw [Bool.or_eq_true, Nat.blt_eq] at hp
      rcases hp with hp | hp
      · omega
      · exact nmIn_iff.1 hp
    unfold xI
    rw [idxN_at hk]
theorem hget_ok {p : Nat → Nat → Bool} {H : Heap} (h : hok p H = true) (m : Nm) : (hget H m).ok p = true := by
  induction H with
  | nil => rfl
  | cons e l ih =>
    obtain ⟨a, c⟩ := e
    unfold hok at h
    rw [List.all_cons, Bool.and_eq_true, Bool.and_eq_true] at h
    unfold hget
    cases nmB a m with
    | true => exact h.1.2
    | false => exact ih h.2
theorem calN_ok {P : Program} (n : Nat) : ∀ d, CalleeOK P (calN P n d)
  | 0 => calNone_ok
  | d + 1 => by
    intro f args H hs s out hs' h hk hargs hsc ε R w hM
    unfold calN at h
    simp only at h
    generalize hL : reach H 10000 (SV.nmss args ++ famNms H) [] = L at h
    cases hc : (P.funcs[f]?).isSome && ((fnOf P f).body.isSome && (Nat.ble args.length (ntOf P f) && (Nat.blt s 1000000000 && (ndB L && L.all fun m => Nat.blt m.1 s)))) with
    | false => rw [hc] at h; cases h
    | true =>
      rw [hc] at h
      simp only [cond_true] at h
      simp only [Bool.and_eq_true] at hc
      obtain ⟨c1, c2, c3, c4, c5, c6⟩ := hc
      have h9 : s < 1000000000 := by rwa [Nat.blt_eq] at c4
      obtain ⟨fn, hf⟩ := Option.isSome_iff_exists.1 c1
      have hfn : fnOf P f = fn := by unfold fnOf; rw [hf]; rfl
      rw [hfn] at c2
      obtain ⟨cb, hcb⟩ := Option.isSome_iff_exists.1 c2
      have hbd : bodyOf P f = cb := by unfold bodyOf; rw [hfn, hcb]; rfl
      have hnt : ntOf P f = fn.ntmps := by unfold ntOf; rw [hfn]
      generalize hHr : (L.map fun m => (m, hget H m) : Heap) = Hr at h
      have key := exec_ok (P := P) (cal := calN P n d) (nt := ntOf P f) (lo := s) (eb := ε) (R := R) (Q := bodyPost P (fnOf P f) (fun e w' => ∃ u, e = .returned u ∧ After ε s H R out u w')) (un := true) (calN_ok n d) (fun e a w h => by
        cases e with
        | normal => exact .inl rfl
        | ret => exact .inr (.inl rfl)
        | exit id => exact .inr (.inr ⟨_, rfl⟩)
        | goto l => exact h.elim
        | panic ch => obtain ⟨-, x, h, -⟩ := h; cases h
        | outgrown => obtain ⟨x, h, -⟩ := h; cases h) (n := n) (c := ⟨.nrm, [.code (bodyOf P f)], ⟨argSlots 0 args, Hr, s⟩, hs⟩)
      generalize exec P (calN P n d) (ntOf P f) true n ⟨.nrm, [.code (bodyOf P f)], ⟨argSlots 0 args, Hr, s⟩, hs⟩ = r at key h
      obtain ⟨c, ck⟩ := r
      simp only at key h
      split at h <;> try (cases h; done)
      rename_i hK
      have hnames : names Hr = L := by
        subst hHr
        unfold names
        rw [List.map_map]
        exact List.map_id L
      have hok2 : hok (ltB s) Hr = true := by
        subst hHr
        unfold hok
        refine List.all_eq_true.2 fun e he => ?_
        obtain ⟨m, hm, rfl⟩ := List.mem_map.1 he
        rw [Bool.and_eq_true]
        refine ⟨ltB_iff.2 ?_, hget_ok hsc m⟩
        have := List.all_eq_true.1 c6 m hm
        rwa [Nat.blt_eq] at this
      have hden0 : hden ε Hr = tden ε H L := by
        subst hHr
        unfold hden tden
        rw [List.map_map]; rfl
      have fin : ∀ v, retV P c.σ (rsOf P f) = some v → (bif v.ok (okI (newN s (c.σ.heap.filter fun e => nmIn (reach c.σ.heap 10000 (v.nms ++ L) []) e.1)) s) && hok (okI (newN s (c.σ.heap.filter fun e => nmIn (reach c.σ.heap 10000 (v.nms ++ L) []) e.1)) s) (c.σ.heap.filter fun e => nmIn (reach c.σ.heap 10000 (v.nms ++ L) []) e.1) then
                some (⟨v.ren (gI (newN s (c.σ.heap.filter fun e => nmIn (reach c.σ.heap 10000 (v.nms ++ L) []) e.1)) s), (c.σ.heap.filter fun e => nmIn (reach c.σ.heap 10000 (v.nms ++ L) []) e.1).map (fun e => (gI (newN s (c.σ.heap.filter fun e => nmIn (reach c.σ.heap 10000 (v.nms ++ L) []) e.1)) s e.1.1 e.1.2, e.2.ren (gI (newN s (c.σ.heap.filter fun e => nmIn (reach c.σ.heap 10000 (v.nms ++ L) []) e.1)) s))) ++ (L.filter fun m => !nmIn (names (c.σ.heap.filter fun e => nmIn (reach c.σ.heap 10000 (v.nms ++ L) []) e.1)) m).map (fun m => (m, SC.emp)), [], ck⟩, c.hs)
              else none) = some (out, hs') → (c.e.up = .normal ∨ c.e.up = .ret) → Calls P f (SV.dens ε args).toArray w fun e w' => ∃ u, e = .returned u ∧ After ε s H R out u w' := by
        intro v hv h he
        generalize reach c.σ.heap 10000 (v.nms ++ L) [] = keep at h
        generalize hHf : (c.σ.heap.filter fun e => nmIn keep e.1) = Hf at h
        cases hb : v.ok (okI (newN s Hf) s) && hok (okI (newN s Hf) s) Hf with
        | false => rw [hb] at h; cases h
        | true =>
          rw [hb] at h
          simp only [cond_true, Option.some.injEq, Prod.mk.injEq] at h
          obtain ⟨h, -⟩ := h
          rw [Bool.and_eq_true] at hb
          have hck : ChkOK ck := by rw [← h] at hk; exact hk
          -- what is handed in
          have hsub : ∀ m ∈ L, m ∈ out.touch := fun m hm => by
            rw [← h]
            show m ∈ names _ ++ []
            rw [List.append_nil]
            unfold names
            rw [List.map_append, List.mem_append]
            by_cases hin : m ∈ names Hf
            · left
              obtain ⟨e, he1, he2⟩ := List.mem_map.1 hin
              refine List.mem_map.2 ⟨(gI (newN s Hf) s e.1.1 e.1.2, e.2.ren (gI (newN s Hf) s)), List.mem_map.2 ⟨e, he1, rfl⟩, ?_⟩
              have := List.all_eq_true.1 c6 m hm
              rw [Nat.blt_eq] at this
              subst he2
              exact gI_lt this
            · right
              refine List.mem_map.2 ⟨(m, SC.emp), List.mem_map.2 ⟨m, List.mem_filter.2 ⟨hm, ?_⟩, rfl⟩, rfl⟩
              have hq : nmIn (names Hf) m = false := by
                cases hq : nmIn (names Hf) m with
                | false => rfl
                | true => exact absurd (nmIn_iff.1 hq) hin
              show (!nmIn (names Hf) m) = true
              rw [hq]; rfl
          have hM1 : Mem (hden ε Hr ++ R) w := by
            rw [hden0]
            exact mem_sub (ndB_nodup c5) hsub hM
          refine enter (n := fn.ntmps) hf hcb rfl (by have := Nat.le_of_ble_eq_true c3; rw [hnt] at this; simpa [dens_length] using this) fun a hz hd hg => ?_
          have kk := key hck fun ε' a' w' hr => ?_
          · have := kk ε a w (enter_rel (by rw [hnt]; exact hz) hd hg hM1 hargs hok2 (by rw [hnames]; exact ndB_nodup c5) (Nat.le_refl _))
            rw [hbd, hfn] at this
            exact this
          · rw [hK]
            have henv := fun t k hp => gI_env (ε := ε) (ε' := ε') (N := newN s Hf) h9 hr.e0 t k hp
            have hgoal : a'.defers = [] ∧ ∃ u, (results (fnOf P f) a'.tmps).run P w' = .ok u w' ∧ (∃ u', Ending.returned u = .returned u' ∧ After ε s H R out u' w') := by
              refine ⟨hr.defers, _, retV_ok hr hv, _, rfl, xI ε' (newN s Hf), ?_, ?_⟩
              · rw [← h]
                show _ = (v.ren (gI (newN s Hf) s)).den (eset ε s (xI ε' (newN s Hf)))
                rw [SV.den_ren]
                exact (SV.den_congr henv v hb.1).symm
              · rw [← h]
                show Mem (hden (eset ε s (xI ε' (newN s Hf))) (Hf.map (fun e => (gI (newN s Hf) s e.1.1 e.1.2, e.2.ren (gI (newN s Hf) s))) ++ _) ++ ([] ++ R)) w'
                rw [hden_append, List.nil_append]
                have e1 : hden (eset ε s (xI ε' (newN s Hf))) (Hf.map (fun e => (gI (newN s Hf) s e.1.1 e.1.2, e.2.ren (gI (newN s Hf) s)))) = hden ε' Hf := by
                  rw [← hden_congr henv hb.2]
                  unfold hden
                  rw [List.map_map]
                  refine List.map_congr_left fun e he => ?_
                  exact SC.den_ren (gI (newN s Hf) s) _ _ _ (gI_nil h9 _ _) _
                rw [e1, List.append_assoc]
                have h1 : Mem (hden ε' Hf ++ R) w' := by rw [← hHf]; exact mem_filter hr.mem
                have h2 := mem_emps (ε := eset ε s (xI ε' (newN s Hf))) (l := L.filter fun m => !nmIn (names Hf) m) h1
                refine mem_perm ?_ h2
                rw [← List.append_assoc, ← List.append_assoc]
                exact List.Perm.append_right R List.perm_append_comm
            rcases he with he | he
            · rw [he]; exact hgoal
            · rw [he]; exact hgoal
      split at h
      · cases h
      · rename_i hne
        split at h <;> try (cases h; done)
        rename_i v hv
        refine fin v hv h ?_
        cases hce : c.e with
        | nrm => exact .inl rfl
        | ret => exact .inr rfl
        | ext id => exact absurd hce (hne id)
end Go.Sx
end
