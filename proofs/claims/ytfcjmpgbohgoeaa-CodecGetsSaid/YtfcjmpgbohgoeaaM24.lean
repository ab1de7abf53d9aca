/- SxB, Co1. -/
import Derived.Test.YtfcjmpgbohgoeaaSxA
import Derived.Test.YtfcjmpgbohgoeaaOps
import Derived.Test.YtfcjmpgbohgoeaaRows
section
namespace Go.Sx
set_option linter.unusedVariables false
set_option linter.unusedSimpArgs false
open Go.RowKit Go.Tk Go.Lib Go.Shelf Go.Vc
/-- a slice of something open, appended to nothing -/
theorem app_open {P : Program} {o : Oper} {c : Call} {x y : Operand} {t t' e e' size : Nat} {D : Chunk} {a : Option Addr} {n cap : Nat} {xs : List Value} (ho : o.op = .call c) (hc : c.callee = .builtin .append) (ha : c.args = #[x, y]) (hat : c.argTypes = #[t, t']) (hu : P.underlying t = some (.slice e)) (hy : P.underlying t' = some (.slice e'))
    (hi : ∃ i z, P.info? e = some i ∧ i.zero = some z ∧ i.size = size ∧ z.cells.size = size ∧ 0 < size ∧ i.bytes ≤ 131072)
    (hl : xs.length = n * size) (h1 : ∀ u ∈ xs, u.oneCell' = true) (hR : Rd D a xs) (hn : n ≤ 1073741824) :
    (∀ z ∈ [x, y], z ∈ o.op.operands) ∧ OpOK P o [x, y] [.val (.slice none 0 0), .val (.slice a n cap)] [((0, 0), .fam fun _ _ => D)] [] (.raw 1 0) [((1, 0), .row e size n (.shal xs) [])] := by
  refine ⟨fun z hz => by rw [ho]; simp [Op.operands, Call.operands, hc, ha]; simpa using hz, fun ε ρ R w hx hM => ?_⟩
  obtain ⟨i, z, hi, hz, rfl, hzs, h0, hb⟩ := hi
  simp only [List.map_cons, List.map_nil, SV.dens, SV.den, List.cons.injEq, and_true] at hx
  obtain ⟨hx, hy'⟩ := hx
  have hM : Mem (D :: R) w := hM
  have hrow : Row w a xs := hR.row hM 0 rfl
  have hS : Go.Src P i.size t' (.slice a n cap) n xs w := by
    cases a with
    | some ad => exact Go.Src.ofSlice (P := P) w hy ad n cap _ hl (fun j u' hj => by
        have hjl := (List.getElem?_eq_some_iff.1 hj).1
        obtain ⟨b, off, hab, hcell⟩ := hrow j hjl
        cases hab
        have : (Addr.add ⟨b, off, none⟩ j) = ⟨b, off + j, none⟩ := addr_add b off j
        rw [this, hcell, List.getD_eq_getElem?_getD, hj]; rfl) h1
    | none =>
      have hy0 : xs = [] := by
        cases xs with
        | nil => rfl
        | cons q l => obtain ⟨b, off, h, -⟩ := hrow 0 (by simp); cases h
      have hm0 : n = 0 := by
        have h2 : n * i.size = 0 := by rw [hy0] at hl; simpa using hl.symm
        rcases Nat.mul_eq_zero.1 h2 with h | h
        · exact h
        · omega
      subst hm0
      rw [hy0]
      exact Go.Src.ofNil (P := P) w hy cap
  have h63 : 0 + n ≤ maxLen := by simp only [maxLen]; omega
  have hA := apps_src (P := P) t t' o.type e i.size i.bytes 0 n z hu (by rw [hi]; simp [hz]) hS h63 (by
    have : n * i.bytes ≤ 1073741824 * 131072 := Nat.mul_le_mul hn hb
    rw [Nat.zero_add]; omega)
  obtain ⟨v', w', hr, hm⟩ := Mem.apps (Mem.noRow hM e i.size) 0 rfl hA hzs h63
  have hm : Mem (rowC e i.size v' (0 + n) ([] ++ xs) :: D :: R) w' := hm
  have hv' : asSl v' = v' := asSl_self (hm.owns 0 rfl)
  rw [Nat.zero_add, List.nil_append] at hm
  refine res_ok (x_append ho hc ha hat hx hy' hr) ⟨fun _ => (0, v'), by simp only [SV.den, eset_at]; exact hv'.symm, ?_⟩
  simp only [hden, List.map_cons, List.map_nil, List.cons_append, List.nil_append, SC.den, SL.den, eset_at, hv']
  exact mem_perm (List.Perm.swap _ _ _) hm
/-- bytes that are open, as a text -/
theorem str_open {P : Program} {o : Oper} {x : Operand} {src dst e : Nat} {D : Chunk} {a : Option Addr} {n cap : Nat} {bs : List Int} (ho : o.op = .convert src dst x) (hs : P.underlying src = some (.slice e)) (he : P.underlying e = some (.int .u8)) (hd : P.underlying dst = some .string) (hl : bs.length = n) (hR : Rd D a (bs.map (.int .u8))) :
    (∀ z ∈ [x], z ∈ o.op.operands) ∧ OpOK P o [x] [.val (.slice a n cap)] [((0, 0), .fam fun _ _ => D)] [] (.val (.string (ofBytes bs))) [] := by
  refine ⟨fun z hz => by rw [ho]; simp [Op.operands]; simpa using hz, fun ε ρ R w hx hM => ?_⟩
  simp only [List.map_cons, List.map_nil, SV.dens, SV.den, List.cons.injEq, and_true] at hx
  have hM : Mem (D :: R) w := hM
  exact res_ok (x_convert ho hx (run_ofBytes hs he hd hl (hR.row hM 0 rfl))) ⟨fun _ => (0, undef), by simp only [SV.den], hM⟩
/-- structures compared -/
theorem eq_agg {P : Program} {o : Oper} {x y : Operand} {t t' : Nat} {cs ds : List SV} {xs ys : Array Value} {b : Bool} (ho : o.op = .binOp .eql t x y t') (hg : P.eqGuardType P.depth t = false) (h1 : ∀ ε, (SV.agg cs).den ε = .agg xs) (h2 : ∀ ε, (SV.agg ds).den ε = .agg ys) (he : ∀ w, (Op.equalIn 10000 t (.agg xs) (.agg ys)).run P w = .ok b w) :
    (∀ z ∈ [x, y], z ∈ o.op.operands) ∧ OpOK P o [x, y] [.agg cs, .agg ds] [] [] (.val (.bool b)) [] := by
  refine ⟨fun z hz => by rw [ho]; simp [Op.operands]; simpa using hz, fun ε ρ R w hx hM => ?_⟩
  simp only [List.map_cons, List.map_nil, SV.dens, List.cons.injEq, and_true] at hx
  exact res_ok (x_eqA ho (hx.1.trans (h1 ε)) (hx.2.trans (h2 ε)) hg (he w)) ⟨ε 1, by simp only [SV.den], by rw [eset_self]; exact hM⟩
theorem ne_agg {P : Program} {o : Oper} {x y : Operand} {t t' : Nat} {cs ds : List SV} {xs ys : Array Value} {b : Bool} (ho : o.op = .binOp .neq t x y t') (hg : P.eqGuardType P.depth t = false) (h1 : ∀ ε, (SV.agg cs).den ε = .agg xs) (h2 : ∀ ε, (SV.agg ds).den ε = .agg ys) (he : ∀ w, (Op.equalIn 10000 t (.agg xs) (.agg ys)).run P w = .ok b w) :
    (∀ z ∈ [x, y], z ∈ o.op.operands) ∧ OpOK P o [x, y] [.agg cs, .agg ds] [] [] (.val (.bool (!b))) [] := by
  refine ⟨fun z hz => by rw [ho]; simp [Op.operands]; simpa using hz, fun ε ρ R w hx hM => ?_⟩
  simp only [List.map_cons, List.map_nil, SV.dens, List.cons.injEq, and_true] at hx
  exact res_ok (x_neA ho (hx.1.trans (h1 ε)) (hx.2.trans (h2 ε)) hg (he w) rfl) ⟨ε 1, by simp only [SV.den], by rw [eset_self]; exact hM⟩
/-- an element of an open row, as far as it is known -/
theorem load_elt {P : Program} {o : Oper} {x : Operand} {t E size n p b j : Nat} {xs : List Value} {cs : List SV} {u : SV} (ho : o.op = .load t x) (hu : partAt P t cs j = some u) (hc : ∀ ε i v, cs[i]? = some v → xs[b + i]? = some (v.den ε)) :
    (∀ z ∈ [x], z ∈ o.op.operands) ∧ OpOK P o [x] [.elt 0 0 p b j] [((0, 0), .row E size n (.shal xs) [])] [] u [] := by
  refine ⟨fun z hz => by rw [ho]; simp [Op.operands]; simpa using hz, fun ε ρ R w hx hM => ?_⟩
  simp only [List.map_cons, List.map_nil, SV.dens, SV.den, List.cons.injEq, and_true] at hx
  have hM : Mem (rowC E size (asSl (ε 0 0).2) n xs :: R) w := hM
  have := partAt_load (P := P) (w := w) (ρ := ρ) (o := o) (x := x) (B := (adOf (ε 0 0).2).block) (O := (adOf (ε 0 0).2).off + b) (ε := ε) hu (fun i u hi => by
    have h := row_at (hM.owns 0 rfl) (hc ε i u hi)
    rw [adOf_asSl, ← Nat.add_assoc] at h
    exact h) ho (hx.trans (by simp [Nat.add_assoc]))
  exact res_ok this ⟨ε 1, by rw [eset_self], by rw [eset_self]; exact hM⟩
theorem cells_at {α : Type} {enc : α → List Value} {size : Nat} (hk : ∀ x, (enc x).length = size) : ∀ {l : List α} {i : Nat} {x : α} {j : Nat} {v : Value}, l[i]? = some x → (enc x)[j]? = some v → (cellsL enc l)[i * size + j]? = some v
  | [], i, x, j, v, h, _ => by cases h
  | y :: l, 0, x, j, v, h, hv => by
    have e : y = x := by simpa using h
    subst e
    have hl := (List.getElem?_eq_some_iff.1 hv).1
    rw [Nat.zero_mul, Nat.zero_add]
    show (enc y ++ cellsL enc l)[j]? = _
    rw [List.getElem?_append_left hl]; exact hv
  | y :: l, i + 1, x, j, v, h, hv => by
    have ih := cells_at hk (l := l) (i := i) h hv
    show (enc y ++ cellsL enc l)[(i + 1) * size + j]? = _
    rw [List.getElem?_append_right (by rw [hk, Nat.add_mul]; omega), hk, show (i + 1) * size + j - size = i * size + j by rw [Nat.add_mul]; omega]
    exact ih
end Go.Sx
end
section
namespace Go.Proofs.Ytfcjmpgbohgoeaa
set_option linter.unusedVariables false
set_option linter.unusedSimpArgs false
open Go.RowKit Go.Lib Go.Tk Go.Shelf Go.Vc

def byteAt (v : Int) (i : Nat) : Int := v / 2 ^ (8 * i) % 256
/-- the first i of n bytes -/
def beHi (v : Int) (n : Nat) : Nat → List Int
  | 0 => []
  | i + 1 => beHi v n i ++ [byteAt v (n - 1 - i)]
def be (v : Int) (n : Nat) : List Int := beHi v n n
def valOf (l : List Int) : Int := l.foldl (fun v c => v * 256 + c) 0
theorem byteAt_in (v : Int) (i : Nat) : 0 ≤ byteAt v i ∧ byteAt v i ≤ 255 := by
  unfold byteAt
  exact ⟨Int.emod_nonneg _ (by decide), by have := Int.emod_lt_of_pos (v / 2 ^ (8 * i)) (show (0 : Int) < 256 by decide); omega⟩
theorem beHi_len (v : Int) (n : Nat) : ∀ i, (beHi v n i).length = i
  | 0 => rfl
  | i + 1 => by unfold beHi; simp [beHi_len v n i]
theorem be_len (v : Int) (n : Nat) : (be v n).length = n := beHi_len v n n
theorem beHi_in (v : Int) (n : Nat) : ∀ i, ∀ x ∈ beHi v n i, 0 ≤ x ∧ x ≤ 255
  | 0, x, h => by cases h
  | i + 1, x, h => by
    unfold beHi at h
    rcases List.mem_append.1 h with h | h
    · exact beHi_in v n i x h
    · obtain rfl := List.mem_singleton.1 h
      exact byteAt_in _ _
theorem be_in (v : Int) (n : Nat) : ∀ x ∈ be v n, 0 ≤ x ∧ x ≤ 255 := beHi_in v n n
theorem valOf_snoc (l : List Int) (c : Int) : valOf (l ++ [c]) = valOf l * 256 + c := by simp [valOf]
theorem valOf_in : ∀ (n : Nat) (l : List Int), l.length = n → (∀ x ∈ l, 0 ≤ x ∧ x ≤ 255) → 0 ≤ valOf l ∧ valOf l < 256 ^ n
  | 0, l, hl, _ => by
    have : l = [] := List.length_eq_zero_iff.1 hl
    subst this; exact ⟨Int.le_refl _, by decide⟩
  | n + 1, l, hl, h => by
    obtain ⟨r, c, rfl⟩ : ∃ r c, l = r ++ [c] := ⟨l.dropLast, l.getLast (by intro e; subst e; simp at hl), (List.dropLast_concat_getLast _).symm⟩
    have ih := valOf_in n r (by simpa using hl) (fun x hx => h x (by simp [hx]))
    have hc := h c (by simp)
    rw [valOf_snoc, Int.pow_succ]
    omega
theorem byte_wrap (v : Int) (k : Nat) : IntKind.u8.wrap (v / 2 ^ (8 * k)) = byteAt v k := by
  rw [IntKind.wrap_u8]; rfl

/-- what a walk over fields has read or laid -/
structure WS where
  bad : Bool
  bs : List Int
inductive Md where
  | lay
  | take (D : Chunk)
def num : Md → WS → Int → Nat → Int × WS
  | .lay, σ, v, n => (v, ⟨σ.bad, σ.bs ++ be v n⟩)
  | .take _, σ, _, n => if σ.bs.length < n then (0, ⟨true, []⟩) else (valOf (σ.bs.take n), ⟨σ.bad, σ.bs.drop n⟩)
def nf : Md → Nat
  | .lay => 27
  | .take _ => 32
def InSlice (D : Chunk) (v : Value) (bs : List Int) : Prop := ∃ a c, v = .slice a bs.length c ∧ bs.length ≤ c ∧ Rd D a (bs.map (.int .u8)) ∧ (a = none → c = 0) ∧ ∀ x ∈ bs, 0 ≤ x ∧ x ≤ 255
def tailC : Md → Value → List Int → Chunk
  | .lay, v, bs => rowC 5 1 v bs.length (bs.map (.int .u8))
  | .take D, v, bs => allC [D, pureC (InSlice D v bs)]
def walkB (m : Md) (pw : Nat) (v : Value) (bad : Bool) : Chunk := boxC pw #[v, .func (.func (nf m)) #[.pointer (some ⟨pw, 0, none⟩)] #[], .bool bad]
def walkC (m : Md) (pw : Nat) (σ : WS) : Chunk := exC fun v => allC [walkB m pw v σ.bad, tailC m v σ.bs]
theorem walk_open {m : Md} {pw : Nat} {σ : WS} {R : List Chunk} {w : World} (h : Mem (walkC m pw σ :: R) w) : ∃ v, Mem (walkB m pw v σ.bad :: tailC m v σ.bs :: R) w := by
  obtain ⟨v, h⟩ := h.ex
  exact ⟨v, h.all⟩
theorem walk_shut {m : Md} {pw : Nat} {σ : WS} {v : Value} {R : List Chunk} {w : World} (h : Mem (walkB m pw v σ.bad :: tailC m v σ.bs :: R) w) : Mem (walkC m pw σ :: R) w :=
  Mem.in_ex v (Mem.in_all (l := [walkB m pw v σ.bad, tailC m v σ.bs]) h)
end Go.Proofs.Ytfcjmpgbohgoeaa
end
