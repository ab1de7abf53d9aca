/- SxC, Co1. -/
import Derived.Test.YtfcjmpgbohgoeaaSxB
import Derived.Test.YtfcjmpgbohgoeaaOps
import Derived.Test.YtfcjmpgbohgoeaaRows
section
namespace Go.Sx
set_option linter.unusedVariables false
set_option linter.unusedSimpArgs false
open Go.RowKit Go.Tk Go.Lib Go.Shelf Go.Vc
theorem CallOK.to_post {P : Program} {f : Nat} {args : List SV} {rd pre : Heap} {ret : SV} {post post' : Heap} (h : CallOK P f args rd pre ret post) (he : ∀ ε, hden ε post = hden ε post') : CallOK P f args rd pre ret post' := fun ε R w hM =>
  (h ε R w hM).mono fun e w' ⟨x, h1, h2⟩ => ⟨x, h1, by
    rw [hden_append] at h2 ⊢
    rw [← he]; exact h2⟩
/-- the place of an element of an open slice -/
def adR (a : Option Addr) (k : Nat) : Value := .pointer (some ((a.getD ⟨0, 0, none⟩).add k))
theorem idx_open {P : Program} {o : Oper} {x y : Operand} {t e size : Nat} {D : Chunk} {a : Option Addr} {n cap i : Nat} {k : IntKind} {xs : List Value} {ie : TypeInfo} (ho : o.op = .indexAddr t x y) (hT : P.underlying t = some (.slice e)) (hi : P.info? e = some ie) (hs : ie.size = size) (h0 : 0 < size)
    (hl : xs.length = n * size) (hR : Rd D a xs) (hn : i < n) :
    (∀ z ∈ [x, y], z ∈ o.op.operands) ∧ OpOK P o [x, y] [.val (.slice a n cap), .val (.int k (i : Int))] [((0, 0), .fam fun _ _ => D)] [] (.val (adR a (i * size))) [] := by
  refine ⟨fun z hz => by rw [ho]; simp [Op.operands]; simpa using hz, fun ε ρ R w hx hM => ?_⟩
  simp only [List.map_cons, List.map_nil, SV.dens, SV.den, List.cons.injEq, and_true] at hx
  have hM : Mem (D :: R) w := hM
  have hrow : Row w a xs := hR.row hM 0 rfl
  obtain ⟨b, off, ha, -⟩ := hrow 0 (by rw [hl]; exact Nat.mul_pos (by omega) h0)
  subst ha
  exact res_ok (x_idx0 (v := undef) ho hx.1 hx.2 hT hi hn) ⟨ε 1, by simp only [SV.den, adR, Option.getD_some, hs], by rw [eset_self]; exact hM⟩
theorem load_open {P : Program} {o : Oper} {x : Operand} {t k : Nat} {D : Chunk} {a : Option Addr} {xs : List Value} {cs : List SV} {u : SV} {j : Nat} (ho : o.op = .load t x) (hu : partAt P t cs j = some u) (hR : Rd D a xs) (hc : ∀ ε i v, cs[i]? = some v → xs[k + i]? = some (v.den ε)) (h0 : 0 < xs.length) :
    (∀ z ∈ [x], z ∈ o.op.operands) ∧ OpOK P o [x] [.val (adR a (k + j))] [((0, 0), .fam fun _ _ => D)] [] u [] := by
  refine ⟨fun z hz => by rw [ho]; simp [Op.operands]; simpa using hz, fun ε ρ R w hx hM => ?_⟩
  simp only [List.map_cons, List.map_nil, SV.dens, SV.den, List.cons.injEq, and_true] at hx
  have hM : Mem (D :: R) w := hM
  have hrow : Row w a xs := hR.row hM 0 rfl
  obtain ⟨b, off, ha, -⟩ := hrow 0 h0
  subst ha
  have := partAt_load (P := P) (w := w) (ρ := ρ) (o := o) (x := x) (B := b) (O := off + k) (ε := ε) hu (fun i u hi => by
    have h := hc ε i u hi
    have hl := (List.getElem?_eq_some_iff.1 h).1
    obtain ⟨b', off', hab, hcell⟩ := hrow (k + i) hl
    cases hab
    rw [Nat.add_assoc, hcell, List.getD_eq_getElem?_getD, h]; rfl) ho (hx.trans (by simp [adR, Addr.add, Nat.add_assoc]))
  exact res_ok this ⟨ε 1, by rw [eset_self], by rw [eset_self]; exact hM⟩
theorem load_open2 {P : Program} {o : Oper} {x : Operand} {t k : Nat} {D : Chunk} {a : Option Addr} {xs : List Value} {cs : List SV} {u : SV} {j : Nat} (ho : o.op = .load t x) (hu : partAt P t cs j = some u) (hR : Rd D a xs) (hc : ∀ ε i v, cs[i]? = some v → xs[k + i]? = some (v.den ε)) (h0 : 0 < xs.length) :
    (∀ z ∈ [x], z ∈ o.op.operands) ∧ OpOK P o [x] [.val (.pointer (some (((a.getD ⟨0, 0, none⟩).add k).add j)))] [((0, 0), .fam fun _ _ => D)] [] u [] := by
  have e : ∀ x : Addr, (x.add k).add j = x.add (k + j) := fun x => by
    by_cases hk : k = 0 <;> by_cases hj : j = 0 <;> simp [Addr.add, hk, hj, Nat.add_assoc]
  rw [e]
  exact load_open ho hu hR hc h0
/-- a slice of something open, appended to an empty row -/
theorem app_open0 {P : Program} {o : Oper} {c : Call} {x y : Operand} {t t' e e' size : Nat} {D : Chunk} {a : Option Addr} {n cap : Nat} {xs : List Value} (ho : o.op = .call c) (hc : c.callee = .builtin .append) (ha : c.args = #[x, y]) (hat : c.argTypes = #[t, t']) (hu : P.underlying t = some (.slice e)) (hy : P.underlying t' = some (.slice e'))
    (hi : ∃ i z, P.info? e = some i ∧ i.zero = some z ∧ i.size = size ∧ z.cells.size = size ∧ 0 < size ∧ i.bytes ≤ 131072)
    (hl : xs.length = n * size) (h1 : ∀ u ∈ xs, u.oneCell' = true) (hR : Rd D a xs) (hn : n ≤ 1073741824) :
    (∀ z ∈ [x, y], z ∈ o.op.operands) ∧ OpOK P o [x, y] [.raw 0 1, .val (.slice a n cap)] [((0, 0), .fam fun _ _ => D)] [((0, 1), .row e size 0 (.deep []) [])] (.raw 1 0) [((1, 0), .row e size n (.shal xs) [])] := by
  refine ⟨fun z hz => by rw [ho]; simp [Op.operands, Call.operands, hc, ha]; simpa using hz, fun ε ρ R w hx hM => ?_⟩
  obtain ⟨i, z, hi, hz, rfl, hzs, h0, hb⟩ := hi
  simp only [List.map_cons, List.map_nil, SV.dens, SV.den, List.cons.injEq, and_true] at hx
  obtain ⟨hx, hy'⟩ := hx
  have hM : Mem (D :: rowC e i.size (asSl (ε 0 1).2) 0 [] :: R) w := hM
  have hrow : Row w a xs := hR.row hM 0 rfl
  have hS : Go.Src P i.size t' (.slice a n cap) n xs w := by
    cases a with
    | some ad => exact Go.Src.ofSlice (P := P) w hy ad n cap _ hl (fun j u' hj => by
        have hjl := (List.getElem?_eq_some_iff.1 hj).1
        obtain ⟨b, off, hab, hcell⟩ := hrow j hjl
        cases hab
        have : (Addr.add ⟨b, off, none⟩ j) = ⟨b, off + j, none⟩ := addr_add b off j
        rw [this, hcell, List.getD_eq_getElem?_getD, hj]; rfl) h1
    | none =>
      have hy0 : xs = [] := by
        cases xs with
        | nil => rfl
        | cons q l => obtain ⟨b, off, h, -⟩ := hrow 0 (by simp); cases h
      have hm0 : n = 0 := by
        have h2 : n * i.size = 0 := by rw [hy0] at hl; simpa using hl.symm
        rcases Nat.mul_eq_zero.1 h2 with h | h
        · exact h
        · omega
      subst hm0
      rw [hy0]
      exact Go.Src.ofNil (P := P) w hy cap
  have h63 : 0 + n ≤ maxLen := by simp only [maxLen]; omega
  have hA := apps_src (P := P) t t' o.type e i.size i.bytes 0 n z hu (by rw [hi]; simp [hz]) hS h63 (by
    have : n * i.bytes ≤ 1073741824 * 131072 := Nat.mul_le_mul hn hb
    rw [Nat.zero_add]; omega)
  obtain ⟨v', w', hr, hm⟩ := Mem.apps hM 1 rfl hA hzs h63
  have hm : Mem (D :: rowC e i.size v' (0 + n) ([] ++ xs) :: R) w' := hm
  have hv' : asSl v' = v' := asSl_self (hm.owns 1 rfl)
  rw [Nat.zero_add, List.nil_append] at hm
  refine res_ok (x_append ho hc ha hat hx hy' hr) ⟨fun _ => (0, v'), by simp only [SV.den, eset_at]; exact hv'.symm, ?_⟩
  simp only [hden, List.map_cons, List.map_nil, List.cons_append, List.nil_append, SC.den, SL.den, eset_at, hv']
  exact hm
end Go.Sx
end
section
namespace Go.Proofs.Ytfcjmpgbohgoeaa
set_option linter.unusedVariables false
set_option linter.unusedSimpArgs false
open Go.RowKit Go.Lib Go.Tk Go.Shelf Go.Vc

def byteAt (v : Int) (i : Nat) : Int := v / 2 ^ (8 * i) % 256
/-- the first i of n bytes -/
def beHi (v : Int) (n : Nat) : Nat → List Int
  | 0 => []
  | i + 1 => beHi v n i ++ [byteAt v (n - 1 - i)]
def be (v : Int) (n : Nat) : List Int := beHi v n n
def valOf (l : List Int) : Int := l.foldl (fun v c => v * 256 + c) 0
theorem beHi_len (v : Int) (n : Nat) : ∀ i, (beHi v n i).length = i
  | 0 => rfl
  | i + 1 => by unfold beHi; simp [beHi_len v n i]
theorem be_len (v : Int) (n : Nat) : (be v n).length = n := beHi_len v n n
theorem valOf_snoc (l : List Int) (c : Int) : valOf (l ++ [c]) = valOf l * 256 + c := by simp [valOf]
theorem valOf_in : ∀ (n : Nat) (l : List Int), l.length = n → (∀ x ∈ l, 0 ≤ x ∧ x ≤ 255) → 0 ≤ valOf l ∧ valOf l < 256 ^ n
  | 0, l, hl, _ => by
    have : l = [] := List.length_eq_zero_iff.1 hl
    subst this; exact ⟨Int.le_refl _, by decide⟩
  | n + 1, l, hl, h => by
    obtain ⟨r, c, rfl⟩ : ∃ r c, l = r ++ [c] := ⟨l.dropLast, l.getLast (by intro e; subst e; simp at hl), (List.dropLast_concat_getLast _).symm⟩
    have ih := valOf_in n r (by simpa using hl) (fun x hx => h x (by simp [hx]))
    have hc := h c (by simp)
    rw [valOf_snoc, Int.pow_succ]
    omega
theorem byte_wrap (v : Int) (k : Nat) : IntKind.u8.wrap (v / 2 ^ (8 * k)) = byteAt v k := by
  rw [IntKind.wrap_u8]; rfl

/-- what a walk over fields has read or laid -/
structure WS where
  bad : Bool
  bs : List Int
inductive Md where
  | lay
  | take (D : Chunk)
def num : Md → WS → Int → Nat → Int × WS
  | .lay, σ, v, n => (v, ⟨σ.bad, σ.bs ++ be v n⟩)
  | .take _, σ, _, n => if σ.bs.length < n then (0, ⟨true, []⟩) else (valOf (σ.bs.take n), ⟨σ.bad, σ.bs.drop n⟩)
def nf : Md → Nat
  | .lay => 27
  | .take _ => 32
def InSlice (D : Chunk) (v : Value) (bs : List Int) : Prop := ∃ a c, v = .slice a bs.length c ∧ bs.length ≤ c ∧ Rd D a (bs.map (.int .u8)) ∧ (a = none → c = 0) ∧ ∀ x ∈ bs, 0 ≤ x ∧ x ≤ 255
def tailC : Md → Value → List Int → Chunk
  | .lay, v, bs => rowC 5 1 v bs.length (bs.map (.int .u8))
  | .take D, v, bs => allC [D, pureC (InSlice D v bs)]
def walkB (m : Md) (pw : Nat) (v : Value) (bad : Bool) : Chunk := boxC pw #[v, .func (.func (nf m)) #[.pointer (some ⟨pw, 0, none⟩)] #[], .bool bad]
def walkC (m : Md) (pw : Nat) (σ : WS) : Chunk := exC fun v => allC [walkB m pw v σ.bad, tailC m v σ.bs]
theorem walk_open {m : Md} {pw : Nat} {σ : WS} {R : List Chunk} {w : World} (h : Mem (walkC m pw σ :: R) w) : ∃ v, Mem (walkB m pw v σ.bad :: tailC m v σ.bs :: R) w := by
  obtain ⟨v, h⟩ := h.ex
  exact ⟨v, h.all⟩
theorem walk_shut {m : Md} {pw : Nat} {σ : WS} {v : Value} {R : List Chunk} {w : World} (h : Mem (walkB m pw v σ.bad :: tailC m v σ.bs :: R) w) : Mem (walkC m pw σ :: R) w :=
  Mem.in_ex v (Mem.in_all (l := [walkB m pw v σ.bad, tailC m v σ.bs]) h)
end Go.Proofs.Ytfcjmpgbohgoeaa
end
