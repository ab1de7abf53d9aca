/- Bk0, Tick3, MoneyOrder, Tick4, Bk1. -/
import Derived.Test.YtdnaegleifhmgaaGreatSxE
import Derived.Test.YtdnaegleifhmgaaGreatM8a8b41c
import Derived.BigQuiet
import Derived.Deep.QuietTactic
import Derived.BigRegion
import Derived.Deep.DeepCutAuto
set_option maxRecDepth 100000
set_option linter.unusedVariables false
set_option linter.unusedSimpArgs false
set_option linter.unusedSectionVars false
section
namespace Go.Proofs.YtdnaegleifhmgaaGreat
open Go.RowKit Go.Lib Go.Tk Go.Shelf Go.Vc Go.Sx
structure Tid where
  c : Int
  r : Int
deriving DecidableEq, Inhabited
structure Kid where
  t : Tid
  i : Int
deriving DecidableEq, Inhabited
structure Cpn where
  l : Leg
  v : Int
  s : Int
  n : Int
deriving DecidableEq, Inhabited
structure OwnV where
  k : Cpn
  away : Bool
  dst : Int
  paid : Bool
  asked : Bool
deriving DecidableEq, Inhabited
structure HeldV where
  k : Cpn
  here : Bool
  paid : Bool
  wanted : Bool
  billed : Bool
deriving DecidableEq, Inhabited
structure MsV where
  kind : Int
  key : Kid
  k : Cpn
  amt : Int
  code : Int
deriving DecidableEq, Inhabited
structure OutV where
  dst : Int
  m : MsV
deriving DecidableEq, Inhabited
def tid0 : Tid := ⟨0, 0⟩
def kid0 : Kid := ⟨⟨0, 0⟩, 0⟩
def leg0 : Leg := ⟨0, 0, 0⟩
def own0 : OwnV := ⟨⟨⟨0, 0, 0⟩, 0, 0, 0⟩, false, 0, false, false⟩
def tidS (t : Tid) : List SV := [.val (.int .u8 t.c), .val (.int .u64 t.r)]
def kidS (k : Kid) : List SV := [.val (.int .u8 k.t.c), .val (.int .u64 k.t.r), .val (.int .u8 k.i)]
def legS' (l : Leg) : List SV := [.val (.int .u8 l.c), .val (.int .u16 l.f), .val (.int .u32 l.x)]
def msS (m : MsV) : List SV := [.val (.int .u8 m.kind), .val (.int .u8 m.key.t.c), .val (.int .u64 m.key.t.r), .val (.int .u8 m.key.i), .val (.int .u8 m.k.l.c), .val (.int .u16 m.k.l.f), .val (.int .u32 m.k.l.x), .val (.int .i64 m.k.v), .val (.int .u8 m.k.s), .val (.int .u32 m.k.n), .val (.int .i64 m.amt), .val (.int .i64 m.code)]
def valsL (l : List SV) : List Value := l.map fun v => match v with
  | .val u => u
  | _ => undef
def kidV (k : Kid) : Value := .agg #[.int .u8 k.t.c, .int .u64 k.t.r, .int .u8 k.i]
def tidV (t : Tid) : Value := .agg #[.int .u8 t.c, .int .u64 t.r]
def msL (m : MsV) : List Value := [.int .u8 m.kind, .int .u8 m.key.t.c, .int .u64 m.key.t.r, .int .u8 m.key.i, .int .u8 m.k.l.c, .int .u16 m.k.l.f, .int .u32 m.k.l.x, .int .i64 m.k.v, .int .u8 m.k.s, .int .u32 m.k.n, .int .i64 m.amt, .int .i64 m.code]
def TidOk (t : Tid) : Prop := (0 ≤ t.c ∧ t.c ≤ 255) ∧ 0 ≤ t.r ∧ t.r ≤ 18446744073709551615
def KidOk (k : Kid) : Prop := TidOk k.t ∧ 0 ≤ k.i ∧ k.i ≤ 255
theorem wf_u8 {x : Int} (h : 0 ≤ x ∧ x ≤ 255) : (Lit.int .u8 x).wf = true := by simp [Lit.wf, IntKind.min, IntKind.max, IntKind.signed, IntKind.bits]; omega
theorem wf_u64 {x : Int} (h : 0 ≤ x ∧ x ≤ 18446744073709551615) : (Lit.int .u64 x).wf = true := by simp [Lit.wf, IntKind.min, IntKind.max, IntKind.signed, IntKind.bits]; omega
theorem cellsTick : Tryz.prog.cellsOf 31 = 2 := by kernel_rfl
theorem cellsKey : Tryz.prog.cellsOf 39 = 3 := by kernel_rfl
theorem cellsU8 : Tryz.prog.cellsOf 5 = 1 := by kernel_rfl
theorem cellsU64 : Tryz.prog.cellsOf 29 = 1 := by kernel_rfl
theorem typesTwo : ∃ n, Tryz.prog.types.size = n + 2 := ⟨Tryz.prog.types.size - 2, by have : 2 ≤ Tryz.prog.types.size := of_decide_eq_true (by kernel_rfl); omega⟩
theorem lits_tid {t : Tid} (h : TidOk t) (n : Nat) : Tryz.prog.keyLits (n + 2) 31 [.int .u8 t.c, .int .u64 t.r] = some [.int .u8 t.c, .int .u64 t.r] := by
  rw [tkKeyStruct Tryz.underlying31 _ _ (by rw [cellsTick]; rfl) (by kernel_rfl)]
  simp [cellsU8, cellsU64, tkKeyInt Tryz.underlying5 n (wf_u8 h.1), tkKeyInt Tryz.underlying29 n (wf_u64 h.2)]
theorem keyOf_tid {t : Tid} (h : TidOk t) : ∃ l, keyOf Tryz.prog 31 (tidV t) = some l := by
  have h1 : Tryz.prog.keyType 31 = true := by kernel_rfl
  have h2 : (tidV t).formed Tryz.prog 31 = true := by simp [tidV, Value.formed, Tryz.underlying31, cellsTick]
  obtain ⟨n, hn⟩ := typesTwo
  have h3 := lits_tid h (n + 1)
  refine ⟨.string (keyBytes [.int .u8 t.c, .int .u64 t.r]), ?_⟩
  unfold keyOf
  rw [Tryz.underlying31]
  simp only [h1, h2, Bool.and_true, if_true, tidV, Value.cells, hn]
  rw [show n + 2 + 1 = n + 1 + 2 from rfl, h3]; rfl
theorem keyOf_kid {k : Kid} (h : KidOk k) : ∃ l, keyOf Tryz.prog 39 (kidV k) = some l := by
  have h1 : Tryz.prog.keyType 39 = true := by kernel_rfl
  have h2 : (kidV k).formed Tryz.prog 39 = true := by simp [kidV, Value.formed, Tryz.underlying39, cellsKey]
  obtain ⟨n, hn⟩ := typesTwo
  have h3 : Tryz.prog.keyLits (n + 3) 39 [.int .u8 k.t.c, .int .u64 k.t.r, .int .u8 k.i] = some [.int .u8 k.t.c, .int .u64 k.t.r, .int .u8 k.i] := by
    rw [tkKeyStruct Tryz.underlying39 _ _ (by rw [cellsKey]; rfl) (by kernel_rfl)]
    simp [cellsTick, cellsU8, lits_tid h.1 n, tkKeyInt Tryz.underlying5 (n + 1) (wf_u8 h.2)]
  refine ⟨.string (keyBytes [.int .u8 k.t.c, .int .u64 k.t.r, .int .u8 k.i]), ?_⟩
  unfold keyOf
  rw [Tryz.underlying39]
  simp only [h1, h2, Bool.and_true, if_true, kidV, Value.cells, hn]
  rw [show n + 2 + 1 = n + 3 from rfl, h3]; rfl
def tidK : KeyKind Tryz.prog 31 Tid where
  kv := tidV
  ok := TidOk
  inj := fun {x y} h => by
    obtain ⟨a, b⟩ := x; obtain ⟨c, d⟩ := y
    simp only [tidV, Value.agg.injEq, Array.mk.injEq, List.cons.injEq, Value.int.injEq, true_and, and_true] at h
    rw [h.1, h.2]
  keyed := keyB_ok (by kernel_rfl)
  reads := keyOf_tid
def kidK : KeyKind Tryz.prog 39 Kid where
  kv := kidV
  ok := KidOk
  inj := fun {x y} h => by
    obtain ⟨⟨a, b⟩, e⟩ := x; obtain ⟨⟨c, d⟩, f⟩ := y
    simp only [kidV, Value.agg.injEq, Array.mk.injEq, List.cons.injEq, Value.int.injEq, true_and, and_true] at h
    rw [h.1, h.2.1, h.2.2]
  keyed := keyB_ok (by kernel_rfl)
  reads := keyOf_kid
abbrev OwnsV := List (Kid × OwnV)
abbrev HeldsV := List (Kid × HeldV)
end Go.Proofs.YtdnaegleifhmgaaGreat
end
section
namespace Go.Proofs.YtdnaegleifhmgaaGreat
open Go.RowKit Go.Lib Go.Tk
end Go.Proofs.YtdnaegleifhmgaaGreat
end
section
namespace Go.Proofs.YtdnaegleifhmgaaGreat
open Go.RowKit Go.Lib Go.Tk
theorem sumFrom_nn : ∀ (xs : List Int) (s : Int), mayI s = true → 0 ≤ s → (∀ x ∈ xs, 0 ≤ x) → sumFrom s xs = if mayI (s + xs.sum) then (s + xs.sum, 0) else (0, 7)
  | [], s, hs, _, _ => by simp [sumFrom, hs]
  | x :: r, s, hs, h0, hx => by
    have hx0 := hx x (by simp)
    have hr : ∀ y ∈ r, 0 ≤ y := fun y hy => hx y (by simp [hy])
    have hrs : 0 ≤ r.sum := by
      clear hx
      induction r with
      | nil => simp
      | cons y t ih => have := hr y (by simp); have := ih (fun z hz => hr z (by simp [hz])); simp; omega
    rw [sumFrom]
    have e : s + (x :: r).sum = s + x + r.sum := by simp; omega
    rw [e]
    obtain ⟨s1, s2⟩ := mayI_of hs
    rcases addI_cases s x with ⟨h, _, m2, m3, h1⟩ | ⟨h, h1, hno⟩
    · rw [if_pos h, h1, sumFrom_nn r (s + x) m3 (by omega) hr]
    · rw [if_neg (by rw [h]; decide)]
      have : mayI (s + x + r.sum) = false := by
        rw [← Bool.not_eq_true]; intro hm
        obtain ⟨q1, q2⟩ := mayI_of hm
        have a1 : mayI x = true := by simp [mayI]; omega
        have a2 : mayI (s + x) = true := by simp [mayI]; omega
        rw [hs, a1, a2] at hno; cases hno
      rw [this]; rfl
theorem sum_anyN (a : Option Addr) (n cap : Nat) (xs : List Int) (w : World) (hn : xs.length = n) (hr : Row w a (xs.map (.int .i64))) (hm : xs.length ≤ 9223372036854775807) :
    Calls Tryz.prog 43 #[.slice a n cap] w fun e w' => e = .returned (.tuple #[.int .i64 (sumFrom 0 xs).1, .int .i64 (sumFrom 0 xs).2]) ∧ Below w.heap.size w w' := by
  subst hn; exact sum_any a cap xs w hr hm
end Go.Proofs.YtdnaegleifhmgaaGreat
end
section
namespace Go.Proofs.YtdnaegleifhmgaaGreat
open Go.RowKit Go.Lib Go.Tk
structure SaleV where
  name : ByteArray
  legs : List Leg
  fare : Int
  taxes : List Tax
  pen : Int
deriving DecidableEq, Inhabited
structure SaleA where
  la : Option Addr
  lc : Nat
  ta : Option Addr
  tc : Nat
def LegOk (l : Leg) : Prop := (0 ≤ l.c ∧ l.c ≤ 255) ∧ (0 ≤ l.f ∧ l.f ≤ 65535) ∧ (0 ≤ l.x ∧ l.x ≤ 4294967295)
def TaxOk (t : Tax) : Prop := t.code.size ≤ maxLen ∧ (-9223372036854775808 ≤ t.amt ∧ t.amt ≤ 9223372036854775807)
structure SaleOk (s : SaleV) : Prop where
  name : s.name.size ≤ maxLen
  legs : ∀ l ∈ s.legs, LegOk l
  taxes : ∀ t ∈ s.taxes, TaxOk t
  fare : -9223372036854775808 ≤ s.fare ∧ s.fare ≤ 9223372036854775807
  pen : -9223372036854775808 ≤ s.pen ∧ s.pen ≤ 9223372036854775807
  nl : s.legs.length ≤ 1000
  nt : s.taxes.length ≤ 1000
structure SaleAt (w : World) (s : SaleV) (A : SaleA) : Prop where
  legs : Row w A.la (cellsL encLeg s.legs)
  taxes : Row w A.ta (cellsL encTax s.taxes)
  lnil : A.la = none → A.lc = 0
  tnil : A.ta = none → A.tc = 0
theorem SaleAt.kept {w w' : World} {s : SaleV} {A : SaleA} (h : SaleAt w s A) (hb : Below w.heap.size w w') : SaleAt w' s A := ⟨h.legs.kept hb, h.taxes.kept hb, h.lnil, h.tnil⟩
def saleAgg (s : SaleV) (A : SaleA) : Value := .agg #[.string s.name, .slice A.la s.legs.length A.lc, .int .i64 s.fare, .slice A.ta s.taxes.length A.tc, .int .i64 s.pen]
def priceL (s : SaleV) : List Int := s.fare :: s.taxes.map (·.amt)
theorem i64row3 : (Tryz.prog.info? 2).map (fun i => (i.zero, i.size, i.bytes)) = some (some (.int .i64 0), 1, 8) := by kernel_rfl
theorem price_snoc {s : SaleV} {k : Nat} (h : k < s.taxes.length) : (s.fare :: (s.taxes.take (k + 1)).map (·.amt)) = (s.fare :: (s.taxes.take k).map (·.amt)) ++ [s.taxes[k].amt] := by
  rw [List.take_succ_eq_append_getElem h, List.map_append]; rfl
set_option maxHeartbeats 2000000 in
theorem price_anyN (s : SaleV) (A : SaleA) (w : World) (hs : SaleAt w s A) (hnt : s.taxes.length ≤ 17592186044410) :
    Calls Tryz.prog 90 #[saleAgg s A] w fun e w' => e = .returned (.tuple #[.int .i64 (sumFrom 0 (priceL s)).1, .int .i64 (sumFrom 0 (priceL s)).2]) ∧ Below w.heap.size w w' := by
  have hr := hid hs.taxes
  clear hs
  obtain ⟨la, lc, ta, tc⟩ := A
  unfold saleAgg
  dsimp only at hr ⊢
  have HI := hid i64row3
  go_enter Tryz.func90, Tryz.ntmps90
  go_wp2
  go_loopw [4, 6, 13] (fun s4 _ s13 wr => ∃ (k : Nat) (v : Value), k ≤ s.taxes.length ∧ s13 = .int .i64 k ∧ s4 = v ∧ Aside (wr.ownsRow w.heap.size 2 1 v (k + 1) ((s.fare :: (s.taxes.take k).map (·.amt)).map (.int .i64))) ∧ Aside (Below w.heap.size w wr)) (fun _ _ i _ => s.taxes.length - (RowKit.intOf i).toNat)
  case atStart =>
    refine ⟨0, _, Nat.zero_le _, rfl, rfl, ?_, ((Below.refl _ _).alloc (Nat.le_refl _) _).alloc (by simp) _⟩
    have := World.ownsRow_lit (base := w.heap.size) (e := 2) (size := 1) (w.alloc (.cells #[.string s.name, .slice la s.legs.length lc, .int .i64 s.fare, .slice ta s.taxes.length tc, .int .i64 s.pen] 35)) #[.int .i64 s.fare] 1 (by simp) (by unfold maxLen; omega) rfl
    show World.ownsRow _ _ _ _ _ _ _
    simpa using this
  case round =>
    obtain ⟨k, v, hk, rfl, rfl, O1, B1⟩ := hrel
    by_cases hlt : k < s.taxes.length
    · obtain ⟨b, off, rfl, c1, c2⟩ := tax_at (hr.out.kept B1.out) hlt
      have HSN := hid (price_snoc hlt)
      generalize s.taxes[k] = x at *
      have hm1 : k + 1 + 1 ≤ maxLen := by unfold maxLen; omega
      have hm8 : (k + 1 + 1) * 8 ≤ 140737488355328 := by omega
      have hbs := B1.out.size
      go_wp2_with (at_builtin; refine wpList_append_row_at rfl _ _ 74 rfl w.heap.size 2 (.int .i64 0) 1 8 Tryz.underlying74 HI.out rfl (by decide) _ (k + 1) _ rfl (World.ownsRow.alloc (World.ownsRow.alloc O1.out _) _) _ 1 1 [.int .i64 x.amt] rfl (by simp) (row_new (by simp)) rfl (by simp [Value.oneCell']) hm1 hm8 (by simp; omega) ?_; intro v1 w3 ho1 hg1 hat1)
      have hg1' : ((wr.alloc (.cells #[.string x.code, .int .i64 x.amt] 126)).alloc (.cells #[.int .i64 x.amt] 2)).grownBy w3 u4.ownBlock := hg1
      have B3 : Aside (Below w.heap.size w w3) := ((B1.out.alloc B1.out.size _).alloc (by have := B1.out.size; simp; omega) _).grown hg1' (by have := B1.out.size; simp; omega) (fun g e => (World.ownsRow.lt O1.out g e).1)
      have O3 : Aside (w3.ownsRow w.heap.size 2 1 v1 (k + 1 + 1) ((s.fare :: (s.taxes.take (k + 1)).map (·.amt)).map (.int .i64))) := by
        show World.ownsRow _ _ _ _ _ _ _
        rw [HSN.out, List.map_append]; exact ho1
      clear hg1 hg1' hat1 ho1 O1 B1 c1 c2
      go_roundw
      case measure => simp [RowKit.intOf]; omega
      case rel => exact ⟨k + 1, v1, by omega, by go_num, rfl, O3, B3⟩
    · obtain rfl : k = s.taxes.length := by omega
      obtain ⟨a', cap', hv, hr', -⟩ := row_of_owns (show wr.ownsRow w.heap.size 2 1 u4 (s.taxes.length + 1) _ from O1.out)
      subst hv
      have HR := hid (show Row wr a' ((priceL s).map (.int .i64)) by unfold priceL; rw [List.take_length] at hr'; exact hr')
      clear hr' O1
      go_wp2_with fail
      refine (sum_anyN a' (s.taxes.length + 1) cap' (priceL s) _ (by simp [priceL]) HR.out (by simp [priceL]; omega)).mono ?_
      rintro e w2 ⟨rfl, hb2⟩
      go_wp2
      go_ret2
      exact ⟨rfl, bt B1.out hb2⟩
theorem price_any (s : SaleV) (A : SaleA) (w : World) (hs : SaleAt w s A) (ok : SaleOk s) :
    Calls Tryz.prog 90 #[saleAgg s A] w fun e w' => e = .returned (.tuple #[.int .i64 (sumFrom 0 (priceL s)).1, .int .i64 (sumFrom 0 (priceL s)).2]) ∧ Below w.heap.size w w' :=
  price_anyN s A w hs (by have := ok.nt; omega)
end Go.Proofs.YtdnaegleifhmgaaGreat
end
section
namespace Go.Proofs.YtdnaegleifhmgaaGreat
open Go.RowKit Go.Lib Go.Tk Go.Shelf Go.Vc Go.Sx
structure DocV where
  t : Tid
  s : SaleV
  vals : List Int
  frm : Tid
  dst : Tid
  credit : Int
  paid : Int
  back : Int
  kept : Int
  left : Int
deriving DecidableEq, Inhabited
structure BookV where
  self : Int
  n : Int
  docs : List DocV
  owns : OwnsV
  helds : HeldsV
abbrev CF := Nat → Value → Chunk
def eN (e : Int) : SV := .val (.int .i64 e)
def BookV.setO (B : BookV) (k : Kid) (o : OwnV) : BookV := bif (lkt B.owns k).isSome then { B with owns := putt B.owns k o } else B
theorem setO_some {B : BookV} {k : Kid} {o x : OwnV} (h : lkt B.owns k = some x) : B.setO k o = { B with owns := putt B.owns k o } := by unfold BookV.setO; rw [h]; rfl
theorem setO_none {B : BookV} {k : Kid} {o : OwnV} (h : lkt B.owns k = none) : B.setO k o = B := by unfold BookV.setO; rw [h]; rfl
end Go.Proofs.YtdnaegleifhmgaaGreat
end
