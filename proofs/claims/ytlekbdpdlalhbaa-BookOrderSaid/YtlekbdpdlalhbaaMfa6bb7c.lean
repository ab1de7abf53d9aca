/- Bk0, Tick3, MoneyOrder, Tick4, Bk1. -/
import Derived.Test.YtlekbdpdlalhbaaSxE
import Derived.Test.YtlekbdpdlalhbaaM8a8b41c
import Derived.BigQuiet
import Derived.Deep.QuietTactic
import Derived.BigRegion
import Derived.Deep.DeepCutAuto
section
namespace Go.Proofs.Ytlekbdpdlalhbaa
set_option maxRecDepth 100000
open Go.RowKit Go.Lib Go.Tk Go.Shelf Go.Vc Go.Sx
set_option linter.unusedVariables false
set_option linter.unusedSimpArgs false

structure Tid where
  c : Int
  r : Int
deriving DecidableEq, Inhabited
structure Kid where
  t : Tid
  i : Int
deriving DecidableEq, Inhabited
structure Cpn where
  l : Leg
  v : Int
  s : Int
  n : Int
deriving DecidableEq, Inhabited
structure OwnV where
  k : Cpn
  away : Bool
  dst : Int
  paid : Bool
  asked : Bool
deriving DecidableEq, Inhabited
structure HeldV where
  k : Cpn
  here : Bool
  paid : Bool
  wanted : Bool
  billed : Bool
deriving DecidableEq, Inhabited
structure MsV where
  kind : Int
  key : Kid
  k : Cpn
  amt : Int
  code : Int
deriving DecidableEq, Inhabited
structure OutV where
  dst : Int
  m : MsV
deriving DecidableEq, Inhabited
def tid0 : Tid := ⟨0, 0⟩
def kid0 : Kid := ⟨⟨0, 0⟩, 0⟩
def leg0 : Leg := ⟨0, 0, 0⟩
def own0 : OwnV := ⟨⟨⟨0, 0, 0⟩, 0, 0, 0⟩, false, 0, false, false⟩
def held0 : HeldV := ⟨⟨⟨0, 0, 0⟩, 0, 0, 0⟩, false, false, false, false⟩
def tidS (t : Tid) : List SV := [.val (.int .u8 t.c), .val (.int .u64 t.r)]
def kidS (k : Kid) : List SV := [.val (.int .u8 k.t.c), .val (.int .u64 k.t.r), .val (.int .u8 k.i)]
def legS' (l : Leg) : List SV := [.val (.int .u8 l.c), .val (.int .u16 l.f), .val (.int .u32 l.x)]
def ownS (o : OwnV) : List SV := [.val (.int .u8 o.k.l.c), .val (.int .u16 o.k.l.f), .val (.int .u32 o.k.l.x), .val (.int .i64 o.k.v), .val (.int .u8 o.k.s), .val (.int .u32 o.k.n), .val (.bool o.away), .val (.int .u8 o.dst), .val (.bool o.paid), .val (.bool o.asked)]
def heldS (o : HeldV) : List SV := [.val (.int .u8 o.k.l.c), .val (.int .u16 o.k.l.f), .val (.int .u32 o.k.l.x), .val (.int .i64 o.k.v), .val (.int .u8 o.k.s), .val (.int .u32 o.k.n), .val (.bool o.here), .val (.bool o.paid), .val (.bool o.wanted), .val (.bool o.billed)]
def valsL (l : List SV) : List Value := l.map fun v => match v with
  | .val u => u
  | _ => undef
def kidV (k : Kid) : Value := .agg #[.int .u8 k.t.c, .int .u64 k.t.r, .int .u8 k.i]
def tidV (t : Tid) : Value := .agg #[.int .u8 t.c, .int .u64 t.r]
def ownL (o : OwnV) : List Value := [.int .u8 o.k.l.c, .int .u16 o.k.l.f, .int .u32 o.k.l.x, .int .i64 o.k.v, .int .u8 o.k.s, .int .u32 o.k.n, .bool o.away, .int .u8 o.dst, .bool o.paid, .bool o.asked]
def heldL (o : HeldV) : List Value := [.int .u8 o.k.l.c, .int .u16 o.k.l.f, .int .u32 o.k.l.x, .int .i64 o.k.v, .int .u8 o.k.s, .int .u32 o.k.n, .bool o.here, .bool o.paid, .bool o.wanted, .bool o.billed]
def ownW (o : OwnV) : Value := .agg (ownL o).toArray
def heldW (o : HeldV) : Value := .agg (heldL o).toArray

/-! ### what may be: numbers of their kinds -/
def TidOk (t : Tid) : Prop := (0 ≤ t.c ∧ t.c ≤ 255) ∧ 0 ≤ t.r ∧ t.r ≤ 18446744073709551615
def KidOk (k : Kid) : Prop := TidOk k.t ∧ 0 ≤ k.i ∧ k.i ≤ 255
theorem wf_u8 {x : Int} (h : 0 ≤ x ∧ x ≤ 255) : (Lit.int .u8 x).wf = true := by simp [Lit.wf, IntKind.min, IntKind.max, IntKind.signed, IntKind.bits]; omega
theorem wf_u64 {x : Int} (h : 0 ≤ x ∧ x ≤ 18446744073709551615) : (Lit.int .u64 x).wf = true := by simp [Lit.wf, IntKind.min, IntKind.max, IntKind.signed, IntKind.bits]; omega
theorem cellsTick : Try.prog.cellsOf 35 = 2 := by kernel_rfl
theorem cellsKey : Try.prog.cellsOf 56 = 3 := by kernel_rfl
theorem cellsU8 : Try.prog.cellsOf 5 = 1 := by kernel_rfl
theorem cellsU64 : Try.prog.cellsOf 28 = 1 := by kernel_rfl
theorem typesTwo : ∃ n, Try.prog.types.size = n + 2 := ⟨Try.prog.types.size - 2, by have : 2 ≤ Try.prog.types.size := of_decide_eq_true (by kernel_rfl); omega⟩
theorem lits_tid {t : Tid} (h : TidOk t) (n : Nat) : Try.prog.keyLits (n + 2) 35 [.int .u8 t.c, .int .u64 t.r] = some [.int .u8 t.c, .int .u64 t.r] := by
  rw [tkKeyStruct Try.underlying35 _ _ (by rw [cellsTick]; rfl) (by kernel_rfl)]
  simp [cellsU8, cellsU64, tkKeyInt Try.underlying5 n (wf_u8 h.1), tkKeyInt Try.underlying28 n (wf_u64 h.2)]
theorem keyOf_tid {t : Tid} (h : TidOk t) : ∃ l, keyOf Try.prog 35 (tidV t) = some l := by
  have h1 : Try.prog.keyType 35 = true := by kernel_rfl
  have h2 : (tidV t).formed Try.prog 35 = true := by simp [tidV, Value.formed, Try.underlying35, cellsTick]
  obtain ⟨n, hn⟩ := typesTwo
  have h3 := lits_tid h (n + 1)
  refine ⟨.string (keyBytes [.int .u8 t.c, .int .u64 t.r]), ?_⟩
  unfold keyOf
  rw [Try.underlying35]
  simp only [h1, h2, Bool.and_true, if_true, tidV, Value.cells, hn]
  rw [show n + 2 + 1 = n + 1 + 2 from rfl, h3]; rfl
theorem keyOf_kid {k : Kid} (h : KidOk k) : ∃ l, keyOf Try.prog 56 (kidV k) = some l := by
  have h1 : Try.prog.keyType 56 = true := by kernel_rfl
  have h2 : (kidV k).formed Try.prog 56 = true := by simp [kidV, Value.formed, Try.underlying56, cellsKey]
  obtain ⟨n, hn⟩ := typesTwo
  have h3 : Try.prog.keyLits (n + 3) 56 [.int .u8 k.t.c, .int .u64 k.t.r, .int .u8 k.i] = some [.int .u8 k.t.c, .int .u64 k.t.r, .int .u8 k.i] := by
    rw [tkKeyStruct Try.underlying56 _ _ (by rw [cellsKey]; rfl) (by kernel_rfl)]
    simp [cellsTick, cellsU8, lits_tid h.1 n, tkKeyInt Try.underlying5 (n + 1) (wf_u8 h.2)]
  refine ⟨.string (keyBytes [.int .u8 k.t.c, .int .u64 k.t.r, .int .u8 k.i]), ?_⟩
  unfold keyOf
  rw [Try.underlying56]
  simp only [h1, h2, Bool.and_true, if_true, kidV, Value.cells, hn]
  rw [show n + 2 + 1 = n + 3 from rfl, h3]; rfl
def tidK : KeyKind Try.prog 35 Tid where
  kv := tidV
  ok := TidOk
  inj := fun {x y} h => by
    obtain ⟨a, b⟩ := x; obtain ⟨c, d⟩ := y
    simp only [tidV, Value.agg.injEq, Array.mk.injEq, List.cons.injEq, Value.int.injEq, true_and, and_true] at h
    rw [h.1, h.2]
  keyed := keyB_ok (by kernel_rfl)
  reads := keyOf_tid
def kidK : KeyKind Try.prog 56 Kid where
  kv := kidV
  ok := KidOk
  inj := fun {x y} h => by
    obtain ⟨⟨a, b⟩, e⟩ := x; obtain ⟨⟨c, d⟩, f⟩ := y
    simp only [kidV, Value.agg.injEq, Array.mk.injEq, List.cons.injEq, Value.int.injEq, true_and, and_true] at h
    rw [h.1, h.2.1, h.2.2]
  keyed := keyB_ok (by kernel_rfl)
  reads := keyOf_kid

/-! ### the maps of coupons -/
abbrev OwnsV := List (Kid × OwnV)
abbrev HeldsV := List (Kid × HeldV)
def ownsF (L : OwnsV) : SC := .fam (mapT kidK ownW L)
def heldsF (L : HeldsV) : SC := .fam (mapT kidK heldW L)
def OT : TypeId := 77
def HT : TypeId := 78
theorem zero_own (w : World) : (zeroValue 52).run Try.prog w = .ok (ownW own0) w := still_run (by kernel_rfl) w
theorem zero_held (w : World) : (zeroValue 64).run Try.prog w = .ok (heldW held0) w := still_run (by kernel_rfl) w
theorem look_owns (L : OwnsV) {k : Kid} (hk : KidOk k) : OpG Try.prog (isLk OT true) lkXY [.map 0 0, .agg (kidS k)] [((0, 0), ownsF L)] [] (.tup [.agg (ownS ((lkt L k).getD own0)), .val (.bool (lkt L k).isSome)]) [] :=
  look_map (K := kidK) (encS := fun o => .agg (ownS o)) own0 L k Try.underlying77 zero_own (fun _ _ => rfl) (fun _ => rfl) hk (fun _ => rfl)
theorem look_helds (L : HeldsV) {k : Kid} (hk : KidOk k) : OpG Try.prog (isLk HT true) lkXY [.map 0 0, .agg (kidS k)] [((0, 0), heldsF L)] [] (.tup [.agg (heldS ((lkt L k).getD held0)), .val (.bool (lkt L k).isSome)]) [] :=
  look_map (K := kidK) (encS := fun o => .agg (heldS o)) held0 L k Try.underlying78 zero_held (fun _ _ => rfl) (fun _ => rfl) hk (fun _ => rfl)
theorem upd_owns (L : OwnsV) {k : Kid} (hk : KidOk k) (o : OwnV) {L' : OwnsV} (hp : (putt L k o).Perm L') : OpG Try.prog (isUp OT) upXYZ [.map 0 0, .agg (kidS k), .agg (ownS o)] [] [((0, 0), ownsF L)] (.val undef) [((0, 0), ownsF L')] :=
  upd_map (K := kidK) L L' k o Try.underlying77 hp hk (fun _ => rfl) (fun _ => rfl)
theorem upd_helds (L : HeldsV) {k : Kid} (hk : KidOk k) (o : HeldV) {L' : HeldsV} (hp : (putt L k o).Perm L') : OpG Try.prog (isUp HT) upXYZ [.map 0 0, .agg (kidS k), .agg (heldS o)] [] [((0, 0), heldsF L)] (.val undef) [((0, 0), heldsF L')] :=
  upd_map (K := kidK) L L' k o Try.underlying78 hp hk (fun _ => rfl) (fun _ => rfl)
theorem len_helds (L : HeldsV) : OpG Try.prog (isLenM Try.prog) lenX [.map 0 0] [((0, 0), heldsF L)] [] (.val (.int .i64 (L.length : Int))) [] := len_map L
end Go.Proofs.Ytlekbdpdlalhbaa
end
section
namespace Go.Proofs.Ytlekbdpdlalhbaa
set_option maxRecDepth 100000
open Go.RowKit Go.Lib Go.Tk

theorem list_ne_get {α : Type} {l m : List α} {k : Nat} (h1 : k < l.length) (h2 : k < m.length) (h : l[k] ≠ m[k]) : l ≠ m := by intro e; subst e; exact h rfl

set_option maxHeartbeats 1000000 in
theorem eqLeg_any (l m : List Leg) (a b : Option Addr) (n n' ca cb : Nat) (w : World) (hn : l.length = n) (hn' : m.length = n') (hx : Row w a (cellsL encLeg l)) (hy : Row w b (cellsL encLeg m)) (hl : n ≤ 9223372036854775807) (hl' : n' ≤ 9223372036854775807) :
    Calls Try.prog 32 #[.slice a n ca, .slice b n' cb] w fun e w' => e = .returned (.bool (decide (l = m))) ∧ Below w.heap.size w w' := by
  subst hn
  have HX := hid hx
  have HY := hid hy
  clear hx hy
  by_cases hne : l.length = n'
  · subst hne
    have HM := hid hn'
    clear hn'
    go_enter Try.func32, Try.ntmps32
    go_wp2
    go_loopw [13] (fun s5 wr => ∃ k : Nat, k ≤ l.length ∧ s5 = .int .i64 k ∧ Aside (∀ j (h1 : j < l.length) (h2 : j < m.length), j < k → l[j] = m[j]) ∧ Aside (Below w.heap.size w wr)) (fun i _ => l.length - (RowKit.intOf i).toNat)
    case atStart => exact ⟨0, Nat.zero_le _, rfl, fun j _ _ hj => absurd hj (Nat.not_lt_zero _), Below.refl _ _⟩
    case round =>
      obtain ⟨k, hk, rfl, hj, B⟩ := hrel
      by_cases hlt : k < l.length
      · have hlt2 : k < m.length := by rw [HM.out]; exact hlt
        obtain ⟨bx, ox, rfl, c1, c2, c3⟩ := leg_at (HX.out.kept B.out) hlt
        obtain ⟨by', oy, rfl, d1, d2, d3⟩ := leg_at (HY.out.kept B.out) hlt2
        by_cases he : l[k] = m[k]
        · have hj2 : Aside (∀ j (h1 : j < l.length) (h2 : j < m.length), j < k + 1 → l[j] = m[j]) := fun j h1 h2 hj' => by
            rcases Nat.lt_or_eq_of_le (Nat.lt_succ_iff.1 hj') with h | h
            · exact hj.out j h1 h2 h
            · subst h; exact he
          rw [← he] at d1 d2 d3
          generalize l[k] = x at *
          clear he hj hlt2
          go_wp2_with fail
          go_quiet (fail)
          go_wp2
          go_roundw
          case measure => simp [RowKit.intOf]; omega
          case rel => exact ⟨k + 1, by omega, by go_num, hj2, bt B.out (drewN_below _ _)⟩
        · have hF := hid (list_ne_get hlt hlt2 he)
          generalize l[k] = x at *
          generalize m[k] = y at *
          obtain ⟨xc, xf, xx⟩ := x
          obtain ⟨yc, yf, yx⟩ := y
          dsimp only at *
          have h3 : (xc ≠ yc) ∨ (xc = yc ∧ xf ≠ yf) ∨ (xc = yc ∧ xf = yf ∧ xx ≠ yx) := by
            by_cases h1 : xc = yc
            · by_cases h2 : xf = yf
              · by_cases h3 : xx = yx
                · subst h1 h2 h3; exact absurd rfl he
                · exact .inr (.inr ⟨h1, h2, h3⟩)
              · exact .inr (.inl ⟨h1, h2⟩)
            · exact .inl h1
          clear he hj
          rcases h3 with h | ⟨rfl, h⟩ | ⟨rfl, rfl, h⟩
          all_goals
            have q1 := beq_eq_false_iff_ne.2 h
            clear h
            go_wp2_with fail
            go_quiet (fail)
            go_wp2
            go_ret
            exact ⟨ret_bool (by rw [decide_eq_false hF.out]), bt B.out (drewN_below _ _)⟩
      · obtain rfl : k = l.length := by omega
        go_wp2
        go_ret
        exact ⟨ret_bool (by rw [decide_eq_true (List.ext_getElem HM.out.symm fun i h1 h2 => hj.out i h1 h2 h1)]), B.out⟩
  · have hF := hid (show l ≠ m by intro e; subst e; exact hne hn')
    have hq : ((l.length : Int) != (n' : Int)) = true := by rw [bne_iff_ne]; omega
    have HN := hid hne
    clear hn' hne
    go_enter Try.func32, Try.ntmps32
    go_wp2
    go_ret
    exact ⟨ret_bool (by rw [decide_eq_false hF.out]), Below.refl _ _⟩
set_option maxHeartbeats 1000000 in
theorem eqTax_any (l m : List Tax) (a b : Option Addr) (n n' ca cb : Nat) (w : World) (hn : l.length = n) (hn' : m.length = n') (hx : Row w a (cellsL encTax l)) (hy : Row w b (cellsL encTax m)) (hl : n ≤ 9223372036854775807) (hl' : n' ≤ 9223372036854775807) :
    Calls Try.prog 33 #[.slice a n ca, .slice b n' cb] w fun e w' => e = .returned (.bool (decide (l = m))) ∧ Below w.heap.size w w' := by
  subst hn
  have HX := hid hx
  have HY := hid hy
  clear hx hy
  by_cases hne : l.length = n'
  · subst hne
    have HM := hid hn'
    clear hn'
    go_enter Try.func33, Try.ntmps33
    go_wp2
    go_loopw [13] (fun s5 wr => ∃ k : Nat, k ≤ l.length ∧ s5 = .int .i64 k ∧ Aside (∀ j (h1 : j < l.length) (h2 : j < m.length), j < k → l[j] = m[j]) ∧ Aside (Below w.heap.size w wr)) (fun i _ => l.length - (RowKit.intOf i).toNat)
    case atStart => exact ⟨0, Nat.zero_le _, rfl, fun j _ _ hj => absurd hj (Nat.not_lt_zero _), Below.refl _ _⟩
    case round =>
      obtain ⟨k, hk, rfl, hj, B⟩ := hrel
      by_cases hlt : k < l.length
      · have hlt2 : k < m.length := by rw [HM.out]; exact hlt
        obtain ⟨bx, ox, rfl, c1, c2⟩ := tax_at (HX.out.kept B.out) hlt
        obtain ⟨by', oy, rfl, d1, d2⟩ := tax_at (HY.out.kept B.out) hlt2
        by_cases he : l[k] = m[k]
        · have hj2 : Aside (∀ j (h1 : j < l.length) (h2 : j < m.length), j < k + 1 → l[j] = m[j]) := fun j h1 h2 hj' => by
            rcases Nat.lt_or_eq_of_le (Nat.lt_succ_iff.1 hj') with h | h
            · exact hj.out j h1 h2 h
            · subst h; exact he
          rw [← he] at d1 d2
          generalize l[k] = x at *
          clear he hj hlt2
          have q2 := ba_eq x.code
          go_wp2_with fail
          go_quiet (fail)
          go_wp2
          go_roundw
          case measure => simp [RowKit.intOf]; omega
          case rel => exact ⟨k + 1, by omega, by go_num, hj2, bt B.out (drewN_below _ _)⟩
        · have hF := hid (list_ne_get hlt hlt2 he)
          generalize l[k] = x at *
          generalize m[k] = y at *
          obtain ⟨xc, xf⟩ := x
          obtain ⟨yc, yf⟩ := y
          dsimp only at *
          have h3 : (xc ≠ yc) ∨ (xc = yc ∧ xf ≠ yf) := by
            by_cases h1 : xc = yc
            · by_cases h2 : xf = yf
              · subst h1 h2; exact absurd rfl he
              · exact .inr ⟨h1, h2⟩
            · exact .inl h1
          clear he hj
          rcases h3 with h | ⟨rfl, h⟩
          · have q1 := ba_toList_ne h
            clear h
            go_wp2_with fail
            go_quiet (fail)
            go_wp2
            go_ret
            exact ⟨ret_bool (by rw [decide_eq_false hF.out]), bt B.out (drewN_below _ _)⟩
          · have q1 := beq_eq_false_iff_ne.2 h
            have q2 := ba_eq xc
            clear h
            go_wp2_with fail
            go_quiet (fail)
            go_wp2
            go_ret
            exact ⟨ret_bool (by rw [decide_eq_false hF.out]), bt B.out (drewN_below _ _)⟩
      · obtain rfl : k = l.length := by omega
        go_wp2
        go_ret
        exact ⟨ret_bool (by rw [decide_eq_true (List.ext_getElem HM.out.symm fun i h1 h2 => hj.out i h1 h2 h1)]), B.out⟩
  · have hF := hid (show l ≠ m by intro e; subst e; exact hne hn')
    have hq : ((l.length : Int) != (n' : Int)) = true := by rw [bne_iff_ne]; omega
    have HN := hid hne
    clear hn' hne
    go_enter Try.func33, Try.ntmps33
    go_wp2
    go_ret
    exact ⟨ret_bool (by rw [decide_eq_false hF.out]), Below.refl _ _⟩

end Go.Proofs.Ytlekbdpdlalhbaa
end
section
namespace Go.Proofs.Ytlekbdpdlalhbaa
set_option maxRecDepth 100000
open Go.RowKit Go.Lib Go.Tk

theorem sum_anyN (a : Option Addr) (n cap : Nat) (xs : List Int) (w : World) (hn : xs.length = n) (hr : Row w a (xs.map (.int .i64))) (hm : xs.length ≤ 9223372036854775807) :
    Calls Try.prog 77 #[.slice a n cap] w fun e w' => e = .returned (.tuple #[.int .i64 (sumFrom 0 xs).1, .int .i64 (sumFrom 0 xs).2]) ∧ Below w.heap.size w w' := by
  subst hn; exact sum_any a cap xs w hr hm

end Go.Proofs.Ytlekbdpdlalhbaa
end
section
namespace Go.Proofs.Ytlekbdpdlalhbaa
set_option maxRecDepth 100000
open Go.RowKit Go.Lib Go.Tk

structure SaleV where
  name : ByteArray
  legs : List Leg
  fare : Int
  taxes : List Tax
  pen : Int
deriving DecidableEq, Inhabited
/-- where its lists lie -/
structure SaleA where
  la : Option Addr
  lc : Nat
  ta : Option Addr
  tc : Nat
def LegOk (l : Leg) : Prop := (0 ≤ l.c ∧ l.c ≤ 255) ∧ (0 ≤ l.f ∧ l.f ≤ 65535) ∧ (0 ≤ l.x ∧ l.x ≤ 4294967295)
def TaxOk (t : Tax) : Prop := t.code.size ≤ maxLen ∧ (-9223372036854775808 ≤ t.amt ∧ t.amt ≤ 9223372036854775807)
structure SaleOk (s : SaleV) : Prop where
  name : s.name.size ≤ maxLen
  legs : ∀ l ∈ s.legs, LegOk l
  taxes : ∀ t ∈ s.taxes, TaxOk t
  fare : -9223372036854775808 ≤ s.fare ∧ s.fare ≤ 9223372036854775807
  pen : -9223372036854775808 ≤ s.pen ∧ s.pen ≤ 9223372036854775807
  nl : s.legs.length ≤ 1000
  nt : s.taxes.length ≤ 1000
structure SaleAt (w : World) (s : SaleV) (A : SaleA) : Prop where
  legs : Row w A.la (cellsL encLeg s.legs)
  taxes : Row w A.ta (cellsL encTax s.taxes)
  lnil : A.la = none → A.lc = 0
  tnil : A.ta = none → A.tc = 0
theorem SaleAt.kept {w w' : World} {s : SaleV} {A : SaleA} (h : SaleAt w s A) (hb : Below w.heap.size w w') : SaleAt w' s A := ⟨h.legs.kept hb, h.taxes.kept hb, h.lnil, h.tnil⟩
/-- a sale as a value -/
def saleAgg (s : SaleV) (A : SaleA) : Value := .agg #[.string s.name, .slice A.la s.legs.length A.lc, .int .i64 s.fare, .slice A.ta s.taxes.length A.tc, .int .i64 s.pen]
def priceL (s : SaleV) : List Int := s.fare :: s.taxes.map (·.amt)

theorem i64row3 : (Try.prog.info? 2).map (fun i => (i.zero, i.size, i.bytes)) = some (some (.int .i64 0), 1, 8) := by kernel_rfl

theorem price_snoc {s : SaleV} {k : Nat} (h : k < s.taxes.length) : (s.fare :: (s.taxes.take (k + 1)).map (·.amt)) = (s.fare :: (s.taxes.take k).map (·.amt)) ++ [s.taxes[k].amt] := by
  rw [List.take_succ_eq_append_getElem h, List.map_append]; rfl

set_option maxHeartbeats 2000000 in
theorem price_anyN (s : SaleV) (A : SaleA) (w : World) (hs : SaleAt w s A) (hnt : s.taxes.length ≤ 17592186044410) :
    Calls Try.prog 59 #[saleAgg s A] w fun e w' => e = .returned (.tuple #[.int .i64 (sumFrom 0 (priceL s)).1, .int .i64 (sumFrom 0 (priceL s)).2]) ∧ Below w.heap.size w w' := by
  have hr := hid hs.taxes
  clear hs
  obtain ⟨la, lc, ta, tc⟩ := A
  unfold saleAgg
  dsimp only at hr ⊢
  have HI := hid i64row3
  go_enter Try.func59, Try.ntmps59
  go_wp2
  go_loopw [4, 6, 13] (fun s4 _ s13 wr => ∃ (k : Nat) (v : Value), k ≤ s.taxes.length ∧ s13 = .int .i64 k ∧ s4 = v ∧ Aside (wr.ownsRow w.heap.size 2 1 v (k + 1) ((s.fare :: (s.taxes.take k).map (·.amt)).map (.int .i64))) ∧ Aside (Below w.heap.size w wr)) (fun _ _ i _ => s.taxes.length - (RowKit.intOf i).toNat)
  case atStart =>
    refine ⟨0, _, Nat.zero_le _, rfl, rfl, ?_, ((Below.refl _ _).alloc (Nat.le_refl _) _).alloc (by simp) _⟩
    have := World.ownsRow_lit (base := w.heap.size) (e := 2) (size := 1) (w.alloc (.cells #[.string s.name, .slice la s.legs.length lc, .int .i64 s.fare, .slice ta s.taxes.length tc, .int .i64 s.pen] 32)) #[.int .i64 s.fare] 1 (by simp) (by unfold maxLen; omega) rfl
    show World.ownsRow _ _ _ _ _ _ _
    simpa using this
  case round =>
    obtain ⟨k, v, hk, rfl, rfl, O1, B1⟩ := hrel
    by_cases hlt : k < s.taxes.length
    · obtain ⟨b, off, rfl, c1, c2⟩ := tax_at (hr.out.kept B1.out) hlt
      have HSN := hid (price_snoc hlt)
      generalize s.taxes[k] = x at *
      have hm1 : k + 1 + 1 ≤ maxLen := by unfold maxLen; omega
      have hm8 : (k + 1 + 1) * 8 ≤ 140737488355328 := by omega
      have hbs := B1.out.size
      go_wp2_with (at_builtin; refine wpList_append_row_at rfl _ _ 36 rfl w.heap.size 2 (.int .i64 0) 1 8 Try.underlying36 HI.out rfl (by decide) _ (k + 1) _ rfl (World.ownsRow.alloc (World.ownsRow.alloc O1.out _) _) _ 1 1 [.int .i64 x.amt] rfl (by simp) (row_new (by simp)) rfl (by simp [Value.oneCell']) hm1 hm8 (by simp; omega) ?_; intro v1 w3 ho1 hg1 hat1)
      have hg1' : ((wr.alloc (.cells #[.string x.code, .int .i64 x.amt] 88)).alloc (.cells #[.int .i64 x.amt] 2)).grownBy w3 u4.ownBlock := hg1
      have B3 : Aside (Below w.heap.size w w3) := ((B1.out.alloc B1.out.size _).alloc (by have := B1.out.size; simp; omega) _).grown hg1' (by have := B1.out.size; simp; omega) (fun g e => (World.ownsRow.lt O1.out g e).1)
      have O3 : Aside (w3.ownsRow w.heap.size 2 1 v1 (k + 1 + 1) ((s.fare :: (s.taxes.take (k + 1)).map (·.amt)).map (.int .i64))) := by
        show World.ownsRow _ _ _ _ _ _ _
        rw [HSN.out, List.map_append]; exact ho1
      clear hg1 hg1' hat1 ho1 O1 B1 c1 c2
      go_roundw
      case measure => simp [RowKit.intOf]; omega
      case rel => exact ⟨k + 1, v1, by omega, by go_num, rfl, O3, B3⟩
    · obtain rfl : k = s.taxes.length := by omega
      obtain ⟨a', cap', hv, hr', -⟩ := row_of_owns (show wr.ownsRow w.heap.size 2 1 u4 (s.taxes.length + 1) _ from O1.out)
      subst hv
      have HR := hid (show Row wr a' ((priceL s).map (.int .i64)) by unfold priceL; rw [List.take_length] at hr'; exact hr')
      clear hr' O1
      go_wp2_with fail
      refine (sum_anyN a' (s.taxes.length + 1) cap' (priceL s) _ (by simp [priceL]) HR.out (by simp [priceL]; omega)).mono ?_
      rintro e w2 ⟨rfl, hb2⟩
      go_wp2
      go_ret2
      exact ⟨rfl, bt B1.out hb2⟩
theorem price_any (s : SaleV) (A : SaleA) (w : World) (hs : SaleAt w s A) (ok : SaleOk s) :
    Calls Try.prog 59 #[saleAgg s A] w fun e w' => e = .returned (.tuple #[.int .i64 (sumFrom 0 (priceL s)).1, .int .i64 (sumFrom 0 (priceL s)).2]) ∧ Below w.heap.size w w' :=
  price_anyN s A w hs (by have := ok.nt; omega)
end Go.Proofs.Ytlekbdpdlalhbaa
end
section
namespace Go.Proofs.Ytlekbdpdlalhbaa
set_option maxRecDepth 100000
open Go.RowKit Go.Lib Go.Tk Go.Shelf Go.Vc Go.Sx
set_option linter.unusedVariables false
set_option linter.unusedSimpArgs false

structure DocV where
  t : Tid
  s : SaleV
  vals : List Int
  frm : Tid
  dst : Tid
  credit : Int
  paid : Int
  back : Int
  kept : Int
  left : Int
deriving DecidableEq, Inhabited
structure BookV where
  self : Int
  n : Int
  docs : List DocV
  owns : OwnsV
  helds : HeldsV
abbrev CF := Nat → Value → Chunk
def bkH (F : CF) (B : BookV) : Heap := [((0, 0), .box none [.val (.int .u8 B.self), .val (.int .i64 B.n), .map 0 1, .map 0 2, .map 0 3]), ((0, 1), .fam F), ((0, 2), ownsF B.owns), ((0, 3), heldsF B.helds)]
def eN (e : Int) : SV := .val (.int .i64 e)
/-- no such thing: 4 -/
def noneE (b : Bool) : Int := bif b then 0 else 4
def BownsF : Nat := 35
def FoundO : Nat := 34
def OwnF : Nat := 12
theorem bowns_w (F : CF) (B : BookV) : CallOK Try.prog BownsF [.ptr 0 0 0] (bkH F B) [] (.map 0 2) [] := callOK_run 400 [] (by kernel_rfl) (by kernel_rfl)
theorem foundO_w (F : CF) (B : BookV) {k : Kid} (hk : KidOk k) : CallOK Try.prog FoundO [.ptr 0 0 0, .fn (.func BownsF) [] [], .agg (kidS k)] (bkH F B) [] (.tup [.agg (ownS ((lkt B.owns k).getD own0)), eN (noneE (lkt B.owns k).isSome)]) [] := by
  have c1 := bowns_w F B
  have c2 := look_owns B.owns hk
  cases hb : lkt B.owns k with
  | none =>
    rw [hb] at c2
    exact callOK_run 400 [hC 4 2 c1, hG 4 4 c2] (by kernel_rfl) (by kernel_rfl)
  | some o =>
    rw [hb] at c2
    exact callOK_run 400 [hC 4 2 c1, hG 4 4 c2] (by kernel_rfl) (by kernel_rfl)
theorem own_w (F : CF) (B : BookV) {k : Kid} (hk : KidOk k) : CallOK Try.prog OwnF [.ptr 0 0 0, .agg (kidS k)] (bkH F B) [] (.tup [.agg (ownS ((lkt B.owns k).getD own0)), eN (noneE (lkt B.owns k).isSome)]) [] := by
  have c1 := foundO_w F B hk
  exact callOK_run 400 [hC 1 2 c1] (by kernel_rfl) (by kernel_rfl)
/-- a coupon set, if there is one -/
def BookV.setO (B : BookV) (k : Kid) (o : OwnV) : BookV := bif (lkt B.owns k).isSome then { B with owns := putt B.owns k o } else B
theorem setO_some {B : BookV} {k : Kid} {o x : OwnV} (h : lkt B.owns k = some x) : B.setO k o = { B with owns := putt B.owns k o } := by unfold BookV.setO; rw [h]; rfl
theorem setO_none {B : BookV} {k : Kid} {o : OwnV} (h : lkt B.owns k = none) : B.setO k o = B := by unfold BookV.setO; rw [h]; rfl
def SetOwnF : Nat := 16
theorem setOwn_w (F : CF) (B : BookV) {k : Kid} (hk : KidOk k) (o : OwnV) : CallOK Try.prog SetOwnF [.ptr 0 0 0, .agg (kidS k), .agg (ownS o)] [] (bkH F B) (eN (noneE (lkt B.owns k).isSome)) (bkH F (B.setO k o)) := by
  have c1 := foundO_w F B hk
  have c2 := upd_owns B.owns hk o (List.Perm.refl _)
  cases hb : lkt B.owns k with
  | none =>
    rw [setO_none hb]
    rw [hb] at c1
    exact callOK_run 400 [hC 1 2 c1] (by kernel_rfl) (by kernel_rfl)
  | some x =>
    rw [setO_some hb]
    rw [hb] at c1
    exact callOK_run 400 [hC 1 2 c1, hG 4 6 c2] (by kernel_rfl) (by kernel_rfl)
/-- what of a key may not be: another one's coupon -/
def BookV.badK (B : BookV) (k : Kid) : Bool := decide (k.t.c = B.self) || (decide (B.n ≤ k.t.c) || (decide (k.t.r < 1) || (decide (9999999999 < k.t.r) || decide (4 ≤ k.i))))
def BookV.setHE (B : BookV) (k : Kid) : Int := bif B.badK k then 1 else bif !(lkt B.helds k).isSome && decide (64 ≤ B.helds.length) then 3 else 0
def BookV.setH (B : BookV) (k : Kid) (h : HeldV) : BookV := bif decide (B.setHE k = 0) then { B with helds := putt B.helds k h } else B
def SetHeldF : Nat := 17
theorem setHeld_w (F : CF) (B : BookV) {k : Kid} (hk : KidOk k) (h : HeldV) : CallOK Try.prog SetHeldF [.ptr 0 0 0, .agg (kidS k), .agg (heldS h)] [] (bkH F B) (eN (B.setHE k)) (bkH F (B.setH k h)) := by
  have c2 := look_helds B.helds hk
  have c3 := upd_helds B.helds hk h (List.Perm.refl _)
  have c4 := len_helds B.helds
  have w1 : IntKind.i64.wrap k.t.c = k.t.c := wr_i64 (by have := hk.1.1; omega)
  have no : B.badK k = true → B.setHE k = 1 := fun e => by unfold BookV.setHE; rw [e]; rfl
  have no2 : B.setHE k ≠ 0 → B.setH k h = B := fun e => by unfold BookV.setH; rw [decide_eq_false e]; rfl
  have ok2 : B.setHE k = 0 → B.setH k h = { B with helds := putt B.helds k h } := fun e => by unfold BookV.setH; rw [decide_eq_true e]; rfl
  rcases Bool.eq_false_or_eq_true (decide (k.t.c = B.self)) with h1 | h1
  · have e := no (by unfold BookV.badK; rw [h1]; rfl)
    rw [no2 (by rw [e]; decide), e]
    exact callOK_run 400 [hB 4 6 _ _ h1] (by kernel_rfl) (by kernel_rfl)
  rcases Bool.eq_false_or_eq_true (decide (B.n ≤ k.t.c)) with h2 | h2
  · have e := no (by unfold BookV.badK; rw [h1, h2]; rfl)
    rw [no2 (by rw [e]; decide), e]
    exact callOK_run 400 [hB 4 6 _ _ h1, hI 4 10 IntKind.i64 _ _ w1, hB 4 15 _ _ h2] (by kernel_rfl) (by kernel_rfl)
  rcases Bool.eq_false_or_eq_true (decide (k.t.r < 1)) with h3 | h3
  · have e := no (by unfold BookV.badK; rw [h1, h2, h3]; rfl)
    rw [no2 (by rw [e]; decide), e]
    exact callOK_run 400 [hB 4 6 _ _ h1, hI 4 10 IntKind.i64 _ _ w1, hB 4 15 _ _ h2, hB 4 20 _ _ h3] (by kernel_rfl) (by kernel_rfl)
  rcases Bool.eq_false_or_eq_true (decide (9999999999 < k.t.r)) with h4 | h4
  · have e := no (by unfold BookV.badK; rw [h1, h2, h3, h4]; rfl)
    rw [no2 (by rw [e]; decide), e]
    exact callOK_run 400 [hB 4 6 _ _ h1, hI 4 10 IntKind.i64 _ _ w1, hB 4 15 _ _ h2, hB 4 20 _ _ h3, hB 4 25 _ _ h4] (by kernel_rfl) (by kernel_rfl)
  rcases Bool.eq_false_or_eq_true (decide (4 ≤ k.i)) with h5 | h5
  · have e := no (by unfold BookV.badK; rw [h1, h2, h3, h4, h5]; rfl)
    rw [no2 (by rw [e]; decide), e]
    exact callOK_run 400 [hB 4 6 _ _ h1, hI 4 10 IntKind.i64 _ _ w1, hB 4 15 _ _ h2, hB 4 20 _ _ h3, hB 4 25 _ _ h4, hB 4 30 _ _ h5] (by kernel_rfl) (by kernel_rfl)
  have hb : B.badK k = false := by unfold BookV.badK; rw [h1, h2, h3, h4, h5]; rfl
  cases hl : lkt B.helds k with
  | some x =>
    have e : B.setHE k = 0 := by unfold BookV.setHE; rw [hb, hl]; rfl
    rw [ok2 e, e]
    rw [hl] at c2
    exact callOK_run 400 [hB 4 6 _ _ h1, hI 4 10 IntKind.i64 _ _ w1, hB 4 15 _ _ h2, hB 4 20 _ _ h3, hB 4 25 _ _ h4, hB 4 30 _ _ h5, hG 6 5 c2, hG 9 6 c3] (by kernel_rfl) (by kernel_rfl)
  | none =>
    rw [hl] at c2
    rcases Bool.eq_false_or_eq_true (decide (64 ≤ B.helds.length)) with h6 | h6
    · have e : B.setHE k = 3 := by unfold BookV.setHE; rw [hb, hl, h6]; rfl
      have h6' : decide ((64 : Int) ≤ (B.helds.length : Int)) = true := by simp only [decide_eq_true_eq] at h6 ⊢; omega
      rw [no2 (by rw [e]; decide), e]
      exact callOK_run 400 [hB 4 6 _ _ h1, hI 4 10 IntKind.i64 _ _ w1, hB 4 15 _ _ h2, hB 4 20 _ _ h3, hB 4 25 _ _ h4, hB 4 30 _ _ h5, hG 6 5 c2, hG 7 7 c4, hB 7 8 _ _ h6'] (by kernel_rfl) (by kernel_rfl)
    · have e : B.setHE k = 0 := by unfold BookV.setHE; rw [hb, hl, h6]; rfl
      have h6' : decide ((64 : Int) ≤ (B.helds.length : Int)) = false := by simp only [decide_eq_false_iff_not] at h6 ⊢; omega
      rw [ok2 e, e]
      exact callOK_run 400 [hB 4 6 _ _ h1, hI 4 10 IntKind.i64 _ _ w1, hB 4 15 _ _ h2, hB 4 20 _ _ h3, hB 4 25 _ _ h4, hB 4 30 _ _ h5, hG 6 5 c2, hG 7 7 c4, hB 7 8 _ _ h6', hG 9 6 c3] (by kernel_rfl) (by kernel_rfl)
end Go.Proofs.Ytlekbdpdlalhbaa
end
