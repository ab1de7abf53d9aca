/- Tick2, Bk0, Tick3, MoneyOrder, Tick4. -/
import Derived.Test.YtnkghdakjdhhdaaGreatM3c481e6
import Derived.Test.YtnkghdakjdhhdaaGreatM64f4c37
import Derived.BigRegion
import Derived.Test.YtnkghdakjdhhdaaGreatSxE
import Derived.BigQuiet
import Derived.Deep.QuietTactic
import Derived.Deep.DeepCutAuto
set_option maxRecDepth 100000
set_option linter.unusedVariables false
set_option linter.unusedSimpArgs false
set_option linter.unusedSectionVars false
section
namespace Go.Proofs.YtnkghdakjdhhdaaGreat
open Go.RowKit Go.Lib Go.Tk
structure Leg where
  c : Int
  f : Int
  x : Int
deriving DecidableEq, Inhabited
structure Tax where
  code : ByteArray
  amt : Int
deriving DecidableEq, Inhabited
def encLeg (l : Leg) : List Value := [.int .u8 l.c, .int .u16 l.f, .int .u32 l.x]
def encTax (t : Tax) : List Value := [.string t.code, .int .i64 t.amt]
theorem encLeg_len (l : Leg) : (encLeg l).length = 3 := rfl
theorem encTax_len (t : Tax) : (encTax t).length = 2 := rfl
theorem encLeg_one (l : Leg) : ∀ v ∈ encLeg l, v.oneCell' = true := by simp [encLeg, Value.oneCell']
theorem encTax_one (t : Tax) : ∀ v ∈ encTax t, v.oneCell' = true := by simp [encTax, Value.oneCell']
theorem leg_at {w : World} {a : Option Addr} {l : List Leg} (h : Row w a (cellsL encLeg l)) {k : Nat} (hk : k < l.length) :
    ∃ b off, a = some ⟨b, off, none⟩ ∧ w.cell? ⟨b, off + k * 3, none⟩ = some (.int .u8 l[k].c) ∧ w.cell? ⟨b, off + k * 3 + 1, none⟩ = some (.int .u16 l[k].f) ∧ w.cell? ⟨b, off + k * 3 + 2, none⟩ = some (.int .u32 l[k].x) := by
  obtain ⟨b, off, hab, hc⟩ := h.thing encLeg_len hk (by decide)
  exact ⟨b, off, hab, hc 0 (by decide), hc 1 (by decide), hc 2 (by decide)⟩
theorem tax_at {w : World} {a : Option Addr} {l : List Tax} (h : Row w a (cellsL encTax l)) {k : Nat} (hk : k < l.length) :
    ∃ b off, a = some ⟨b, off, none⟩ ∧ w.cell? ⟨b, off + k * 2, none⟩ = some (.string l[k].code) ∧ w.cell? ⟨b, off + k * 2 + 1, none⟩ = some (.int .i64 l[k].amt) := by
  obtain ⟨b, off, hab, hc⟩ := h.thing encTax_len hk (by decide)
  exact ⟨b, off, hab, hc 0 (by decide), hc 1 (by decide)⟩
theorem any_take_succ {α : Type} {p : α → Bool} {l : List α} {k : Nat} (h : k < l.length) : (l.take (k + 1)).any p = ((l.take k).any p || p l[k]) := by
  rw [List.take_succ_eq_append_getElem h, List.any_append]; simp
theorem any_at {α : Type} {p : α → Bool} {l : List α} {k : Nat} (h : k < l.length) (hp : p l[k] = true) : l.any p = true := List.any_eq_true.2 ⟨_, List.getElem_mem h, hp⟩
def IdxIs (b : Bool) (w : World) (e : Ending) (w' : World) : Prop := ∃ r : Int, e = .returned (.int .i64 r) ∧ decide (r ≥ 0) = b ∧ Below w.heap.size w w'
def legBad (n : Int) (l : Leg) : Bool := decide (l.c ≥ n) || (l.x == 0)
set_option maxHeartbeats 400000 in
theorem legBad_any (n : Int) (l : Leg) (nb : Nat) (w : World) (hc : w.cell? ⟨nb, 0, none⟩ = some (.int .i64 n)) (h0 : 0 ≤ l.c) (h1 : l.c ≤ 255) :
    Calls Tryz.prog 151 #[.agg #[.int .u8 l.c, .int .u16 l.f, .int .u32 l.x], .pointer (some ⟨nb, 0, none⟩)] w fun e w' => e = .returned (.bool (legBad n l)) ∧ Below w.heap.size w w' := by
  obtain ⟨c, f, x⟩ := l
  dsimp only at h0 h1 ⊢
  have hlt : nb < w.heap.size := lt_of_cell hc
  by_cases hcn : c ≥ n
  · have F := hid (show legBad n ⟨c, f, x⟩ = true by simp [legBad, hcn])
    have d1 : decide (c ≥ n) = true := decide_eq_true hcn
    go_enter Tryz.func151, Tryz.ntmps151
    go_wp2
    go_ret
    exact ⟨ret_bool F.out.symm, (Below.refl _ _).alloc (Nat.le_refl _) _⟩
  · have F := hid (show legBad n ⟨c, f, x⟩ = (x == 0) by simp [legBad, hcn])
    have d1 : decide (c ≥ n) = false := decide_eq_false hcn
    go_enter Tryz.func151, Tryz.ntmps151
    go_wp2
    go_ret
    exact ⟨ret_bool F.out.symm, (Below.refl _ _).alloc (Nat.le_refl _) _⟩
def taxBad (t : Tax) : Bool := decide (t.code.size ≠ 2) || !lettersB [] t.code.data.toList || !amtB t.amt
set_option maxHeartbeats 1000000 in
theorem taxBad_any (t : Tax) (w : World) (hs : t.code.size ≤ maxLen) :
    Calls Tryz.prog 154 #[.agg #[.string t.code, .int .i64 t.amt]] w fun e w' => e = .returned (.bool (taxBad t)) ∧ Below w.heap.size w w' := by
  obtain ⟨code, amt⟩ := t
  dsimp only at hs ⊢
  have hs' := hs
  unfold maxLen at hs'
  by_cases h2 : code.size = 2
  · have d1 : ((code.size : Int) != 2) = false := by simp; omega
    have H2 := hid h2
    clear h2
    cases hl : lettersB [] code.data.toList with
    | false =>
      have F := hid (show taxBad ⟨code, amt⟩ = true by simp [taxBad, hl])
      go_enter Tryz.func154, Tryz.ntmps154
      go_wp2_with fail
      refine (letters_any code _ _ hs).mono ?_
      rintro e w' ⟨rfl, rfl⟩
      rw [show ByteArray.data { data := #[] } = #[] from rfl, hl]
      go_wp2
      go_ret
      exact ⟨ret_bool F.out.symm, (Below.refl _ _).alloc (Nat.le_refl _) _⟩
    | true =>
      have F := hid (show taxBad ⟨code, amt⟩ = !([amt].all amtB) by simp [taxBad, hl, H2.out])
      go_enter Tryz.func154, Tryz.ntmps154
      go_wp2_with fail
      refine (letters_any code _ _ hs).mono ?_
      rintro e w' ⟨rfl, rfl⟩
      rw [show ByteArray.data { data := #[] } = #[] from rfl, hl]
      go_wp2_with fail
      refine (amounts_any _ 1 _ [amt] _ rfl (row_new (vs := [.int .i64 amt]) (by simp)) (by omega)).mono ?_
      rintro e w2 ⟨rfl, hb⟩
      generalize [amt].all amtB = q at *
      go_wp2
      go_ret
      exact ⟨ret_bool F.out.symm, (((Below.refl _ _).alloc (Nat.le_refl _) _).alloc (by simp) _).trans (hb.mono (by simp; omega))⟩
  · have F := hid (show taxBad ⟨code, amt⟩ = true by simp [taxBad, h2])
    have d1 : ((code.size : Int) != 2) = true := by simp; omega
    clear h2
    go_enter Tryz.func154, Tryz.ntmps154
    go_wp2
    go_ret
    exact ⟨ret_bool F.out.symm, (Below.refl _ _).alloc (Nat.le_refl _) _⟩
set_option maxHeartbeats 1000000 in
theorem idxLeg_any (n : Int) (nb : Nat) (l : List Leg) (a : Option Addr) (m cap : Nat) (w : World) (hn : l.length = m) (hm : m ≤ 9223372036854775807) (hr : Row w a (cellsL encLeg l)) (hb : ∀ x ∈ l, 0 ≤ x.c ∧ x.c ≤ 255) (hc : w.cell? ⟨nb, 0, none⟩ = some (.int .i64 n)) :
    Calls Tryz.prog 171 #[.slice a m cap, .func (.func 151) #[] #[.pointer (some ⟨nb, 0, none⟩)]] w (IdxIs (l.any (legBad n)) w) := by
  subst hn
  have Hr := hid hr
  have Hb := hid hb
  have Hc := hid hc
  have hlt : nb < w.heap.size := lt_of_cell hc
  clear hr hb hc
  go_enter Tryz.func171, Tryz.ntmps171
  go_wp2
  go_loopw [8] (fun i wr => ∃ k : Nat, k ≤ l.length ∧ i = .int .i64 k ∧ Hid ((l.take k).any (legBad n) = false) ∧ Aside (Below w.heap.size w wr)) (fun i _ => l.length - (RowKit.intOf i).toNat)
  case atStart => exact ⟨0, Nat.zero_le _, rfl, rfl, Below.refl _ _⟩
  case round =>
    obtain ⟨k, hk, rfl, H, B⟩ := hrel
    by_cases hlt2 : k < l.length
    · obtain ⟨b, off, rfl, c1, c2, c3⟩ := leg_at (Hr.out.kept B.out) hlt2
      have hcn : wr.cell? ⟨nb, 0, none⟩ = some (.int .i64 n) := by rw [B.out.cell (p := ⟨nb, 0, none⟩) hlt]; exact Hc.out
      have HS := hid (any_take_succ (p := legBad n) hlt2)
      have HT := hid (any_at (p := legBad n) hlt2)
      have hx := Hb.out _ (List.getElem_mem hlt2)
      generalize l[k] = x at *
      have KEY := hid (legBad_any n x nb wr hcn hx.1 hx.2)
      cases hp : legBad n x with
      | true =>
        have HU := hid (HT.out hp)
        go_wp2_with fail
        refine KEY.out.mono ?_
        rintro e w2 ⟨rfl, hb2⟩
        rw [hp]
        clear hp
        go_wp2
        go_ret
        exact ⟨k, rfl, by rw [HU.out]; exact decide_eq_true (by omega), bt B.out hb2⟩
      | false =>
        have HU := hid hp
        go_wp2_with fail
        refine KEY.out.mono ?_
        rintro e w2 ⟨rfl, hb2⟩
        rw [hp]
        clear hp
        go_wp2
        go_roundw
        case rel => exact ⟨k + 1, by omega, by go_num, hid (by rw [HS.out, H.out, HU.out]; rfl), bt B.out hb2⟩
        case measure => simp [RowKit.intOf]; omega
    · obtain rfl : k = l.length := by omega
      have HU := hid (show l.any (legBad n) = false by have := H.out; rw [List.take_length] at this; exact this)
      clear H
      go_wp2
      go_ret
      exact ⟨-1, rfl, by rw [HU.out]; decide, B.out⟩
set_option maxHeartbeats 1000000 in
theorem idxTax_any (l : List Tax) (a : Option Addr) (m cap : Nat) (w : World) (hn : l.length = m) (hm : m ≤ 9223372036854775807) (hr : Row w a (cellsL encTax l)) (hb : ∀ x ∈ l, x.code.size ≤ maxLen) :
    Calls Tryz.prog 172 #[.slice a m cap, .func (.func 154) #[] #[]] w (IdxIs (l.any taxBad) w) := by
  subst hn
  have Hr := hid hr
  have Hb := hid hb
  clear hr hb
  go_enter Tryz.func172, Tryz.ntmps172
  go_wp2
  go_loopw [8] (fun i wr => ∃ k : Nat, k ≤ l.length ∧ i = .int .i64 k ∧ Hid ((l.take k).any taxBad = false) ∧ Aside (Below w.heap.size w wr)) (fun i _ => l.length - (RowKit.intOf i).toNat)
  case atStart => exact ⟨0, Nat.zero_le _, rfl, rfl, Below.refl _ _⟩
  case round =>
    obtain ⟨k, hk, rfl, H, B⟩ := hrel
    by_cases hlt2 : k < l.length
    · obtain ⟨b, off, rfl, c1, c2⟩ := tax_at (Hr.out.kept B.out) hlt2
      have HS := hid (any_take_succ (p := taxBad) hlt2)
      have HT := hid (any_at (p := taxBad) hlt2)
      have hx := Hb.out _ (List.getElem_mem hlt2)
      generalize l[k] = x at *
      have KEY := hid (taxBad_any x wr hx)
      clear hx
      cases hp : taxBad x with
      | true =>
        have HU := hid (HT.out hp)
        go_wp2_with fail
        refine KEY.out.mono ?_
        rintro e w2 ⟨rfl, hb2⟩
        rw [hp]
        clear hp
        go_wp2
        go_ret
        exact ⟨k, rfl, by rw [HU.out]; exact decide_eq_true (by omega), bt B.out hb2⟩
      | false =>
        have HU := hid hp
        go_wp2_with fail
        refine KEY.out.mono ?_
        rintro e w2 ⟨rfl, hb2⟩
        rw [hp]
        clear hp
        go_wp2
        go_roundw
        case rel => exact ⟨k + 1, by omega, by go_num, hid (by rw [HS.out, H.out, HU.out]; rfl), bt B.out hb2⟩
        case measure => simp [RowKit.intOf]; omega
    · obtain rfl : k = l.length := by omega
      have HU := hid (show l.any taxBad = false by have := H.out; rw [List.take_length] at this; exact this)
      clear H
      go_wp2
      go_ret
      exact ⟨-1, rfl, by rw [HU.out]; decide, B.out⟩
set_option maxHeartbeats 400000 in
theorem hasLeg_any (n : Int) (nb : Nat) (l : List Leg) (a : Option Addr) (m cap : Nat) (w : World) (hn : l.length = m) (hm : m ≤ 9223372036854775807) (hr : Row w a (cellsL encLeg l)) (hb : ∀ x ∈ l, 0 ≤ x.c ∧ x.c ≤ 255) (hc : w.cell? ⟨nb, 0, none⟩ = some (.int .i64 n)) :
    Calls Tryz.prog 150 #[.slice a m cap, .func (.func 151) #[] #[.pointer (some ⟨nb, 0, none⟩)]] w fun e w' => e = .returned (.bool (l.any (legBad n))) ∧ Below w.heap.size w w' := by
  have KEY := hid (idxLeg_any n nb l a m cap w hn hm hr hb hc)
  clear hr hb hc hn
  go_enter Tryz.func150, Tryz.ntmps150
  go_wp2_with fail
  refine KEY.out.mono ?_
  rintro e w2 ⟨r, rfl, hr, hb2⟩
  have HR := hid hr
  clear hr
  go_wp2
  go_ret
  exact ⟨ret_bool (by first | exact HR.out | (rw [← HR.out])), hb2⟩
set_option maxHeartbeats 400000 in
theorem hasTax_any (l : List Tax) (a : Option Addr) (m cap : Nat) (w : World) (hn : l.length = m) (hm : m ≤ 9223372036854775807) (hr : Row w a (cellsL encTax l)) (hb : ∀ x ∈ l, x.code.size ≤ maxLen) :
    Calls Tryz.prog 153 #[.slice a m cap, .func (.func 154) #[] #[]] w fun e w' => e = .returned (.bool (l.any taxBad)) ∧ Below w.heap.size w w' := by
  have KEY := hid (idxTax_any l a m cap w hn hm hr hb)
  clear hr hb hn
  go_enter Tryz.func153, Tryz.ntmps153
  go_wp2_with fail
  refine KEY.out.mono ?_
  rintro e w2 ⟨r, rfl, hr, hb2⟩
  have HR := hid hr
  clear hr
  go_wp2
  go_ret
  exact ⟨ret_bool (by first | exact HR.out | (rw [← HR.out])), hb2⟩
end Go.Proofs.YtnkghdakjdhhdaaGreat
end
section
namespace Go.Proofs.YtnkghdakjdhhdaaGreat
open Go.RowKit Go.Lib Go.Tk Go.Shelf Go.Vc Go.Sx
structure Tid where
  c : Int
  r : Int
deriving DecidableEq, Inhabited
structure Kid where
  t : Tid
  i : Int
deriving DecidableEq, Inhabited
structure Cpn where
  l : Leg
  v : Int
  s : Int
  n : Int
deriving DecidableEq, Inhabited
structure OwnV where
  k : Cpn
  away : Bool
  dst : Int
  paid : Bool
  asked : Bool
deriving DecidableEq, Inhabited
structure HeldV where
  k : Cpn
  here : Bool
  paid : Bool
  wanted : Bool
  billed : Bool
deriving DecidableEq, Inhabited
structure MsV where
  kind : Int
  key : Kid
  k : Cpn
  amt : Int
  code : Int
deriving DecidableEq, Inhabited
structure OutV where
  dst : Int
  m : MsV
deriving DecidableEq, Inhabited
def tid0 : Tid := ⟨0, 0⟩
def kid0 : Kid := ⟨⟨0, 0⟩, 0⟩
def leg0 : Leg := ⟨0, 0, 0⟩
def cpn0 : Cpn := ⟨⟨0, 0, 0⟩, 0, 0, 0⟩
def own0 : OwnV := ⟨⟨⟨0, 0, 0⟩, 0, 0, 0⟩, false, 0, false, false⟩
def held0 : HeldV := ⟨⟨⟨0, 0, 0⟩, 0, 0, 0⟩, false, false, false, false⟩
def tidS (t : Tid) : List SV := [.val (.int .u8 t.c), .val (.int .u64 t.r)]
def kidS (k : Kid) : List SV := [.val (.int .u8 k.t.c), .val (.int .u64 k.t.r), .val (.int .u8 k.i)]
def legS' (l : Leg) : List SV := [.val (.int .u8 l.c), .val (.int .u16 l.f), .val (.int .u32 l.x)]
def ownS (o : OwnV) : List SV := [.val (.int .u8 o.k.l.c), .val (.int .u16 o.k.l.f), .val (.int .u32 o.k.l.x), .val (.int .i64 o.k.v), .val (.int .u8 o.k.s), .val (.int .u32 o.k.n), .val (.bool o.away), .val (.int .u8 o.dst), .val (.bool o.paid), .val (.bool o.asked)]
def heldS (o : HeldV) : List SV := [.val (.int .u8 o.k.l.c), .val (.int .u16 o.k.l.f), .val (.int .u32 o.k.l.x), .val (.int .i64 o.k.v), .val (.int .u8 o.k.s), .val (.int .u32 o.k.n), .val (.bool o.here), .val (.bool o.paid), .val (.bool o.wanted), .val (.bool o.billed)]
def msS (m : MsV) : List SV := [.val (.int .u8 m.kind), .val (.int .u8 m.key.t.c), .val (.int .u64 m.key.t.r), .val (.int .u8 m.key.i), .val (.int .u8 m.k.l.c), .val (.int .u16 m.k.l.f), .val (.int .u32 m.k.l.x), .val (.int .i64 m.k.v), .val (.int .u8 m.k.s), .val (.int .u32 m.k.n), .val (.int .i64 m.amt), .val (.int .i64 m.code)]
def outS (x : OutV) : List SV := .val (.int .u8 x.dst) :: msS x.m
def valsL (l : List SV) : List Value := l.map fun v => match v with
  | .val u => u
  | _ => undef
def kidV (k : Kid) : Value := .agg #[.int .u8 k.t.c, .int .u64 k.t.r, .int .u8 k.i]
def tidV (t : Tid) : Value := .agg #[.int .u8 t.c, .int .u64 t.r]
def ownL (o : OwnV) : List Value := [.int .u8 o.k.l.c, .int .u16 o.k.l.f, .int .u32 o.k.l.x, .int .i64 o.k.v, .int .u8 o.k.s, .int .u32 o.k.n, .bool o.away, .int .u8 o.dst, .bool o.paid, .bool o.asked]
def heldL (o : HeldV) : List Value := [.int .u8 o.k.l.c, .int .u16 o.k.l.f, .int .u32 o.k.l.x, .int .i64 o.k.v, .int .u8 o.k.s, .int .u32 o.k.n, .bool o.here, .bool o.paid, .bool o.wanted, .bool o.billed]
def msL (m : MsV) : List Value := [.int .u8 m.kind, .int .u8 m.key.t.c, .int .u64 m.key.t.r, .int .u8 m.key.i, .int .u8 m.k.l.c, .int .u16 m.k.l.f, .int .u32 m.k.l.x, .int .i64 m.k.v, .int .u8 m.k.s, .int .u32 m.k.n, .int .i64 m.amt, .int .i64 m.code]
def ownW (o : OwnV) : Value := .agg (ownL o).toArray
def heldW (o : HeldV) : Value := .agg (heldL o).toArray
def TidOk (t : Tid) : Prop := (0 ≤ t.c ∧ t.c ≤ 255) ∧ 0 ≤ t.r ∧ t.r ≤ 18446744073709551615
def KidOk (k : Kid) : Prop := TidOk k.t ∧ 0 ≤ k.i ∧ k.i ≤ 255
theorem wf_u8 {x : Int} (h : 0 ≤ x ∧ x ≤ 255) : (Lit.int .u8 x).wf = true := by simp [Lit.wf, IntKind.min, IntKind.max, IntKind.signed, IntKind.bits]; omega
theorem wf_u64 {x : Int} (h : 0 ≤ x ∧ x ≤ 18446744073709551615) : (Lit.int .u64 x).wf = true := by simp [Lit.wf, IntKind.min, IntKind.max, IntKind.signed, IntKind.bits]; omega
theorem cellsTick : Tryz.prog.cellsOf 25 = 2 := by kernel_rfl
theorem cellsKey : Tryz.prog.cellsOf 27 = 3 := by kernel_rfl
theorem cellsU8 : Tryz.prog.cellsOf 5 = 1 := by kernel_rfl
theorem cellsU64 : Tryz.prog.cellsOf 23 = 1 := by kernel_rfl
theorem typesTwo : ∃ n, Tryz.prog.types.size = n + 2 := ⟨Tryz.prog.types.size - 2, by have : 2 ≤ Tryz.prog.types.size := of_decide_eq_true (by kernel_rfl); omega⟩
theorem lits_tid {t : Tid} (h : TidOk t) (n : Nat) : Tryz.prog.keyLits (n + 2) 25 [.int .u8 t.c, .int .u64 t.r] = some [.int .u8 t.c, .int .u64 t.r] := by
  rw [tkKeyStruct Tryz.underlying25 _ _ (by rw [cellsTick]; rfl) (by kernel_rfl)]
  simp [cellsU8, cellsU64, tkKeyInt Tryz.underlying5 n (wf_u8 h.1), tkKeyInt Tryz.underlying23 n (wf_u64 h.2)]
theorem keyOf_tid {t : Tid} (h : TidOk t) : ∃ l, keyOf Tryz.prog 25 (tidV t) = some l := by
  have h1 : Tryz.prog.keyType 25 = true := by kernel_rfl
  have h2 : (tidV t).formed Tryz.prog 25 = true := by simp [tidV, Value.formed, Tryz.underlying25, cellsTick]
  obtain ⟨n, hn⟩ := typesTwo
  have h3 := lits_tid h (n + 1)
  refine ⟨.string (keyBytes [.int .u8 t.c, .int .u64 t.r]), ?_⟩
  unfold keyOf
  rw [Tryz.underlying25]
  simp only [h1, h2, Bool.and_true, if_true, tidV, Value.cells, hn]
  rw [show n + 2 + 1 = n + 1 + 2 from rfl, h3]; rfl
theorem keyOf_kid {k : Kid} (h : KidOk k) : ∃ l, keyOf Tryz.prog 27 (kidV k) = some l := by
  have h1 : Tryz.prog.keyType 27 = true := by kernel_rfl
  have h2 : (kidV k).formed Tryz.prog 27 = true := by simp [kidV, Value.formed, Tryz.underlying27, cellsKey]
  obtain ⟨n, hn⟩ := typesTwo
  have h3 : Tryz.prog.keyLits (n + 3) 27 [.int .u8 k.t.c, .int .u64 k.t.r, .int .u8 k.i] = some [.int .u8 k.t.c, .int .u64 k.t.r, .int .u8 k.i] := by
    rw [tkKeyStruct Tryz.underlying27 _ _ (by rw [cellsKey]; rfl) (by kernel_rfl)]
    simp [cellsTick, cellsU8, lits_tid h.1 n, tkKeyInt Tryz.underlying5 (n + 1) (wf_u8 h.2)]
  refine ⟨.string (keyBytes [.int .u8 k.t.c, .int .u64 k.t.r, .int .u8 k.i]), ?_⟩
  unfold keyOf
  rw [Tryz.underlying27]
  simp only [h1, h2, Bool.and_true, if_true, kidV, Value.cells, hn]
  rw [show n + 2 + 1 = n + 3 from rfl, h3]; rfl
def tidK : KeyKind Tryz.prog 25 Tid where
  kv := tidV
  ok := TidOk
  inj := fun {x y} h => by
    obtain ⟨a, b⟩ := x; obtain ⟨c, d⟩ := y
    simp only [tidV, Value.agg.injEq, Array.mk.injEq, List.cons.injEq, Value.int.injEq, true_and, and_true] at h
    rw [h.1, h.2]
  keyed := keyB_ok (by kernel_rfl)
  reads := keyOf_tid
def kidK : KeyKind Tryz.prog 27 Kid where
  kv := kidV
  ok := KidOk
  inj := fun {x y} h => by
    obtain ⟨⟨a, b⟩, e⟩ := x; obtain ⟨⟨c, d⟩, f⟩ := y
    simp only [kidV, Value.agg.injEq, Array.mk.injEq, List.cons.injEq, Value.int.injEq, true_and, and_true] at h
    rw [h.1, h.2.1, h.2.2]
  keyed := keyB_ok (by kernel_rfl)
  reads := keyOf_kid
abbrev OwnsV := List (Kid × OwnV)
abbrev HeldsV := List (Kid × HeldV)
def ownsF (L : OwnsV) : SC := .fam (mapT kidK ownW L)
def heldsF (L : HeldsV) : SC := .fam (mapT kidK heldW L)
def OT : TypeId := 118
def HT : TypeId := 119
theorem zero_own (w : World) : (zeroValue 43).run Tryz.prog w = .ok (ownW own0) w := still_run (by kernel_rfl) w
theorem zero_held (w : World) : (zeroValue 69).run Tryz.prog w = .ok (heldW held0) w := still_run (by kernel_rfl) w
theorem look_owns (L : OwnsV) {k : Kid} (hk : KidOk k) : OpG Tryz.prog (isLk OT true) lkXY [.map 0 0, .agg (kidS k)] [((0, 0), ownsF L)] [] (.tup [.agg (ownS ((lkt L k).getD own0)), .val (.bool (lkt L k).isSome)]) [] :=
  look_map (K := kidK) (encS := fun o => .agg (ownS o)) own0 L k Tryz.underlying118 zero_own (fun _ _ => rfl) (fun _ => rfl) hk (fun _ => rfl)
theorem look_helds (L : HeldsV) {k : Kid} (hk : KidOk k) : OpG Tryz.prog (isLk HT true) lkXY [.map 0 0, .agg (kidS k)] [((0, 0), heldsF L)] [] (.tup [.agg (heldS ((lkt L k).getD held0)), .val (.bool (lkt L k).isSome)]) [] :=
  look_map (K := kidK) (encS := fun o => .agg (heldS o)) held0 L k Tryz.underlying119 zero_held (fun _ _ => rfl) (fun _ => rfl) hk (fun _ => rfl)
theorem upd_owns (L : OwnsV) {k : Kid} (hk : KidOk k) (o : OwnV) {L' : OwnsV} (hp : (putt L k o).Perm L') : OpG Tryz.prog (isUp OT) upXYZ [.map 0 0, .agg (kidS k), .agg (ownS o)] [] [((0, 0), ownsF L)] (.val undef) [((0, 0), ownsF L')] :=
  upd_map (K := kidK) L L' k o Tryz.underlying118 hp hk (fun _ => rfl) (fun _ => rfl)
theorem upd_helds (L : HeldsV) {k : Kid} (hk : KidOk k) (o : HeldV) {L' : HeldsV} (hp : (putt L k o).Perm L') : OpG Tryz.prog (isUp HT) upXYZ [.map 0 0, .agg (kidS k), .agg (heldS o)] [] [((0, 0), heldsF L)] (.val undef) [((0, 0), heldsF L')] :=
  upd_map (K := kidK) L L' k o Tryz.underlying119 hp hk (fun _ => rfl) (fun _ => rfl)
theorem len_helds (L : HeldsV) : OpG Tryz.prog (isLenM Tryz.prog) lenX [.map 0 0] [((0, 0), heldsF L)] [] (.val (.int .i64 (L.length : Int))) [] := len_map L
end Go.Proofs.YtnkghdakjdhhdaaGreat
end
section
namespace Go.Proofs.YtnkghdakjdhhdaaGreat
open Go.RowKit Go.Lib Go.Tk
end Go.Proofs.YtnkghdakjdhhdaaGreat
end
section
namespace Go.Proofs.YtnkghdakjdhhdaaGreat
open Go.RowKit Go.Lib Go.Tk
theorem sumFrom_nn : ∀ (xs : List Int) (s : Int), mayI s = true → 0 ≤ s → (∀ x ∈ xs, 0 ≤ x) → sumFrom s xs = if mayI (s + xs.sum) then (s + xs.sum, 0) else (0, 7)
  | [], s, hs, _, _ => by simp [sumFrom, hs]
  | x :: r, s, hs, h0, hx => by
    have hx0 := hx x (by simp)
    have hr : ∀ y ∈ r, 0 ≤ y := fun y hy => hx y (by simp [hy])
    have hrs : 0 ≤ r.sum := by
      clear hx
      induction r with
      | nil => simp
      | cons y t ih => have := hr y (by simp); have := ih (fun z hz => hr z (by simp [hz])); simp; omega
    rw [sumFrom]
    have e : s + (x :: r).sum = s + x + r.sum := by simp; omega
    rw [e]
    obtain ⟨s1, s2⟩ := mayI_of hs
    rcases addI_cases s x with ⟨h, _, m2, m3, h1⟩ | ⟨h, h1, hno⟩
    · rw [if_pos h, h1, sumFrom_nn r (s + x) m3 (by omega) hr]
    · rw [if_neg (by rw [h]; decide)]
      have : mayI (s + x + r.sum) = false := by
        rw [← Bool.not_eq_true]; intro hm
        obtain ⟨q1, q2⟩ := mayI_of hm
        have a1 : mayI x = true := by simp [mayI]; omega
        have a2 : mayI (s + x) = true := by simp [mayI]; omega
        rw [hs, a1, a2] at hno; cases hno
      rw [this]; rfl
theorem sum_anyN (a : Option Addr) (n cap : Nat) (xs : List Int) (w : World) (hn : xs.length = n) (hr : Row w a (xs.map (.int .i64))) (hm : xs.length ≤ 9223372036854775807) :
    Calls Tryz.prog 173 #[.slice a n cap] w fun e w' => e = .returned (.tuple #[.int .i64 (sumFrom 0 xs).1, .int .i64 (sumFrom 0 xs).2]) ∧ Below w.heap.size w w' := by
  subst hn; exact sum_any a cap xs w hr hm
end Go.Proofs.YtnkghdakjdhhdaaGreat
end
section
namespace Go.Proofs.YtnkghdakjdhhdaaGreat
open Go.RowKit Go.Lib Go.Tk
structure SaleV where
  name : ByteArray
  legs : List Leg
  fare : Int
  taxes : List Tax
  pen : Int
deriving DecidableEq, Inhabited
structure SaleA where
  la : Option Addr
  lc : Nat
  ta : Option Addr
  tc : Nat
def LegOk (l : Leg) : Prop := (0 ≤ l.c ∧ l.c ≤ 255) ∧ (0 ≤ l.f ∧ l.f ≤ 65535) ∧ (0 ≤ l.x ∧ l.x ≤ 4294967295)
def TaxOk (t : Tax) : Prop := t.code.size ≤ maxLen ∧ (-9223372036854775808 ≤ t.amt ∧ t.amt ≤ 9223372036854775807)
structure SaleOk (s : SaleV) : Prop where
  name : s.name.size ≤ maxLen
  legs : ∀ l ∈ s.legs, LegOk l
  taxes : ∀ t ∈ s.taxes, TaxOk t
  fare : -9223372036854775808 ≤ s.fare ∧ s.fare ≤ 9223372036854775807
  pen : -9223372036854775808 ≤ s.pen ∧ s.pen ≤ 9223372036854775807
  nl : s.legs.length ≤ 1000
  nt : s.taxes.length ≤ 1000
structure SaleAt (w : World) (s : SaleV) (A : SaleA) : Prop where
  legs : Row w A.la (cellsL encLeg s.legs)
  taxes : Row w A.ta (cellsL encTax s.taxes)
  lnil : A.la = none → A.lc = 0
  tnil : A.ta = none → A.tc = 0
theorem SaleAt.kept {w w' : World} {s : SaleV} {A : SaleA} (h : SaleAt w s A) (hb : Below w.heap.size w w') : SaleAt w' s A := ⟨h.legs.kept hb, h.taxes.kept hb, h.lnil, h.tnil⟩
def saleAgg (s : SaleV) (A : SaleA) : Value := .agg #[.string s.name, .slice A.la s.legs.length A.lc, .int .i64 s.fare, .slice A.ta s.taxes.length A.tc, .int .i64 s.pen]
def priceL (s : SaleV) : List Int := s.fare :: s.taxes.map (·.amt)
theorem i64row3 : (Tryz.prog.info? 2).map (fun i => (i.zero, i.size, i.bytes)) = some (some (.int .i64 0), 1, 8) := by kernel_rfl
theorem price_snoc {s : SaleV} {k : Nat} (h : k < s.taxes.length) : (s.fare :: (s.taxes.take (k + 1)).map (·.amt)) = (s.fare :: (s.taxes.take k).map (·.amt)) ++ [s.taxes[k].amt] := by
  rw [List.take_succ_eq_append_getElem h, List.map_append]; rfl
set_option maxHeartbeats 2000000 in
theorem price_anyN (s : SaleV) (A : SaleA) (w : World) (hs : SaleAt w s A) (hnt : s.taxes.length ≤ 17592186044410) :
    Calls Tryz.prog 155 #[saleAgg s A] w fun e w' => e = .returned (.tuple #[.int .i64 (sumFrom 0 (priceL s)).1, .int .i64 (sumFrom 0 (priceL s)).2]) ∧ Below w.heap.size w w' := by
  have hr := hid hs.taxes
  clear hs
  obtain ⟨la, lc, ta, tc⟩ := A
  unfold saleAgg
  dsimp only at hr ⊢
  have HI := hid i64row3
  go_enter Tryz.func155, Tryz.ntmps155
  go_wp2
  go_loopw [4, 6, 13] (fun s4 _ s13 wr => ∃ (k : Nat) (v : Value), k ≤ s.taxes.length ∧ s13 = .int .i64 k ∧ s4 = v ∧ Aside (wr.ownsRow w.heap.size 2 1 v (k + 1) ((s.fare :: (s.taxes.take k).map (·.amt)).map (.int .i64))) ∧ Aside (Below w.heap.size w wr)) (fun _ _ i _ => s.taxes.length - (RowKit.intOf i).toNat)
  case atStart =>
    refine ⟨0, _, Nat.zero_le _, rfl, rfl, ?_, ((Below.refl _ _).alloc (Nat.le_refl _) _).alloc (by simp) _⟩
    have := World.ownsRow_lit (base := w.heap.size) (e := 2) (size := 1) (w.alloc (.cells #[.string s.name, .slice la s.legs.length lc, .int .i64 s.fare, .slice ta s.taxes.length tc, .int .i64 s.pen] 64)) #[.int .i64 s.fare] 1 (by simp) (by unfold maxLen; omega) rfl
    show World.ownsRow _ _ _ _ _ _ _
    simpa using this
  case round =>
    obtain ⟨k, v, hk, rfl, rfl, O1, B1⟩ := hrel
    by_cases hlt : k < s.taxes.length
    · obtain ⟨b, off, rfl, c1, c2⟩ := tax_at (hr.out.kept B1.out) hlt
      have HSN := hid (price_snoc hlt)
      generalize s.taxes[k] = x at *
      have hm1 : k + 1 + 1 ≤ maxLen := by unfold maxLen; omega
      have hm8 : (k + 1 + 1) * 8 ≤ 140737488355328 := by omega
      have hbs := B1.out.size
      go_wp2_with (at_builtin; refine wpList_append_row_at rfl _ _ 65 rfl w.heap.size 2 (.int .i64 0) 1 8 Tryz.underlying65 HI.out rfl (by decide) _ (k + 1) _ rfl (World.ownsRow.alloc (World.ownsRow.alloc O1.out _) _) _ 1 1 [.int .i64 x.amt] rfl (by simp) (row_new (by simp)) rfl (by simp [Value.oneCell']) hm1 hm8 (by simp; omega) ?_; intro v1 w3 ho1 hg1 hat1)
      have hg1' : ((wr.alloc (.cells #[.string x.code, .int .i64 x.amt] 189)).alloc (.cells #[.int .i64 x.amt] 2)).grownBy w3 u4.ownBlock := hg1
      have B3 : Aside (Below w.heap.size w w3) := ((B1.out.alloc B1.out.size _).alloc (by have := B1.out.size; simp; omega) _).grown hg1' (by have := B1.out.size; simp; omega) (fun g e => (World.ownsRow.lt O1.out g e).1)
      have O3 : Aside (w3.ownsRow w.heap.size 2 1 v1 (k + 1 + 1) ((s.fare :: (s.taxes.take (k + 1)).map (·.amt)).map (.int .i64))) := by
        show World.ownsRow _ _ _ _ _ _ _
        rw [HSN.out, List.map_append]; exact ho1
      clear hg1 hg1' hat1 ho1 O1 B1 c1 c2
      go_roundw
      case measure => simp [RowKit.intOf]; omega
      case rel => exact ⟨k + 1, v1, by omega, by go_num, rfl, O3, B3⟩
    · obtain rfl : k = s.taxes.length := by omega
      obtain ⟨a', cap', hv, hr', -⟩ := row_of_owns (show wr.ownsRow w.heap.size 2 1 u4 (s.taxes.length + 1) _ from O1.out)
      subst hv
      have HR := hid (show Row wr a' ((priceL s).map (.int .i64)) by unfold priceL; rw [List.take_length] at hr'; exact hr')
      clear hr' O1
      go_wp2_with fail
      refine (sum_anyN a' (s.taxes.length + 1) cap' (priceL s) _ (by simp [priceL]) HR.out (by simp [priceL]; omega)).mono ?_
      rintro e w2 ⟨rfl, hb2⟩
      go_wp2
      go_ret2
      exact ⟨rfl, bt B1.out hb2⟩
theorem price_any (s : SaleV) (A : SaleA) (w : World) (hs : SaleAt w s A) (ok : SaleOk s) :
    Calls Tryz.prog 155 #[saleAgg s A] w fun e w' => e = .returned (.tuple #[.int .i64 (sumFrom 0 (priceL s)).1, .int .i64 (sumFrom 0 (priceL s)).2]) ∧ Below w.heap.size w w' :=
  price_anyN s A w hs (by have := ok.nt; omega)
end Go.Proofs.YtnkghdakjdhhdaaGreat
end
