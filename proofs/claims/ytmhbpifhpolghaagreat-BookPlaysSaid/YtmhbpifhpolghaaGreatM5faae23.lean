/- Tick2, Bk0. -/
import Derived.Test.YtmhbpifhpolghaaGreatM4915a62
import Derived.BigRegion
import Derived.Test.YtmhbpifhpolghaaGreatSxE
set_option maxRecDepth 100000
set_option linter.unusedVariables false
set_option linter.unusedSimpArgs false
set_option linter.unusedSectionVars false
section
namespace Go.Proofs.YtmhbpifhpolghaaGreat
open Go.RowKit Go.Lib Go.Tk
structure Leg where
  c : Int
  f : Int
  x : Int
deriving DecidableEq, Inhabited
structure Tax where
  code : ByteArray
  amt : Int
deriving DecidableEq, Inhabited
def encLeg (l : Leg) : List Value := [.int .u8 l.c, .int .u16 l.f, .int .u32 l.x]
def encTax (t : Tax) : List Value := [.string t.code, .int .i64 t.amt]
theorem encLeg_len (l : Leg) : (encLeg l).length = 3 := rfl
theorem encTax_len (t : Tax) : (encTax t).length = 2 := rfl
theorem encLeg_one (l : Leg) : ∀ v ∈ encLeg l, v.oneCell' = true := by simp [encLeg, Value.oneCell']
theorem encTax_one (t : Tax) : ∀ v ∈ encTax t, v.oneCell' = true := by simp [encTax, Value.oneCell']
theorem leg_at {w : World} {a : Option Addr} {l : List Leg} (h : Row w a (cellsL encLeg l)) {k : Nat} (hk : k < l.length) :
    ∃ b off, a = some ⟨b, off, none⟩ ∧ w.cell? ⟨b, off + k * 3, none⟩ = some (.int .u8 l[k].c) ∧ w.cell? ⟨b, off + k * 3 + 1, none⟩ = some (.int .u16 l[k].f) ∧ w.cell? ⟨b, off + k * 3 + 2, none⟩ = some (.int .u32 l[k].x) := by
  obtain ⟨b, off, hab, hc⟩ := h.thing encLeg_len hk (by decide)
  exact ⟨b, off, hab, hc 0 (by decide), hc 1 (by decide), hc 2 (by decide)⟩
theorem tax_at {w : World} {a : Option Addr} {l : List Tax} (h : Row w a (cellsL encTax l)) {k : Nat} (hk : k < l.length) :
    ∃ b off, a = some ⟨b, off, none⟩ ∧ w.cell? ⟨b, off + k * 2, none⟩ = some (.string l[k].code) ∧ w.cell? ⟨b, off + k * 2 + 1, none⟩ = some (.int .i64 l[k].amt) := by
  obtain ⟨b, off, hab, hc⟩ := h.thing encTax_len hk (by decide)
  exact ⟨b, off, hab, hc 0 (by decide), hc 1 (by decide)⟩
theorem any_take_succ {α : Type} {p : α → Bool} {l : List α} {k : Nat} (h : k < l.length) : (l.take (k + 1)).any p = ((l.take k).any p || p l[k]) := by
  rw [List.take_succ_eq_append_getElem h, List.any_append]; simp
theorem any_at {α : Type} {p : α → Bool} {l : List α} {k : Nat} (h : k < l.length) (hp : p l[k] = true) : l.any p = true := List.any_eq_true.2 ⟨_, List.getElem_mem h, hp⟩
def IdxIs (b : Bool) (w : World) (e : Ending) (w' : World) : Prop := ∃ r : Int, e = .returned (.int .i64 r) ∧ decide (r ≥ 0) = b ∧ Below w.heap.size w w'
def legBad (n : Int) (l : Leg) : Bool := decide (l.c ≥ n) || (l.x == 0)
set_option maxHeartbeats 400000 in
theorem legBad_any (n : Int) (l : Leg) (nb : Nat) (w : World) (hc : w.cell? ⟨nb, 0, none⟩ = some (.int .i64 n)) (h0 : 0 ≤ l.c) (h1 : l.c ≤ 255) :
    Calls Tryz.prog 127 #[.agg #[.int .u8 l.c, .int .u16 l.f, .int .u32 l.x], .pointer (some ⟨nb, 0, none⟩)] w fun e w' => e = .returned (.bool (legBad n l)) ∧ Below w.heap.size w w' := by
  obtain ⟨c, f, x⟩ := l
  dsimp only at h0 h1 ⊢
  have hlt : nb < w.heap.size := lt_of_cell hc
  by_cases hcn : c ≥ n
  · have F := hid (show legBad n ⟨c, f, x⟩ = true by simp [legBad, hcn])
    have d1 : decide (c ≥ n) = true := decide_eq_true hcn
    go_enter Tryz.func127, Tryz.ntmps127
    go_wp2
    go_ret
    exact ⟨ret_bool F.out.symm, (Below.refl _ _).alloc (Nat.le_refl _) _⟩
  · have F := hid (show legBad n ⟨c, f, x⟩ = (x == 0) by simp [legBad, hcn])
    have d1 : decide (c ≥ n) = false := decide_eq_false hcn
    go_enter Tryz.func127, Tryz.ntmps127
    go_wp2
    go_ret
    exact ⟨ret_bool F.out.symm, (Below.refl _ _).alloc (Nat.le_refl _) _⟩
def taxBad (t : Tax) : Bool := decide (t.code.size ≠ 2) || !lettersB [] t.code.data.toList || !amtB t.amt
set_option maxHeartbeats 1000000 in
theorem taxBad_any (t : Tax) (w : World) (hs : t.code.size ≤ maxLen) :
    Calls Tryz.prog 130 #[.agg #[.string t.code, .int .i64 t.amt]] w fun e w' => e = .returned (.bool (taxBad t)) ∧ Below w.heap.size w w' := by
  obtain ⟨code, amt⟩ := t
  dsimp only at hs ⊢
  have hs' := hs
  unfold maxLen at hs'
  by_cases h2 : code.size = 2
  · have d1 : ((code.size : Int) != 2) = false := by simp; omega
    have H2 := hid h2
    clear h2
    cases hl : lettersB [] code.data.toList with
    | false =>
      have F := hid (show taxBad ⟨code, amt⟩ = true by simp [taxBad, hl])
      go_enter Tryz.func130, Tryz.ntmps130
      go_wp2_with fail
      refine (letters_any code _ _ hs).mono ?_
      rintro e w' ⟨rfl, rfl⟩
      rw [show ByteArray.data { data := #[] } = #[] from rfl, hl]
      go_wp2
      go_ret
      exact ⟨ret_bool F.out.symm, (Below.refl _ _).alloc (Nat.le_refl _) _⟩
    | true =>
      have F := hid (show taxBad ⟨code, amt⟩ = !([amt].all amtB) by simp [taxBad, hl, H2.out])
      go_enter Tryz.func130, Tryz.ntmps130
      go_wp2_with fail
      refine (letters_any code _ _ hs).mono ?_
      rintro e w' ⟨rfl, rfl⟩
      rw [show ByteArray.data { data := #[] } = #[] from rfl, hl]
      go_wp2_with fail
      refine (amounts_any _ 1 _ [amt] _ rfl (row_new (vs := [.int .i64 amt]) (by simp)) (by omega)).mono ?_
      rintro e w2 ⟨rfl, hb⟩
      generalize [amt].all amtB = q at *
      go_wp2
      go_ret
      exact ⟨ret_bool F.out.symm, (((Below.refl _ _).alloc (Nat.le_refl _) _).alloc (by simp) _).trans (hb.mono (by simp; omega))⟩
  · have F := hid (show taxBad ⟨code, amt⟩ = true by simp [taxBad, h2])
    have d1 : ((code.size : Int) != 2) = true := by simp; omega
    clear h2
    go_enter Tryz.func130, Tryz.ntmps130
    go_wp2
    go_ret
    exact ⟨ret_bool F.out.symm, (Below.refl _ _).alloc (Nat.le_refl _) _⟩
set_option maxHeartbeats 1000000 in
theorem idxLeg_any (n : Int) (nb : Nat) (l : List Leg) (a : Option Addr) (m cap : Nat) (w : World) (hn : l.length = m) (hm : m ≤ 9223372036854775807) (hr : Row w a (cellsL encLeg l)) (hb : ∀ x ∈ l, 0 ≤ x.c ∧ x.c ≤ 255) (hc : w.cell? ⟨nb, 0, none⟩ = some (.int .i64 n)) :
    Calls Tryz.prog 174 #[.slice a m cap, .func (.func 127) #[] #[.pointer (some ⟨nb, 0, none⟩)]] w (IdxIs (l.any (legBad n)) w) := by
  subst hn
  have Hr := hid hr
  have Hb := hid hb
  have Hc := hid hc
  have hlt : nb < w.heap.size := lt_of_cell hc
  clear hr hb hc
  go_enter Tryz.func174, Tryz.ntmps174
  go_wp2
  go_loopw [8] (fun i wr => ∃ k : Nat, k ≤ l.length ∧ i = .int .i64 k ∧ Hid ((l.take k).any (legBad n) = false) ∧ Aside (Below w.heap.size w wr)) (fun i _ => l.length - (RowKit.intOf i).toNat)
  case atStart => exact ⟨0, Nat.zero_le _, rfl, rfl, Below.refl _ _⟩
  case round =>
    obtain ⟨k, hk, rfl, H, B⟩ := hrel
    by_cases hlt2 : k < l.length
    · obtain ⟨b, off, rfl, c1, c2, c3⟩ := leg_at (Hr.out.kept B.out) hlt2
      have hcn : wr.cell? ⟨nb, 0, none⟩ = some (.int .i64 n) := by rw [B.out.cell (p := ⟨nb, 0, none⟩) hlt]; exact Hc.out
      have HS := hid (any_take_succ (p := legBad n) hlt2)
      have HT := hid (any_at (p := legBad n) hlt2)
      have hx := Hb.out _ (List.getElem_mem hlt2)
      generalize l[k] = x at *
      have KEY := hid (legBad_any n x nb wr hcn hx.1 hx.2)
      cases hp : legBad n x with
      | true =>
        have HU := hid (HT.out hp)
        go_wp2_with fail
        refine KEY.out.mono ?_
        rintro e w2 ⟨rfl, hb2⟩
        rw [hp]
        clear hp
        go_wp2
        go_ret
        exact ⟨k, rfl, by rw [HU.out]; exact decide_eq_true (by omega), bt B.out hb2⟩
      | false =>
        have HU := hid hp
        go_wp2_with fail
        refine KEY.out.mono ?_
        rintro e w2 ⟨rfl, hb2⟩
        rw [hp]
        clear hp
        go_wp2
        go_roundw
        case rel => exact ⟨k + 1, by omega, by go_num, hid (by rw [HS.out, H.out, HU.out]; rfl), bt B.out hb2⟩
        case measure => simp [RowKit.intOf]; omega
    · obtain rfl : k = l.length := by omega
      have HU := hid (show l.any (legBad n) = false by have := H.out; rw [List.take_length] at this; exact this)
      clear H
      go_wp2
      go_ret
      exact ⟨-1, rfl, by rw [HU.out]; decide, B.out⟩
set_option maxHeartbeats 1000000 in
theorem idxTax_any (l : List Tax) (a : Option Addr) (m cap : Nat) (w : World) (hn : l.length = m) (hm : m ≤ 9223372036854775807) (hr : Row w a (cellsL encTax l)) (hb : ∀ x ∈ l, x.code.size ≤ maxLen) :
    Calls Tryz.prog 175 #[.slice a m cap, .func (.func 130) #[] #[]] w (IdxIs (l.any taxBad) w) := by
  subst hn
  have Hr := hid hr
  have Hb := hid hb
  clear hr hb
  go_enter Tryz.func175, Tryz.ntmps175
  go_wp2
  go_loopw [8] (fun i wr => ∃ k : Nat, k ≤ l.length ∧ i = .int .i64 k ∧ Hid ((l.take k).any taxBad = false) ∧ Aside (Below w.heap.size w wr)) (fun i _ => l.length - (RowKit.intOf i).toNat)
  case atStart => exact ⟨0, Nat.zero_le _, rfl, rfl, Below.refl _ _⟩
  case round =>
    obtain ⟨k, hk, rfl, H, B⟩ := hrel
    by_cases hlt2 : k < l.length
    · obtain ⟨b, off, rfl, c1, c2⟩ := tax_at (Hr.out.kept B.out) hlt2
      have HS := hid (any_take_succ (p := taxBad) hlt2)
      have HT := hid (any_at (p := taxBad) hlt2)
      have hx := Hb.out _ (List.getElem_mem hlt2)
      generalize l[k] = x at *
      have KEY := hid (taxBad_any x wr hx)
      clear hx
      cases hp : taxBad x with
      | true =>
        have HU := hid (HT.out hp)
        go_wp2_with fail
        refine KEY.out.mono ?_
        rintro e w2 ⟨rfl, hb2⟩
        rw [hp]
        clear hp
        go_wp2
        go_ret
        exact ⟨k, rfl, by rw [HU.out]; exact decide_eq_true (by omega), bt B.out hb2⟩
      | false =>
        have HU := hid hp
        go_wp2_with fail
        refine KEY.out.mono ?_
        rintro e w2 ⟨rfl, hb2⟩
        rw [hp]
        clear hp
        go_wp2
        go_roundw
        case rel => exact ⟨k + 1, by omega, by go_num, hid (by rw [HS.out, H.out, HU.out]; rfl), bt B.out hb2⟩
        case measure => simp [RowKit.intOf]; omega
    · obtain rfl : k = l.length := by omega
      have HU := hid (show l.any taxBad = false by have := H.out; rw [List.take_length] at this; exact this)
      clear H
      go_wp2
      go_ret
      exact ⟨-1, rfl, by rw [HU.out]; decide, B.out⟩
set_option maxHeartbeats 400000 in
theorem hasLeg_any (n : Int) (nb : Nat) (l : List Leg) (a : Option Addr) (m cap : Nat) (w : World) (hn : l.length = m) (hm : m ≤ 9223372036854775807) (hr : Row w a (cellsL encLeg l)) (hb : ∀ x ∈ l, 0 ≤ x.c ∧ x.c ≤ 255) (hc : w.cell? ⟨nb, 0, none⟩ = some (.int .i64 n)) :
    Calls Tryz.prog 126 #[.slice a m cap, .func (.func 127) #[] #[.pointer (some ⟨nb, 0, none⟩)]] w fun e w' => e = .returned (.bool (l.any (legBad n))) ∧ Below w.heap.size w w' := by
  have KEY := hid (idxLeg_any n nb l a m cap w hn hm hr hb hc)
  clear hr hb hc hn
  go_enter Tryz.func126, Tryz.ntmps126
  go_wp2_with fail
  refine KEY.out.mono ?_
  rintro e w2 ⟨r, rfl, hr, hb2⟩
  have HR := hid hr
  clear hr
  go_wp2
  go_ret
  exact ⟨ret_bool (by first | exact HR.out | (rw [← HR.out])), hb2⟩
set_option maxHeartbeats 400000 in
theorem hasTax_any (l : List Tax) (a : Option Addr) (m cap : Nat) (w : World) (hn : l.length = m) (hm : m ≤ 9223372036854775807) (hr : Row w a (cellsL encTax l)) (hb : ∀ x ∈ l, x.code.size ≤ maxLen) :
    Calls Tryz.prog 129 #[.slice a m cap, .func (.func 130) #[] #[]] w fun e w' => e = .returned (.bool (l.any taxBad)) ∧ Below w.heap.size w w' := by
  have KEY := hid (idxTax_any l a m cap w hn hm hr hb)
  clear hr hb hn
  go_enter Tryz.func129, Tryz.ntmps129
  go_wp2_with fail
  refine KEY.out.mono ?_
  rintro e w2 ⟨r, rfl, hr, hb2⟩
  have HR := hid hr
  clear hr
  go_wp2
  go_ret
  exact ⟨ret_bool (by first | exact HR.out | (rw [← HR.out])), hb2⟩
end Go.Proofs.YtmhbpifhpolghaaGreat
end
section
namespace Go.Proofs.YtmhbpifhpolghaaGreat
open Go.RowKit Go.Lib Go.Tk Go.Shelf Go.Vc Go.Sx
structure Tid where
  c : Int
  r : Int
deriving DecidableEq, Inhabited
structure Kid where
  t : Tid
  i : Int
deriving DecidableEq, Inhabited
structure Cpn where
  l : Leg
  v : Int
  s : Int
  n : Int
deriving DecidableEq, Inhabited
structure OwnV where
  k : Cpn
  away : Bool
  dst : Int
  paid : Bool
  asked : Bool
deriving DecidableEq, Inhabited
structure HeldV where
  k : Cpn
  here : Bool
  paid : Bool
  wanted : Bool
  billed : Bool
deriving DecidableEq, Inhabited
structure MsV where
  kind : Int
  key : Kid
  k : Cpn
  amt : Int
  code : Int
deriving DecidableEq, Inhabited
structure OutV where
  dst : Int
  m : MsV
deriving DecidableEq, Inhabited
def tid0 : Tid := ⟨0, 0⟩
def kid0 : Kid := ⟨⟨0, 0⟩, 0⟩
def leg0 : Leg := ⟨0, 0, 0⟩
def own0 : OwnV := ⟨⟨⟨0, 0, 0⟩, 0, 0, 0⟩, false, 0, false, false⟩
def held0 : HeldV := ⟨⟨⟨0, 0, 0⟩, 0, 0, 0⟩, false, false, false, false⟩
def tidS (t : Tid) : List SV := [.val (.int .u8 t.c), .val (.int .u64 t.r)]
def kidS (k : Kid) : List SV := [.val (.int .u8 k.t.c), .val (.int .u64 k.t.r), .val (.int .u8 k.i)]
def legS' (l : Leg) : List SV := [.val (.int .u8 l.c), .val (.int .u16 l.f), .val (.int .u32 l.x)]
def ownS (o : OwnV) : List SV := [.val (.int .u8 o.k.l.c), .val (.int .u16 o.k.l.f), .val (.int .u32 o.k.l.x), .val (.int .i64 o.k.v), .val (.int .u8 o.k.s), .val (.int .u32 o.k.n), .val (.bool o.away), .val (.int .u8 o.dst), .val (.bool o.paid), .val (.bool o.asked)]
def heldS (o : HeldV) : List SV := [.val (.int .u8 o.k.l.c), .val (.int .u16 o.k.l.f), .val (.int .u32 o.k.l.x), .val (.int .i64 o.k.v), .val (.int .u8 o.k.s), .val (.int .u32 o.k.n), .val (.bool o.here), .val (.bool o.paid), .val (.bool o.wanted), .val (.bool o.billed)]
def valsL (l : List SV) : List Value := l.map fun v => match v with
  | .val u => u
  | _ => undef
def kidV (k : Kid) : Value := .agg #[.int .u8 k.t.c, .int .u64 k.t.r, .int .u8 k.i]
def tidV (t : Tid) : Value := .agg #[.int .u8 t.c, .int .u64 t.r]
def ownL (o : OwnV) : List Value := [.int .u8 o.k.l.c, .int .u16 o.k.l.f, .int .u32 o.k.l.x, .int .i64 o.k.v, .int .u8 o.k.s, .int .u32 o.k.n, .bool o.away, .int .u8 o.dst, .bool o.paid, .bool o.asked]
def heldL (o : HeldV) : List Value := [.int .u8 o.k.l.c, .int .u16 o.k.l.f, .int .u32 o.k.l.x, .int .i64 o.k.v, .int .u8 o.k.s, .int .u32 o.k.n, .bool o.here, .bool o.paid, .bool o.wanted, .bool o.billed]
def ownW (o : OwnV) : Value := .agg (ownL o).toArray
def heldW (o : HeldV) : Value := .agg (heldL o).toArray
def TidOk (t : Tid) : Prop := (0 ≤ t.c ∧ t.c ≤ 255) ∧ 0 ≤ t.r ∧ t.r ≤ 18446744073709551615
def KidOk (k : Kid) : Prop := TidOk k.t ∧ 0 ≤ k.i ∧ k.i ≤ 255
theorem wf_u8 {x : Int} (h : 0 ≤ x ∧ x ≤ 255) : (Lit.int .u8 x).wf = true := by simp [Lit.wf, IntKind.min, IntKind.max, IntKind.signed, IntKind.bits]; omega
theorem wf_u64 {x : Int} (h : 0 ≤ x ∧ x ≤ 18446744073709551615) : (Lit.int .u64 x).wf = true := by simp [Lit.wf, IntKind.min, IntKind.max, IntKind.signed, IntKind.bits]; omega
theorem cellsTick : Tryz.prog.cellsOf 39 = 2 := by kernel_rfl
theorem cellsKey : Tryz.prog.cellsOf 44 = 3 := by kernel_rfl
theorem cellsU8 : Tryz.prog.cellsOf 5 = 1 := by kernel_rfl
theorem cellsU64 : Tryz.prog.cellsOf 37 = 1 := by kernel_rfl
theorem typesTwo : ∃ n, Tryz.prog.types.size = n + 2 := ⟨Tryz.prog.types.size - 2, by have : 2 ≤ Tryz.prog.types.size := of_decide_eq_true (by kernel_rfl); omega⟩
theorem lits_tid {t : Tid} (h : TidOk t) (n : Nat) : Tryz.prog.keyLits (n + 2) 39 [.int .u8 t.c, .int .u64 t.r] = some [.int .u8 t.c, .int .u64 t.r] := by
  rw [tkKeyStruct Tryz.underlying39 _ _ (by rw [cellsTick]; rfl) (by kernel_rfl)]
  simp [cellsU8, cellsU64, tkKeyInt Tryz.underlying5 n (wf_u8 h.1), tkKeyInt Tryz.underlying37 n (wf_u64 h.2)]
theorem keyOf_tid {t : Tid} (h : TidOk t) : ∃ l, keyOf Tryz.prog 39 (tidV t) = some l := by
  have h1 : Tryz.prog.keyType 39 = true := by kernel_rfl
  have h2 : (tidV t).formed Tryz.prog 39 = true := by simp [tidV, Value.formed, Tryz.underlying39, cellsTick]
  obtain ⟨n, hn⟩ := typesTwo
  have h3 := lits_tid h (n + 1)
  refine ⟨.string (keyBytes [.int .u8 t.c, .int .u64 t.r]), ?_⟩
  unfold keyOf
  rw [Tryz.underlying39]
  simp only [h1, h2, Bool.and_true, if_true, tidV, Value.cells, hn]
  rw [show n + 2 + 1 = n + 1 + 2 from rfl, h3]; rfl
theorem keyOf_kid {k : Kid} (h : KidOk k) : ∃ l, keyOf Tryz.prog 44 (kidV k) = some l := by
  have h1 : Tryz.prog.keyType 44 = true := by kernel_rfl
  have h2 : (kidV k).formed Tryz.prog 44 = true := by simp [kidV, Value.formed, Tryz.underlying44, cellsKey]
  obtain ⟨n, hn⟩ := typesTwo
  have h3 : Tryz.prog.keyLits (n + 3) 44 [.int .u8 k.t.c, .int .u64 k.t.r, .int .u8 k.i] = some [.int .u8 k.t.c, .int .u64 k.t.r, .int .u8 k.i] := by
    rw [tkKeyStruct Tryz.underlying44 _ _ (by rw [cellsKey]; rfl) (by kernel_rfl)]
    simp [cellsTick, cellsU8, lits_tid h.1 n, tkKeyInt Tryz.underlying5 (n + 1) (wf_u8 h.2)]
  refine ⟨.string (keyBytes [.int .u8 k.t.c, .int .u64 k.t.r, .int .u8 k.i]), ?_⟩
  unfold keyOf
  rw [Tryz.underlying44]
  simp only [h1, h2, Bool.and_true, if_true, kidV, Value.cells, hn]
  rw [show n + 2 + 1 = n + 3 from rfl, h3]; rfl
def tidK : KeyKind Tryz.prog 39 Tid where
  kv := tidV
  ok := TidOk
  inj := fun {x y} h => by
    obtain ⟨a, b⟩ := x; obtain ⟨c, d⟩ := y
    simp only [tidV, Value.agg.injEq, Array.mk.injEq, List.cons.injEq, Value.int.injEq, true_and, and_true] at h
    rw [h.1, h.2]
  keyed := keyB_ok (by kernel_rfl)
  reads := keyOf_tid
def kidK : KeyKind Tryz.prog 44 Kid where
  kv := kidV
  ok := KidOk
  inj := fun {x y} h => by
    obtain ⟨⟨a, b⟩, e⟩ := x; obtain ⟨⟨c, d⟩, f⟩ := y
    simp only [kidV, Value.agg.injEq, Array.mk.injEq, List.cons.injEq, Value.int.injEq, true_and, and_true] at h
    rw [h.1, h.2.1, h.2.2]
  keyed := keyB_ok (by kernel_rfl)
  reads := keyOf_kid
abbrev OwnsV := List (Kid × OwnV)
abbrev HeldsV := List (Kid × HeldV)
def ownsF (L : OwnsV) : SC := .fam (mapT kidK ownW L)
def heldsF (L : HeldsV) : SC := .fam (mapT kidK heldW L)
def OT : TypeId := 107
def HT : TypeId := 108
theorem zero_own (w : World) : (zeroValue 53).run Tryz.prog w = .ok (ownW own0) w := still_run (by kernel_rfl) w
theorem zero_held (w : World) : (zeroValue 55).run Tryz.prog w = .ok (heldW held0) w := still_run (by kernel_rfl) w
theorem look_owns (L : OwnsV) {k : Kid} (hk : KidOk k) : OpG Tryz.prog (isLk OT true) lkXY [.map 0 0, .agg (kidS k)] [((0, 0), ownsF L)] [] (.tup [.agg (ownS ((lkt L k).getD own0)), .val (.bool (lkt L k).isSome)]) [] :=
  look_map (K := kidK) (encS := fun o => .agg (ownS o)) own0 L k Tryz.underlying107 zero_own (fun _ _ => rfl) (fun _ => rfl) hk (fun _ => rfl)
theorem look_helds (L : HeldsV) {k : Kid} (hk : KidOk k) : OpG Tryz.prog (isLk HT true) lkXY [.map 0 0, .agg (kidS k)] [((0, 0), heldsF L)] [] (.tup [.agg (heldS ((lkt L k).getD held0)), .val (.bool (lkt L k).isSome)]) [] :=
  look_map (K := kidK) (encS := fun o => .agg (heldS o)) held0 L k Tryz.underlying108 zero_held (fun _ _ => rfl) (fun _ => rfl) hk (fun _ => rfl)
theorem upd_owns (L : OwnsV) {k : Kid} (hk : KidOk k) (o : OwnV) {L' : OwnsV} (hp : (putt L k o).Perm L') : OpG Tryz.prog (isUp OT) upXYZ [.map 0 0, .agg (kidS k), .agg (ownS o)] [] [((0, 0), ownsF L)] (.val undef) [((0, 0), ownsF L')] :=
  upd_map (K := kidK) L L' k o Tryz.underlying107 hp hk (fun _ => rfl) (fun _ => rfl)
theorem upd_helds (L : HeldsV) {k : Kid} (hk : KidOk k) (o : HeldV) {L' : HeldsV} (hp : (putt L k o).Perm L') : OpG Tryz.prog (isUp HT) upXYZ [.map 0 0, .agg (kidS k), .agg (heldS o)] [] [((0, 0), heldsF L)] (.val undef) [((0, 0), heldsF L')] :=
  upd_map (K := kidK) L L' k o Tryz.underlying108 hp hk (fun _ => rfl) (fun _ => rfl)
theorem len_helds (L : HeldsV) : OpG Tryz.prog (isLenM Tryz.prog) lenX [.map 0 0] [((0, 0), heldsF L)] [] (.val (.int .i64 (L.length : Int))) [] := len_map L
end Go.Proofs.YtmhbpifhpolghaaGreat
end
