/- Open, Flat, OpA, OpB, Bw, Bs1, Bs2, Tick19, Tb1, Tb2, Tb3, EbP4. -/
import Derived.WideShapes
import Derived.Lib.SmallJoins
import Derived.Test.YtmhbpifhpolghaaGreatM2efc9fd
set_option maxRecDepth 100000
set_option linter.unusedVariables false
set_option linter.unusedSimpArgs false
set_option linter.unusedSectionVars false
section
namespace Go.Proofs.YtmhbpifhpolghaaGreat
open Go.RowKit Go.Lib Go.Tk Go.WideShapes Go.Joins Go.ChangeShapes
structure SaleW (s : SaleV) : Prop where
  name : s.name.size ≤ maxLen
  legs : ∀ l ∈ s.legs, LegOk l
  taxes : ∀ t ∈ s.taxes, TaxOk t
  fare : -9223372036854775808 ≤ s.fare ∧ s.fare ≤ 9223372036854775807
  pen : -9223372036854775808 ≤ s.pen ∧ s.pen ≤ 9223372036854775807
  nl : s.legs.length ≤ maxLen
  nt : s.taxes.length ≤ maxLen
theorem SaleW.small {s : SaleV} (h : SaleW s) (h1 : s.legs.length ≤ 1000) (h2 : s.taxes.length ≤ 1000) : SaleOk s := ⟨h.name, h.legs, h.taxes, h.fare, h.pen, h1, h2⟩
theorem wfi64 {a : Int} (h : (Lit.int .i64 a).wf = true) : -9223372036854775808 ≤ a ∧ a ≤ 9223372036854775807 := by
  simpa [Lit.wf, IntKind.min, IntKind.max, IntKind.signed, IntKind.bits] using h
theorem wfu8 {a : Int} (h : (Lit.int .u8 a).wf = true) : 0 ≤ a ∧ a ≤ 255 := by
  simpa [Lit.wf, IntKind.min, IntKind.max, IntKind.signed, IntKind.bits] using h
theorem wfu16 {a : Int} (h : (Lit.int .u16 a).wf = true) : 0 ≤ a ∧ a ≤ 65535 := by
  simpa [Lit.wf, IntKind.min, IntKind.max, IntKind.signed, IntKind.bits] using h
theorem wfu32 {a : Int} (h : (Lit.int .u32 a).wf = true) : 0 ≤ a ∧ a ≤ 4294967295 := by
  simpa [Lit.wf, IntKind.min, IntKind.max, IntKind.signed, IntKind.bits] using h
theorem wfu64 {a : Int} (h : (Lit.int .u64 a).wf = true) : 0 ≤ a ∧ a ≤ 18446744073709551615 := by
  simpa [Lit.wf, IntKind.min, IntKind.max, IntKind.signed, IntKind.bits] using h
theorem len2 {cs : List Value} (h : cs.length = 2) : ∃ a b, cs = [a, b] := by
  match cs, h with
  | [a, b], _ => exact ⟨a, b, rfl⟩
theorem len3 {cs : List Value} (h : cs.length = 3) : ∃ a b c, cs = [a, b, c] := by
  match cs, h with
  | [a, b, c], _ => exact ⟨a, b, c, rfl⟩
variable {H : Type} {enc : TypeId × Value → H} {w : World} {base : Nat} {spare : Nat → Bool} {held : Bool}
set_option maxRecDepth 100000 in
theorem leg_cells {n : Nat} {cs : List Value} {y : DataW H × List MemPlace} (hl : cs.length = 3) (h : DataW.trod enc Tryz.prog w base spare held n 48 cs = some y) : ∃ l : Leg, encLeg l = cs ∧ LegOk l := by
  obtain ⟨_, m, hf⟩ := struct_fields Tryz.underlying48 h
  obtain ⟨c0, c1, c2, rfl⟩ := len3 hl
  simp only [List.forall_mem_cons] at hf
  obtain ⟨⟨y0, h0⟩, ⟨y1, h1⟩, ⟨y2, h2⟩, -⟩ := hf
  obtain ⟨a0, e0, w0⟩ := int_cell Tryz.underlying5 h0
  obtain ⟨a1, e1, w1⟩ := int_cell Tryz.underlying45 h1
  obtain ⟨a2, e2, w2⟩ := int_cell Tryz.underlying46 h2
  have f0 : c0 = .int .u8 a0 := by simpa [show Tryz.prog.cellsOf 5 = 1 by kernel_rfl] using e0
  have f1 : c1 = .int .u16 a1 := by simpa [show Tryz.prog.cellsOf 45 = 1 by kernel_rfl] using e1
  have f2 : c2 = .int .u32 a2 := by simpa [show Tryz.prog.cellsOf 46 = 1 by kernel_rfl] using e2
  exact ⟨⟨a0, a1, a2⟩, by rw [f0, f1, f2]; rfl, wfu8 w0, wfu16 w1, wfu32 w2⟩
set_option maxRecDepth 100000 in
theorem tax_cells {n : Nat} {cs : List Value} {y : DataW H × List MemPlace} (hl : cs.length = 2) (h : DataW.trod enc Tryz.prog w base spare held n 172 cs = some y) : ∃ l : Tax, encTax l = cs ∧ TaxOk l := by
  obtain ⟨_, m, hf⟩ := struct_fields Tryz.underlying172 h
  obtain ⟨c0, c1, rfl⟩ := len2 hl
  simp only [List.forall_mem_cons] at hf
  obtain ⟨⟨y0, h0⟩, ⟨y1, h1⟩, -⟩ := hf
  obtain ⟨a0, e0, w0⟩ := string_cell Tryz.underlying9 h0
  obtain ⟨a1, e1, w1⟩ := int_cell Tryz.underlying2 h1
  have f0 : c0 = .string a0 := by simpa [show Tryz.prog.cellsOf 9 = 1 by kernel_rfl] using e0
  have f1 : c1 = .int .i64 a1 := by simpa [show Tryz.prog.cellsOf 2 = 1 by kernel_rfl] using e1
  exact ⟨⟨a0, a1⟩, by rw [f0, f1]; rfl, w0, wfi64 w1⟩
theorem legs_cell {n : Nat} {v : Value} {y : DataW H × List MemPlace} (h : DataW.trod enc Tryz.prog w base spare held n 33 [v] = some y) :
    ∃ (a : Option Addr) (l : List Leg) (c : Nat), v = .slice a l.length c ∧ Row w a (cellsL encLeg l) ∧ (a = none → c = 0) ∧ l.length ≤ maxLen ∧ ∀ x ∈ l, LegOk x := by
  obtain ⟨a, len, cap, rows, rfl, hlen, hrows, hr, hn, hm, _⟩ := slice_rows (fun cs => ∃ l : Leg, encLeg l = cs ∧ LegOk l) Tryz.underlying33 (show Tryz.prog.cellsOf 48 = 3 by kernel_rfl) (by decide) (fun n cs y hl h => leg_cells hl h) h
  obtain ⟨l, hl⟩ := listOf (enc := fun x : { x : Leg // LegOk x } => encLeg x.1) (Q := fun cs => ∃ l : Leg, encLeg l = cs ∧ LegOk l) (fun r ⟨x, hx, hk⟩ => ⟨⟨x, hk⟩, hx⟩) rows (fun r hr => (hrows r hr).2)
  have hl2 : (l.map (·.1)).map encLeg = rows := by rw [List.map_map]; exact hl
  have hl3 : (l.map (·.1)).length = len := by rw [← hlen, ← hl2]; simp
  refine ⟨a, l.map (·.1), cap, by rw [hl3], ?_, hn, by rw [hl3]; exact hm, fun x hx => ?_⟩
  · unfold cellsL; rw [hl2]; exact hr
  · obtain ⟨z, _, rfl⟩ := List.mem_map.1 hx; exact z.2
theorem taxes_cell {n : Nat} {v : Value} {y : DataW H × List MemPlace} (h : DataW.trod enc Tryz.prog w base spare held n 34 [v] = some y) :
    ∃ (a : Option Addr) (l : List Tax) (c : Nat), v = .slice a l.length c ∧ Row w a (cellsL encTax l) ∧ (a = none → c = 0) ∧ l.length ≤ maxLen ∧ ∀ x ∈ l, TaxOk x := by
  obtain ⟨a, len, cap, rows, rfl, hlen, hrows, hr, hn, hm, _⟩ := slice_rows (fun cs => ∃ l : Tax, encTax l = cs ∧ TaxOk l) Tryz.underlying34 (show Tryz.prog.cellsOf 172 = 2 by kernel_rfl) (by decide) (fun n cs y hl h => tax_cells hl h) h
  obtain ⟨l, hl⟩ := listOf (enc := fun x : { x : Tax // TaxOk x } => encTax x.1) (Q := fun cs => ∃ l : Tax, encTax l = cs ∧ TaxOk l) (fun r ⟨x, hx, hk⟩ => ⟨⟨x, hk⟩, hx⟩) rows (fun r hr => (hrows r hr).2)
  have hl2 : (l.map (·.1)).map encTax = rows := by rw [List.map_map]; exact hl
  have hl3 : (l.map (·.1)).length = len := by rw [← hlen, ← hl2]; simp
  refine ⟨a, l.map (·.1), cap, by rw [hl3], ?_, hn, by rw [hl3]; exact hm, fun x hx => ?_⟩
  · unfold cellsL; rw [hl2]; exact hr
  · obtain ⟨z, _, rfl⟩ := List.mem_map.1 hx; exact z.2
end Go.Proofs.YtmhbpifhpolghaaGreat
end
section
namespace Go.Tk
open Go.RowKit Go.Lib Go.WideShapes
variable {H : Type} {enc : TypeId × Value → H} {P : Program} {w : World} {base : Nat} {spare : Nat → Bool} {held : Bool}
def flatF (P : Program) (rec : TypeId → Option (List TypeId)) (stop : Nat) : List Field → Nat → Option (List TypeId)
  | [], o => if o = stop then some [] else none
  | fd :: fs, o => if fd.offset = o then (rec fd.type).bind fun ks => (flatF P rec stop fs (o + P.cellsOf fd.type)).map fun r => ks ++ r else none
def flatT (P : Program) : Nat → TypeId → Option (List TypeId)
  | 0, _ => none
  | f + 1, t => match P.underlying t with
    | some (.struct fs) => flatF P (flatT P f) (P.cellsOf t) fs.toList 0
    | some (.array _ _) => none
    | some (.tuple _) => none
    | _ => if P.cellsOf t = 1 then some [t] else none
def FlatAs (enc : TypeId × Value → H) (P : Program) (w : World) (base : Nat) (spare : Nat → Bool) (held : Bool) : List TypeId → List Value → Prop
  | [], cs => cs = []
  | t :: ts, cs => ∃ v cs', cs = v :: cs' ∧ (∃ n y, DataW.trod enc P w base spare held n t [v] = some y) ∧ FlatAs enc P w base spare held ts cs'
theorem FlatAs.append : ∀ {ts us : List TypeId} {cs ds : List Value}, FlatAs enc P w base spare held ts cs → FlatAs enc P w base spare held us ds → FlatAs enc P w base spare held (ts ++ us) (cs ++ ds)
  | [], _, _, _, h, k => by cases h; exact k
  | _ :: _, _, _, _, ⟨v, cs', e, hv, h⟩, k => by subst e; exact ⟨v, _, rfl, hv, h.append k⟩
theorem flat_fields {rec : TypeId → Option (List TypeId)} {n : Nat} (cs : List Value)
    (ih : ∀ t ts, rec t = some ts → ∀ cs y, DataW.trod enc P w base spare held n t cs = some y → cs.length = P.cellsOf t → FlatAs enc P w base spare held ts cs) :
    ∀ (fs : List Field) (o : Nat) (ts : List TypeId), flatF P rec cs.length fs o = some ts → o ≤ cs.length →
      (∀ fd ∈ fs, ∃ y, DataW.trod enc P w base spare held n fd.type ((cs.drop fd.offset).take (P.cellsOf fd.type)) = some y ∧ fd.offset + P.cellsOf fd.type ≤ cs.length) → FlatAs enc P w base spare held ts (cs.drop o)
  | [], o, ts, h, ho, _ => by
    unfold flatF at h
    split at h
    · cases h; rename_i e; rw [e, List.drop_length]; rfl
    · cases h
  | fd :: fs, o, ts, h, ho, hf => by
    unfold flatF at h
    split at h
    case isFalse => cases h
    rename_i e
    cases hk : rec fd.type with
    | none => rw [hk] at h; cases h
    | some ks =>
      rw [hk] at h
      cases hr : flatF P rec cs.length fs (o + P.cellsOf fd.type) with
      | none => rw [hr] at h; cases h
      | some r =>
        rw [hr] at h
        cases h
        obtain ⟨y, hy, hle⟩ := hf fd List.mem_cons_self
        rw [e] at hy hle
        have h1 := ih fd.type ks hk _ y hy (by rw [List.length_take, List.length_drop]; omega)
        have h2 := flat_fields cs ih fs _ r hr hle (fun fd' hm => hf fd' (List.mem_cons_of_mem _ hm))
        have : cs.drop o = (cs.drop o).take (P.cellsOf fd.type) ++ cs.drop (o + P.cellsOf fd.type) := by
          rw [← List.drop_drop, List.take_append_drop]
        rw [this]
        exact h1.append h2
theorem flatF_room {rec : TypeId → Option (List TypeId)} {stop : Nat} : ∀ (fs : List Field) (o : Nat) (ts : List TypeId), flatF P rec stop fs o = some ts → o ≤ stop ∧ ∀ fd ∈ fs, fd.offset + P.cellsOf fd.type ≤ stop
  | [], o, ts, h => by
    unfold flatF at h
    split at h
    · rename_i e; exact ⟨by omega, by simp⟩
    · cases h
  | fd :: fs, o, ts, h => by
    unfold flatF at h
    split at h
    case isFalse => cases h
    rename_i e
    cases hk : rec fd.type with
    | none => rw [hk] at h; cases h
    | some ks =>
      rw [hk] at h
      cases hr : flatF P rec stop fs (o + P.cellsOf fd.type) with
      | none => rw [hr] at h; cases h
      | some r =>
        obtain ⟨h1, h2⟩ := flatF_room fs _ r hr
        refine ⟨by omega, fun f hf => ?_⟩
        rcases List.mem_cons.1 hf with rfl | hf
        · omega
        · exact h2 f hf
theorem flat_of : ∀ (f : Nat) (t : TypeId) (ts : List TypeId), flatT P f t = some ts → ∀ (n : Nat) (cs : List Value) y, DataW.trod enc P w base spare held n t cs = some y → cs.length = P.cellsOf t → FlatAs enc P w base spare held ts cs
  | 0, t, ts, h => by cases h
  | f + 1, t, ts, h => by
    intro n cs y hy hl
    unfold flatT at h
    split at h
    · rename_i fs hu
      obtain ⟨h1, m, h2⟩ := struct_fields hu hy
      obtain ⟨r1, r2⟩ := flatF_room fs.toList 0 ts h
      rw [← hl] at h r2
      have := flat_fields (n := m) cs (fun t' ts' ht cs' y' hy' hl' => flat_of f t' ts' ht m cs' y' hy' hl') fs.toList 0 ts h (Nat.zero_le _) (fun fd hm => by obtain ⟨y, hy⟩ := h2 fd hm; exact ⟨y, hy, r2 fd hm⟩)
      simpa using this
    · cases h
    · cases h
    · split at h
      · rename_i hc
        cases h
        rw [hc] at hl
        match cs, hl with
        | [v], _ => exact ⟨v, [], rfl, ⟨n, y, hy⟩, rfl⟩
      · cases h
end Go.Tk
end
section
namespace Go.Proofs.YtmhbpifhpolghaaGreat
open Go.RowKit Go.Lib Go.Tk Go.Shelf Go.Vc Go.Sx Go.WideShapes
section
variable {H : Type} {enc : TypeId × Value → H} {w : World} {base : Nat} {spare : Nat → Bool} {held : Bool}
def kidC (k : Kid) : List Value := [.int .u8 k.t.c, .int .u64 k.t.r, .int .u8 k.i]
theorem kid_of {cs : List Value} (h : FlatAs enc Tryz.prog w base spare held [5, 37, 5] cs) : ∃ x : Kid, kidC x = cs ∧ KidOk x := by
  obtain ⟨v0, _, rfl, ⟨n0, y0, h0⟩, v1, _, rfl, ⟨n1, y1, h1⟩, v2, _, rfl, ⟨n2, y2, h2⟩, rfl⟩ := h
  obtain ⟨a0, e0, w0⟩ := int_cell Tryz.underlying5 h0
  obtain ⟨a1, e1, w1⟩ := int_cell Tryz.underlying37 h1
  obtain ⟨a2, e2, w2⟩ := int_cell Tryz.underlying5 h2
  cases e0; cases e1; cases e2
  exact ⟨⟨⟨a0, a1⟩, a2⟩, rfl, ⟨wfu8 w0, wfu64 w1⟩, wfu8 w2⟩
end
structure Act15 where
  d : Int
  s : SaleV
  A : SaleA
  dv : DocV
  da : DocA
  k : Kid
  o : OwnV
  h : HeldV
def saleC (s : SaleV) (A : SaleA) : List Value := [.string s.name, .slice A.la s.legs.length A.lc, .int .i64 s.fare, .slice A.ta s.taxes.length A.tc, .int .i64 s.pen]
def act15C (x : Act15) : List Value := [.int .i64 x.d] ++ (saleC x.s x.A ++ (docL (x.dv, x.da) ++ (kidC x.k ++ (ownL x.o ++ heldL x.h))))
def I64Ok (v : Int) : Prop := -9223372036854775808 ≤ v ∧ v ≤ 9223372036854775807
structure Act15In (w : World) (x : Act15) : Prop where
  at_ : SaleAt w x.s x.A
  ok : SaleW x.s
  da : SaleAt w x.dv.s ⟨x.da.la, x.da.lc, x.da.ta, x.da.tc⟩
  dok : SaleW x.dv.s
  dv : Row w x.da.va (x.dv.vals.map (.int .i64))
  dvn : x.da.va = none → x.da.vc = 0
  dvm : x.dv.vals.length ≤ maxLen
  dt : TidOk x.dv.t
  k : KidOk x.k
  ov : I64Ok x.o.k.v
  os : 0 ≤ x.o.k.s ∧ x.o.k.s ≤ 255
  ot : 0 ≤ x.o.dst ∧ x.o.dst ≤ 255
  hv : I64Ok x.h.k.v
  on : 0 ≤ x.o.k.n ∧ x.o.k.n ≤ 4294967295
  hs : 0 ≤ x.h.k.s ∧ x.h.k.s ≤ 255
section
variable {H : Type} {enc : TypeId × Value → H} {w : World} {base : Nat} {spare : Nat → Bool} {held : Bool}
theorem FlatAs.split : ∀ {ts us : List TypeId} {cs : List Value}, FlatAs enc Tryz.prog w base spare held (ts ++ us) cs → ∃ a b, cs = a ++ b ∧ FlatAs enc Tryz.prog w base spare held ts a ∧ FlatAs enc Tryz.prog w base spare held us b
  | [], us, cs, h => ⟨[], cs, rfl, rfl, h⟩
  | t :: ts, us, cs, ⟨v, cs', e, hv, h⟩ => by
    obtain ⟨a, b, h1, ha, hb⟩ := FlatAs.split h
    subst h1
    subst e
    exact ⟨v :: a, b, rfl, ⟨v, a, rfl, hv, ha⟩, hb⟩
theorem ints15_cell {n : Nat} {v : Value} {y : DataW H × List MemPlace} (h : DataW.trod enc Tryz.prog w base spare held n 40 [v] = some y) :
    ∃ (a : Option Addr) (l : List Int) (c : Nat), v = .slice a l.length c ∧ Row w a (l.map (.int .i64)) ∧ (a = none → c = 0) ∧ l.length ≤ maxLen ∧ ∀ x ∈ l, (Lit.int .i64 x).wf = true := by
  obtain ⟨a, len, cap, rows, rfl, hlen, hrows, hr, hn, hm, _⟩ := slice_rows (fun cs => ∃ x : Int, [.int .i64 x] = cs ∧ (Lit.int .i64 x).wf = true) Tryz.underlying40 (show Tryz.prog.cellsOf 2 = 1 by kernel_rfl) (by decide) (fun n cs y hl h => by obtain ⟨x, e, w⟩ := int_cell Tryz.underlying2 h; exact ⟨x, e.symm, w⟩) h
  obtain ⟨l, hl⟩ := listOf (enc := fun x : { x : Int // (Lit.int .i64 x).wf = true } => [Value.int .i64 x.1]) (Q := fun cs => ∃ x : Int, [Value.int .i64 x] = cs ∧ (Lit.int .i64 x).wf = true) (fun r ⟨x, hx, hk⟩ => ⟨⟨x, hk⟩, hx⟩) rows (fun r hr => (hrows r hr).2)
  have hl2 : (l.map (·.1)).map (fun x => [Value.int .i64 x]) = rows := by rw [List.map_map]; exact hl
  have hl3 : (l.map (·.1)).length = len := by rw [← hlen, ← hl2]; simp
  have hl4 : rows.flatten = (l.map (·.1)).map (.int .i64) := by
    rw [← hl2]
    generalize l.map (·.1) = z
    induction z with
    | nil => rfl
    | cons x r ih => simp [ih]
  refine ⟨a, l.map (·.1), cap, by rw [hl3], ?_, hn, by rw [hl3]; exact hm, fun x hx => ?_⟩
  · rw [← hl4]; exact hr
  · obtain ⟨z, _, rfl⟩ := List.mem_map.1 hx; exact z.2
theorem sale_of {cs : List Value} (h : FlatAs enc Tryz.prog w base spare held [9, 33, 2, 34, 2] cs) : ∃ s A, saleC s A = cs ∧ SaleAt w s A ∧ SaleW s := by
  obtain ⟨v0, _, rfl, ⟨n0, y0, h0⟩, v1, _, rfl, ⟨n1, y1, h1⟩, v2, _, rfl, ⟨n2, y2, h2⟩, v3, _, rfl, ⟨n3, y3, h3⟩, v4, _, rfl, ⟨n4, y4, h4⟩, rfl⟩ := h
  obtain ⟨a0, e0, w0⟩ := string_cell Tryz.underlying9 h0
  cases e0
  obtain ⟨b1, a1, c1, e1, r1, i1, m1, o1⟩ := legs_cell h1
  cases e1
  obtain ⟨a2, e2, w2⟩ := int_cell Tryz.underlying2 h2
  cases e2
  obtain ⟨b3, a3, c3, e3, r3, i3, m3, o3⟩ := taxes_cell h3
  cases e3
  obtain ⟨a4, e4, w4⟩ := int_cell Tryz.underlying2 h4
  cases e4
  exact ⟨⟨a0, a1, a2, a3, a4⟩, ⟨b1, c1, b3, c3⟩, rfl, ⟨r1, r3, i1, i3⟩, ⟨w0, o1, o3, wfi64 w2, wfi64 w4, m1, m3⟩⟩
theorem tid_of {cs : List Value} (h : FlatAs enc Tryz.prog w base spare held [5, 37] cs) : ∃ t : Tid, [Value.int .u8 t.c, .int .u64 t.r] = cs ∧ TidOk t := by
  obtain ⟨v0, _, rfl, ⟨n0, y0, h0⟩, v1, _, rfl, ⟨n1, y1, h1⟩, rfl⟩ := h
  obtain ⟨a0, e0, w0⟩ := int_cell Tryz.underlying5 h0
  cases e0
  obtain ⟨a1, e1, w1⟩ := int_cell Tryz.underlying37 h1
  cases e1
  exact ⟨⟨a0, a1⟩, rfl, wfu8 w0, wfu64 w1⟩
theorem own_of {cs : List Value} (h : FlatAs enc Tryz.prog w base spare held [5, 45, 46, 2, 49, 46, 4, 5, 4, 4] cs) : ∃ o : OwnV, ownL o = cs ∧ I64Ok o.k.v ∧ (0 ≤ o.k.s ∧ o.k.s ≤ 255) ∧ (0 ≤ o.dst ∧ o.dst ≤ 255) ∧ 0 ≤ o.k.n ∧ o.k.n ≤ 4294967295 := by
  obtain ⟨v0, _, rfl, ⟨n0, y0, h0⟩, v1, _, rfl, ⟨n1, y1, h1⟩, v2, _, rfl, ⟨n2, y2, h2⟩, v3, _, rfl, ⟨n3, y3, h3⟩, v4, _, rfl, ⟨n4, y4, h4⟩, v5, _, rfl, ⟨n5, y5, h5⟩, v6, _, rfl, ⟨n6, y6, h6⟩, v7, _, rfl, ⟨n7, y7, h7⟩, v8, _, rfl, ⟨n8, y8, h8⟩, v9, _, rfl, ⟨n9, y9, h9⟩, rfl⟩ := h
  obtain ⟨a0, e0, w0⟩ := int_cell Tryz.underlying5 h0
  cases e0
  obtain ⟨a1, e1, w1⟩ := int_cell Tryz.underlying45 h1
  cases e1
  obtain ⟨a2, e2, w2⟩ := int_cell Tryz.underlying46 h2
  cases e2
  obtain ⟨a3, e3, w3⟩ := int_cell Tryz.underlying2 h3
  cases e3
  obtain ⟨a4, e4, w4⟩ := int_cell Tryz.underlying49 h4
  cases e4
  obtain ⟨a5, e5, w5⟩ := int_cell Tryz.underlying46 h5
  cases e5
  obtain ⟨a6, e6⟩ := bool_cell Tryz.underlying4 h6
  cases e6
  obtain ⟨a7, e7, w7⟩ := int_cell Tryz.underlying5 h7
  cases e7
  obtain ⟨a8, e8⟩ := bool_cell Tryz.underlying4 h8
  cases e8
  obtain ⟨a9, e9⟩ := bool_cell Tryz.underlying4 h9
  cases e9
  exact ⟨⟨⟨⟨a0, a1, a2⟩, a3, a4, a5⟩, a6, a7, a8, a9⟩, rfl, wfi64 w3, wfu8 w4, wfu8 w7, wfu32 w5⟩
theorem held_of {cs : List Value} (h : FlatAs enc Tryz.prog w base spare held [5, 45, 46, 2, 49, 46, 4, 4, 4, 4] cs) : ∃ o : HeldV, heldL o = cs ∧ I64Ok o.k.v ∧ 0 ≤ o.k.s ∧ o.k.s ≤ 255 := by
  obtain ⟨v0, _, rfl, ⟨n0, y0, h0⟩, v1, _, rfl, ⟨n1, y1, h1⟩, v2, _, rfl, ⟨n2, y2, h2⟩, v3, _, rfl, ⟨n3, y3, h3⟩, v4, _, rfl, ⟨n4, y4, h4⟩, v5, _, rfl, ⟨n5, y5, h5⟩, v6, _, rfl, ⟨n6, y6, h6⟩, v7, _, rfl, ⟨n7, y7, h7⟩, v8, _, rfl, ⟨n8, y8, h8⟩, v9, _, rfl, ⟨n9, y9, h9⟩, rfl⟩ := h
  obtain ⟨a0, e0, w0⟩ := int_cell Tryz.underlying5 h0
  cases e0
  obtain ⟨a1, e1, w1⟩ := int_cell Tryz.underlying45 h1
  cases e1
  obtain ⟨a2, e2, w2⟩ := int_cell Tryz.underlying46 h2
  cases e2
  obtain ⟨a3, e3, w3⟩ := int_cell Tryz.underlying2 h3
  cases e3
  obtain ⟨a4, e4, w4⟩ := int_cell Tryz.underlying49 h4
  cases e4
  obtain ⟨a5, e5, w5⟩ := int_cell Tryz.underlying46 h5
  cases e5
  obtain ⟨a6, e6⟩ := bool_cell Tryz.underlying4 h6
  cases e6
  obtain ⟨a7, e7⟩ := bool_cell Tryz.underlying4 h7
  cases e7
  obtain ⟨a8, e8⟩ := bool_cell Tryz.underlying4 h8
  cases e8
  obtain ⟨a9, e9⟩ := bool_cell Tryz.underlying4 h9
  cases e9
  exact ⟨⟨⟨⟨a0, a1, a2⟩, a3, a4, a5⟩, a6, a7, a8, a9⟩, rfl, wfi64 w3, wfu8 w4⟩
theorem five_of {cs : List Value} (h : FlatAs enc Tryz.prog w base spare held [2, 2, 2, 2, 2] cs) : ∃ a b c d e : Int, [Value.int .i64 a, .int .i64 b, .int .i64 c, .int .i64 d, .int .i64 e] = cs := by
  obtain ⟨v0, _, rfl, ⟨n0, y0, h0⟩, v1, _, rfl, ⟨n1, y1, h1⟩, v2, _, rfl, ⟨n2, y2, h2⟩, v3, _, rfl, ⟨n3, y3, h3⟩, v4, _, rfl, ⟨n4, y4, h4⟩, rfl⟩ := h
  obtain ⟨a0, e0, w0⟩ := int_cell Tryz.underlying2 h0
  cases e0
  obtain ⟨a1, e1, w1⟩ := int_cell Tryz.underlying2 h1
  cases e1
  obtain ⟨a2, e2, w2⟩ := int_cell Tryz.underlying2 h2
  cases e2
  obtain ⟨a3, e3, w3⟩ := int_cell Tryz.underlying2 h3
  cases e3
  obtain ⟨a4, e4, w4⟩ := int_cell Tryz.underlying2 h4
  cases e4
  exact ⟨a0, a1, a2, a3, a4, rfl⟩
theorem vals_of {cs : List Value} (h : FlatAs enc Tryz.prog w base spare held [40] cs) : ∃ (a : Option Addr) (l : List Int) (c : Nat), [Value.slice a l.length c] = cs ∧ Row w a (l.map (.int .i64)) ∧ (a = none → c = 0) ∧ l.length ≤ maxLen := by
  obtain ⟨v0, _, rfl, ⟨n0, y0, h0⟩, rfl⟩ := h
  obtain ⟨b0, a0, c0, e0, r0, i0, m0, o0⟩ := ints15_cell h0
  cases e0
  exact ⟨b0, a0, c0, rfl, r0, i0, m0⟩
theorem do_of {cs : List Value} (h : FlatAs enc Tryz.prog w base spare held [3] cs) : ∃ a : Int, [Value.int .i64 a] = cs := by
  obtain ⟨v0, _, rfl, ⟨n0, y0, h0⟩, rfl⟩ := h
  obtain ⟨a0, e0, w0⟩ := int_cell Tryz.underlying3 h0
  cases e0
  exact ⟨a0, rfl⟩
def docTs : List TypeId := [5, 37] ++ ([9, 33, 2, 34, 2] ++ ([40] ++ ([5, 37] ++ ([5, 37] ++ [2, 2, 2, 2, 2]))))
def act15Ts : List TypeId := [3] ++ ([9, 33, 2, 34, 2] ++ (docTs ++ ([5, 37, 5] ++ ([5, 45, 46, 2, 49, 46, 4, 5, 4, 4] ++ [5, 45, 46, 2, 49, 46, 4, 4, 4, 4]))))
theorem doc_of {cs : List Value} (h : FlatAs enc Tryz.prog w base spare held docTs cs) : ∃ (d : DocV) (a : DocA), docL (d, a) = cs ∧ TidOk d.t ∧ SaleAt w d.s ⟨a.la, a.lc, a.ta, a.tc⟩ ∧ SaleW d.s ∧ Row w a.va (d.vals.map (.int .i64)) ∧ (a.va = none → a.vc = 0) ∧ d.vals.length ≤ maxLen := by
  obtain ⟨x1, r1, e1, h1, g1⟩ := FlatAs.split h
  obtain ⟨x2, r2, e2, h2, g2⟩ := FlatAs.split g1
  obtain ⟨x3, r3, e3, h3, g3⟩ := FlatAs.split g2
  obtain ⟨x4, r4, e4, h4, g4⟩ := FlatAs.split g3
  obtain ⟨x5, x6, e5, h5, h6⟩ := FlatAs.split g4
  obtain ⟨t, f1, t1⟩ := tid_of h1
  obtain ⟨s, A, f2, s1, s2⟩ := sale_of h2
  obtain ⟨va, l, vc, f3, v1, v2, v3⟩ := vals_of h3
  obtain ⟨fr, f4, -⟩ := tid_of h4
  obtain ⟨ds, f5, -⟩ := tid_of h5
  obtain ⟨q1, q2, q3, q4, q5, f6⟩ := five_of h6
  refine ⟨⟨t, s, l, fr, ds, q1, q2, q3, q4, q5⟩, ⟨A.la, A.lc, A.ta, A.tc, va, vc⟩, ?_, t1, s1, s2, v1, v2, v3⟩
  rw [e1, e2, e3, e4, e5, ← f1, ← f2, ← f3, ← f4, ← f5, ← f6]
  rfl
theorem act15_of {cs : List Value} (h : FlatAs enc Tryz.prog w base spare held act15Ts cs) : ∃ x : Act15, act15C x = cs ∧ Act15In w x := by
  obtain ⟨x1, r1, e1, h1, g1⟩ := FlatAs.split h
  obtain ⟨x2, r2, e2, h2, g2⟩ := FlatAs.split g1
  obtain ⟨x3, r3, e3, h3, g3⟩ := FlatAs.split g2
  obtain ⟨x4, r4, e4, h4, g4⟩ := FlatAs.split g3
  obtain ⟨x5, x6, e5, h5, h6⟩ := FlatAs.split g4
  obtain ⟨d, f1⟩ := do_of h1
  obtain ⟨s, A, f2, s1, s2⟩ := sale_of h2
  obtain ⟨dv, da, f3, d1, d2, d3, d4, d5, d6⟩ := doc_of h3
  obtain ⟨k, f4, k1⟩ := kid_of h4
  obtain ⟨o, f5, o1, o2, o3, o4⟩ := own_of h5
  obtain ⟨hh, f6, hh1, hh2⟩ := held_of h6
  refine ⟨⟨d, s, A, dv, da, k, o, hh⟩, ?_, ⟨s1, s2, d2, d3, d4, d5, d6, d1, k1, o1, o2, o3, hh1, o4, hh2⟩⟩
  rw [e1, e2, e3, e4, e5, ← f1, ← f2, ← f3, ← f4, ← f5, ← f6]
  rfl
theorem act15_flat : flatT Tryz.prog 6 57 = some act15Ts := by kernel_rfl
theorem acts15_cell {n : Nat} {v : Value} {y : DataW H × List MemPlace} (h : DataW.trod enc Tryz.prog w base spare held n 22 [v] = some y) :
    ∃ (a : Option Addr) (l : List Act15) (c : Nat), v = .slice a l.length c ∧ Row w a (cellsL act15C l) ∧ (a = none → c = 0) ∧ l.length ≤ maxLen ∧ ∀ x ∈ l, Act15In w x := by
  obtain ⟨a, len, cap, rows, rfl, hlen, hrows, hr, hn, hm, _⟩ := slice_rows (fun cs => ∃ l : Act15, act15C l = cs ∧ Act15In w l) Tryz.underlying22 (show Tryz.prog.cellsOf 57 = 46 by kernel_rfl) (by decide)
    (fun n cs y hl h => act15_of (flat_of 6 _ _ act15_flat n cs y h (by rw [hl]; kernel_rfl))) h
  obtain ⟨l, hl⟩ := listOf (enc := fun x : { x : Act15 // Act15In w x } => act15C x.1) (Q := fun cs => ∃ l : Act15, act15C l = cs ∧ Act15In w l) (fun r ⟨x, hx, hk⟩ => ⟨⟨x, hk⟩, hx⟩) rows (fun r hr => (hrows r hr).2)
  have hl2 : (l.map (·.1)).map act15C = rows := by rw [List.map_map]; exact hl
  have hl3 : (l.map (·.1)).length = len := by rw [← hlen, ← hl2]; simp
  refine ⟨a, l.map (·.1), cap, by rw [hl3], ?_, hn, by rw [hl3]; exact hm, fun x hx => ?_⟩
  · unfold cellsL; rw [hl2]; exact hr
  · obtain ⟨z, _, rfl⟩ := List.mem_map.1 hx; exact z.2
end
end Go.Proofs.YtmhbpifhpolghaaGreat
end
section
namespace Go.Proofs.YtmhbpifhpolghaaGreat
open Go.RowKit Go.Lib Go.Tk Go.Shelf Go.Vc Go.Sx
def sale15 : SaleV := ⟨⟨#[68, 79, 69, 47, 74]⟩, [⟨1, 0, 1⟩, ⟨0, 0, 1⟩], 101, [], 20⟩
theorem sale15_ok : SaleOk sale15 where
  name := by unfold maxLen; show (5 : Nat) ≤ _; decide
  legs := by intro l hl; simp [sale15] at hl; rcases hl with rfl | rfl <;> (unfold LegOk; decide)
  taxes := by intro t ht; cases ht
  fare := by decide
  pen := by decide
  nl := by decide
  nt := by decide
def t15 : Tid := ⟨1, 1⟩
def C15 : BookV := ⟨1, 3, [⟨t15, sale15, [51, 50], ⟨0, 0⟩, ⟨0, 0⟩, 0, 101, 0, 0, 0⟩], [(⟨t15, 0⟩, ownNew ⟨1, 0, 1⟩ 51), (⟨t15, 1⟩, ownNew ⟨0, 0, 1⟩ 50)], []⟩
theorem sort_15 : Go.Tk.sortL (restsL 101 2 [1, 1]) = [(1, 0), (1, 1)] := by
  refine (sortL_unique ?_ ?_).symm
  · decide
  · decide
theorem share_15 : shareV 101 [1, 1] = [51, 50] := by
  have e : shareE 101 [1, 1] = 0 := by decide
  unfold shareV
  rw [if_pos e]
  unfold shareL chosen
  have hs : ([1, 1] : List Int).sum = 2 := by decide
  rw [hs, sort_15]
  decide
theorem share15 : shareV sale15.fare (wsOf sale15) = [51, 50] := share_15
theorem iss15 : (bookNew 1 3).issued sale15 = C15 := by unfold BookV.issued docMade; rw [share15]; rfl
def k15 : Kid := ⟨⟨0, 7⟩, 0⟩
def C15b : BookV := { C15 with helds := [(k15, { held0 with wanted := true })] }
def Known15F : Nat := 33
def WakesF15 : Nat := 6
theorem known15_w : CallOK Tryz.prog Known15F [] [] [] (.agg (salS sale15 (.raw 1 0) nilS)) [((1, 0), legD 2 sale15.legs)] := callOK_run 400 [] (by kernel_rfl) (by kernel_rfl)
theorem wakes15_w : CallOK Tryz.prog WakesF15 [] [] [] (.val (.bool true)) [] := by
  have n1 := new_okC (self := 1) (n := 3) (by decide) (by decide)
  have n3 := known15_w
  have n4 := issue_okR (book_new_ok 1 3 (by decide)) sale15_ok (by kernel_rfl)
  rw [iss15] at n4
  have c1 := own_c C15 (k := ⟨t15, 1⟩) ⟨⟨by decide, by decide⟩, by decide, by decide⟩
  rw [show lkt C15.owns ⟨t15, 1⟩ = some (ownNew ⟨0, 0, 1⟩ 50) from rfl] at c1
  have c2 := own_c C15 (k := ⟨t15, 2⟩) ⟨⟨by decide, by decide⟩, by decide, by decide⟩
  rw [show lkt C15.owns ⟨t15, 2⟩ = none from rfl] at c2
  have c3 := setHeld_c C15 (k := k15) ⟨⟨by decide, by decide⟩, by decide, by decide⟩ { held0 with wanted := true }
  rw [show C15.setHE k15 = 0 by kernel_rfl, show C15.setH k15 { held0 with wanted := true } = C15b from rfl] at c3
  have c4 := open_c C15b 0 (by show (2 : Nat) ≤ 1000; decide) (by show (1 : Nat) ≤ 1000; decide)
  rw [show openN C15b 0 = 1 from rfl] at c4
  have c5 := setHeld_c C15b (k := ⟨t15, 0⟩) ⟨⟨by decide, by decide⟩, by decide, by decide⟩ held0
  rw [show C15b.setHE ⟨t15, 0⟩ = 1 by kernel_rfl, show C15b.setH ⟨t15, 0⟩ held0 = C15b from rfl] at c5
  exact callOK_run 900 [hC 1 0 n1, hC 4 1 n3, hC 4 2 n4, hC 5 4 c1, hC 6 4 c2, hC 8 3 c3, hC 9 34 c4, hC 9 43 c5] (by kernel_rfl) (by kernel_rfl)
theorem load_openG3 {P : Program} {t k j : Nat} {F : Nat → Value → Chunk} {a : Option Addr} {xs : List Value} {cs : List SV} {u : SV} (q1 q2 q3 : Nat) (hu : Go.Sx.partAt P t cs (q1 + q2 + q3) = some u) (hR : ∀ b v, Rd (F b v) a xs) (hc : ∀ ε i v, cs[i]? = some v → xs[k + i]? = some (v.den ε)) (h0 : 0 < xs.length) :
    OpG P (isLoad t) loadX [.val (.pointer (some (((((a.getD ⟨0, 0, none⟩).add k).add q1).add q2).add q3)))] [((0, j), .fam F)] [] u [] := by
  have := load_openG (j := j) (q1 + q2 + q3) hu hR hc h0
  have e : ∀ x : Addr, ((x.add q1).add q2).add q3 = x.add (q1 + q2 + q3) := fun x => by
    by_cases hk : q1 = 0 <;> by_cases hj : q2 = 0 <;> by_cases hl : q3 = 0 <;> simp [Addr.add, hk, hj, hl, Nat.add_assoc]
  rw [e]
  exact this
def Great15F : Nat := 5
def AT15 : TypeId := 22
def act15X (x : Act15) : List SV := .val (.int .i64 x.d) :: .val (.string x.s.name) :: .val (.slice x.A.la x.s.legs.length x.A.lc) :: .val (.int .i64 x.s.fare) :: .val (.slice x.A.ta x.s.taxes.length x.A.tc) :: .val (.int .i64 x.s.pen) :: (docSA x.dv x.da ++ (kidS x.k ++ (ownS x.o ++ heldS x.h)))
def act15Z : Act15 := ⟨0, ⟨⟨#[]⟩, [], 0, [], 0⟩, ⟨none, 0, none, 0⟩, doc0, docA0, kid0, own0, held0⟩
theorem act15X_den (x : Act15) (ε : Env) : SV.dens ε (act15X x) = act15C x := rfl
theorem act15_nth {acts : List Act15} {i : Nat} (h : i < acts.length) : ∀ (ε : Env) (q : Nat) (v : SV), (act15X (acts.getD i act15Z))[q]? = some v → (cellsL act15C acts)[i * 46 + q]? = some (v.den ε) :=
  cells_nth (enc := act15C) (encS := act15X) act15X_den (fun _ => rfl) (getD_some h act15Z)
theorem acts15_len (acts : List Act15) : (cellsL act15C acts).length = acts.length * 46 := cellsL_len (enc := act15C) (size := 46) (fun _ => rfl) acts
def greatX (x : Act15) : Bool := decide ((20 : Int) < (x.s.legs.length : Int)) || (decide ((20 : Int) < (x.s.taxes.length : Int)) || (decide ((200 : Int) < (x.s.name.size : Int)) || (decide ((20 : Int) < (x.dv.vals.length : Int)) || (decide ((20 : Int) < (x.dv.s.legs.length : Int)) || (decide ((20 : Int) < (x.dv.s.taxes.length : Int)) || decide ((200 : Int) < (x.dv.s.name.size : Int)))))))
def greatB15 (acts : List Act15) : Bool := decide ((150 : Int) < (acts.length : Int)) || acts.any greatX
structure Lens (x : Act15) : Prop where
  a : x.s.legs.length ≤ 9223372036854775807
  b : x.s.taxes.length ≤ 9223372036854775807
  c : x.s.name.size ≤ 9223372036854775807
  d : x.dv.vals.length ≤ 9223372036854775807
  e : x.dv.s.legs.length ≤ 9223372036854775807
  f : x.dv.s.taxes.length ≤ 9223372036854775807
  g : x.dv.s.name.size ≤ 9223372036854775807
theorem great15_w (F : CF) {a : Option Addr} {cap : Nat} {acts : List Act15} (hR : ∀ b v, Rd (F b v) a (cellsL act15C acts)) (hl : acts.length ≤ 9223372036854775807) (hf : ∀ x ∈ acts, Lens x) :
    CallOK Tryz.prog Great15F [.val (.slice a acts.length cap)] [((0, 9), .fam F)] [] (.val (.bool (greatB15 acts))) [] := by
  rcases Bool.eq_false_or_eq_true (decide ((150 : Int) < (acts.length : Int))) with g | g
  · rw [show greatB15 acts = true by unfold greatB15; rw [g]; rfl]
    exact callOK_run 400 [hB 1 2 _ _ g] (by kernel_rfl) (by kernel_rfl)
  have hl150 : acts.length ≤ 150 := by have := of_decide_eq_false g; omega
  refine callOK_intro (by kernel_rfl) fun eb R => ?_
  refine go_loop (X := { i : Nat // i ≤ acts.length ∧ ∀ j, j < i → greatX (acts.getD j act15Z) = false }) 0 [] (fun x => ([(0, .val (.slice a acts.length cap)), (3, .val (.int .i64 (x.1 : Int)))], [((0, 9), .fam F)])) (fun x => acts.length - x.1) ⟨0, Nat.zero_le _, fun j hj => absurd hj (Nat.not_lt_zero _)⟩ calNone false 400 [hB 1 2 _ _ g] calNone_ok (by kernel_rfl) ?_
  rintro ⟨i, hi, hd⟩ J hJ
  by_cases h : i < acts.length
  · have hin : acts.getD i act15Z ∈ acts := List.mem_of_getElem? (getD_some h act15Z)
    obtain ⟨b1, b2, b3, b4, b5, b6, b7⟩ := hf _ hin
    have q0 : decide ((i : Int) < (acts.length : Int)) = true := decide_eq_true (by omega)
    have q1 := idx_openG (P := Tryz.prog) (t := AT15) (e := 57) (size := 46) (j := 9) (k := .i64) (cap := cap) (n := acts.length) Tryz.underlying22 (by kernel_rfl) (acts15_len acts) hR h
    have hpos : 0 < (cellsL act15C acts).length := by rw [acts15_len]; omega
    have nth := act15_nth h
    have q2 := load_openG2 (P := Tryz.prog) (t := 33) (k := i * 46) (j := 9) (u := .val (.slice (acts.getD i act15Z).A.la (acts.getD i act15Z).s.legs.length (acts.getD i act15Z).A.lc)) 1 1 (by kernel_rfl) hR nth hpos
    have q3 := load_openG2 (P := Tryz.prog) (t := 34) (k := i * 46) (j := 9) (u := .val (.slice (acts.getD i act15Z).A.ta (acts.getD i act15Z).s.taxes.length (acts.getD i act15Z).A.tc)) 1 3 (by kernel_rfl) hR nth hpos
    have q4 := load_openG2 (P := Tryz.prog) (t := 9) (k := i * 46) (j := 9) (u := .val (.string (acts.getD i act15Z).s.name)) 1 0 (by kernel_rfl) hR nth hpos
    have q5 := load_openG2 (P := Tryz.prog) (t := 40) (k := i * 46) (j := 9) (u := .val (.slice (acts.getD i act15Z).da.va (acts.getD i act15Z).dv.vals.length (acts.getD i act15Z).da.vc)) 6 7 (by kernel_rfl) hR nth hpos
    have q6 := load_openG3 (P := Tryz.prog) (t := 33) (k := i * 46) (j := 9) (u := .val (.slice (acts.getD i act15Z).da.la (acts.getD i act15Z).dv.s.legs.length (acts.getD i act15Z).da.lc)) 6 2 1 (by kernel_rfl) hR nth hpos
    have q7 := load_openG3 (P := Tryz.prog) (t := 34) (k := i * 46) (j := 9) (u := .val (.slice (acts.getD i act15Z).da.ta (acts.getD i act15Z).dv.s.taxes.length (acts.getD i act15Z).da.tc)) 6 2 3 (by kernel_rfl) hR nth hpos
    have q8 := load_openG3 (P := Tryz.prog) (t := 9) (k := i * 46) (j := 9) (u := .val (.string (acts.getD i act15Z).dv.s.name)) 6 2 0 (by kernel_rfl) hR nth hpos
    have q9 : IntKind.i64.wrap ((i : Int) + 1) = ((i + 1 : Nat) : Int) := by rw [wr_i64 (by omega)]; omega
    have bad : greatX (acts.getD i act15Z) = true → greatB15 acts = true := fun e => by
      unfold greatB15
      rw [List.any_eq_true.2 ⟨_, hin, e⟩, Bool.or_true]
    have good : greatX (acts.getD i act15Z) = false → ∀ j, j < i + 1 → greatX (acts.getD j act15Z) = false := fun e j hj => by
      by_cases q : j = i
      · subst q; exact e
      · exact hd j (by omega)
    generalize hx : acts.getD i act15Z = x at *
    rcases Bool.eq_false_or_eq_true (decide ((20 : Int) < (x.s.legs.length : Int))) with g1 | g1
    · rw [bad (by unfold greatX; rw [g1]; rfl)]
      exact leaf_end calNone false 400 [hB 4 3 _ _ q0, hG 6 2 q1, hG 6 5 q2, hB 6 7 _ _ g1] calNone_ok (by kernel_rfl)
    rcases Bool.eq_false_or_eq_true (decide ((20 : Int) < (x.s.taxes.length : Int))) with g2 | g2
    · rw [bad (by unfold greatX; rw [g1, g2]; rfl)]
      exact leaf_end calNone false 400 [hB 4 3 _ _ q0, hG 6 2 q1, hG 6 5 q2, hB 6 7 _ _ g1, hG 6 11 q1, hG 6 14 q3, hB 6 16 _ _ g2] calNone_ok (by kernel_rfl)
    rcases Bool.eq_false_or_eq_true (decide ((200 : Int) < (x.s.name.size : Int))) with g3 | g3
    · rw [bad (by unfold greatX; rw [g1, g2, g3]; rfl)]
      exact leaf_end calNone false 400 [hB 4 3 _ _ q0, hG 6 2 q1, hG 6 5 q2, hB 6 7 _ _ g1, hG 6 11 q1, hG 6 14 q3, hB 6 16 _ _ g2, hG 6 21 q1, hG 6 24 q4, hB 6 26 _ _ g3] calNone_ok (by kernel_rfl)
    rcases Bool.eq_false_or_eq_true (decide ((20 : Int) < (x.dv.vals.length : Int))) with g4 | g4
    · rw [bad (by unfold greatX; rw [g1, g2, g3, g4]; rfl)]
      exact leaf_end calNone false 400 [hB 4 3 _ _ q0, hG 6 2 q1, hG 6 5 q2, hB 6 7 _ _ g1, hG 6 11 q1, hG 6 14 q3, hB 6 16 _ _ g2, hG 6 21 q1, hG 6 24 q4, hB 6 26 _ _ g3, hG 6 31 q1, hG 6 34 q5, hB 6 36 _ _ g4] calNone_ok (by kernel_rfl)
    rcases Bool.eq_false_or_eq_true (decide ((20 : Int) < (x.dv.s.legs.length : Int))) with g5 | g5
    · rw [bad (by unfold greatX; rw [g1, g2, g3, g4, g5]; rfl)]
      exact leaf_end calNone false 400 [hB 4 3 _ _ q0, hG 6 2 q1, hG 6 5 q2, hB 6 7 _ _ g1, hG 6 11 q1, hG 6 14 q3, hB 6 16 _ _ g2, hG 6 21 q1, hG 6 24 q4, hB 6 26 _ _ g3, hG 6 31 q1, hG 6 34 q5, hB 6 36 _ _ g4, hG 6 41 q1, hG 6 45 q6, hB 6 47 _ _ g5] calNone_ok (by kernel_rfl)
    rcases Bool.eq_false_or_eq_true (decide ((20 : Int) < (x.dv.s.taxes.length : Int))) with g6 | g6
    · rw [bad (by unfold greatX; rw [g1, g2, g3, g4, g5, g6]; rfl)]
      exact leaf_end calNone false 400 [hB 4 3 _ _ q0, hG 6 2 q1, hG 6 5 q2, hB 6 7 _ _ g1, hG 6 11 q1, hG 6 14 q3, hB 6 16 _ _ g2, hG 6 21 q1, hG 6 24 q4, hB 6 26 _ _ g3, hG 6 31 q1, hG 6 34 q5, hB 6 36 _ _ g4, hG 6 41 q1, hG 6 45 q6, hB 6 47 _ _ g5, hG 6 52 q1, hG 6 56 q7, hB 6 58 _ _ g6] calNone_ok (by kernel_rfl)
    rcases Bool.eq_false_or_eq_true (decide ((200 : Int) < (x.dv.s.name.size : Int))) with g7 | g7
    · rw [bad (by unfold greatX; rw [g1, g2, g3, g4, g5, g6, g7]; rfl)]
      exact leaf_end calNone false 400 [hB 4 3 _ _ q0, hG 6 2 q1, hG 6 5 q2, hB 6 7 _ _ g1, hG 6 11 q1, hG 6 14 q3, hB 6 16 _ _ g2, hG 6 21 q1, hG 6 24 q4, hB 6 26 _ _ g3, hG 6 31 q1, hG 6 34 q5, hB 6 36 _ _ g4, hG 6 41 q1, hG 6 45 q6, hB 6 47 _ _ g5, hG 6 52 q1, hG 6 56 q7, hB 6 58 _ _ g6, hG 6 63 q1, hG 6 67 q8, hB 6 69 _ _ g7] calNone_ok (by kernel_rfl)
    have gg : greatX x = false := by unfold greatX; rw [g1, g2, g3, g4, g5, g6, g7]; rfl
    have hJ' := hJ ⟨i + 1, h, good gg⟩ (by show _ - (i + 1) < _ - i; omega)
    exact leaf_next calNone false 400 [hB 4 3 _ _ q0, hG 6 2 q1, hG 6 5 q2, hB 6 7 _ _ g1, hG 6 11 q1, hG 6 14 q3, hB 6 16 _ _ g2, hG 6 21 q1, hG 6 24 q4, hB 6 26 _ _ g3, hG 6 31 q1, hG 6 34 q5, hB 6 36 _ _ g4, hG 6 41 q1, hG 6 45 q6, hB 6 47 _ _ g5, hG 6 52 q1, hG 6 56 q7, hB 6 58 _ _ g6, hG 6 63 q1, hG 6 67 q8, hB 6 69 _ _ g7, hI 5 1 IntKind.i64 _ _ q9] calNone_ok hJ' (by kernel_rfl)
  · have q0 : decide ((i : Int) < (acts.length : Int)) = false := decide_eq_false (by omega)
    have e : greatB15 acts = false := by
      unfold greatB15
      rw [g, Bool.false_or, List.any_eq_false]
      intro x hx
      obtain ⟨j, hj, rfl⟩ := List.getElem_of_mem hx
      have := hd j (by omega)
      rw [List.getD_eq_getElem?_getD, List.getElem?_eq_getElem hj] at this
      simpa using this
    rw [e]
    exact leaf_end calNone false 400 [hB 4 3 _ _ q0] calNone_ok (by kernel_rfl)
structure BI (B : BookV) : Prop where
  ex : ExOk B
  hk : ∀ k h, lkt B.helds k = some h → B.badK k = false
  hl : B.helds.length ≤ 64
theorem putt_len {κ α : Type} [DecidableEq κ] (k : κ) (a : α) : ∀ L : List (κ × α), (putt L k a).length = if (lkt L k).isSome then L.length else L.length + 1
  | [] => rfl
  | p :: L => by
    show (if p.1 = k then (k, a) :: L else p :: putt L k a).length = _
    have e : lkt (p :: L) k = if p.1 = k then some p.2 else lkt L k := rfl
    rw [e]
    by_cases q : p.1 = k
    · rw [if_pos q, if_pos q]; rfl
    · rw [if_neg q, if_neg q, List.length_cons, putt_len k a L]
      split <;> rfl
theorem badK_same {B C : BookV} (h1 : C.self = B.self) (h2 : C.n = B.n) (k : Kid) : C.badK k = B.badK k := by unfold BookV.badK; rw [h1, h2]
theorem setH_same (B : BookV) (k : Kid) (h : HeldV) : (B.setH k h).docs = B.docs ∧ (B.setH k h).self = B.self ∧ (B.setH k h).n = B.n ∧ (B.setH k h).owns = B.owns := by
  unfold BookV.setH; cases decide (B.setHE k = 0) <;> exact ⟨rfl, rfl, rfl, rfl⟩
theorem ExOk.setH {B : BookV} (h : ExOk B) (k : Kid) (x : HeldV) : ExOk (B.setH k x) := by
  obtain ⟨e1, e2, e3, e4⟩ := setH_same B k x
  exact ⟨⟨by rw [e2, e3]; exact h.bk.self, by rw [e3]; exact h.bk.n, by rw [e1, e2]; exact h.bk.docs, by rw [e1]; exact h.bk.many⟩, by rw [e1]; exact h.sal, by rw [e1]; exact h.sm, by rw [e4]; exact h.own⟩
theorem setHE_cases (B : BookV) (k : Kid) : (B.setHE k = 1 ∧ B.badK k = true) ∨ (B.setHE k = 3 ∧ B.badK k = false ∧ lkt B.helds k = none ∧ 64 ≤ B.helds.length) ∨ (B.setHE k = 0 ∧ B.badK k = false ∧ ((lkt B.helds k).isSome = true ∨ B.helds.length < 64)) := by
  unfold BookV.setHE
  cases h1 : B.badK k
  · cases h2 : lkt B.helds k with
    | none =>
      rcases Bool.eq_false_or_eq_true (decide (64 ≤ B.helds.length)) with h3 | h3
      · rw [h3]; exact .inr (.inl ⟨rfl, rfl, rfl, of_decide_eq_true h3⟩)
      · rw [h3]; exact .inr (.inr ⟨rfl, rfl, .inr (by have := of_decide_eq_false h3; omega)⟩)
    | some x => exact .inr (.inr ⟨rfl, rfl, .inl rfl⟩)
  · exact .inl ⟨rfl, rfl⟩
theorem setH_ok {B : BookV} {k : Kid} (h : B.setHE k = 0) (x : HeldV) : B.setH k x = { B with helds := putt B.helds k x } := by unfold BookV.setH; rw [decide_eq_true h]; rfl
theorem setH_not {B : BookV} {k : Kid} (h : B.setHE k ≠ 0) (x : HeldV) : B.setH k x = B := by unfold BookV.setH; rw [decide_eq_false h]; rfl
theorem BI.setH {B : BookV} (h : BI B) (k : Kid) (x : HeldV) : BI (B.setH k x) := by
  obtain ⟨e1, e2, e3, e4⟩ := setH_same B k x
  refine ⟨h.ex.setH k x, fun k' y hy => ?_, ?_⟩
  · rw [badK_same e2 e3]
    rcases setHE_cases B k with ⟨g, -⟩ | ⟨g, -⟩ | ⟨g, gb, -⟩
    · rw [setH_not (by rw [g]; decide)] at hy; exact h.hk k' y hy
    · rw [setH_not (by rw [g]; decide)] at hy; exact h.hk k' y hy
    · rw [setH_ok g] at hy
      have hy : lkt (putt B.helds k x) k' = some y := hy
      rw [lkt_put] at hy
      by_cases q : k = k'
      · rw [← q]; exact gb
      · rw [if_neg q] at hy; exact h.hk k' y hy
  · rcases setHE_cases B k with ⟨g, -⟩ | ⟨g, -⟩ | ⟨g, gb, gl⟩
    · rw [setH_not (by rw [g]; decide)]; exact h.hl
    · rw [setH_not (by rw [g]; decide)]; exact h.hl
    · rw [setH_ok g]
      show (putt B.helds k x).length ≤ 64
      rw [putt_len]
      have := h.hl
      rcases gl with gl | gl
      · rw [if_pos gl]; exact this
      · split <;> omega
theorem BI.setO {B : BookV} (h : BI B) {k : Kid} {o : OwnV} (ho : OwnOk o) : BI (B.setO k o) := by
  obtain ⟨e1, e2, e3, e4⟩ := setO_same B k o
  exact ⟨h.ex.setO ho, by rw [e4]; intro k' y hy; rw [badK_same e2 e3]; exact h.hk k' y hy, by rw [e4]; exact h.hl⟩
theorem BI.issue {B : BookV} (h : BI B) {s : SaleV} (ok : SaleOk s) : BI (B.issue s) := by
  unfold BookV.issue
  rcases Bool.eq_false_or_eq_true (decide (B.issE s = 0)) with e | e <;> rw [e]
  · exact ⟨h.ex.issued ok (of_decide_eq_true e), h.hk, h.hl⟩
  · exact h
theorem new_bi (self n : Int) (h : 0 ≤ self ∧ self < n ∧ 2 ≤ n ∧ n ≤ 8) : BI (bookNew self n) := ⟨new_ex self n h, (fun k o e => by cases e), by show (0 : Nat) ≤ 64; decide⟩
theorem bookE_ok {self n : Int} (hs : 0 ≤ self) (h : bookE self n = 0) : 0 ≤ self ∧ self < n ∧ 2 ≤ n ∧ n ≤ 8 := by
  have h0 : (decide (n < 2) || (decide (8 < n) || decide (n ≤ self))) = false := by
    cases hb : (decide (n < 2) || (decide (8 < n) || decide (n ≤ self))) with
    | false => rfl
    | true => unfold bookE at h; rw [hb] at h; cases h
  simp only [Bool.or_eq_false_iff, decide_eq_false_iff_not] at h0
  omega
def step15 (B : BookV) (x : Act15) : BookV := if x.d = 0 then B.issue x.s else if x.d = 2 then B.setO x.k x.o else if x.d = 3 then B.setH x.k x.h else B
theorem BI.step {B : BookV} (h : BI B) {x : Act15} (ok : SaleOk x.s) (ho : OwnOk x.o) : BI (step15 B x) := by
  unfold step15
  by_cases g0 : x.d = 0
  · rw [if_pos g0]; exact h.issue ok
  rw [if_neg g0]
  by_cases g2 : x.d = 2
  · rw [if_pos g2]; exact h.setO ho
  rw [if_neg g2]
  by_cases g3 : x.d = 3
  · rw [if_pos g3]; exact h.setH _ _
  rw [if_neg g3]; exact h
theorem setO_lk {B : BookV} {k : Kid} {o : OwnV} (k' : Kid) : lkt (B.setO k o).owns k' = if k = k' then (lkt B.owns k).map fun _ => o else lkt B.owns k' := by
  cases h : lkt B.owns k with
  | none =>
    rw [setO_none h]
    by_cases q : k = k'
    · rw [if_pos q, ← q, h]; rfl
    · rw [if_neg q]
  | some x =>
    rw [setO_some h]
    show lkt (putt B.owns k o) k' = _
    rw [lkt_put]
    by_cases q : k = k'
    · rw [if_pos q, if_pos q]; rfl
    · rw [if_neg q, if_neg q]
def kidEq (a b : Kid) : Bool := (decide (a.t.c = b.t.c) && (decide (a.t.r = b.t.r) && true)) && (decide (a.i = b.i) && true)
theorem kidEq_iff (a b : Kid) : kidEq a b = true ↔ a = b := by
  obtain ⟨⟨a1, a2⟩, a3⟩ := a
  obtain ⟨⟨b1, b2⟩, b3⟩ := b
  simp [kidEq, and_assoc]
end Go.Proofs.YtmhbpifhpolghaaGreat
end
section
namespace Go.Proofs.YtmhbpifhpolghaaGreat
open Go.RowKit Go.Lib Go.Tk Go.Sort Go.Shelf
def stB (s : Int) : Bool := decide (1 ≤ s) && decide (s ≤ 7)
end Go.Proofs.YtmhbpifhpolghaaGreat
end
section
namespace Go.Proofs.YtmhbpifhpolghaaGreat
open Go.RowKit Go.Lib Go.Tk
structure TDocV where
  c : Int
  r : Int
  s : SaleV
  vals : List Int
  fc : Int
  fr : Int
  tc : Int
  tr : Int
  cred : Int
  paid : Int
  back : Int
  kept : Int
  left : Int
structure TDocA where
  S : SaleA
  va : Option Addr
  vc : Nat
def tdocArr (d : TDocV) (D : TDocA) : Array Value :=
  #[.int .u8 d.c, .int .u64 d.r, .string d.s.name, .slice D.S.la d.s.legs.length D.S.lc, .int .i64 d.s.fare, .slice D.S.ta d.s.taxes.length D.S.tc, .int .i64 d.s.pen, .slice D.va d.vals.length D.vc, .int .u8 d.fc, .int .u64 d.fr, .int .u8 d.tc, .int .u64 d.tr, .int .i64 d.cred, .int .i64 d.paid, .int .i64 d.back, .int .i64 d.kept, .int .i64 d.left]
structure TDocAt (w : World) (d : TDocV) (D : TDocA) : Prop where
  sale : SaleAt w d.s D.S
  vals : Row w D.va (d.vals.map (.int .i64))
theorem TDocAt.kept {w w' : World} {d : TDocV} {D : TDocA} (h : TDocAt w d D) (hb : Below w.heap.size w w') : TDocAt w' d D := ⟨h.sale.kept hb, h.vals.kept hb⟩
def lessZ (z : List (Int × Int)) : List Int := (z.filter (fun p => decide (p.1 ≤ 4))).map (·.2)
def lessL (vals st : List Int) : List Int := lessZ (st.zip vals)
def subStep (s : Int × Int) (a : Int) : Int × Int := if s.2 = 0 then subI s.1 a else s
def subAll (s : Int × Int) (l : List Int) : Int × Int := l.foldl subStep s
def badSt (st : List Int) : Bool := st.any (fun s => !stB s)
def lessAll (d : TDocV) (st : List Int) : List Int := [d.back, d.kept, d.left] ++ lessL d.vals st
def balOk (d : TDocV) (st : List Int) (pl : Nat) : Prop := st.length = d.vals.length ∧ pl = d.vals.length ∧ badSt st = false
instance (d : TDocV) (st : List Int) (pl : Nat) : Decidable (balOk d st pl) := inferInstanceAs (Decidable (_ ∧ _ ∧ _))
def balI (d : TDocV) (st : List Int) (pl : Nat) : Int × Int := if balOk d st pl then subAll (sumFrom 0 [d.paid, d.cred]) (lessAll d st) else (0, 1)
theorem mem_less {vals st : List Int} {x : Int} (h : x ∈ lessL vals st) : x ∈ vals := by
  unfold lessL lessZ at h
  obtain ⟨p, hp, rfl⟩ := List.mem_map.1 h
  have h1 := (List.mem_filter.1 hp).1
  obtain ⟨a, b⟩ := p
  exact (List.of_mem_zip h1).2
end Go.Proofs.YtmhbpifhpolghaaGreat
end
section
namespace Go.Proofs.YtmhbpifhpolghaaGreat
open Go.RowKit Go.Lib Go.Tk Go.Sort Go.Shelf
def tdocBox (w : World) (b : Nat) (d : TDocV) (D : TDocA) : Prop := Box w b (tdocArr d D)
theorem tdocBox.kept {w w' : World} {b : Nat} {d : TDocV} {D : TDocA} (h : tdocBox w b d D) (hb : Below w.heap.size w w') : tdocBox w' b d D := Box.kept h hb
theorem tdocBox.vals {w : World} {b : Nat} {d : TDocV} {D : TDocA} (h : tdocBox w b d D) : w.cell? ⟨b, 7, none⟩ = some (.slice D.va d.vals.length D.vc) := Box.cell h 7 rfl
theorem tdocBox.cred {w : World} {b : Nat} {d : TDocV} {D : TDocA} (h : tdocBox w b d D) : w.cell? ⟨b, 12, none⟩ = some (.int .i64 d.cred) := Box.cell h 12 rfl
theorem tdocBox.paid {w : World} {b : Nat} {d : TDocV} {D : TDocA} (h : tdocBox w b d D) : w.cell? ⟨b, 13, none⟩ = some (.int .i64 d.paid) := Box.cell h 13 rfl
theorem tdocBox.back {w : World} {b : Nat} {d : TDocV} {D : TDocA} (h : tdocBox w b d D) : w.cell? ⟨b, 14, none⟩ = some (.int .i64 d.back) := Box.cell h 14 rfl
theorem tdocBox.left {w : World} {b : Nat} {d : TDocV} {D : TDocA} (h : tdocBox w b d D) : w.cell? ⟨b, 16, none⟩ = some (.int .i64 d.left) := Box.cell h 16 rfl
end Go.Proofs.YtmhbpifhpolghaaGreat
end
section
namespace Go.Proofs.YtmhbpifhpolghaaGreat
open Go.RowKit Go.Lib Go.Tk Go.Shelf Go.Vc Go.Sx
def toT (d : DocV) : TDocV := ⟨d.t.c, d.t.r, d.s, d.vals, d.frm.c, d.frm.r, d.dst.c, d.dst.r, d.credit, d.paid, d.back, d.kept, d.left⟩
theorem subAll_dn : ∀ (l : List Int) (x : Int), (∀ y ∈ l, 0 ≤ y) → l.sum ≤ x → x ≤ 1125899906842624 → subAll (x, 0) l = (x - l.sum, 0)
  | [], x, _, _, _ => by simp [subAll]
  | a :: l, x, h, hs, hx => by
    have ha := h a (by simp)
    have hl : ∀ y ∈ l, 0 ≤ y := fun y hy => h y (by simp [hy])
    have hn := sum_nonneg l hl
    rw [List.sum_cons] at hs
    have e : subStep (x, 0) a = (x - a, 0) := by
      unfold subStep subI
      have m1 : mayI x = true := by simp [mayI]; omega
      have m2 : mayI a = true := by simp [mayI]; omega
      have m3 : mayI (x - a) = true := by simp [mayI]; omega
      simp [m1, m2, m3]
    show subAll (subStep (x, 0) a) l = _
    rw [e, subAll_dn l (x - a) hl (by omega) (by omega), List.sum_cons]
    congr 1
    omega
theorem less_op : ∀ L : List OwnV, (lessL (L.map (·.k.v)) (L.map (·.k.s))).sum = opL L
  | [] => rfl
  | o :: L => by
    have ih := less_op L
    unfold lessL lessZ opL at ih ⊢
    rw [List.map_cons, List.map_cons, List.zip_cons_cons]
    by_cases h : o.k.s ≤ 4
    · rw [List.filter_cons_of_pos (by simp [h]), List.filter_cons_of_pos (by simp [h]), List.map_cons, List.map_cons, List.sum_cons, List.sum_cons, ih]
    · rw [List.filter_cons_of_neg (by simp [h]), List.filter_cons_of_neg (by simp [h]), ih]
theorem bal_val {d : DocV} {L : List OwnV} (h : DocI d L) (hb : d.paid + d.credit ≤ 1125899906842624) (h0 : 0 ≤ mD d L + d.credit) : balI (toT d) (L.map (·.k.s)) L.length = (mD d L + d.credit, 0) := by
  have hp := h.paid
  have hk := h.kept
  have hbk := h.back
  have hl := h.left
  have hlc := h.leftc
  have hv : (toT d).vals = L.map (·.k.v) := h.vals.symm
  have hok : balOk (toT d) (L.map (·.k.s)) L.length := by
    refine ⟨by rw [hv]; simp, by rw [hv]; simp, ?_⟩
    unfold badSt
    rw [List.any_eq_false]
    intro x hx
    obtain ⟨o, ho, rfl⟩ := List.mem_map.1 hx
    have := h.st o ho
    have e : stB o.k.s = true := by simp [stB]; omega
    rw [e]; decide
  unfold balI
  rw [if_pos hok]
  have e : sumFrom 0 [(toT d).paid, (toT d).cred] = (d.paid + d.credit, 0) := by
    rw [sumFrom_nn _ 0 (by decide) (by omega) (fun x hx => ?_)]
    · have : mayI (0 + [(toT d).paid, (toT d).cred].sum) = true := by simp [mayI, toT]; omega
      rw [if_pos this]
      simp [toT]
    · simp only [List.mem_cons, List.not_mem_nil, or_false] at hx
      rcases hx with rfl | rfl
      · exact hp
      · show 0 ≤ d.credit
        omega
  have hm : mD d L = d.paid - d.back - d.kept - d.left - opL L := rfl
  have hs : (lessAll (toT d) (L.map (·.k.s))).sum = d.back + d.kept + d.left + opL L := by
    unfold lessAll
    rw [hv, List.sum_append, less_op]
    simp [toT]; omega
  rw [e, subAll_dn, hs]
  · congr 1; omega
  · intro y hy
    unfold lessAll at hy
    rw [List.mem_append] at hy
    rcases hy with hy | hy
    · simp only [List.mem_cons, List.not_mem_nil, or_false] at hy
      rcases hy with rfl | rfl | rfl
      · exact hbk
      · exact hk
      · exact hl
    · have := mem_less hy
      rw [hv, h.vals] at this
      exact h.nn y this
  · rw [hs]; omega
  · exact hb
structure DocG (B : BookV) (d : DocV) (w : Int) : Prop where
  bal : balI (toT d) (statusL B d.t) (statusL B d.t).length = (w, 0)
  paid : 0 ≤ d.paid ∧ d.paid ≤ 35184372088832
  back : 0 ≤ d.back ∧ d.back ≤ 35184372088832
  kept : 0 ≤ d.kept ∧ d.kept ≤ 35184372088832
  left : 0 ≤ d.left ∧ d.left ≤ 35184372088832
  op : 0 ≤ opL (coupL B d.t) ∧ opL (coupL B d.t) ≤ 35184372088832
  leftc : d.left ≤ d.credit
  vals : (coupL B d.t).map (·.k.v) = d.vals
theorem docG_of {B : BookV} (h : EB B) {d : DocV} (hd : d ∈ B.docs) {w : Int} (e : mD d (coupL B d.t) + d.credit = w) (hw : 0 ≤ w) : DocG B d w := by
  have hi := h.ei.doc d hd
  have hr := doc_r h.ex.bk hd
  have hm := h.ex.bk.many
  have hb := hi.bnd
  have h32 : 1099511627776 * d.t.r ≤ 35184372088832 := by omega
  have := hi.paid
  have := hi.back
  have := hi.kept
  have := hi.left
  have hlc := hi.leftc
  have hop := opL_nn hi
  have hmd : mD d (coupL B d.t) = d.paid - d.back - d.kept - d.left - opL (coupL B d.t) := rfl
  refine ⟨?_, by omega, by omega, by omega, by omega, by omega, hlc, hi.vals⟩
  have := bal_val hi (by omega) (by omega)
  rw [e] at this
  unfold statusL
  rw [List.length_map]
  exact this
theorem EB.non {B : BookV} (h : EB B) {d : DocV} (hd : d ∈ B.docs) (h0 : d.dst = tid0) : DocG B d 0 := docG_of h hd (h.ei.non d hd h0) (Int.le_refl _)
theorem lkD_mem_eq {ds : List DocV} (hn : (ds.map (·.t)).Nodup) {n : DocV} (h : n ∈ ds) : lkD ds n.t = some n := by
  obtain ⟨x, hx⟩ := lkD_some (List.mem_map_of_mem (f := fun d : DocV => d.t) h)
  obtain ⟨h1, h2⟩ := lkD_mem hx
  rw [hx, nodup_eq hn h1 h h2]
theorem EB.lnk {B : BookV} (h : EB B) {d : DocV} (hd : d ∈ B.docs) (h0 : d.dst ≠ tid0) : ∃ n, lkD B.docs d.dst = some n ∧ n.frm = d.t ∧ 0 ≤ n.credit ∧ DocG B d n.credit := by
  obtain ⟨n, hn, e1, e2, e3⟩ := h.ei.lnk d hd h0
  have hc : 0 ≤ n.credit := by have := (h.ei.doc n hn).left; have := (h.ei.doc n hn).leftc; omega
  exact ⟨n, by rw [← e1]; exact lkD_mem_eq h.nodup hn, e2, hc, docG_of h hd e3 hc⟩
def paidB (d : DocV) : Int := d.paid - d.back
def restB (B : BookV) (d : DocV) : Int := d.kept + d.left + opL (coupL B d.t)
theorem sum_sub {α : Type} (f g h : α → Int) : ∀ l : List α, (∀ x, h x = f x - g x) → (l.map h).sum = (l.map f).sum - (l.map g).sum
  | [], _ => rfl
  | x :: l, e => by simp only [List.map_cons, List.sum_cons, sum_sub f g h l e, e x]; omega
theorem EB.total {B : BookV} (h : EB B) : (B.docs.map paidB).sum = (B.docs.map (restB B)).sum := by
  have := sum_sub paidB (restB B) (fun d => mD d (coupL B d.t)) B.docs fun d => by unfold mD paidB restB; omega
  rw [h.ei.tot] at this
  omega
end Go.Proofs.YtmhbpifhpolghaaGreat
end
