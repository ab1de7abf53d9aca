/- Open, Flat, OpA, OpB. -/
import Derived.Test.YtnkghdakjdhhdaaGreatM528e2f7
import Derived.WideShapes
import Derived.Lib.SmallJoins
import Derived.Test.YtnkghdakjdhhdaaGreatM64f4c37
import Derived.Test.YtnkghdakjdhhdaaGreatMc817215
set_option maxRecDepth 100000
set_option linter.unusedVariables false
set_option linter.unusedSimpArgs false
set_option linter.unusedSectionVars false
section
namespace Go.Proofs.YtnkghdakjdhhdaaGreat
open Go.RowKit Go.Lib Go.Tk Go.WideShapes Go.Joins Go.ChangeShapes
structure SaleW (s : SaleV) : Prop where
  name : s.name.size ≤ maxLen
  legs : ∀ l ∈ s.legs, LegOk l
  taxes : ∀ t ∈ s.taxes, TaxOk t
  fare : -9223372036854775808 ≤ s.fare ∧ s.fare ≤ 9223372036854775807
  pen : -9223372036854775808 ≤ s.pen ∧ s.pen ≤ 9223372036854775807
  nl : s.legs.length ≤ maxLen
  nt : s.taxes.length ≤ maxLen
theorem SaleW.small {s : SaleV} (h : SaleW s) (h1 : s.legs.length ≤ 1000) (h2 : s.taxes.length ≤ 1000) : SaleOk s := ⟨h.name, h.legs, h.taxes, h.fare, h.pen, h1, h2⟩
theorem wfi64 {a : Int} (h : (Lit.int .i64 a).wf = true) : -9223372036854775808 ≤ a ∧ a ≤ 9223372036854775807 := by
  simpa [Lit.wf, IntKind.min, IntKind.max, IntKind.signed, IntKind.bits] using h
theorem wfu8 {a : Int} (h : (Lit.int .u8 a).wf = true) : 0 ≤ a ∧ a ≤ 255 := by
  simpa [Lit.wf, IntKind.min, IntKind.max, IntKind.signed, IntKind.bits] using h
theorem wfu16 {a : Int} (h : (Lit.int .u16 a).wf = true) : 0 ≤ a ∧ a ≤ 65535 := by
  simpa [Lit.wf, IntKind.min, IntKind.max, IntKind.signed, IntKind.bits] using h
theorem wfu32 {a : Int} (h : (Lit.int .u32 a).wf = true) : 0 ≤ a ∧ a ≤ 4294967295 := by
  simpa [Lit.wf, IntKind.min, IntKind.max, IntKind.signed, IntKind.bits] using h
theorem wfu64 {a : Int} (h : (Lit.int .u64 a).wf = true) : 0 ≤ a ∧ a ≤ 18446744073709551615 := by
  simpa [Lit.wf, IntKind.min, IntKind.max, IntKind.signed, IntKind.bits] using h
theorem len2 {cs : List Value} (h : cs.length = 2) : ∃ a b, cs = [a, b] := by
  match cs, h with
  | [a, b], _ => exact ⟨a, b, rfl⟩
theorem len3 {cs : List Value} (h : cs.length = 3) : ∃ a b c, cs = [a, b, c] := by
  match cs, h with
  | [a, b, c], _ => exact ⟨a, b, c, rfl⟩
variable {H : Type} {enc : TypeId × Value → H} {w : World} {base : Nat} {spare : Nat → Bool} {held : Bool}
set_option maxRecDepth 100000 in
theorem leg_cells {n : Nat} {cs : List Value} {y : DataW H × List MemPlace} (hl : cs.length = 3) (h : DataW.trod enc Tryz.prog w base spare held n 31 cs = some y) : ∃ l : Leg, encLeg l = cs ∧ LegOk l := by
  obtain ⟨_, m, hf⟩ := struct_fields Tryz.underlying31 h
  obtain ⟨c0, c1, c2, rfl⟩ := len3 hl
  simp only [List.forall_mem_cons] at hf
  obtain ⟨⟨y0, h0⟩, ⟨y1, h1⟩, ⟨y2, h2⟩, -⟩ := hf
  obtain ⟨a0, e0, w0⟩ := int_cell Tryz.underlying5 h0
  obtain ⟨a1, e1, w1⟩ := int_cell Tryz.underlying28 h1
  obtain ⟨a2, e2, w2⟩ := int_cell Tryz.underlying29 h2
  have f0 : c0 = .int .u8 a0 := by simpa [show Tryz.prog.cellsOf 5 = 1 by kernel_rfl] using e0
  have f1 : c1 = .int .u16 a1 := by simpa [show Tryz.prog.cellsOf 28 = 1 by kernel_rfl] using e1
  have f2 : c2 = .int .u32 a2 := by simpa [show Tryz.prog.cellsOf 29 = 1 by kernel_rfl] using e2
  exact ⟨⟨a0, a1, a2⟩, by rw [f0, f1, f2]; rfl, wfu8 w0, wfu16 w1, wfu32 w2⟩
set_option maxRecDepth 100000 in
theorem tax_cells {n : Nat} {cs : List Value} {y : DataW H × List MemPlace} (hl : cs.length = 2) (h : DataW.trod enc Tryz.prog w base spare held n 189 cs = some y) : ∃ l : Tax, encTax l = cs ∧ TaxOk l := by
  obtain ⟨_, m, hf⟩ := struct_fields Tryz.underlying189 h
  obtain ⟨c0, c1, rfl⟩ := len2 hl
  simp only [List.forall_mem_cons] at hf
  obtain ⟨⟨y0, h0⟩, ⟨y1, h1⟩, -⟩ := hf
  obtain ⟨a0, e0, w0⟩ := string_cell Tryz.underlying9 h0
  obtain ⟨a1, e1, w1⟩ := int_cell Tryz.underlying2 h1
  have f0 : c0 = .string a0 := by simpa [show Tryz.prog.cellsOf 9 = 1 by kernel_rfl] using e0
  have f1 : c1 = .int .i64 a1 := by simpa [show Tryz.prog.cellsOf 2 = 1 by kernel_rfl] using e1
  exact ⟨⟨a0, a1⟩, by rw [f0, f1]; rfl, w0, wfi64 w1⟩
theorem legs_cell {n : Nat} {v : Value} {y : DataW H × List MemPlace} (h : DataW.trod enc Tryz.prog w base spare held n 61 [v] = some y) :
    ∃ (a : Option Addr) (l : List Leg) (c : Nat), v = .slice a l.length c ∧ Row w a (cellsL encLeg l) ∧ (a = none → c = 0) ∧ l.length ≤ maxLen ∧ ∀ x ∈ l, LegOk x := by
  obtain ⟨a, len, cap, rows, rfl, hlen, hrows, hr, hn, hm, _⟩ := slice_rows (fun cs => ∃ l : Leg, encLeg l = cs ∧ LegOk l) Tryz.underlying61 (show Tryz.prog.cellsOf 31 = 3 by kernel_rfl) (by decide) (fun n cs y hl h => leg_cells hl h) h
  obtain ⟨l, hl⟩ := listOf (enc := fun x : { x : Leg // LegOk x } => encLeg x.1) (Q := fun cs => ∃ l : Leg, encLeg l = cs ∧ LegOk l) (fun r ⟨x, hx, hk⟩ => ⟨⟨x, hk⟩, hx⟩) rows (fun r hr => (hrows r hr).2)
  have hl2 : (l.map (·.1)).map encLeg = rows := by rw [List.map_map]; exact hl
  have hl3 : (l.map (·.1)).length = len := by rw [← hlen, ← hl2]; simp
  refine ⟨a, l.map (·.1), cap, by rw [hl3], ?_, hn, by rw [hl3]; exact hm, fun x hx => ?_⟩
  · unfold cellsL; rw [hl2]; exact hr
  · obtain ⟨z, _, rfl⟩ := List.mem_map.1 hx; exact z.2
theorem taxes_cell {n : Nat} {v : Value} {y : DataW H × List MemPlace} (h : DataW.trod enc Tryz.prog w base spare held n 62 [v] = some y) :
    ∃ (a : Option Addr) (l : List Tax) (c : Nat), v = .slice a l.length c ∧ Row w a (cellsL encTax l) ∧ (a = none → c = 0) ∧ l.length ≤ maxLen ∧ ∀ x ∈ l, TaxOk x := by
  obtain ⟨a, len, cap, rows, rfl, hlen, hrows, hr, hn, hm, _⟩ := slice_rows (fun cs => ∃ l : Tax, encTax l = cs ∧ TaxOk l) Tryz.underlying62 (show Tryz.prog.cellsOf 189 = 2 by kernel_rfl) (by decide) (fun n cs y hl h => tax_cells hl h) h
  obtain ⟨l, hl⟩ := listOf (enc := fun x : { x : Tax // TaxOk x } => encTax x.1) (Q := fun cs => ∃ l : Tax, encTax l = cs ∧ TaxOk l) (fun r ⟨x, hx, hk⟩ => ⟨⟨x, hk⟩, hx⟩) rows (fun r hr => (hrows r hr).2)
  have hl2 : (l.map (·.1)).map encTax = rows := by rw [List.map_map]; exact hl
  have hl3 : (l.map (·.1)).length = len := by rw [← hlen, ← hl2]; simp
  refine ⟨a, l.map (·.1), cap, by rw [hl3], ?_, hn, by rw [hl3]; exact hm, fun x hx => ?_⟩
  · unfold cellsL; rw [hl2]; exact hr
  · obtain ⟨z, _, rfl⟩ := List.mem_map.1 hx; exact z.2
end Go.Proofs.YtnkghdakjdhhdaaGreat
end
section
namespace Go.Tk
open Go.RowKit Go.Lib Go.WideShapes
variable {H : Type} {enc : TypeId × Value → H} {P : Program} {w : World} {base : Nat} {spare : Nat → Bool} {held : Bool}
def flatF (P : Program) (rec : TypeId → Option (List TypeId)) (stop : Nat) : List Field → Nat → Option (List TypeId)
  | [], o => if o = stop then some [] else none
  | fd :: fs, o => if fd.offset = o then (rec fd.type).bind fun ks => (flatF P rec stop fs (o + P.cellsOf fd.type)).map fun r => ks ++ r else none
def flatT (P : Program) : Nat → TypeId → Option (List TypeId)
  | 0, _ => none
  | f + 1, t => match P.underlying t with
    | some (.struct fs) => flatF P (flatT P f) (P.cellsOf t) fs.toList 0
    | some (.array _ _) => none
    | some (.tuple _) => none
    | _ => if P.cellsOf t = 1 then some [t] else none
def FlatAs (enc : TypeId × Value → H) (P : Program) (w : World) (base : Nat) (spare : Nat → Bool) (held : Bool) : List TypeId → List Value → Prop
  | [], cs => cs = []
  | t :: ts, cs => ∃ v cs', cs = v :: cs' ∧ (∃ n y, DataW.trod enc P w base spare held n t [v] = some y) ∧ FlatAs enc P w base spare held ts cs'
theorem FlatAs.append : ∀ {ts us : List TypeId} {cs ds : List Value}, FlatAs enc P w base spare held ts cs → FlatAs enc P w base spare held us ds → FlatAs enc P w base spare held (ts ++ us) (cs ++ ds)
  | [], _, _, _, h, k => by cases h; exact k
  | _ :: _, _, _, _, ⟨v, cs', e, hv, h⟩, k => by subst e; exact ⟨v, _, rfl, hv, h.append k⟩
theorem flat_fields {rec : TypeId → Option (List TypeId)} {n : Nat} (cs : List Value)
    (ih : ∀ t ts, rec t = some ts → ∀ cs y, DataW.trod enc P w base spare held n t cs = some y → cs.length = P.cellsOf t → FlatAs enc P w base spare held ts cs) :
    ∀ (fs : List Field) (o : Nat) (ts : List TypeId), flatF P rec cs.length fs o = some ts → o ≤ cs.length →
      (∀ fd ∈ fs, ∃ y, DataW.trod enc P w base spare held n fd.type ((cs.drop fd.offset).take (P.cellsOf fd.type)) = some y ∧ fd.offset + P.cellsOf fd.type ≤ cs.length) → FlatAs enc P w base spare held ts (cs.drop o)
  | [], o, ts, h, ho, _ => by
    unfold flatF at h
    split at h
    · cases h; rename_i e; rw [e, List.drop_length]; rfl
    · cases h
  | fd :: fs, o, ts, h, ho, hf => by
    unfold flatF at h
    split at h
    case isFalse => cases h
    rename_i e
    cases hk : rec fd.type with
    | none => rw [hk] at h; cases h
    | some ks =>
      rw [hk] at h
      cases hr : flatF P rec cs.length fs (o + P.cellsOf fd.type) with
      | none => rw [hr] at h; cases h
      | some r =>
        rw [hr] at h
        cases h
        obtain ⟨y, hy, hle⟩ := hf fd List.mem_cons_self
        rw [e] at hy hle
        have h1 := ih fd.type ks hk _ y hy (by rw [List.length_take, List.length_drop]; omega)
        have h2 := flat_fields cs ih fs _ r hr hle (fun fd' hm => hf fd' (List.mem_cons_of_mem _ hm))
        have : cs.drop o = (cs.drop o).take (P.cellsOf fd.type) ++ cs.drop (o + P.cellsOf fd.type) := by
          rw [← List.drop_drop, List.take_append_drop]
        rw [this]
        exact h1.append h2
theorem flatF_room {rec : TypeId → Option (List TypeId)} {stop : Nat} : ∀ (fs : List Field) (o : Nat) (ts : List TypeId), flatF P rec stop fs o = some ts → o ≤ stop ∧ ∀ fd ∈ fs, fd.offset + P.cellsOf fd.type ≤ stop
  | [], o, ts, h => by
    unfold flatF at h
    split at h
    · rename_i e; exact ⟨by omega, by simp⟩
    · cases h
  | fd :: fs, o, ts, h => by
    unfold flatF at h
    split at h
    case isFalse => cases h
    rename_i e
    cases hk : rec fd.type with
    | none => rw [hk] at h; cases h
    | some ks =>
      rw [hk] at h
      cases hr : flatF P rec stop fs (o + P.cellsOf fd.type) with
      | none => rw [hr] at h; cases h
      | some r =>
        obtain ⟨h1, h2⟩ := flatF_room fs _ r hr
        refine ⟨by omega, fun f hf => ?_⟩
        rcases List.mem_cons.1 hf with rfl | hf
        · omega
        · exact h2 f hf
theorem flat_of : ∀ (f : Nat) (t : TypeId) (ts : List TypeId), flatT P f t = some ts → ∀ (n : Nat) (cs : List Value) y, DataW.trod enc P w base spare held n t cs = some y → cs.length = P.cellsOf t → FlatAs enc P w base spare held ts cs
  | 0, t, ts, h => by cases h
  | f + 1, t, ts, h => by
    intro n cs y hy hl
    unfold flatT at h
    split at h
    · rename_i fs hu
      obtain ⟨h1, m, h2⟩ := struct_fields hu hy
      obtain ⟨r1, r2⟩ := flatF_room fs.toList 0 ts h
      rw [← hl] at h r2
      have := flat_fields (n := m) cs (fun t' ts' ht cs' y' hy' hl' => flat_of f t' ts' ht m cs' y' hy' hl') fs.toList 0 ts h (Nat.zero_le _) (fun fd hm => by obtain ⟨y, hy⟩ := h2 fd hm; exact ⟨y, hy, r2 fd hm⟩)
      simpa using this
    · cases h
    · cases h
    · split at h
      · rename_i hc
        cases h
        rw [hc] at hl
        match cs, hl with
        | [v], _ => exact ⟨v, [], rfl, ⟨n, y, hy⟩, rfl⟩
      · cases h
def FlatI : List IntKind → List Value → Prop
  | [], cs => cs = []
  | k :: ks, cs => ∃ z cs', cs = .int k z :: cs' ∧ (Lit.int k z).wf = true ∧ FlatI ks cs'
theorem FlatAs.ints : ∀ {ts : List TypeId} {ks : List IntKind} {cs : List Value}, ts.map P.underlying = ks.map (fun k => some (.int k)) → FlatAs enc P w base spare held ts cs → FlatI ks cs
  | [], [], _, _, h => h
  | [], _ :: _, _, e, _ => by simp at e
  | _ :: _, [], _, e, _ => by simp at e
  | t :: ts, k :: ks, cs, e, ⟨v, cs', e2, ⟨n, y, hy⟩, h⟩ => by
    subst e2
    simp only [List.map_cons, List.cons.injEq] at e
    obtain ⟨z, hz, hw⟩ := int_cell e.1 hy
    cases hz
    exact ⟨z, cs', rfl, hw, FlatAs.ints e.2 h⟩
end Go.Tk
end
section
namespace Go.Proofs.YtnkghdakjdhhdaaGreat
open Go.RowKit Go.Lib Go.Tk Go.Shelf Go.Vc Go.Sx Go.WideShapes
section
variable {H : Type} {enc : TypeId × Value → H} {w : World} {base : Nat} {spare : Nat → Bool} {held : Bool}
def kidC (k : Kid) : List Value := [.int .u8 k.t.c, .int .u64 k.t.r, .int .u8 k.i]
theorem kid_of {cs : List Value} (h : FlatAs enc Tryz.prog w base spare held [5, 23, 5] cs) : ∃ x : Kid, kidC x = cs ∧ KidOk x := by
  obtain ⟨v0, _, rfl, ⟨n0, y0, h0⟩, v1, _, rfl, ⟨n1, y1, h1⟩, v2, _, rfl, ⟨n2, y2, h2⟩, rfl⟩ := h
  obtain ⟨a0, e0, w0⟩ := int_cell Tryz.underlying5 h0
  obtain ⟨a1, e1, w1⟩ := int_cell Tryz.underlying23 h1
  obtain ⟨a2, e2, w2⟩ := int_cell Tryz.underlying5 h2
  cases e0; cases e1; cases e2
  exact ⟨⟨⟨a0, a1⟩, a2⟩, rfl, ⟨wfu8 w0, wfu64 w1⟩, wfu8 w2⟩
end
end Go.Proofs.YtnkghdakjdhhdaaGreat
end
section
namespace Go.Proofs.YtnkghdakjdhhdaaGreat
open Go.RowKit Go.Lib Go.Tk Go.Shelf Go.Vc Go.Sx Go.WideShapes
structure Act15 where
  d : Int
  s : SaleV
  A : SaleA
  dv : DocV
  da : DocA
  k : Kid
  o : OwnV
  h : HeldV
def saleC (s : SaleV) (A : SaleA) : List Value := [.string s.name, .slice A.la s.legs.length A.lc, .int .i64 s.fare, .slice A.ta s.taxes.length A.tc, .int .i64 s.pen]
def act15C (x : Act15) : List Value := [.int .i64 x.d] ++ (saleC x.s x.A ++ (docL (x.dv, x.da) ++ (kidC x.k ++ (ownL x.o ++ heldL x.h))))
def I64Ok (v : Int) : Prop := -9223372036854775808 ≤ v ∧ v ≤ 9223372036854775807
structure Act15In (w : World) (x : Act15) : Prop where
  at_ : SaleAt w x.s x.A
  ok : SaleW x.s
  da : SaleAt w x.dv.s ⟨x.da.la, x.da.lc, x.da.ta, x.da.tc⟩
  dok : SaleW x.dv.s
  dv : Row w x.da.va (x.dv.vals.map (.int .i64))
  dvn : x.da.va = none → x.da.vc = 0
  dvm : x.dv.vals.length ≤ maxLen
  dt : TidOk x.dv.t
  k : KidOk x.k
  ov : I64Ok x.o.k.v
  os : 0 ≤ x.o.k.s ∧ x.o.k.s ≤ 255
  ot : 0 ≤ x.o.dst ∧ x.o.dst ≤ 255
  hv : I64Ok x.h.k.v
  on : 0 ≤ x.o.k.n ∧ x.o.k.n ≤ 4294967295
  hs : 0 ≤ x.h.k.s ∧ x.h.k.s ≤ 255
section
variable {H : Type} {enc : TypeId × Value → H} {w : World} {base : Nat} {spare : Nat → Bool} {held : Bool}
theorem FlatAs.split : ∀ {ts us : List TypeId} {cs : List Value}, FlatAs enc Tryz.prog w base spare held (ts ++ us) cs → ∃ a b, cs = a ++ b ∧ FlatAs enc Tryz.prog w base spare held ts a ∧ FlatAs enc Tryz.prog w base spare held us b
  | [], us, cs, h => ⟨[], cs, rfl, rfl, h⟩
  | t :: ts, us, cs, ⟨v, cs', e, hv, h⟩ => by
    obtain ⟨a, b, h1, ha, hb⟩ := FlatAs.split h
    subst h1
    subst e
    exact ⟨v :: a, b, rfl, ⟨v, a, rfl, hv, ha⟩, hb⟩
theorem ints15_cell {n : Nat} {v : Value} {y : DataW H × List MemPlace} (h : DataW.trod enc Tryz.prog w base spare held n 65 [v] = some y) :
    ∃ (a : Option Addr) (l : List Int) (c : Nat), v = .slice a l.length c ∧ Row w a (l.map (.int .i64)) ∧ (a = none → c = 0) ∧ l.length ≤ maxLen ∧ ∀ x ∈ l, (Lit.int .i64 x).wf = true := by
  obtain ⟨a, len, cap, rows, rfl, hlen, hrows, hr, hn, hm, _⟩ := slice_rows (fun cs => ∃ x : Int, [.int .i64 x] = cs ∧ (Lit.int .i64 x).wf = true) Tryz.underlying65 (show Tryz.prog.cellsOf 2 = 1 by kernel_rfl) (by decide) (fun n cs y hl h => by obtain ⟨x, e, w⟩ := int_cell Tryz.underlying2 h; exact ⟨x, e.symm, w⟩) h
  obtain ⟨l, hl⟩ := listOf (enc := fun x : { x : Int // (Lit.int .i64 x).wf = true } => [Value.int .i64 x.1]) (Q := fun cs => ∃ x : Int, [Value.int .i64 x] = cs ∧ (Lit.int .i64 x).wf = true) (fun r ⟨x, hx, hk⟩ => ⟨⟨x, hk⟩, hx⟩) rows (fun r hr => (hrows r hr).2)
  have hl2 : (l.map (·.1)).map (fun x => [Value.int .i64 x]) = rows := by rw [List.map_map]; exact hl
  have hl3 : (l.map (·.1)).length = len := by rw [← hlen, ← hl2]; simp
  have hl4 : rows.flatten = (l.map (·.1)).map (.int .i64) := by
    rw [← hl2]
    generalize l.map (·.1) = z
    induction z with
    | nil => rfl
    | cons x r ih => simp [ih]
  refine ⟨a, l.map (·.1), cap, by rw [hl3], ?_, hn, by rw [hl3]; exact hm, fun x hx => ?_⟩
  · rw [← hl4]; exact hr
  · obtain ⟨z, _, rfl⟩ := List.mem_map.1 hx; exact z.2
theorem sale_of {cs : List Value} (h : FlatAs enc Tryz.prog w base spare held [9, 61, 2, 62, 2] cs) : ∃ s A, saleC s A = cs ∧ SaleAt w s A ∧ SaleW s := by
  obtain ⟨v0, _, rfl, ⟨n0, y0, h0⟩, v1, _, rfl, ⟨n1, y1, h1⟩, v2, _, rfl, ⟨n2, y2, h2⟩, v3, _, rfl, ⟨n3, y3, h3⟩, v4, _, rfl, ⟨n4, y4, h4⟩, rfl⟩ := h
  obtain ⟨a0, e0, w0⟩ := string_cell Tryz.underlying9 h0
  cases e0
  obtain ⟨b1, a1, c1, e1, r1, i1, m1, o1⟩ := legs_cell h1
  cases e1
  obtain ⟨a2, e2, w2⟩ := int_cell Tryz.underlying2 h2
  cases e2
  obtain ⟨b3, a3, c3, e3, r3, i3, m3, o3⟩ := taxes_cell h3
  cases e3
  obtain ⟨a4, e4, w4⟩ := int_cell Tryz.underlying2 h4
  cases e4
  exact ⟨⟨a0, a1, a2, a3, a4⟩, ⟨b1, c1, b3, c3⟩, rfl, ⟨r1, r3, i1, i3⟩, ⟨w0, o1, o3, wfi64 w2, wfi64 w4, m1, m3⟩⟩
theorem tid_of {cs : List Value} (h : FlatAs enc Tryz.prog w base spare held [5, 23] cs) : ∃ t : Tid, [Value.int .u8 t.c, .int .u64 t.r] = cs ∧ TidOk t := by
  obtain ⟨v0, _, rfl, ⟨n0, y0, h0⟩, v1, _, rfl, ⟨n1, y1, h1⟩, rfl⟩ := h
  obtain ⟨a0, e0, w0⟩ := int_cell Tryz.underlying5 h0
  cases e0
  obtain ⟨a1, e1, w1⟩ := int_cell Tryz.underlying23 h1
  cases e1
  exact ⟨⟨a0, a1⟩, rfl, wfu8 w0, wfu64 w1⟩
theorem own_of {cs : List Value} (h : FlatAs enc Tryz.prog w base spare held [5, 28, 29, 2, 32, 29, 4, 5, 4, 4] cs) : ∃ o : OwnV, ownL o = cs ∧ I64Ok o.k.v ∧ (0 ≤ o.k.s ∧ o.k.s ≤ 255) ∧ (0 ≤ o.dst ∧ o.dst ≤ 255) ∧ 0 ≤ o.k.n ∧ o.k.n ≤ 4294967295 := by
  obtain ⟨v0, _, rfl, ⟨n0, y0, h0⟩, v1, _, rfl, ⟨n1, y1, h1⟩, v2, _, rfl, ⟨n2, y2, h2⟩, v3, _, rfl, ⟨n3, y3, h3⟩, v4, _, rfl, ⟨n4, y4, h4⟩, v5, _, rfl, ⟨n5, y5, h5⟩, v6, _, rfl, ⟨n6, y6, h6⟩, v7, _, rfl, ⟨n7, y7, h7⟩, v8, _, rfl, ⟨n8, y8, h8⟩, v9, _, rfl, ⟨n9, y9, h9⟩, rfl⟩ := h
  obtain ⟨a0, e0, w0⟩ := int_cell Tryz.underlying5 h0
  cases e0
  obtain ⟨a1, e1, w1⟩ := int_cell Tryz.underlying28 h1
  cases e1
  obtain ⟨a2, e2, w2⟩ := int_cell Tryz.underlying29 h2
  cases e2
  obtain ⟨a3, e3, w3⟩ := int_cell Tryz.underlying2 h3
  cases e3
  obtain ⟨a4, e4, w4⟩ := int_cell Tryz.underlying32 h4
  cases e4
  obtain ⟨a5, e5, w5⟩ := int_cell Tryz.underlying29 h5
  cases e5
  obtain ⟨a6, e6⟩ := bool_cell Tryz.underlying4 h6
  cases e6
  obtain ⟨a7, e7, w7⟩ := int_cell Tryz.underlying5 h7
  cases e7
  obtain ⟨a8, e8⟩ := bool_cell Tryz.underlying4 h8
  cases e8
  obtain ⟨a9, e9⟩ := bool_cell Tryz.underlying4 h9
  cases e9
  exact ⟨⟨⟨⟨a0, a1, a2⟩, a3, a4, a5⟩, a6, a7, a8, a9⟩, rfl, wfi64 w3, wfu8 w4, wfu8 w7, wfu32 w5⟩
theorem held_of {cs : List Value} (h : FlatAs enc Tryz.prog w base spare held [5, 28, 29, 2, 32, 29, 4, 4, 4, 4] cs) : ∃ o : HeldV, heldL o = cs ∧ I64Ok o.k.v ∧ 0 ≤ o.k.s ∧ o.k.s ≤ 255 := by
  obtain ⟨v0, _, rfl, ⟨n0, y0, h0⟩, v1, _, rfl, ⟨n1, y1, h1⟩, v2, _, rfl, ⟨n2, y2, h2⟩, v3, _, rfl, ⟨n3, y3, h3⟩, v4, _, rfl, ⟨n4, y4, h4⟩, v5, _, rfl, ⟨n5, y5, h5⟩, v6, _, rfl, ⟨n6, y6, h6⟩, v7, _, rfl, ⟨n7, y7, h7⟩, v8, _, rfl, ⟨n8, y8, h8⟩, v9, _, rfl, ⟨n9, y9, h9⟩, rfl⟩ := h
  obtain ⟨a0, e0, w0⟩ := int_cell Tryz.underlying5 h0
  cases e0
  obtain ⟨a1, e1, w1⟩ := int_cell Tryz.underlying28 h1
  cases e1
  obtain ⟨a2, e2, w2⟩ := int_cell Tryz.underlying29 h2
  cases e2
  obtain ⟨a3, e3, w3⟩ := int_cell Tryz.underlying2 h3
  cases e3
  obtain ⟨a4, e4, w4⟩ := int_cell Tryz.underlying32 h4
  cases e4
  obtain ⟨a5, e5, w5⟩ := int_cell Tryz.underlying29 h5
  cases e5
  obtain ⟨a6, e6⟩ := bool_cell Tryz.underlying4 h6
  cases e6
  obtain ⟨a7, e7⟩ := bool_cell Tryz.underlying4 h7
  cases e7
  obtain ⟨a8, e8⟩ := bool_cell Tryz.underlying4 h8
  cases e8
  obtain ⟨a9, e9⟩ := bool_cell Tryz.underlying4 h9
  cases e9
  exact ⟨⟨⟨⟨a0, a1, a2⟩, a3, a4, a5⟩, a6, a7, a8, a9⟩, rfl, wfi64 w3, wfu8 w4⟩
theorem five_of {cs : List Value} (h : FlatAs enc Tryz.prog w base spare held [2, 2, 2, 2, 2] cs) : ∃ a b c d e : Int, [Value.int .i64 a, .int .i64 b, .int .i64 c, .int .i64 d, .int .i64 e] = cs := by
  obtain ⟨v0, _, rfl, ⟨n0, y0, h0⟩, v1, _, rfl, ⟨n1, y1, h1⟩, v2, _, rfl, ⟨n2, y2, h2⟩, v3, _, rfl, ⟨n3, y3, h3⟩, v4, _, rfl, ⟨n4, y4, h4⟩, rfl⟩ := h
  obtain ⟨a0, e0, w0⟩ := int_cell Tryz.underlying2 h0
  cases e0
  obtain ⟨a1, e1, w1⟩ := int_cell Tryz.underlying2 h1
  cases e1
  obtain ⟨a2, e2, w2⟩ := int_cell Tryz.underlying2 h2
  cases e2
  obtain ⟨a3, e3, w3⟩ := int_cell Tryz.underlying2 h3
  cases e3
  obtain ⟨a4, e4, w4⟩ := int_cell Tryz.underlying2 h4
  cases e4
  exact ⟨a0, a1, a2, a3, a4, rfl⟩
theorem vals_of {cs : List Value} (h : FlatAs enc Tryz.prog w base spare held [65] cs) : ∃ (a : Option Addr) (l : List Int) (c : Nat), [Value.slice a l.length c] = cs ∧ Row w a (l.map (.int .i64)) ∧ (a = none → c = 0) ∧ l.length ≤ maxLen := by
  obtain ⟨v0, _, rfl, ⟨n0, y0, h0⟩, rfl⟩ := h
  obtain ⟨b0, a0, c0, e0, r0, i0, m0, o0⟩ := ints15_cell h0
  cases e0
  exact ⟨b0, a0, c0, rfl, r0, i0, m0⟩
theorem do_of {cs : List Value} (h : FlatAs enc Tryz.prog w base spare held [3] cs) : ∃ a : Int, [Value.int .i64 a] = cs := by
  obtain ⟨v0, _, rfl, ⟨n0, y0, h0⟩, rfl⟩ := h
  obtain ⟨a0, e0, w0⟩ := int_cell Tryz.underlying3 h0
  cases e0
  exact ⟨a0, rfl⟩
def docTs : List TypeId := [5, 23] ++ ([9, 61, 2, 62, 2] ++ ([65] ++ ([5, 23] ++ ([5, 23] ++ [2, 2, 2, 2, 2]))))
def act15Ts : List TypeId := [3] ++ ([9, 61, 2, 62, 2] ++ (docTs ++ ([5, 23, 5] ++ ([5, 28, 29, 2, 32, 29, 4, 5, 4, 4] ++ [5, 28, 29, 2, 32, 29, 4, 4, 4, 4]))))
theorem doc_of {cs : List Value} (h : FlatAs enc Tryz.prog w base spare held docTs cs) : ∃ (d : DocV) (a : DocA), docL (d, a) = cs ∧ TidOk d.t ∧ SaleAt w d.s ⟨a.la, a.lc, a.ta, a.tc⟩ ∧ SaleW d.s ∧ Row w a.va (d.vals.map (.int .i64)) ∧ (a.va = none → a.vc = 0) ∧ d.vals.length ≤ maxLen := by
  obtain ⟨x1, r1, e1, h1, g1⟩ := FlatAs.split h
  obtain ⟨x2, r2, e2, h2, g2⟩ := FlatAs.split g1
  obtain ⟨x3, r3, e3, h3, g3⟩ := FlatAs.split g2
  obtain ⟨x4, r4, e4, h4, g4⟩ := FlatAs.split g3
  obtain ⟨x5, x6, e5, h5, h6⟩ := FlatAs.split g4
  obtain ⟨t, f1, t1⟩ := tid_of h1
  obtain ⟨s, A, f2, s1, s2⟩ := sale_of h2
  obtain ⟨va, l, vc, f3, v1, v2, v3⟩ := vals_of h3
  obtain ⟨fr, f4, -⟩ := tid_of h4
  obtain ⟨ds, f5, -⟩ := tid_of h5
  obtain ⟨q1, q2, q3, q4, q5, f6⟩ := five_of h6
  refine ⟨⟨t, s, l, fr, ds, q1, q2, q3, q4, q5⟩, ⟨A.la, A.lc, A.ta, A.tc, va, vc⟩, ?_, t1, s1, s2, v1, v2, v3⟩
  rw [e1, e2, e3, e4, e5, ← f1, ← f2, ← f3, ← f4, ← f5, ← f6]
  rfl
theorem act15_of {cs : List Value} (h : FlatAs enc Tryz.prog w base spare held act15Ts cs) : ∃ x : Act15, act15C x = cs ∧ Act15In w x := by
  obtain ⟨x1, r1, e1, h1, g1⟩ := FlatAs.split h
  obtain ⟨x2, r2, e2, h2, g2⟩ := FlatAs.split g1
  obtain ⟨x3, r3, e3, h3, g3⟩ := FlatAs.split g2
  obtain ⟨x4, r4, e4, h4, g4⟩ := FlatAs.split g3
  obtain ⟨x5, x6, e5, h5, h6⟩ := FlatAs.split g4
  obtain ⟨d, f1⟩ := do_of h1
  obtain ⟨s, A, f2, s1, s2⟩ := sale_of h2
  obtain ⟨dv, da, f3, d1, d2, d3, d4, d5, d6⟩ := doc_of h3
  obtain ⟨k, f4, k1⟩ := kid_of h4
  obtain ⟨o, f5, o1, o2, o3, o4⟩ := own_of h5
  obtain ⟨hh, f6, hh1, hh2⟩ := held_of h6
  refine ⟨⟨d, s, A, dv, da, k, o, hh⟩, ?_, ⟨s1, s2, d2, d3, d4, d5, d6, d1, k1, o1, o2, o3, hh1, o4, hh2⟩⟩
  rw [e1, e2, e3, e4, e5, ← f1, ← f2, ← f3, ← f4, ← f5, ← f6]
  rfl
theorem act15_flat : flatT Tryz.prog 6 71 = some act15Ts := by kernel_rfl
theorem acts15_cell {n : Nat} {v : Value} {y : DataW H × List MemPlace} (h : DataW.trod enc Tryz.prog w base spare held n 22 [v] = some y) :
    ∃ (a : Option Addr) (l : List Act15) (c : Nat), v = .slice a l.length c ∧ Row w a (cellsL act15C l) ∧ (a = none → c = 0) ∧ l.length ≤ maxLen ∧ ∀ x ∈ l, Act15In w x := by
  obtain ⟨a, len, cap, rows, rfl, hlen, hrows, hr, hn, hm, _⟩ := slice_rows (fun cs => ∃ l : Act15, act15C l = cs ∧ Act15In w l) Tryz.underlying22 (show Tryz.prog.cellsOf 71 = 46 by kernel_rfl) (by decide)
    (fun n cs y hl h => act15_of (flat_of 6 _ _ act15_flat n cs y h (by rw [hl]; kernel_rfl))) h
  obtain ⟨l, hl⟩ := listOf (enc := fun x : { x : Act15 // Act15In w x } => act15C x.1) (Q := fun cs => ∃ l : Act15, act15C l = cs ∧ Act15In w l) (fun r ⟨x, hx, hk⟩ => ⟨⟨x, hk⟩, hx⟩) rows (fun r hr => (hrows r hr).2)
  have hl2 : (l.map (·.1)).map act15C = rows := by rw [List.map_map]; exact hl
  have hl3 : (l.map (·.1)).length = len := by rw [← hlen, ← hl2]; simp
  refine ⟨a, l.map (·.1), cap, by rw [hl3], ?_, hn, by rw [hl3]; exact hm, fun x hx => ?_⟩
  · unfold cellsL; rw [hl2]; exact hr
  · obtain ⟨z, _, rfl⟩ := List.mem_map.1 hx; exact z.2
end
end Go.Proofs.YtnkghdakjdhhdaaGreat
end
