/- Open, Flat, OpA, Bw, Is1. -/
import Derived.Test.YtlekbdpdlalhbaaMb6a2934
import Derived.WideShapes
import Derived.Lib.SmallJoins
import Derived.Test.YtlekbdpdlalhbaaM12d9068
import Derived.Test.YtlekbdpdlalhbaaM5449731
import Derived.Test.YtlekbdpdlalhbaaM467ed32
import Derived.Test.YtlekbdpdlalhbaaM1f2ffe2
section
namespace Go.Proofs.Ytlekbdpdlalhbaa
open Go.RowKit Go.Lib Go.Tk Go.WideShapes Go.Joins Go.ChangeShapes

structure SaleW (s : SaleV) : Prop where
  name : s.name.size ≤ maxLen
  legs : ∀ l ∈ s.legs, LegOk l
  taxes : ∀ t ∈ s.taxes, TaxOk t
  fare : -9223372036854775808 ≤ s.fare ∧ s.fare ≤ 9223372036854775807
  pen : -9223372036854775808 ≤ s.pen ∧ s.pen ≤ 9223372036854775807
  nl : s.legs.length ≤ maxLen
  nt : s.taxes.length ≤ maxLen
theorem SaleW.small {s : SaleV} (h : SaleW s) (h1 : s.legs.length ≤ 1000) (h2 : s.taxes.length ≤ 1000) : SaleOk s := ⟨h.name, h.legs, h.taxes, h.fare, h.pen, h1, h2⟩

theorem wfi64 {a : Int} (h : (Lit.int .i64 a).wf = true) : -9223372036854775808 ≤ a ∧ a ≤ 9223372036854775807 := by
  simpa [Lit.wf, IntKind.min, IntKind.max, IntKind.signed, IntKind.bits] using h
theorem wfu8 {a : Int} (h : (Lit.int .u8 a).wf = true) : 0 ≤ a ∧ a ≤ 255 := by
  simpa [Lit.wf, IntKind.min, IntKind.max, IntKind.signed, IntKind.bits] using h
theorem wfu16 {a : Int} (h : (Lit.int .u16 a).wf = true) : 0 ≤ a ∧ a ≤ 65535 := by
  simpa [Lit.wf, IntKind.min, IntKind.max, IntKind.signed, IntKind.bits] using h
theorem wfu32 {a : Int} (h : (Lit.int .u32 a).wf = true) : 0 ≤ a ∧ a ≤ 4294967295 := by
  simpa [Lit.wf, IntKind.min, IntKind.max, IntKind.signed, IntKind.bits] using h
theorem wfu64 {a : Int} (h : (Lit.int .u64 a).wf = true) : 0 ≤ a ∧ a ≤ 18446744073709551615 := by
  simpa [Lit.wf, IntKind.min, IntKind.max, IntKind.signed, IntKind.bits] using h

theorem len2 {cs : List Value} (h : cs.length = 2) : ∃ a b, cs = [a, b] := by
  match cs, h with
  | [a, b], _ => exact ⟨a, b, rfl⟩
theorem len3 {cs : List Value} (h : cs.length = 3) : ∃ a b c, cs = [a, b, c] := by
  match cs, h with
  | [a, b, c], _ => exact ⟨a, b, c, rfl⟩
variable {H : Type} {enc : TypeId × Value → H} {w : World} {base : Nat} {spare : Nat → Bool} {held : Bool}

set_option maxRecDepth 100000 in
theorem leg_cells {n : Nat} {cs : List Value} {y : DataW H × List MemPlace} (hl : cs.length = 3) (h : DataW.trod enc Try.prog w base spare held n 47 cs = some y) : ∃ l : Leg, encLeg l = cs ∧ LegOk l := by
  obtain ⟨_, m, hf⟩ := struct_fields Try.underlying47 h
  obtain ⟨c0, c1, c2, rfl⟩ := len3 hl
  simp only [List.forall_mem_cons] at hf
  obtain ⟨⟨y0, h0⟩, ⟨y1, h1⟩, ⟨y2, h2⟩, -⟩ := hf
  obtain ⟨a0, e0, w0⟩ := int_cell Try.underlying5 h0
  obtain ⟨a1, e1, w1⟩ := int_cell Try.underlying44 h1
  obtain ⟨a2, e2, w2⟩ := int_cell Try.underlying45 h2
  have f0 : c0 = .int .u8 a0 := by simpa [show Try.prog.cellsOf 5 = 1 by kernel_rfl] using e0
  have f1 : c1 = .int .u16 a1 := by simpa [show Try.prog.cellsOf 44 = 1 by kernel_rfl] using e1
  have f2 : c2 = .int .u32 a2 := by simpa [show Try.prog.cellsOf 45 = 1 by kernel_rfl] using e2
  exact ⟨⟨a0, a1, a2⟩, by rw [f0, f1, f2]; rfl, wfu8 w0, wfu16 w1, wfu32 w2⟩
set_option maxRecDepth 100000 in
theorem tax_cells {n : Nat} {cs : List Value} {y : DataW H × List MemPlace} (hl : cs.length = 2) (h : DataW.trod enc Try.prog w base spare held n 88 cs = some y) : ∃ l : Tax, encTax l = cs ∧ TaxOk l := by
  obtain ⟨_, m, hf⟩ := struct_fields Try.underlying88 h
  obtain ⟨c0, c1, rfl⟩ := len2 hl
  simp only [List.forall_mem_cons] at hf
  obtain ⟨⟨y0, h0⟩, ⟨y1, h1⟩, -⟩ := hf
  obtain ⟨a0, e0, w0⟩ := string_cell Try.underlying9 h0
  obtain ⟨a1, e1, w1⟩ := int_cell Try.underlying2 h1
  have f0 : c0 = .string a0 := by simpa [show Try.prog.cellsOf 9 = 1 by kernel_rfl] using e0
  have f1 : c1 = .int .i64 a1 := by simpa [show Try.prog.cellsOf 2 = 1 by kernel_rfl] using e1
  exact ⟨⟨a0, a1⟩, by rw [f0, f1]; rfl, w0, wfi64 w1⟩

theorem legs_cell {n : Nat} {v : Value} {y : DataW H × List MemPlace} (h : DataW.trod enc Try.prog w base spare held n 29 [v] = some y) :
    ∃ (a : Option Addr) (l : List Leg) (c : Nat), v = .slice a l.length c ∧ Row w a (cellsL encLeg l) ∧ (a = none → c = 0) ∧ l.length ≤ maxLen ∧ ∀ x ∈ l, LegOk x := by
  obtain ⟨a, len, cap, rows, rfl, hlen, hrows, hr, hn, hm, _⟩ := slice_rows (fun cs => ∃ l : Leg, encLeg l = cs ∧ LegOk l) Try.underlying29 (show Try.prog.cellsOf 47 = 3 by kernel_rfl) (by decide) (fun n cs y hl h => leg_cells hl h) h
  obtain ⟨l, hl⟩ := listOf (enc := fun x : { x : Leg // LegOk x } => encLeg x.1) (Q := fun cs => ∃ l : Leg, encLeg l = cs ∧ LegOk l) (fun r ⟨x, hx, hk⟩ => ⟨⟨x, hk⟩, hx⟩) rows (fun r hr => (hrows r hr).2)
  have hl2 : (l.map (·.1)).map encLeg = rows := by rw [List.map_map]; exact hl
  have hl3 : (l.map (·.1)).length = len := by rw [← hlen, ← hl2]; simp
  refine ⟨a, l.map (·.1), cap, by rw [hl3], ?_, hn, by rw [hl3]; exact hm, fun x hx => ?_⟩
  · unfold cellsL; rw [hl2]; exact hr
  · obtain ⟨z, _, rfl⟩ := List.mem_map.1 hx; exact z.2
theorem taxes_cell {n : Nat} {v : Value} {y : DataW H × List MemPlace} (h : DataW.trod enc Try.prog w base spare held n 30 [v] = some y) :
    ∃ (a : Option Addr) (l : List Tax) (c : Nat), v = .slice a l.length c ∧ Row w a (cellsL encTax l) ∧ (a = none → c = 0) ∧ l.length ≤ maxLen ∧ ∀ x ∈ l, TaxOk x := by
  obtain ⟨a, len, cap, rows, rfl, hlen, hrows, hr, hn, hm, _⟩ := slice_rows (fun cs => ∃ l : Tax, encTax l = cs ∧ TaxOk l) Try.underlying30 (show Try.prog.cellsOf 88 = 2 by kernel_rfl) (by decide) (fun n cs y hl h => tax_cells hl h) h
  obtain ⟨l, hl⟩ := listOf (enc := fun x : { x : Tax // TaxOk x } => encTax x.1) (Q := fun cs => ∃ l : Tax, encTax l = cs ∧ TaxOk l) (fun r ⟨x, hx, hk⟩ => ⟨⟨x, hk⟩, hx⟩) rows (fun r hr => (hrows r hr).2)
  have hl2 : (l.map (·.1)).map encTax = rows := by rw [List.map_map]; exact hl
  have hl3 : (l.map (·.1)).length = len := by rw [← hlen, ← hl2]; simp
  refine ⟨a, l.map (·.1), cap, by rw [hl3], ?_, hn, by rw [hl3]; exact hm, fun x hx => ?_⟩
  · unfold cellsL; rw [hl2]; exact hr
  · obtain ⟨z, _, rfl⟩ := List.mem_map.1 hx; exact z.2

end Go.Proofs.Ytlekbdpdlalhbaa
end
section
namespace Go.Tk
set_option linter.unusedVariables false
set_option linter.unusedSimpArgs false
open Go.RowKit Go.Lib Go.WideShapes

variable {H : Type} {enc : TypeId × Value → H} {P : Program} {w : World} {base : Nat} {spare : Nat → Bool} {held : Bool}

/-- the types of a type's cells, in order -/
def flatF (P : Program) (rec : TypeId → Option (List TypeId)) (stop : Nat) : List Field → Nat → Option (List TypeId)
  | [], o => if o = stop then some [] else none
  | fd :: fs, o => if fd.offset = o then (rec fd.type).bind fun ks => (flatF P rec stop fs (o + P.cellsOf fd.type)).map fun r => ks ++ r else none
def flatT (P : Program) : Nat → TypeId → Option (List TypeId)
  | 0, _ => none
  | f + 1, t => match P.underlying t with
    | some (.struct fs) => flatF P (flatT P f) (P.cellsOf t) fs.toList 0
    | some (.array _ _) => none
    | some (.tuple _) => none
    | _ => if P.cellsOf t = 1 then some [t] else none

def FlatAs (enc : TypeId × Value → H) (P : Program) (w : World) (base : Nat) (spare : Nat → Bool) (held : Bool) : List TypeId → List Value → Prop
  | [], cs => cs = []
  | t :: ts, cs => ∃ v cs', cs = v :: cs' ∧ (∃ n y, DataW.trod enc P w base spare held n t [v] = some y) ∧ FlatAs enc P w base spare held ts cs'
theorem FlatAs.append : ∀ {ts us : List TypeId} {cs ds : List Value}, FlatAs enc P w base spare held ts cs → FlatAs enc P w base spare held us ds → FlatAs enc P w base spare held (ts ++ us) (cs ++ ds)
  | [], _, _, _, h, k => by cases h; exact k
  | _ :: _, _, _, _, ⟨v, cs', e, hv, h⟩, k => by subst e; exact ⟨v, _, rfl, hv, h.append k⟩

theorem flat_fields {rec : TypeId → Option (List TypeId)} {n : Nat} (cs : List Value)
    (ih : ∀ t ts, rec t = some ts → ∀ cs y, DataW.trod enc P w base spare held n t cs = some y → cs.length = P.cellsOf t → FlatAs enc P w base spare held ts cs) :
    ∀ (fs : List Field) (o : Nat) (ts : List TypeId), flatF P rec cs.length fs o = some ts → o ≤ cs.length →
      (∀ fd ∈ fs, ∃ y, DataW.trod enc P w base spare held n fd.type ((cs.drop fd.offset).take (P.cellsOf fd.type)) = some y ∧ fd.offset + P.cellsOf fd.type ≤ cs.length) → FlatAs enc P w base spare held ts (cs.drop o)
  | [], o, ts, h, ho, _ => by
    unfold flatF at h
    split at h
    · cases h; rename_i e; rw [e, List.drop_length]; rfl
    · cases h
  | fd :: fs, o, ts, h, ho, hf => by
    unfold flatF at h
    split at h
    case isFalse => cases h
    rename_i e
    cases hk : rec fd.type with
    | none => rw [hk] at h; cases h
    | some ks =>
      rw [hk] at h
      cases hr : flatF P rec cs.length fs (o + P.cellsOf fd.type) with
      | none => rw [hr] at h; cases h
      | some r =>
        rw [hr] at h
        cases h
        obtain ⟨y, hy, hle⟩ := hf fd List.mem_cons_self
        rw [e] at hy hle
        have h1 := ih fd.type ks hk _ y hy (by rw [List.length_take, List.length_drop]; omega)
        have h2 := flat_fields cs ih fs _ r hr hle (fun fd' hm => hf fd' (List.mem_cons_of_mem _ hm))
        have : cs.drop o = (cs.drop o).take (P.cellsOf fd.type) ++ cs.drop (o + P.cellsOf fd.type) := by
          rw [← List.drop_drop, List.take_append_drop]
        rw [this]
        exact h1.append h2

theorem flatF_room {rec : TypeId → Option (List TypeId)} {stop : Nat} : ∀ (fs : List Field) (o : Nat) (ts : List TypeId), flatF P rec stop fs o = some ts → o ≤ stop ∧ ∀ fd ∈ fs, fd.offset + P.cellsOf fd.type ≤ stop
  | [], o, ts, h => by
    unfold flatF at h
    split at h
    · rename_i e; exact ⟨by omega, by simp⟩
    · cases h
  | fd :: fs, o, ts, h => by
    unfold flatF at h
    split at h
    case isFalse => cases h
    rename_i e
    cases hk : rec fd.type with
    | none => rw [hk] at h; cases h
    | some ks =>
      rw [hk] at h
      cases hr : flatF P rec stop fs (o + P.cellsOf fd.type) with
      | none => rw [hr] at h; cases h
      | some r =>
        obtain ⟨h1, h2⟩ := flatF_room fs _ r hr
        refine ⟨by omega, fun f hf => ?_⟩
        rcases List.mem_cons.1 hf with rfl | hf
        · omega
        · exact h2 f hf

theorem flat_of : ∀ (f : Nat) (t : TypeId) (ts : List TypeId), flatT P f t = some ts → ∀ (n : Nat) (cs : List Value) y, DataW.trod enc P w base spare held n t cs = some y → cs.length = P.cellsOf t → FlatAs enc P w base spare held ts cs
  | 0, t, ts, h => by cases h
  | f + 1, t, ts, h => by
    intro n cs y hy hl
    unfold flatT at h
    split at h
    · rename_i fs hu
      obtain ⟨h1, m, h2⟩ := struct_fields hu hy
      obtain ⟨r1, r2⟩ := flatF_room fs.toList 0 ts h
      rw [← hl] at h r2
      have := flat_fields (n := m) cs (fun t' ts' ht cs' y' hy' hl' => flat_of f t' ts' ht m cs' y' hy' hl') fs.toList 0 ts h (Nat.zero_le _) (fun fd hm => by obtain ⟨y, hy⟩ := h2 fd hm; exact ⟨y, hy, r2 fd hm⟩)
      simpa using this
    · cases h
    · cases h
    · split at h
      · rename_i hc
        cases h
        rw [hc] at hl
        match cs, hl with
        | [v], _ => exact ⟨v, [], rfl, ⟨n, y, hy⟩, rfl⟩
      · cases h

/-- a value of struct type that came in, leaf by leaf -/
theorem flat_open {t : TypeId} {fs : Array Field} {r : Reach} {b0 : Nat} {v : Value} {d : DataW H} {p : List MemPlace} (f : Nat) {ts : List TypeId} (hs : P.underlying t = some (.struct fs)) (ht : flatT P f t = some ts) (hv : Value.okWide P w r b0 t v) (h : DataW.Trod enc P w base spare held t v d p) :
    ∃ cs : List Value, v = .agg cs.toArray ∧ FlatAs enc P w base spare held ts cs := by
  obtain ⟨cs, rfl, hsz⟩ := okWide_struct hs hv
  obtain ⟨fuel, hf⟩ := h
  exact ⟨cs.toList, by simp, flat_of f t ts ht fuel _ _ hf (by simpa using hsz)⟩

end Go.Tk
end
section
namespace Go.Proofs.Ytlekbdpdlalhbaa
set_option maxRecDepth 100000
open Go.RowKit Go.Lib Go.Tk Go.Shelf Go.Vc Go.Sx Go.WideShapes
set_option linter.unusedVariables false
set_option linter.unusedSimpArgs false

section
variable {H : Type} {enc : TypeId × Value → H} {w : World} {base : Nat} {spare : Nat → Bool} {held : Bool}
def kidC (k : Kid) : List Value := [.int .u8 k.t.c, .int .u64 k.t.r, .int .u8 k.i]
theorem kid_of {cs : List Value} (h : FlatAs enc Try.prog w base spare held [5, 28, 5] cs) : ∃ x : Kid, kidC x = cs ∧ KidOk x := by
  obtain ⟨v0, _, rfl, ⟨n0, y0, h0⟩, v1, _, rfl, ⟨n1, y1, h1⟩, v2, _, rfl, ⟨n2, y2, h2⟩, rfl⟩ := h
  obtain ⟨a0, e0, w0⟩ := int_cell Try.underlying5 h0
  obtain ⟨a1, e1, w1⟩ := int_cell Try.underlying28 h1
  obtain ⟨a2, e2, w2⟩ := int_cell Try.underlying5 h2
  cases e0; cases e1; cases e2
  exact ⟨⟨⟨a0, a1⟩, a2⟩, rfl, ⟨wfu8 w0, wfu64 w1⟩, wfu8 w2⟩
end
end Go.Proofs.Ytlekbdpdlalhbaa
end
section
namespace Go.Proofs.Ytlekbdpdlalhbaa
set_option maxRecDepth 100000
open Go.RowKit Go.Lib Go.Tk Go.Shelf Go.Vc Go.Sx
set_option linter.unusedVariables false
set_option linter.unusedSimpArgs false

def sale15 : SaleV := ⟨⟨#[68, 79, 69, 47, 74]⟩, [⟨1, 0, 1⟩, ⟨0, 0, 1⟩], 101, [], 20⟩
theorem sale15_ok : SaleOk sale15 where
  name := by unfold maxLen; show (5 : Nat) ≤ _; decide
  legs := by intro l hl; simp [sale15] at hl; rcases hl with rfl | rfl <;> (unfold LegOk; decide)
  taxes := by intro t ht; cases ht
  fare := by decide
  pen := by decide
  nl := by decide
  nt := by decide
def t15 : Tid := ⟨1, 1⟩
def C15 : BookV := ⟨1, 3, [⟨t15, sale15, [51, 50], ⟨0, 0⟩, ⟨0, 0⟩, 0, 101, 0, 0, 0⟩], [(⟨t15, 0⟩, ownNew ⟨1, 0, 1⟩ 51), (⟨t15, 1⟩, ownNew ⟨0, 0, 1⟩ 50)], []⟩
theorem sort_15 : Go.Tk.sortL (restsL 101 2 [1, 1]) = [(1, 0), (1, 1)] := by
  refine (sortL_unique ?_ ?_).symm
  · decide
  · decide
theorem share_15 : shareV 101 [1, 1] = [51, 50] := by
  have e : shareE 101 [1, 1] = 0 := by decide
  unfold shareV
  rw [if_pos e]
  unfold shareL chosen
  have hs : ([1, 1] : List Int).sum = 2 := by decide
  rw [hs, sort_15]
  decide
theorem share15 : shareV sale15.fare (wsOf sale15) = [51, 50] := share_15
theorem iss15 : (bookNew 1 3).issued sale15 = C15 := by unfold BookV.issued docMade; rw [share15]; rfl
def k15 : Kid := ⟨⟨0, 7⟩, 0⟩
def C15b : BookV := { C15 with helds := [(k15, { held0 with wanted := true })] }
def Known15F : Nat := 19
def WakesF15 : Nat := 5
theorem known15_w : CallOK Try.prog Known15F [] [] [] (.agg (salS sale15 (.raw 1 0) nilS)) [((1, 0), legD 2 sale15.legs)] := callOK_run 400 [] (by kernel_rfl) (by kernel_rfl)
theorem wakes15_w : CallOK Try.prog WakesF15 [] [] [] (.val (.bool true)) [] := by
  have n1 := new_okC (self := 1) (n := 3) (by decide) (by decide)
  have n3 := known15_w
  have n4 := issue_okR (book_new_ok 1 3 (by decide)) sale15_ok (by kernel_rfl)
  rw [iss15] at n4
  have c1 := own_c C15 (k := ⟨t15, 1⟩) ⟨⟨by decide, by decide⟩, by decide, by decide⟩
  rw [show lkt C15.owns ⟨t15, 1⟩ = some (ownNew ⟨0, 0, 1⟩ 50) from rfl] at c1
  have c2 := own_c C15 (k := ⟨t15, 2⟩) ⟨⟨by decide, by decide⟩, by decide, by decide⟩
  rw [show lkt C15.owns ⟨t15, 2⟩ = none from rfl] at c2
  have c3 := setHeld_c C15 (k := k15) ⟨⟨by decide, by decide⟩, by decide, by decide⟩ { held0 with wanted := true }
  rw [show C15.setHE k15 = 0 by kernel_rfl, show C15.setH k15 { held0 with wanted := true } = C15b from rfl] at c3
  have c4 := open_c C15b 0 (by show (2 : Nat) ≤ 1000; decide) (by show (1 : Nat) ≤ 1000; decide)
  rw [show openN C15b 0 = 1 from rfl] at c4
  have c5 := setHeld_c C15b (k := ⟨t15, 0⟩) ⟨⟨by decide, by decide⟩, by decide, by decide⟩ held0
  rw [show C15b.setHE ⟨t15, 0⟩ = 1 by kernel_rfl, show C15b.setH ⟨t15, 0⟩ held0 = C15b from rfl] at c5
  exact callOK_run 900 [hC 1 0 n1, hC 4 1 n3, hC 4 2 n4, hC 5 4 c1, hC 6 4 c2, hC 8 3 c3, hC 9 34 c4, hC 9 43 c5] (by kernel_rfl) (by kernel_rfl)
end Go.Proofs.Ytlekbdpdlalhbaa
end
section
namespace Go.Proofs.Ytlekbdpdlalhbaa
set_option maxRecDepth 100000
open Go.RowKit Go.Lib Go.Tk Go.Shelf Go.Vc Go.Sx Go.WideShapes
set_option linter.unusedVariables false
set_option linter.unusedSimpArgs false

structure SalX where
  s : SaleV
  A : SaleA
def salC (x : SalX) : List Value := [.string x.s.name, .slice x.A.la x.s.legs.length x.A.lc, .int .i64 x.s.fare, .slice x.A.ta x.s.taxes.length x.A.tc, .int .i64 x.s.pen]
def salX (x : SalX) : List SV := salS x.s (.val (.slice x.A.la x.s.legs.length x.A.lc)) (.val (.slice x.A.ta x.s.taxes.length x.A.tc))
def salZ : SalX := ⟨⟨⟨#[]⟩, [], 0, [], 0⟩, ⟨none, 0, none, 0⟩⟩
structure SalIn (w : World) (x : SalX) : Prop where
  at_ : SaleAt w x.s x.A
  ok : SaleW x.s
section
variable {H : Type} {enc : TypeId × Value → H} {w : World} {base : Nat} {spare : Nat → Bool} {held : Bool}
theorem salx_of {cs : List Value} (h : FlatAs enc Try.prog w base spare held [9, 29, 2, 30, 2] cs) : ∃ x : SalX, salC x = cs ∧ SalIn w x := by
  obtain ⟨v3, _, rfl, ⟨n3, y3, h3⟩, v4, _, rfl, ⟨n4, y4, h4⟩, v5, _, rfl, ⟨n5, y5, h5⟩, v6, _, rfl, ⟨n6, y6, h6⟩, v7, _, rfl, ⟨n7, y7, h7⟩, rfl⟩ := h
  obtain ⟨a3, e3, w3⟩ := string_cell Try.underlying9 h3
  obtain ⟨a4, l4, c4, rfl, r4, i4, m4, o4⟩ := legs_cell h4
  obtain ⟨a5, e5, w5⟩ := int_cell Try.underlying2 h5
  obtain ⟨a6, l6, c6, rfl, r6, i6, m6, o6⟩ := taxes_cell h6
  obtain ⟨a7, e7, w7⟩ := int_cell Try.underlying2 h7
  cases e3; cases e5; cases e7
  exact ⟨⟨⟨a3, l4, a5, l6, a7⟩, ⟨a4, c4, a6, c6⟩⟩, rfl, ⟨r4, r6, i4, i6⟩, ⟨w3, o4, o6, wfi64 w5, wfi64 w7, m4, m6⟩⟩
theorem salx_flat : flatT Try.prog 6 32 = some [9, 29, 2, 30, 2] := by kernel_rfl
theorem sals_cell {n : Nat} {v : Value} {y : DataW H × List MemPlace} (h : DataW.trod enc Try.prog w base spare held n 22 [v] = some y) :
    ∃ (a : Option Addr) (l : List SalX) (c : Nat), v = .slice a l.length c ∧ Row w a (cellsL salC l) ∧ (a = none → c = 0) ∧ l.length ≤ maxLen ∧ ∀ x ∈ l, SalIn w x := by
  obtain ⟨a, len, cap, rows, rfl, hlen, hrows, hr, hn, hm, _⟩ := slice_rows (fun cs => ∃ l : SalX, salC l = cs ∧ SalIn w l) Try.underlying22 (show Try.prog.cellsOf 32 = 5 by kernel_rfl) (by decide)
    (fun n cs y hl h => salx_of (flat_of 6 _ _ salx_flat n cs y h (by rw [hl]; kernel_rfl))) h
  obtain ⟨l, hl⟩ := listOf (enc := fun x : { x : SalX // SalIn w x } => salC x.1) (Q := fun cs => ∃ l : SalX, salC l = cs ∧ SalIn w l) (fun r ⟨x, hx, hk⟩ => ⟨⟨x, hk⟩, hx⟩) rows (fun r hr => (hrows r hr).2)
  have hl2 : (l.map (·.1)).map salC = rows := by rw [List.map_map]; exact hl
  have hl3 : (l.map (·.1)).length = len := by rw [← hlen, ← hl2]; simp
  refine ⟨a, l.map (·.1), cap, by rw [hl3], ?_, hn, by rw [hl3]; exact hm, fun x hx => ?_⟩
  · unfold cellsL; rw [hl2]; exact hr
  · obtain ⟨z, _, rfl⟩ := List.mem_map.1 hx; exact z.2
end
theorem salX_nth {l : List SalX} {i : Nat} (h : i < l.length) : ∀ (ε : Env) (q : Nat) (v : SV), (salX (l.getD i salZ))[q]? = some v → (cellsL salC l)[i * 5 + q]? = some (v.den ε) :=
  cells_nth (enc := salC) (encS := salX) (fun _ _ => rfl) (fun _ => rfl) (getD_some h salZ)
theorem sals_len (l : List SalX) : (cellsL salC l).length = l.length * 5 := cellsL_len (enc := salC) (size := 5) (fun _ => rfl) l
/-- a sale in rows of one's own, against one that came in -/
theorem tsame_r (F : CF) {s : SaleV} {A : SaleA} (h1 : ∀ b v, Rd (F b v) A.la (cellsL encLeg s.legs)) (h2 : ∀ b v, Rd (F b v) A.ta (cellsL encTax s.taxes)) (n1 : A.la = none → A.lc = 0) (n2 : A.ta = none → A.tc = 0) (ok : SaleOk s) :
    CallOK Try.prog TSameF [.agg (salS s (.raw 0 10) (.raw 0 11)), .agg (salS s (.val (.slice A.la s.legs.length A.lc)) (.val (.slice A.ta s.taxes.length A.tc)))] [((0, 10), legR s.legs.length s.legs), ((0, 11), taxR s.taxes.length s.taxes), ((0, 9), .fam F)] [] (.val (.bool true)) [] := by
  intro ε R w hM
  have hM : Mem (rowC 47 3 (asSl (ε 0 10).2) s.legs.length (cellsL encLeg s.legs) :: rowC 88 2 (asSl (ε 0 11).2) s.taxes.length (cellsL encTax s.taxes) :: F (ε 0 9).1 (ε 0 9).2 :: R) w := hM
  obtain ⟨la, lc, hvl, okl⟩ := row_sl (hM.owns 0 rfl)
  obtain ⟨ta, tc, hvt, okt⟩ := row_sl (hM.owns 1 rfl)
  have hA : (SV.dens ε [.agg (salS s (.raw 0 10) (.raw 0 11)), .agg (salS s (.val (.slice A.la s.legs.length A.lc)) (.val (.slice A.ta s.taxes.length A.tc)))]).toArray = #[saleAgg s ⟨la, lc, ta, tc⟩, saleAgg s A] := by
    simp only [SV.dens, SV.den, salS, hvl, hvt]; rfl
  rw [hA]
  have hM2 := hM
  rw [hvl, hvt] at hM2
  have hs : SaleAt w s ⟨la, lc, ta, tc⟩ := ⟨rd_row.row hM2 0 rfl, rd_row.row hM2 1 rfl, fun e => (okl.nil e).2, fun e => (okt.nil e).2⟩
  have ho : SaleAt w s A := ⟨(h1 _ _).row hM 2 rfl, (h2 _ _).row hM 2 rfl, n1, n2⟩
  refine (same_any s s _ A w hs ho ok.nl ok.nl ok.nt ok.nt).mono ?_
  rintro e w' ⟨rfl, hb⟩
  rw [decide_eq_true rfl]
  exact ⟨ε 1, rfl, by rw [eset_self]; exact hM.kept hb⟩
end Go.Proofs.Ytlekbdpdlalhbaa
end
