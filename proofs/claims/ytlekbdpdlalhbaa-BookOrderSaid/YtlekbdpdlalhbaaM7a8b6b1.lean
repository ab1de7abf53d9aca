/- OrP, Open, Flat, OpA. -/
import Derived.Test.YtlekbdpdlalhbaaM1f2ffe2
import Derived.Test.YtlekbdpdlalhbaaMb6a2934
import Derived.WideShapes
import Derived.Lib.SmallJoins
import Derived.Test.YtlekbdpdlalhbaaM12d9068
import Derived.Test.YtlekbdpdlalhbaaM5449731
section
namespace Go.Proofs.Ytlekbdpdlalhbaa
set_option maxRecDepth 100000
open Go.RowKit Go.Lib Go.Tk Go.Shelf Go.Vc Go.Sx
set_option linter.unusedVariables false
set_option linter.unusedSimpArgs false

theorem sameM_lk {κ α : Type} [DecidableEq κ] [DecidableEq α] {L M : List (κ × α)} (hn : (L.map (·.1)).Nodup) (hl : L.length = M.length) (h : ∀ k, lkt L k = lkt M k) : sameM L M = true :=
  sameM_mk hl fun p hp => by rw [← h]; exact lkt_of hn hp
theorem setO_len (B : BookV) (k : Kid) (o : OwnV) : (B.setO k o).owns.length = B.owns.length := by
  cases h : lkt B.owns k with
  | none => rw [setO_none h]
  | some x =>
    rw [setO_some h]
    show (putt B.owns k o).length = _
    rw [putt_len, h]; rfl
theorem setO_nodup {B : BookV} (h : (B.owns.map (·.1)).Nodup) (k : Kid) (o : OwnV) : ((B.setO k o).owns.map (·.1)).Nodup := by
  cases hl : lkt B.owns k with
  | none => rw [setO_none hl]; exact h
  | some x => rw [setO_some hl]; exact putt_nodup h k o
theorem setH_nodup {B : BookV} (h : (B.helds.map (·.1)).Nodup) (k : Kid) (x : HeldV) : ((B.setH k x).helds.map (·.1)).Nodup := by
  rcases setHE_cases B k with ⟨g, -⟩ | ⟨g, -⟩ | ⟨g, -⟩
  · rw [setH_not (by rw [g]; decide)]; exact h
  · rw [setH_not (by rw [g]; decide)]; exact h
  · rw [setH_ok g]; exact putt_nodup h k x
/-- as long as there is room -/
theorem setHE_room {B : BookV} (h : B.helds.length < 64) (k : Kid) : B.setHE k = bif B.badK k then 1 else 0 := by
  unfold BookV.setHE
  rw [decide_eq_false (show ¬ 64 ≤ B.helds.length by omega), Bool.and_false]
  cases B.badK k <;> rfl
theorem setH_lk {B : BookV} (h : B.helds.length < 64) {k : Kid} {x : HeldV} (k' : Kid) : lkt (B.setH k x).helds k' = if k = k' ∧ B.badK k = false then some x else lkt B.helds k' := by
  cases hb : B.badK k
  · have e : B.setHE k = 0 := by rw [setHE_room h, hb]; rfl
    rw [setH_ok e]
    show lkt (putt B.helds k x) k' = _
    rw [lkt_put]
    by_cases q : k = k'
    · rw [if_pos q, if_pos ⟨q, rfl⟩]
    · rw [if_neg q, if_neg fun h => q h.1]
  · have e : B.setHE k = 1 := by rw [setHE_room h, hb]; rfl
    rw [setH_not (by rw [e]; decide), if_neg (by simp)]
theorem setH_len {B : BookV} (h : B.helds.length < 64) (k : Kid) (x : HeldV) : (B.setH k x).helds.length = B.helds.length + (if B.badK k = false ∧ (lkt B.helds k).isSome = false then 1 else 0) := by
  cases hb : B.badK k
  · have e : B.setHE k = 0 := by rw [setHE_room h, hb]; rfl
    rw [setH_ok e]
    show (putt B.helds k x).length = _
    rw [putt_len]
    cases lkt B.helds k <;> simp
  · have e : B.setHE k = 1 := by rw [setHE_room h, hb]; rfl
    rw [setH_not (by rw [e]; decide), if_neg (by simp)]; rfl
def two (B : BookV) (k : Kid) (o : OwnV) (h : HeldV) : BookV := (B.setO k o).setH k h
theorem two_same (B : BookV) (k : Kid) (o : OwnV) (h : HeldV) : (two B k o h).docs = B.docs ∧ (two B k o h).self = B.self ∧ (two B k o h).n = B.n := by
  obtain ⟨a1, a2, a3, -⟩ := setH_same (B.setO k o) k h
  obtain ⟨b1, b2, b3, -⟩ := setO_same B k o
  exact ⟨a1.trans b1, a2.trans b2, a3.trans b3⟩
theorem two_owns (B : BookV) (k : Kid) (o : OwnV) (h : HeldV) : (two B k o h).owns = (B.setO k o).owns := (setH_same _ _ _).2.2.2
theorem two_lk (B : BookV) (k : Kid) (o : OwnV) (h : HeldV) (k' : Kid) : lkt (two B k o h).owns k' = if k = k' then (lkt B.owns k).map fun _ => o else lkt B.owns k' := by rw [two_owns, setO_lk]
theorem two_badK (B : BookV) (k : Kid) (o : OwnV) (h : HeldV) (k' : Kid) : (two B k o h).badK k' = B.badK k' := badK_same (two_same B k o h).2.1 (two_same B k o h).2.2 k'
theorem setO_room {B : BookV} (h : B.helds.length < 64) (k : Kid) (o : OwnV) : (B.setO k o).helds.length < 64 := by rw [(setO_same B k o).2.2.2]; exact h
theorem setO_badK (B : BookV) (k : Kid) (o : OwnV) (k' : Kid) : (B.setO k o).badK k' = B.badK k' := badK_same (setO_same B k o).2.1 (setO_same B k o).2.2.1 k'
theorem two_hlk {B : BookV} (hr : B.helds.length < 64) (k : Kid) (o : OwnV) (h : HeldV) (k' : Kid) : lkt (two B k o h).helds k' = if k = k' ∧ B.badK k = false then some h else lkt B.helds k' := by
  unfold two
  rw [setH_lk (setO_room hr k o), setO_badK, (setO_same B k o).2.2.2]
theorem two_hlen {B : BookV} (hr : B.helds.length < 64) (k : Kid) (o : OwnV) (h : HeldV) : (two B k o h).helds.length = B.helds.length + (if B.badK k = false ∧ (lkt B.helds k).isSome = false then 1 else 0) := by
  unfold two
  rw [setH_len (setO_room hr k o), setO_badK, (setO_same B k o).2.2.2]
theorem two_room {B : BookV} {m : Nat} (hm : m < 64) (hr : B.helds.length ≤ m) (k : Kid) (o : OwnV) (h : HeldV) : (two B k o h).helds.length ≤ m + 1 := by
  rw [two_hlen (by omega)]
  split <;> omega
theorem two_two {B : BookV} (h1 : (B.docs.map (·.t)).Nodup) (h2 : (B.owns.map (·.1)).Nodup) (h3 : (B.helds.map (·.1)).Nodup) (hr : B.helds.length ≤ 62) {k j : Kid} (hkj : k ≠ j) (o o' : OwnV) (h h' : HeldV) :
    sameB (two (two B k o h) j o' h') (two (two B j o' h') k o h) = true := by
  have s1 := two_same (two B k o h) j o' h'
  have s2 := two_same B k o h
  have s3 := two_same (two B j o' h') k o h
  have s4 := two_same B j o' h'
  have r1 := two_room (m := 62) (by decide) hr k o h
  have r2 := two_room (m := 62) (by decide) hr j o' h'
  unfold sameB
  rw [s1.2.1, s2.2.1, s3.2.1, s4.2.1, s1.2.2, s2.2.2, s3.2.2, s4.2.2, s1.1, s2.1, s3.1, s4.1, sameM_self (L := dKV B.docs) (by unfold dKV; rw [List.map_map]; exact h1)]
  rw [sameM_lk (L := (two (two B k o h) j o' h').owns) ?_ ?_ ?_, sameM_lk (L := (two (two B k o h) j o' h').helds) ?_ ?_ ?_]
  · simp
  · unfold two; exact setH_nodup (by rw [(setO_same _ _ _).2.2.2]; exact setH_nodup (by rw [(setO_same _ _ _).2.2.2]; exact h3) _ _) _ _
  · have e1 : lkt (two B k o h).helds j = lkt B.helds j := by rw [two_hlk (by omega), if_neg fun q => hkj q.1]
    have e2 : lkt (two B j o' h').helds k = lkt B.helds k := by rw [two_hlk (by omega), if_neg fun q => hkj q.1.symm]
    rw [two_hlen (by omega), two_hlen (by omega), two_hlen (by omega), two_hlen (by omega), two_badK, two_badK, e1, e2]
    omega
  · intro k'
    rw [two_hlk (by omega), two_hlk (by omega), two_hlk (by omega), two_hlk (by omega), two_badK, two_badK]
    by_cases a : k = k' ∧ B.badK k = false
    · rw [if_pos a, if_pos a]
      rw [if_neg fun q => hkj (a.1.trans q.1.symm)]
    · rw [if_neg a, if_neg a]
  · rw [two_owns]; exact setO_nodup (by rw [two_owns]; exact setO_nodup h2 _ _) _ _
  · rw [two_owns, two_owns, setO_len, setO_len, two_owns, two_owns, setO_len, setO_len]
  · intro k'
    rw [two_lk, two_lk, two_lk, two_lk, two_lk, two_lk]
    by_cases a : j = k'
    · subst a
      rw [if_pos rfl, if_neg hkj, if_neg hkj, if_pos rfl]
    · rw [if_neg a]
      by_cases b : k = k'
      · subst b
        rw [if_pos rfl, if_pos rfl, if_neg a]
      · rw [if_neg b, if_neg b, if_neg a]
/-- set, and set back -/
theorem back_same {B : BookV} (h1 : (B.docs.map (·.t)).Nodup) (h2 : (B.owns.map (·.1)).Nodup) (h3 : (B.helds.map (·.1)).Nodup) {k : Kid} {o : OwnV} (hl : lkt B.owns k = some o) (x : OwnV) : sameB ((B.setO k x).setO k o) B = true := by
  obtain ⟨a1, a2, a3, a4⟩ := setO_same (B.setO k x) k o
  obtain ⟨b1, b2, b3, b4⟩ := setO_same B k x
  unfold sameB
  rw [a1, a2, a3, a4, b1, b2, b3, b4, sameM_self (L := dKV B.docs) (by unfold dKV; rw [List.map_map]; exact h1), sameM_self h3]
  rw [sameM_lk (L := ((B.setO k x).setO k o).owns) (setO_nodup (setO_nodup h2 _ _) _ _) (by rw [setO_len, setO_len])]
  · simp
  · intro k'
    rw [setO_lk, setO_lk, setO_lk]
    by_cases a : k = k'
    · subst a
      rw [if_pos rfl, if_pos rfl, hl]; rfl
    · rw [if_neg a, if_neg a]
end Go.Proofs.Ytlekbdpdlalhbaa
end
section
namespace Go.Proofs.Ytlekbdpdlalhbaa
open Go.RowKit Go.Lib Go.Tk Go.WideShapes Go.Joins Go.ChangeShapes

structure SaleW (s : SaleV) : Prop where
  name : s.name.size ≤ maxLen
  legs : ∀ l ∈ s.legs, LegOk l
  taxes : ∀ t ∈ s.taxes, TaxOk t
  fare : -9223372036854775808 ≤ s.fare ∧ s.fare ≤ 9223372036854775807
  pen : -9223372036854775808 ≤ s.pen ∧ s.pen ≤ 9223372036854775807
  nl : s.legs.length ≤ maxLen
  nt : s.taxes.length ≤ maxLen
theorem SaleW.small {s : SaleV} (h : SaleW s) (h1 : s.legs.length ≤ 1000) (h2 : s.taxes.length ≤ 1000) : SaleOk s := ⟨h.name, h.legs, h.taxes, h.fare, h.pen, h1, h2⟩

theorem wfi64 {a : Int} (h : (Lit.int .i64 a).wf = true) : -9223372036854775808 ≤ a ∧ a ≤ 9223372036854775807 := by
  simpa [Lit.wf, IntKind.min, IntKind.max, IntKind.signed, IntKind.bits] using h
theorem wfu8 {a : Int} (h : (Lit.int .u8 a).wf = true) : 0 ≤ a ∧ a ≤ 255 := by
  simpa [Lit.wf, IntKind.min, IntKind.max, IntKind.signed, IntKind.bits] using h
theorem wfu16 {a : Int} (h : (Lit.int .u16 a).wf = true) : 0 ≤ a ∧ a ≤ 65535 := by
  simpa [Lit.wf, IntKind.min, IntKind.max, IntKind.signed, IntKind.bits] using h
theorem wfu32 {a : Int} (h : (Lit.int .u32 a).wf = true) : 0 ≤ a ∧ a ≤ 4294967295 := by
  simpa [Lit.wf, IntKind.min, IntKind.max, IntKind.signed, IntKind.bits] using h
theorem wfu64 {a : Int} (h : (Lit.int .u64 a).wf = true) : 0 ≤ a ∧ a ≤ 18446744073709551615 := by
  simpa [Lit.wf, IntKind.min, IntKind.max, IntKind.signed, IntKind.bits] using h

theorem len2 {cs : List Value} (h : cs.length = 2) : ∃ a b, cs = [a, b] := by
  match cs, h with
  | [a, b], _ => exact ⟨a, b, rfl⟩
theorem len3 {cs : List Value} (h : cs.length = 3) : ∃ a b c, cs = [a, b, c] := by
  match cs, h with
  | [a, b, c], _ => exact ⟨a, b, c, rfl⟩
variable {H : Type} {enc : TypeId × Value → H} {w : World} {base : Nat} {spare : Nat → Bool} {held : Bool}

set_option maxRecDepth 100000 in
theorem leg_cells {n : Nat} {cs : List Value} {y : DataW H × List MemPlace} (hl : cs.length = 3) (h : DataW.trod enc Try.prog w base spare held n 47 cs = some y) : ∃ l : Leg, encLeg l = cs ∧ LegOk l := by
  obtain ⟨_, m, hf⟩ := struct_fields Try.underlying47 h
  obtain ⟨c0, c1, c2, rfl⟩ := len3 hl
  simp only [List.forall_mem_cons] at hf
  obtain ⟨⟨y0, h0⟩, ⟨y1, h1⟩, ⟨y2, h2⟩, -⟩ := hf
  obtain ⟨a0, e0, w0⟩ := int_cell Try.underlying5 h0
  obtain ⟨a1, e1, w1⟩ := int_cell Try.underlying44 h1
  obtain ⟨a2, e2, w2⟩ := int_cell Try.underlying45 h2
  have f0 : c0 = .int .u8 a0 := by simpa [show Try.prog.cellsOf 5 = 1 by kernel_rfl] using e0
  have f1 : c1 = .int .u16 a1 := by simpa [show Try.prog.cellsOf 44 = 1 by kernel_rfl] using e1
  have f2 : c2 = .int .u32 a2 := by simpa [show Try.prog.cellsOf 45 = 1 by kernel_rfl] using e2
  exact ⟨⟨a0, a1, a2⟩, by rw [f0, f1, f2]; rfl, wfu8 w0, wfu16 w1, wfu32 w2⟩
set_option maxRecDepth 100000 in
theorem tax_cells {n : Nat} {cs : List Value} {y : DataW H × List MemPlace} (hl : cs.length = 2) (h : DataW.trod enc Try.prog w base spare held n 88 cs = some y) : ∃ l : Tax, encTax l = cs ∧ TaxOk l := by
  obtain ⟨_, m, hf⟩ := struct_fields Try.underlying88 h
  obtain ⟨c0, c1, rfl⟩ := len2 hl
  simp only [List.forall_mem_cons] at hf
  obtain ⟨⟨y0, h0⟩, ⟨y1, h1⟩, -⟩ := hf
  obtain ⟨a0, e0, w0⟩ := string_cell Try.underlying9 h0
  obtain ⟨a1, e1, w1⟩ := int_cell Try.underlying2 h1
  have f0 : c0 = .string a0 := by simpa [show Try.prog.cellsOf 9 = 1 by kernel_rfl] using e0
  have f1 : c1 = .int .i64 a1 := by simpa [show Try.prog.cellsOf 2 = 1 by kernel_rfl] using e1
  exact ⟨⟨a0, a1⟩, by rw [f0, f1]; rfl, w0, wfi64 w1⟩

theorem legs_cell {n : Nat} {v : Value} {y : DataW H × List MemPlace} (h : DataW.trod enc Try.prog w base spare held n 29 [v] = some y) :
    ∃ (a : Option Addr) (l : List Leg) (c : Nat), v = .slice a l.length c ∧ Row w a (cellsL encLeg l) ∧ (a = none → c = 0) ∧ l.length ≤ maxLen ∧ ∀ x ∈ l, LegOk x := by
  obtain ⟨a, len, cap, rows, rfl, hlen, hrows, hr, hn, hm, _⟩ := slice_rows (fun cs => ∃ l : Leg, encLeg l = cs ∧ LegOk l) Try.underlying29 (show Try.prog.cellsOf 47 = 3 by kernel_rfl) (by decide) (fun n cs y hl h => leg_cells hl h) h
  obtain ⟨l, hl⟩ := listOf (enc := fun x : { x : Leg // LegOk x } => encLeg x.1) (Q := fun cs => ∃ l : Leg, encLeg l = cs ∧ LegOk l) (fun r ⟨x, hx, hk⟩ => ⟨⟨x, hk⟩, hx⟩) rows (fun r hr => (hrows r hr).2)
  have hl2 : (l.map (·.1)).map encLeg = rows := by rw [List.map_map]; exact hl
  have hl3 : (l.map (·.1)).length = len := by rw [← hlen, ← hl2]; simp
  refine ⟨a, l.map (·.1), cap, by rw [hl3], ?_, hn, by rw [hl3]; exact hm, fun x hx => ?_⟩
  · unfold cellsL; rw [hl2]; exact hr
  · obtain ⟨z, _, rfl⟩ := List.mem_map.1 hx; exact z.2
theorem taxes_cell {n : Nat} {v : Value} {y : DataW H × List MemPlace} (h : DataW.trod enc Try.prog w base spare held n 30 [v] = some y) :
    ∃ (a : Option Addr) (l : List Tax) (c : Nat), v = .slice a l.length c ∧ Row w a (cellsL encTax l) ∧ (a = none → c = 0) ∧ l.length ≤ maxLen ∧ ∀ x ∈ l, TaxOk x := by
  obtain ⟨a, len, cap, rows, rfl, hlen, hrows, hr, hn, hm, _⟩ := slice_rows (fun cs => ∃ l : Tax, encTax l = cs ∧ TaxOk l) Try.underlying30 (show Try.prog.cellsOf 88 = 2 by kernel_rfl) (by decide) (fun n cs y hl h => tax_cells hl h) h
  obtain ⟨l, hl⟩ := listOf (enc := fun x : { x : Tax // TaxOk x } => encTax x.1) (Q := fun cs => ∃ l : Tax, encTax l = cs ∧ TaxOk l) (fun r ⟨x, hx, hk⟩ => ⟨⟨x, hk⟩, hx⟩) rows (fun r hr => (hrows r hr).2)
  have hl2 : (l.map (·.1)).map encTax = rows := by rw [List.map_map]; exact hl
  have hl3 : (l.map (·.1)).length = len := by rw [← hlen, ← hl2]; simp
  refine ⟨a, l.map (·.1), cap, by rw [hl3], ?_, hn, by rw [hl3]; exact hm, fun x hx => ?_⟩
  · unfold cellsL; rw [hl2]; exact hr
  · obtain ⟨z, _, rfl⟩ := List.mem_map.1 hx; exact z.2

end Go.Proofs.Ytlekbdpdlalhbaa
end
section
namespace Go.Tk
set_option linter.unusedVariables false
set_option linter.unusedSimpArgs false
open Go.RowKit Go.Lib Go.WideShapes

variable {H : Type} {enc : TypeId × Value → H} {P : Program} {w : World} {base : Nat} {spare : Nat → Bool} {held : Bool}

/-- the types of a type's cells, in order -/
def flatF (P : Program) (rec : TypeId → Option (List TypeId)) (stop : Nat) : List Field → Nat → Option (List TypeId)
  | [], o => if o = stop then some [] else none
  | fd :: fs, o => if fd.offset = o then (rec fd.type).bind fun ks => (flatF P rec stop fs (o + P.cellsOf fd.type)).map fun r => ks ++ r else none
def flatT (P : Program) : Nat → TypeId → Option (List TypeId)
  | 0, _ => none
  | f + 1, t => match P.underlying t with
    | some (.struct fs) => flatF P (flatT P f) (P.cellsOf t) fs.toList 0
    | some (.array _ _) => none
    | some (.tuple _) => none
    | _ => if P.cellsOf t = 1 then some [t] else none

def FlatAs (enc : TypeId × Value → H) (P : Program) (w : World) (base : Nat) (spare : Nat → Bool) (held : Bool) : List TypeId → List Value → Prop
  | [], cs => cs = []
  | t :: ts, cs => ∃ v cs', cs = v :: cs' ∧ (∃ n y, DataW.trod enc P w base spare held n t [v] = some y) ∧ FlatAs enc P w base spare held ts cs'
theorem FlatAs.append : ∀ {ts us : List TypeId} {cs ds : List Value}, FlatAs enc P w base spare held ts cs → FlatAs enc P w base spare held us ds → FlatAs enc P w base spare held (ts ++ us) (cs ++ ds)
  | [], _, _, _, h, k => by cases h; exact k
  | _ :: _, _, _, _, ⟨v, cs', e, hv, h⟩, k => by subst e; exact ⟨v, _, rfl, hv, h.append k⟩

theorem flat_fields {rec : TypeId → Option (List TypeId)} {n : Nat} (cs : List Value)
    (ih : ∀ t ts, rec t = some ts → ∀ cs y, DataW.trod enc P w base spare held n t cs = some y → cs.length = P.cellsOf t → FlatAs enc P w base spare held ts cs) :
    ∀ (fs : List Field) (o : Nat) (ts : List TypeId), flatF P rec cs.length fs o = some ts → o ≤ cs.length →
      (∀ fd ∈ fs, ∃ y, DataW.trod enc P w base spare held n fd.type ((cs.drop fd.offset).take (P.cellsOf fd.type)) = some y ∧ fd.offset + P.cellsOf fd.type ≤ cs.length) → FlatAs enc P w base spare held ts (cs.drop o)
  | [], o, ts, h, ho, _ => by
    unfold flatF at h
    split at h
    · cases h; rename_i e; rw [e, List.drop_length]; rfl
    · cases h
  | fd :: fs, o, ts, h, ho, hf => by
    unfold flatF at h
    split at h
    case isFalse => cases h
    rename_i e
    cases hk : rec fd.type with
    | none => rw [hk] at h; cases h
    | some ks =>
      rw [hk] at h
      cases hr : flatF P rec cs.length fs (o + P.cellsOf fd.type) with
      | none => rw [hr] at h; cases h
      | some r =>
        rw [hr] at h
        cases h
        obtain ⟨y, hy, hle⟩ := hf fd List.mem_cons_self
        rw [e] at hy hle
        have h1 := ih fd.type ks hk _ y hy (by rw [List.length_take, List.length_drop]; omega)
        have h2 := flat_fields cs ih fs _ r hr hle (fun fd' hm => hf fd' (List.mem_cons_of_mem _ hm))
        have : cs.drop o = (cs.drop o).take (P.cellsOf fd.type) ++ cs.drop (o + P.cellsOf fd.type) := by
          rw [← List.drop_drop, List.take_append_drop]
        rw [this]
        exact h1.append h2

theorem flatF_room {rec : TypeId → Option (List TypeId)} {stop : Nat} : ∀ (fs : List Field) (o : Nat) (ts : List TypeId), flatF P rec stop fs o = some ts → o ≤ stop ∧ ∀ fd ∈ fs, fd.offset + P.cellsOf fd.type ≤ stop
  | [], o, ts, h => by
    unfold flatF at h
    split at h
    · rename_i e; exact ⟨by omega, by simp⟩
    · cases h
  | fd :: fs, o, ts, h => by
    unfold flatF at h
    split at h
    case isFalse => cases h
    rename_i e
    cases hk : rec fd.type with
    | none => rw [hk] at h; cases h
    | some ks =>
      rw [hk] at h
      cases hr : flatF P rec stop fs (o + P.cellsOf fd.type) with
      | none => rw [hr] at h; cases h
      | some r =>
        obtain ⟨h1, h2⟩ := flatF_room fs _ r hr
        refine ⟨by omega, fun f hf => ?_⟩
        rcases List.mem_cons.1 hf with rfl | hf
        · omega
        · exact h2 f hf

theorem flat_of : ∀ (f : Nat) (t : TypeId) (ts : List TypeId), flatT P f t = some ts → ∀ (n : Nat) (cs : List Value) y, DataW.trod enc P w base spare held n t cs = some y → cs.length = P.cellsOf t → FlatAs enc P w base spare held ts cs
  | 0, t, ts, h => by cases h
  | f + 1, t, ts, h => by
    intro n cs y hy hl
    unfold flatT at h
    split at h
    · rename_i fs hu
      obtain ⟨h1, m, h2⟩ := struct_fields hu hy
      obtain ⟨r1, r2⟩ := flatF_room fs.toList 0 ts h
      rw [← hl] at h r2
      have := flat_fields (n := m) cs (fun t' ts' ht cs' y' hy' hl' => flat_of f t' ts' ht m cs' y' hy' hl') fs.toList 0 ts h (Nat.zero_le _) (fun fd hm => by obtain ⟨y, hy⟩ := h2 fd hm; exact ⟨y, hy, r2 fd hm⟩)
      simpa using this
    · cases h
    · cases h
    · split at h
      · rename_i hc
        cases h
        rw [hc] at hl
        match cs, hl with
        | [v], _ => exact ⟨v, [], rfl, ⟨n, y, hy⟩, rfl⟩
      · cases h

/-- a value of struct type that came in, leaf by leaf -/
theorem flat_open {t : TypeId} {fs : Array Field} {r : Reach} {b0 : Nat} {v : Value} {d : DataW H} {p : List MemPlace} (f : Nat) {ts : List TypeId} (hs : P.underlying t = some (.struct fs)) (ht : flatT P f t = some ts) (hv : Value.okWide P w r b0 t v) (h : DataW.Trod enc P w base spare held t v d p) :
    ∃ cs : List Value, v = .agg cs.toArray ∧ FlatAs enc P w base spare held ts cs := by
  obtain ⟨cs, rfl, hsz⟩ := okWide_struct hs hv
  obtain ⟨fuel, hf⟩ := h
  exact ⟨cs.toList, by simp, flat_of f t ts ht fuel _ _ hf (by simpa using hsz)⟩

end Go.Tk
end
section
namespace Go.Proofs.Ytlekbdpdlalhbaa
set_option maxRecDepth 100000
open Go.RowKit Go.Lib Go.Tk Go.Shelf Go.Vc Go.Sx Go.WideShapes
set_option linter.unusedVariables false
set_option linter.unusedSimpArgs false

section
variable {H : Type} {enc : TypeId × Value → H} {w : World} {base : Nat} {spare : Nat → Bool} {held : Bool}
def kidC (k : Kid) : List Value := [.int .u8 k.t.c, .int .u64 k.t.r, .int .u8 k.i]
theorem kid_of {cs : List Value} (h : FlatAs enc Try.prog w base spare held [5, 28, 5] cs) : ∃ x : Kid, kidC x = cs ∧ KidOk x := by
  obtain ⟨v0, _, rfl, ⟨n0, y0, h0⟩, v1, _, rfl, ⟨n1, y1, h1⟩, v2, _, rfl, ⟨n2, y2, h2⟩, rfl⟩ := h
  obtain ⟨a0, e0, w0⟩ := int_cell Try.underlying5 h0
  obtain ⟨a1, e1, w1⟩ := int_cell Try.underlying28 h1
  obtain ⟨a2, e2, w2⟩ := int_cell Try.underlying5 h2
  cases e0; cases e1; cases e2
  exact ⟨⟨⟨a0, a1⟩, a2⟩, rfl, ⟨wfu8 w0, wfu64 w1⟩, wfu8 w2⟩
end
end Go.Proofs.Ytlekbdpdlalhbaa
end
