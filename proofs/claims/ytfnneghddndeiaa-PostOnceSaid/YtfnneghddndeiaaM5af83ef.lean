/- Flat, PostAct. -/
import Derived.Test.YtfnneghddndeiaaArg
import Derived.WideShapes
import Derived.Lib.SmallJoins
import Derived.Test.YtfnneghddndeiaaMf2697ce
set_option maxRecDepth 100000
set_option linter.unusedVariables false
set_option linter.unusedSimpArgs false
set_option linter.unusedSectionVars false
section
namespace Go.Tk
open Go.RowKit Go.Lib Go.WideShapes
variable {H : Type} {enc : TypeId × Value → H} {P : Program} {w : World} {base : Nat} {spare : Nat → Bool} {held : Bool}
def flatF (P : Program) (rec : TypeId → Option (List TypeId)) (stop : Nat) : List Field → Nat → Option (List TypeId)
  | [], o => if o = stop then some [] else none
  | fd :: fs, o => if fd.offset = o then (rec fd.type).bind fun ks => (flatF P rec stop fs (o + P.cellsOf fd.type)).map fun r => ks ++ r else none
def flatT (P : Program) : Nat → TypeId → Option (List TypeId)
  | 0, _ => none
  | f + 1, t => match P.underlying t with
    | some (.struct fs) => flatF P (flatT P f) (P.cellsOf t) fs.toList 0
    | some (.array _ _) => none
    | some (.tuple _) => none
    | _ => if P.cellsOf t = 1 then some [t] else none
def FlatAs (enc : TypeId × Value → H) (P : Program) (w : World) (base : Nat) (spare : Nat → Bool) (held : Bool) : List TypeId → List Value → Prop
  | [], cs => cs = []
  | t :: ts, cs => ∃ v cs', cs = v :: cs' ∧ (∃ n y, DataW.trod enc P w base spare held n t [v] = some y) ∧ FlatAs enc P w base spare held ts cs'
theorem FlatAs.append : ∀ {ts us : List TypeId} {cs ds : List Value}, FlatAs enc P w base spare held ts cs → FlatAs enc P w base spare held us ds → FlatAs enc P w base spare held (ts ++ us) (cs ++ ds)
  | [], _, _, _, h, k => by cases h; exact k
  | _ :: _, _, _, _, ⟨v, cs', e, hv, h⟩, k => by subst e; exact ⟨v, _, rfl, hv, h.append k⟩
theorem flat_fields {rec : TypeId → Option (List TypeId)} {n : Nat} (cs : List Value)
    (ih : ∀ t ts, rec t = some ts → ∀ cs y, DataW.trod enc P w base spare held n t cs = some y → cs.length = P.cellsOf t → FlatAs enc P w base spare held ts cs) :
    ∀ (fs : List Field) (o : Nat) (ts : List TypeId), flatF P rec cs.length fs o = some ts → o ≤ cs.length →
      (∀ fd ∈ fs, ∃ y, DataW.trod enc P w base spare held n fd.type ((cs.drop fd.offset).take (P.cellsOf fd.type)) = some y ∧ fd.offset + P.cellsOf fd.type ≤ cs.length) → FlatAs enc P w base spare held ts (cs.drop o)
  | [], o, ts, h, ho, _ => by
    unfold flatF at h
    split at h
    · cases h; rename_i e; rw [e, List.drop_length]; rfl
    · cases h
  | fd :: fs, o, ts, h, ho, hf => by
    unfold flatF at h
    split at h
    case isFalse => cases h
    rename_i e
    cases hk : rec fd.type with
    | none => rw [hk] at h; cases h
    | some ks =>
      rw [hk] at h
      cases hr : flatF P rec cs.length fs (o + P.cellsOf fd.type) with
      | none => rw [hr] at h; cases h
      | some r =>
        rw [hr] at h
        cases h
        obtain ⟨y, hy, hle⟩ := hf fd List.mem_cons_self
        rw [e] at hy hle
        have h1 := ih fd.type ks hk _ y hy (by rw [List.length_take, List.length_drop]; omega)
        have h2 := flat_fields cs ih fs _ r hr hle (fun fd' hm => hf fd' (List.mem_cons_of_mem _ hm))
        have : cs.drop o = (cs.drop o).take (P.cellsOf fd.type) ++ cs.drop (o + P.cellsOf fd.type) := by
          rw [← List.drop_drop, List.take_append_drop]
        rw [this]
        exact h1.append h2
theorem flatF_room {rec : TypeId → Option (List TypeId)} {stop : Nat} : ∀ (fs : List Field) (o : Nat) (ts : List TypeId), flatF P rec stop fs o = some ts → o ≤ stop ∧ ∀ fd ∈ fs, fd.offset + P.cellsOf fd.type ≤ stop
  | [], o, ts, h => by
    unfold flatF at h
    split at h
    · rename_i e; exact ⟨by omega, by simp⟩
    · cases h
  | fd :: fs, o, ts, h => by
    unfold flatF at h
    split at h
    case isFalse => cases h
    rename_i e
    cases hk : rec fd.type with
    | none => rw [hk] at h; cases h
    | some ks =>
      rw [hk] at h
      cases hr : flatF P rec stop fs (o + P.cellsOf fd.type) with
      | none => rw [hr] at h; cases h
      | some r =>
        obtain ⟨h1, h2⟩ := flatF_room fs _ r hr
        refine ⟨by omega, fun f hf => ?_⟩
        rcases List.mem_cons.1 hf with rfl | hf
        · omega
        · exact h2 f hf
theorem flat_of : ∀ (f : Nat) (t : TypeId) (ts : List TypeId), flatT P f t = some ts → ∀ (n : Nat) (cs : List Value) y, DataW.trod enc P w base spare held n t cs = some y → cs.length = P.cellsOf t → FlatAs enc P w base spare held ts cs
  | 0, t, ts, h => by cases h
  | f + 1, t, ts, h => by
    intro n cs y hy hl
    unfold flatT at h
    split at h
    · rename_i fs hu
      obtain ⟨h1, m, h2⟩ := struct_fields hu hy
      obtain ⟨r1, r2⟩ := flatF_room fs.toList 0 ts h
      rw [← hl] at h r2
      have := flat_fields (n := m) cs (fun t' ts' ht cs' y' hy' hl' => flat_of f t' ts' ht m cs' y' hy' hl') fs.toList 0 ts h (Nat.zero_le _) (fun fd hm => by obtain ⟨y, hy⟩ := h2 fd hm; exact ⟨y, hy, r2 fd hm⟩)
      simpa using this
    · cases h
    · cases h
    · split at h
      · rename_i hc
        cases h
        rw [hc] at hl
        match cs, hl with
        | [v], _ => exact ⟨v, [], rfl, ⟨n, y, hy⟩, rfl⟩
      · cases h
def FlatI : List IntKind → List Value → Prop
  | [], cs => cs = []
  | k :: ks, cs => ∃ z cs', cs = .int k z :: cs' ∧ (Lit.int k z).wf = true ∧ FlatI ks cs'
theorem FlatAs.ints : ∀ {ts : List TypeId} {ks : List IntKind} {cs : List Value}, ts.map P.underlying = ks.map (fun k => some (.int k)) → FlatAs enc P w base spare held ts cs → FlatI ks cs
  | [], [], _, _, h => h
  | [], _ :: _, _, e, _ => by simp at e
  | _ :: _, [], _, e, _ => by simp at e
  | t :: ts, k :: ks, cs, e, ⟨v, cs', e2, ⟨n, y, hy⟩, h⟩ => by
    subst e2
    simp only [List.map_cons, List.cons.injEq] at e
    obtain ⟨z, hz, hw⟩ := int_cell e.1 hy
    cases hz
    exact ⟨z, cs', rfl, hw, FlatAs.ints e.2 h⟩
end Go.Tk
end
section
namespace Go.Proofs.Ytfnneghddndeiaa
open Go.RowKit Go.Lib Go.Tk Go.WideShapes
structure PAct where
  dO : Int
  who : Int
  num : Int
  m : Msg
deriving DecidableEq, Inhabited
def encAct (x : PAct) : List Value := [.int .i64 x.dO, .int .u8 x.who, .int .u64 x.num] ++ encMsg x.m
structure MsgOk (m : Msg) : Prop where
  k : 0 ≤ m.k ∧ m.k ≤ 255
  tc : 0 ≤ m.tc ∧ m.tc ≤ 255
  tr : 0 ≤ m.tr ∧ m.tr ≤ 18446744073709551615
  ix : 0 ≤ m.ix ∧ m.ix ≤ 255
  lc : 0 ≤ m.lc ∧ m.lc ≤ 255
  lf : 0 ≤ m.lf ∧ m.lf ≤ 65535
  lx : 0 ≤ m.lx ∧ m.lx ≤ 4294967295
  v : -9223372036854775808 ≤ m.v ∧ m.v ≤ 9223372036854775807
  st : 0 ≤ m.st ∧ m.st ≤ 255
  nn : 0 ≤ m.nn ∧ m.nn ≤ 4294967295
  amt : -9223372036854775808 ≤ m.amt ∧ m.amt ≤ 9223372036854775807
  cd : -9223372036854775808 ≤ m.cd ∧ m.cd ≤ 9223372036854775807
structure PActOk (x : PAct) : Prop where
  dO : -9223372036854775808 ≤ x.dO ∧ x.dO ≤ 9223372036854775807
  who : 0 ≤ x.who ∧ x.who ≤ 255
  num : 0 ≤ x.num ∧ x.num ≤ 18446744073709551615
  m : MsgOk x.m
theorem wfi64' {a : Int} (h : (Lit.int .i64 a).wf = true) : -9223372036854775808 ≤ a ∧ a ≤ 9223372036854775807 := by
  simpa [Lit.wf, IntKind.min, IntKind.max, IntKind.signed, IntKind.bits] using h
theorem wfu8' {a : Int} (h : (Lit.int .u8 a).wf = true) : 0 ≤ a ∧ a ≤ 255 := by
  simpa [Lit.wf, IntKind.min, IntKind.max, IntKind.signed, IntKind.bits] using h
theorem wfu16' {a : Int} (h : (Lit.int .u16 a).wf = true) : 0 ≤ a ∧ a ≤ 65535 := by
  simpa [Lit.wf, IntKind.min, IntKind.max, IntKind.signed, IntKind.bits] using h
theorem wfu32' {a : Int} (h : (Lit.int .u32 a).wf = true) : 0 ≤ a ∧ a ≤ 4294967295 := by
  simpa [Lit.wf, IntKind.min, IntKind.max, IntKind.signed, IntKind.bits] using h
theorem wfu64' {a : Int} (h : (Lit.int .u64 a).wf = true) : 0 ≤ a ∧ a ≤ 18446744073709551615 := by
  simpa [Lit.wf, IntKind.min, IntKind.max, IntKind.signed, IntKind.bits] using h
variable {H : Type} {enc : TypeId × Value → H} {w : World} {base : Nat} {spare : Nat → Bool} {held : Bool}
theorem act_of {cs : List Value} (h : FlatI [.i64, .u8, .u64, .u8, .u8, .u64, .u8, .u8, .u16, .u32, .i64, .u8, .u32, .i64, .i64] cs) : ∃ x : PAct, encAct x = cs ∧ PActOk x := by
  obtain ⟨z0, _, rfl, w0, z1, _, rfl, w1, z2, _, rfl, w2, z3, _, rfl, w3, z4, _, rfl, w4, z5, _, rfl, w5, z6, _, rfl, w6, z7, _, rfl, w7, z8, _, rfl, w8, z9, _, rfl, w9, z10, _, rfl, w10, z11, _, rfl, w11, z12, _, rfl, w12, z13, _, rfl, w13, z14, _, rfl, w14, rfl⟩ := h
  exact ⟨⟨z0, z1, z2, ⟨z3, z4, z5, z6, z7, z8, z9, z10, z11, z12, z13, z14⟩⟩, rfl, wfi64' w0, wfu8' w1, wfu64' w2, wfu8' w3, wfu8' w4, wfu64' w5, wfu8' w6, wfu8' w7, wfu16' w8, wfu32' w9, wfi64' w10, wfu8' w11, wfu32' w12, wfi64' w13, wfi64' w14⟩
def actTs : List TypeId := [3, 5, 31, 5, 5, 31, 5, 5, 36, 37, 2, 40, 37, 2, 25]
theorem actTs_flat : flatT Try.prog 6 46 = some actTs := by kernel_rfl
theorem actTs_ints : actTs.map Try.prog.underlying = [IntKind.i64, .u8, .u64, .u8, .u8, .u64, .u8, .u8, .u16, .u32, .i64, .u8, .u32, .i64, .i64].map (fun k => some (.int k)) := by kernel_rfl
theorem acts_cell {n : Nat} {v : Value} {y : DataW H × List MemPlace} (h : DataW.trod enc Try.prog w base spare held n 22 [v] = some y) :
    ∃ (a : Option Addr) (l : List PAct) (c : Nat), v = .slice a l.length c ∧ Row w a (cellsL encAct l) ∧ (a = none → c = 0) ∧ l.length ≤ maxLen ∧ ∀ x ∈ l, PActOk x := by
  obtain ⟨a, len, cap, rows, rfl, hlen, hrows, hr, hn, hm, _⟩ := slice_rows (fun cs => ∃ l : PAct, encAct l = cs ∧ PActOk l) Try.underlying22 (show Try.prog.cellsOf 46 = 15 by kernel_rfl) (by decide)
    (fun n cs y hl h => act_of ((flat_of 6 _ _ actTs_flat n cs y h (by rw [hl]; kernel_rfl)).ints actTs_ints)) h
  obtain ⟨l, hl⟩ := listOf (enc := fun x : { x : PAct // PActOk x } => encAct x.1) (Q := fun cs => ∃ l : PAct, encAct l = cs ∧ PActOk l) (fun r ⟨x, hx, hk⟩ => ⟨⟨x, hk⟩, hx⟩) rows (fun r hr => (hrows r hr).2)
  have hl2 : (l.map (·.1)).map encAct = rows := by rw [List.map_map]; exact hl
  have hl3 : (l.map (·.1)).length = len := by rw [← hlen, ← hl2]; simp
  refine ⟨a, l.map (·.1), cap, by rw [hl3], ?_, hn, by rw [hl3]; exact hm, fun x hx => ?_⟩
  · unfold cellsL; rw [hl2]; exact hr
  · obtain ⟨z, _, rfl⟩ := List.mem_map.1 hx; exact z.2
end Go.Proofs.Ytfnneghddndeiaa
end
