/- Bn1, Flat, FlatK, Bn2. -/
import Derived.Test.YtlamaakconjkcaaGreatMa6ed63c
import Derived.Test.YtlamaakconjkcaaGreatM353d50f
import Derived.WideShapes
import Derived.Lib.SmallJoins
section
namespace Go.Proofs.YtlamaakconjkcaaGreat
set_option maxRecDepth 100000
open Go.RowKit Go.Lib Go.Tk Go.Shelf Go.Vc Go.Sx
set_option linter.unusedVariables false
set_option linter.unusedSimpArgs false

def nilK : SV := .val (.pointer none)
theorem foundO_nilK (k : Kid) : CallOK Tryz.prog FoundO [nilK, .fn (.func BownsF) [] [], .agg (kidS k)] [] [] (.tup [.agg (ownS own0), eN 8]) [] := callOK_run 400 [] (by kernel_rfl) (by kernel_rfl)
theorem foundH_nilK (k : Kid) : CallOK Tryz.prog FoundH [nilK, .fn (.func BheldsF) [] [], .agg (kidS k)] [] [] (.tup [.agg (heldS held0), eN 8]) [] := callOK_run 400 [] (by kernel_rfl) (by kernel_rfl)
theorem foundD_nilK (t : Tid) : CallOK Tryz.prog FoundD [nilK, .fn (.func BdocsF) [] [], .agg (tidS t)] [] [] (.tup [.agg (docS doc0 nilS nilS nilS), eN 8]) [] := callOK_run 400 [] (by kernel_rfl) (by kernel_rfl)
theorem own_nilK (k : Kid) : CallOK Tryz.prog OwnF [nilK, .agg (kidS k)] [] [] (.tup [.agg (ownS own0), eN 8]) [] := by
  have c1 := foundO_nilK k
  exact callOK_run 400 [hC 1 2 c1] (by kernel_rfl) (by kernel_rfl)
theorem held_nilK (k : Kid) : CallOK Tryz.prog HeldF [nilK, .agg (kidS k)] [] [] (.tup [.agg (heldS held0), eN 8]) [] := by
  have c1 := foundH_nilK k
  exact callOK_run 400 [hC 1 2 c1] (by kernel_rfl) (by kernel_rfl)
theorem doc_nilK (t : Tid) : CallOK Tryz.prog DocF [nilK, .agg (tidS t)] [] [] (.tup [.agg (docS doc0 nilS nilS nilS), eN 8]) [] := by
  have c1 := foundD_nilK t
  have c2 := copied_nil
  exact callOK_run 400 [hC 1 2 c1, hC 2 1 c2] (by kernel_rfl) (by kernel_rfl)
theorem issue_nilK (s : SaleV) (A : SaleA) : CallOK Tryz.prog IssueF [nilK, .agg (salS s (.val (.slice A.la s.legs.length A.lc)) (.val (.slice A.ta s.taxes.length A.tc)))] [] [] (.tup [.agg (docS doc0 nilS nilS nilS), eN 8]) [] := callOK_run 400 [] (by kernel_rfl) (by kernel_rfl)
def SetDocK : Nat := 24
theorem setDoc_nilK (d : DocV) (a : DocA) : CallOK Tryz.prog SetDocK [nilK, .agg (docSA d a)] [] [] (eN 8) [] := by
  have c1 := foundD_nilK d.t
  exact callOK_run 400 [hC 1 3 c1] (by kernel_rfl) (by kernel_rfl)
theorem setOwn_nilK (k : Kid) (o : OwnV) : CallOK Tryz.prog SetOwnF [nilK, .agg (kidS k), .agg (ownS o)] [] [] (eN 8) [] := by
  have c1 := foundO_nilK k
  exact callOK_run 400 [hC 1 2 c1] (by kernel_rfl) (by kernel_rfl)
theorem setHeld_nilK (k : Kid) (h : HeldV) : CallOK Tryz.prog SetHeldF [nilK, .agg (kidS k), .agg (heldS h)] [] [] (eN 8) [] := callOK_run 400 [] (by kernel_rfl) (by kernel_rfl)
def TicketsF : Nat := 18
def KeysF : Nat := 19
def CloneF : Nat := 15
def SameF : Nat := 29
theorem tickets_nilK : CallOK Tryz.prog TicketsF [nilK] [] [] nilS [] := callOK_run 400 [] (by kernel_rfl) (by kernel_rfl)
theorem keys_nilK : CallOK Tryz.prog KeysF [nilK] [] [] nilS [] := callOK_run 400 [] (by kernel_rfl) (by kernel_rfl)
theorem clone_nilK : CallOK Tryz.prog CloneF [nilK] [] [] nilK [] := callOK_run 400 [] (by kernel_rfl) (by kernel_rfl)
theorem open_nilK (c : Int) : CallOK Tryz.prog OpenF [nilK, .val (.int .u8 c)] [] [] (.val (.int .i64 0)) [] := callOK_run 400 [] (by kernel_rfl) (by kernel_rfl)
theorem self_nilK : CallOK Tryz.prog SelfF [nilK] [] [] (.val (.int .u8 0)) [] := callOK_run 400 [] (by kernel_rfl) (by kernel_rfl)
theorem carr_nilK : CallOK Tryz.prog CarrF [nilK] [] [] (.val (.int .i64 0)) [] := callOK_run 400 [] (by kernel_rfl) (by kernel_rfl)
theorem status_nilK (t : Tid) : CallOK Tryz.prog StatusF [nilK, .agg (tidS t)] [] [] nilS [] := by
  have c1 := own_nilK ⟨t, 0⟩
  exact callOK_runU 400 [hC 5 5 c1] (by kernel_rfl) (by kernel_rfl)
theorem same_nilK : CallOK Tryz.prog SameF [nilK, nilK] [] [] (.val (.bool true)) [] := callOK_run 400 [] (by kernel_rfl) (by kernel_rfl)
theorem same_nilB (B : BookV) : CallOK Tryz.prog SameF [nilK, .ptr 0 0 0] (bkC B) [] (.val (.bool false)) [] := callOK_run 400 [] (by kernel_rfl) (by kernel_rfl)
theorem same_Bnil (B : BookV) : CallOK Tryz.prog SameF [.ptr 0 0 0, nilK] (bkC B) [] (.val (.bool false)) [] := callOK_run 400 [] (by kernel_rfl) (by kernel_rfl)
/-! ### a book that is known -/
def sale15 : SaleV := ⟨⟨#[68, 79, 69, 47, 74]⟩, [⟨1, 0, 1⟩, ⟨0, 0, 1⟩], 101, [], 20⟩
theorem sale15_ok : SaleOk sale15 where
  name := by unfold maxLen; show (5 : Nat) ≤ _; decide
  legs := by intro l hl; simp [sale15] at hl; rcases hl with rfl | rfl <;> (unfold LegOk; decide)
  taxes := by intro t ht; cases ht
  fare := by decide
  pen := by decide
  nl := by decide
  nt := by decide
def t15 : Tid := ⟨1, 1⟩
def C15 : BookV := ⟨1, 3, [⟨t15, sale15, [51, 50], ⟨0, 0⟩, ⟨0, 0⟩, 0, 101, 0, 0, 0⟩], [(⟨t15, 0⟩, ownNew ⟨1, 0, 1⟩ 51), (⟨t15, 1⟩, ownNew ⟨0, 0, 1⟩ 50)], []⟩
theorem sort_15 : Go.Tk.sortL (restsL 101 2 [1, 1]) = [(1, 0), (1, 1)] := by
  refine (sortL_unique ?_ ?_).symm
  · decide
  · decide
theorem share_15 : shareV 101 [1, 1] = [51, 50] := by
  have e : shareE 101 [1, 1] = 0 := by decide
  unfold shareV
  rw [if_pos e]
  unfold shareL chosen
  have hs : ([1, 1] : List Int).sum = 2 := by decide
  rw [hs, sort_15]
  decide
theorem share15 : shareV sale15.fare (wsOf sale15) = [51, 50] := share_15
theorem iss15 : (bookNew 1 3).issued sale15 = C15 := by unfold BookV.issued docMade; rw [share15]; rfl
def k15 : Kid := ⟨⟨0, 7⟩, 0⟩
def C15b : BookV := { C15 with helds := [(k15, { held0 with wanted := true })] }
def Known15F : Nat := 49
def WakesF15 : Nat := 10
theorem known15_w : CallOK Tryz.prog Known15F [] [] [] (.agg (salS sale15 (.raw 1 0) nilS)) [((1, 0), legD 2 sale15.legs)] := callOK_run 400 [] (by kernel_rfl) (by kernel_rfl)
theorem wakes15_w : CallOK Tryz.prog WakesF15 [] [] [] (.val (.bool true)) [] := by
  have n1 := new_okC (self := 1) (n := 3) (by decide) (by decide)
  have n3 := known15_w
  have n4 := issue_okR (book_new_ok 1 3 (by decide)) sale15_ok (by kernel_rfl)
  rw [iss15] at n4
  have c1 := own_c C15 (k := ⟨t15, 1⟩) ⟨⟨by decide, by decide⟩, by decide, by decide⟩
  rw [show lkt C15.owns ⟨t15, 1⟩ = some (ownNew ⟨0, 0, 1⟩ 50) from rfl] at c1
  have c2 := own_c C15 (k := ⟨t15, 2⟩) ⟨⟨by decide, by decide⟩, by decide, by decide⟩
  rw [show lkt C15.owns ⟨t15, 2⟩ = none from rfl] at c2
  have c3 := setHeld_c C15 (k := k15) ⟨⟨by decide, by decide⟩, by decide, by decide⟩ { held0 with wanted := true }
  rw [show C15.setHE k15 = 0 by kernel_rfl, show C15.setH k15 { held0 with wanted := true } = C15b from rfl] at c3
  have c4 := open_c C15b 0 (by show (2 : Nat) ≤ 1000; decide) (by show (1 : Nat) ≤ 1000; decide)
  rw [show openN C15b 0 = 1 from rfl] at c4
  have c5 := setHeld_c C15b (k := ⟨t15, 0⟩) ⟨⟨by decide, by decide⟩, by decide, by decide⟩ held0
  rw [show C15b.setHE ⟨t15, 0⟩ = 1 by kernel_rfl, show C15b.setH ⟨t15, 0⟩ held0 = C15b from rfl] at c5
  exact callOK_run 900 [hC 1 0 n1, hC 4 1 n3, hC 4 2 n4, hC 5 4 c1, hC 6 4 c2, hC 8 3 c3, hC 9 34 c4, hC 9 43 c5] (by kernel_rfl) (by kernel_rfl)
end Go.Proofs.YtlamaakconjkcaaGreat
end
section
namespace Go.Tk
set_option linter.unusedVariables false
set_option linter.unusedSimpArgs false
open Go.RowKit Go.Lib Go.WideShapes

variable {H : Type} {enc : TypeId × Value → H} {P : Program} {w : World} {base : Nat} {spare : Nat → Bool} {held : Bool}

/-- the types of a type's cells, in order -/
def flatF (P : Program) (rec : TypeId → Option (List TypeId)) (stop : Nat) : List Field → Nat → Option (List TypeId)
  | [], o => if o = stop then some [] else none
  | fd :: fs, o => if fd.offset = o then (rec fd.type).bind fun ks => (flatF P rec stop fs (o + P.cellsOf fd.type)).map fun r => ks ++ r else none
def flatT (P : Program) : Nat → TypeId → Option (List TypeId)
  | 0, _ => none
  | f + 1, t => match P.underlying t with
    | some (.struct fs) => flatF P (flatT P f) (P.cellsOf t) fs.toList 0
    | some (.array _ _) => none
    | some (.tuple _) => none
    | _ => if P.cellsOf t = 1 then some [t] else none

def FlatAs (enc : TypeId × Value → H) (P : Program) (w : World) (base : Nat) (spare : Nat → Bool) (held : Bool) : List TypeId → List Value → Prop
  | [], cs => cs = []
  | t :: ts, cs => ∃ v cs', cs = v :: cs' ∧ (∃ n y, DataW.trod enc P w base spare held n t [v] = some y) ∧ FlatAs enc P w base spare held ts cs'
theorem FlatAs.append : ∀ {ts us : List TypeId} {cs ds : List Value}, FlatAs enc P w base spare held ts cs → FlatAs enc P w base spare held us ds → FlatAs enc P w base spare held (ts ++ us) (cs ++ ds)
  | [], _, _, _, h, k => by cases h; exact k
  | _ :: _, _, _, _, ⟨v, cs', e, hv, h⟩, k => by subst e; exact ⟨v, _, rfl, hv, h.append k⟩

theorem flat_fields {rec : TypeId → Option (List TypeId)} {n : Nat} (cs : List Value)
    (ih : ∀ t ts, rec t = some ts → ∀ cs y, DataW.trod enc P w base spare held n t cs = some y → cs.length = P.cellsOf t → FlatAs enc P w base spare held ts cs) :
    ∀ (fs : List Field) (o : Nat) (ts : List TypeId), flatF P rec cs.length fs o = some ts → o ≤ cs.length →
      (∀ fd ∈ fs, ∃ y, DataW.trod enc P w base spare held n fd.type ((cs.drop fd.offset).take (P.cellsOf fd.type)) = some y ∧ fd.offset + P.cellsOf fd.type ≤ cs.length) → FlatAs enc P w base spare held ts (cs.drop o)
  | [], o, ts, h, ho, _ => by
    unfold flatF at h
    split at h
    · cases h; rename_i e; rw [e, List.drop_length]; rfl
    · cases h
  | fd :: fs, o, ts, h, ho, hf => by
    unfold flatF at h
    split at h
    case isFalse => cases h
    rename_i e
    cases hk : rec fd.type with
    | none => rw [hk] at h; cases h
    | some ks =>
      rw [hk] at h
      cases hr : flatF P rec cs.length fs (o + P.cellsOf fd.type) with
      | none => rw [hr] at h; cases h
      | some r =>
        rw [hr] at h
        cases h
        obtain ⟨y, hy, hle⟩ := hf fd List.mem_cons_self
        rw [e] at hy hle
        have h1 := ih fd.type ks hk _ y hy (by rw [List.length_take, List.length_drop]; omega)
        have h2 := flat_fields cs ih fs _ r hr hle (fun fd' hm => hf fd' (List.mem_cons_of_mem _ hm))
        have : cs.drop o = (cs.drop o).take (P.cellsOf fd.type) ++ cs.drop (o + P.cellsOf fd.type) := by
          rw [← List.drop_drop, List.take_append_drop]
        rw [this]
        exact h1.append h2

theorem flatF_room {rec : TypeId → Option (List TypeId)} {stop : Nat} : ∀ (fs : List Field) (o : Nat) (ts : List TypeId), flatF P rec stop fs o = some ts → o ≤ stop ∧ ∀ fd ∈ fs, fd.offset + P.cellsOf fd.type ≤ stop
  | [], o, ts, h => by
    unfold flatF at h
    split at h
    · rename_i e; exact ⟨by omega, by simp⟩
    · cases h
  | fd :: fs, o, ts, h => by
    unfold flatF at h
    split at h
    case isFalse => cases h
    rename_i e
    cases hk : rec fd.type with
    | none => rw [hk] at h; cases h
    | some ks =>
      rw [hk] at h
      cases hr : flatF P rec stop fs (o + P.cellsOf fd.type) with
      | none => rw [hr] at h; cases h
      | some r =>
        obtain ⟨h1, h2⟩ := flatF_room fs _ r hr
        refine ⟨by omega, fun f hf => ?_⟩
        rcases List.mem_cons.1 hf with rfl | hf
        · omega
        · exact h2 f hf

theorem flat_of : ∀ (f : Nat) (t : TypeId) (ts : List TypeId), flatT P f t = some ts → ∀ (n : Nat) (cs : List Value) y, DataW.trod enc P w base spare held n t cs = some y → cs.length = P.cellsOf t → FlatAs enc P w base spare held ts cs
  | 0, t, ts, h => by cases h
  | f + 1, t, ts, h => by
    intro n cs y hy hl
    unfold flatT at h
    split at h
    · rename_i fs hu
      obtain ⟨h1, m, h2⟩ := struct_fields hu hy
      obtain ⟨r1, r2⟩ := flatF_room fs.toList 0 ts h
      rw [← hl] at h r2
      have := flat_fields (n := m) cs (fun t' ts' ht cs' y' hy' hl' => flat_of f t' ts' ht m cs' y' hy' hl') fs.toList 0 ts h (Nat.zero_le _) (fun fd hm => by obtain ⟨y, hy⟩ := h2 fd hm; exact ⟨y, hy, r2 fd hm⟩)
      simpa using this
    · cases h
    · cases h
    · split at h
      · rename_i hc
        cases h
        rw [hc] at hl
        match cs, hl with
        | [v], _ => exact ⟨v, [], rfl, ⟨n, y, hy⟩, rfl⟩
      · cases h

/-- a value of struct type that came in, leaf by leaf -/
theorem flat_open {t : TypeId} {fs : Array Field} {r : Reach} {b0 : Nat} {v : Value} {d : DataW H} {p : List MemPlace} (f : Nat) {ts : List TypeId} (hs : P.underlying t = some (.struct fs)) (ht : flatT P f t = some ts) (hv : Value.okWide P w r b0 t v) (h : DataW.Trod enc P w base spare held t v d p) :
    ∃ cs : List Value, v = .agg cs.toArray ∧ FlatAs enc P w base spare held ts cs := by
  obtain ⟨cs, rfl, hsz⟩ := okWide_struct hs hv
  obtain ⟨fuel, hf⟩ := h
  exact ⟨cs.toList, by simp, flat_of f t ts ht fuel _ _ hf (by simpa using hsz)⟩

/-- whole numbers alone -/
def FlatI : List IntKind → List Value → Prop
  | [], cs => cs = []
  | k :: ks, cs => ∃ z cs', cs = .int k z :: cs' ∧ (Lit.int k z).wf = true ∧ FlatI ks cs'
theorem FlatAs.ints : ∀ {ts : List TypeId} {ks : List IntKind} {cs : List Value}, ts.map P.underlying = ks.map (fun k => some (.int k)) → FlatAs enc P w base spare held ts cs → FlatI ks cs
  | [], [], _, _, h => h
  | [], _ :: _, _, e, _ => by simp at e
  | _ :: _, [], _, e, _ => by simp at e
  | t :: ts, k :: ks, cs, e, ⟨v, cs', e2, ⟨n, y, hy⟩, h⟩ => by
    subst e2
    simp only [List.map_cons, List.cons.injEq] at e
    obtain ⟨z, hz, hw⟩ := int_cell e.1 hy
    cases hz
    exact ⟨z, cs', rfl, hw, FlatAs.ints e.2 h⟩
end Go.Tk
end
section
namespace Go.Tk
set_option linter.unusedVariables false
set_option linter.unusedSimpArgs false
open Go.RowKit Go.Lib Go.WideShapes Go.Deep

variable {H : Type} {enc : TypeId × Value → H} {P : Program} {w : World} {base : Nat} {spare : Nat → Bool} {held : Bool}
inductive LeafK where
  | int (k : IntKind)
  | str
  | bool
  | slice (e : TypeId)
def LeafK.und : LeafK → TypeDesc
  | .int k => .int k
  | .str => .string
  | .bool => .bool
  | .slice e => .slice e
def LeafK.says : LeafK → Value → Prop
  | .int k, v => ∃ z, v = .int k z ∧ (Lit.int k z).wf = true
  | .str, v => ∃ s : ByteArray, v = .string s ∧ s.size ≤ maxLen
  | .bool, v => ∃ b, v = .bool b
  | .slice _, v => ∃ a n c, v = .slice a n c
def FlatK : List LeafK → List Value → Prop
  | [], cs => cs = []
  | k :: ks, cs => ∃ v cs', cs = v :: cs' ∧ k.says v ∧ FlatK ks cs'
theorem leaf_says {t : TypeId} {k : LeafK} {n : Nat} {v : Value} {y : DataW H × List MemPlace} (ht : P.underlying t = some k.und) (h : DataW.trod enc P w base spare held n t [v] = some y) : k.says v := by
  cases k with
  | int k =>
    obtain ⟨z, hz, hw⟩ := int_cell ht h
    cases hz
    exact ⟨z, rfl, hw⟩
  | str =>
    obtain ⟨z, hz, hw⟩ := string_cell ht h
    cases hz
    exact ⟨z, rfl, hw⟩
  | bool =>
    obtain ⟨z, hz⟩ := bool_cell ht h
    cases hz
    exact ⟨z, rfl⟩
  | slice e =>
    rcases open_slice ht h with ⟨hcs, _⟩ | ⟨a', len', cap', m, n, D, Pl, hcs, _⟩
    · cases hcs; exact ⟨none, 0, 0, rfl⟩
    · cases hcs; exact ⟨some a', len', cap', rfl⟩
theorem FlatAs.kinds : ∀ {ts : List TypeId} {ks : List LeafK} {cs : List Value}, ts.map P.underlying = ks.map (fun k => some k.und) → FlatAs enc P w base spare held ts cs → FlatK ks cs
  | [], [], _, _, h => h
  | [], _ :: _, _, e, _ => by simp at e
  | _ :: _, [], _, e, _ => by simp at e
  | t :: ts, k :: ks, cs, e, ⟨v, cs', e2, ⟨n, y, hy⟩, h⟩ => by
    subst e2
    simp only [List.map_cons, List.cons.injEq] at e
    exact ⟨v, cs', rfl, leaf_says e.1 hy, FlatAs.kinds e.2 h⟩
end Go.Tk
end
section
namespace Go.Proofs.YtlamaakconjkcaaGreat
set_option maxRecDepth 100000
open Go.RowKit Go.Lib Go.Tk Go.Shelf Go.Vc Go.Sx Go.WideShapes
set_option linter.unusedVariables false
set_option linter.unusedSimpArgs false

def Nil15F : Nat := 5
/-- an act on a book -/
def act15S (d : Int) (s : SaleV) (A : SaleA) (x : DocV) (a : DocA) (k : Kid) (o : OwnV) (h : HeldV) : List SV :=
  .val (.int .i64 d) :: (salS s (.val (.slice A.la s.legs.length A.lc)) (.val (.slice A.ta s.taxes.length A.tc)) ++ (docSA x a ++ (kidS k ++ (ownS o ++ heldS h))))
theorem nil15_w (d : Int) (s : SaleV) (A : SaleA) (x : DocV) (a : DocA) (k : Kid) (o : OwnV) (h : HeldV) : CallOK Tryz.prog Nil15F [.agg (act15S d s A x a k o h)] [] [] (.val (.bool true)) [] := by
  have c1 := issue_nilK s A
  have c2 := doc_nilK k.t
  have c3 := own_nilK k
  have c4 := held_nilK k
  have n1 := new_okC (self := 0) (n := 2) (by decide) (by decide)
  have c5 := setDoc_nilK x a
  have c6 := setOwn_nilK k o
  have c7 := setHeld_nilK k h
  have c8 := tickets_nilK
  have c9 := status_nilK k.t
  have c10 := keys_nilK
  have c11 := open_nilK 1
  have c12 := clone_nilK
  have c13 := same_nilK
  have c14 := same_nilB (bookNew 0 2)
  have c15 := same_Bnil (bookNew 0 2)
  have c16 := self_nilK
  have c17 := carr_nilK
  have c18 := wakes15_w
  exact callOK_run 900 [hC 2 3 c1, hC 3 4 c2, hC 4 3 c3, hC 5 3 c4, hC 6 0 n1, hC 7 18 c5, hC 7 27 c6, hC 7 36 c7, hC 7 41 c8, hC 7 50 c9, hC 7 56 c10, hC 7 62 c11, hC 7 67 c12, hC 7 72 c13, hC 7 77 c14, hC 7 83 c15, hC 7 88 c16, hC 7 93 c17, hC 7 97 c18] (by kernel_rfl) (by kernel_rfl)
def act15L (d : Int) (s : SaleV) (A : SaleA) (x : DocV) (a : DocA) (k : Kid) (o : OwnV) (h : HeldV) : List Value :=
  .int .i64 d :: ([.string s.name, .slice A.la s.legs.length A.lc, .int .i64 s.fare, .slice A.ta s.taxes.length A.tc, .int .i64 s.pen] ++ (docL (x, a) ++ ([.int .u8 k.t.c, .int .u64 k.t.r, .int .u8 k.i] ++ (ownL o ++ heldL h))))
def act15Ks : List LeafK := [.int .i64, .str, .slice 38, .int .i64, .slice 177, .int .i64, .int .u8, .int .u64, .str, .slice 38, .int .i64, .slice 177, .int .i64, .slice 2, .int .u8, .int .u64, .int .u8, .int .u64, .int .i64, .int .i64, .int .i64, .int .i64, .int .i64, .int .u8, .int .u64, .int .u8, .int .u8, .int .u16, .int .u32, .int .i64, .int .u8, .int .u32, .bool, .int .u8, .bool, .bool, .int .u8, .int .u16, .int .u32, .int .i64, .int .u8, .int .u32, .bool, .bool, .bool, .bool]
def act15Ts : List TypeId := [3, 9, 23, 2, 24, 2, 5, 27, 9, 23, 2, 24, 2, 30, 5, 27, 5, 27, 2, 2, 2, 2, 2, 5, 27, 5, 5, 35, 36, 2, 39, 36, 4, 5, 4, 4, 5, 35, 36, 2, 39, 36, 4, 4, 4, 4]
theorem act15Ts_flat : flatT Tryz.prog 6 47 = some act15Ts := by kernel_rfl
theorem act15Ts_kinds : act15Ts.map Tryz.prog.underlying = act15Ks.map (fun k => some k.und) := by kernel_rfl
theorem act15_of {cs : List Value} (h : FlatK act15Ks cs) : ∃ d s A x a k o h, act15L d s A x a k o h = cs := by
  unfold act15Ks at h
  obtain ⟨_, _, rfl, ⟨z0, rfl, _⟩, _, _, rfl, ⟨z1, rfl, _⟩, _, _, rfl, ⟨a2, n2, c2, rfl⟩, _, _, rfl, ⟨z3, rfl, _⟩, _, _, rfl, ⟨a4, n4, c4, rfl⟩, _, _, rfl, ⟨z5, rfl, _⟩, _, _, rfl, ⟨z6, rfl, _⟩, _, _, rfl, ⟨z7, rfl, _⟩, _, _, rfl, ⟨z8, rfl, _⟩, _, _, rfl, ⟨a9, n9, c9, rfl⟩, _, _, rfl, ⟨z10, rfl, _⟩, _, _, rfl, ⟨a11, n11, c11, rfl⟩, _, _, rfl, ⟨z12, rfl, _⟩, _, _, rfl, ⟨a13, n13, c13, rfl⟩, _, _, rfl, ⟨z14, rfl, _⟩, _, _, rfl, ⟨z15, rfl, _⟩, _, _, rfl, ⟨z16, rfl, _⟩, _, _, rfl, ⟨z17, rfl, _⟩, _, _, rfl, ⟨z18, rfl, _⟩, _, _, rfl, ⟨z19, rfl, _⟩, _, _, rfl, ⟨z20, rfl, _⟩, _, _, rfl, ⟨z21, rfl, _⟩, _, _, rfl, ⟨z22, rfl, _⟩, _, _, rfl, ⟨z23, rfl, _⟩, _, _, rfl, ⟨z24, rfl, _⟩, _, _, rfl, ⟨z25, rfl, _⟩, _, _, rfl, ⟨z26, rfl, _⟩, _, _, rfl, ⟨z27, rfl, _⟩, _, _, rfl, ⟨z28, rfl, _⟩, _, _, rfl, ⟨z29, rfl, _⟩, _, _, rfl, ⟨z30, rfl, _⟩, _, _, rfl, ⟨z31, rfl, _⟩, _, _, rfl, ⟨z32, rfl⟩, _, _, rfl, ⟨z33, rfl, _⟩, _, _, rfl, ⟨z34, rfl⟩, _, _, rfl, ⟨z35, rfl⟩, _, _, rfl, ⟨z36, rfl, _⟩, _, _, rfl, ⟨z37, rfl, _⟩, _, _, rfl, ⟨z38, rfl, _⟩, _, _, rfl, ⟨z39, rfl, _⟩, _, _, rfl, ⟨z40, rfl, _⟩, _, _, rfl, ⟨z41, rfl, _⟩, _, _, rfl, ⟨z42, rfl⟩, _, _, rfl, ⟨z43, rfl⟩, _, _, rfl, ⟨z44, rfl⟩, _, _, rfl, ⟨z45, rfl⟩, rfl⟩ := h
  refine ⟨z0, ⟨z1, List.replicate n2 leg0, z3, List.replicate n4 ⟨z1, 0⟩, z5⟩, ⟨a2, c2, a4, c4⟩, ⟨⟨z6, z7⟩, ⟨z8, List.replicate n9 leg0, z10, List.replicate n11 ⟨z8, 0⟩, z12⟩, List.replicate n13 0, ⟨z14, z15⟩, ⟨z16, z17⟩, z18, z19, z20, z21, z22⟩, ⟨a9, c9, a11, c11, a13, c13⟩, ⟨⟨z23, z24⟩, z25⟩, ⟨⟨⟨z26, z27, z28⟩, z29, z30, z31⟩, z32, z33, z34, z35⟩, ⟨⟨⟨z36, z37, z38⟩, z39, z40, z41⟩, z42, z43, z44, z45⟩, ?_⟩
  simp only [act15L, docL, ownL, heldL, List.length_replicate]
  rfl
section
variable {H : Type} {enc : TypeId × Value → H} {w : World} {base : Nat} {spare : Nat → Bool} {held : Bool}
theorem open_act15 {r : Reach} {b0 : Nat} {v : Value} {d : DataW H} {p : List MemPlace} (hv : Value.okWide Tryz.prog w r b0 47 v) (h : DataW.Trod enc Tryz.prog w base spare held 47 v d p) :
    ∃ d s A x a k o h, v = .agg (act15L d s A x a k o h).toArray := by
  obtain ⟨cs, rfl, hf⟩ := flat_open 6 Tryz.underlying47 act15Ts_flat hv h
  obtain ⟨y1, y2, y3, y4, y5, y6, y7, y8, rfl⟩ := act15_of (hf.kinds act15Ts_kinds)
  exact ⟨y1, y2, y3, y4, y5, y6, y7, y8, rfl⟩
end
theorem nil15_any (d : Int) (s : SaleV) (A : SaleA) (x : DocV) (a : DocA) (k : Kid) (o : OwnV) (h : HeldV) (w : World) :
    Calls Tryz.prog Nil15F #[.agg (act15L d s A x a k o h).toArray] w fun e w' => e = .returned (.bool true) ∧ Below w.heap.size w w' :=
  (nil15_w d s A x a k o h (fun _ _ => (0, undef)) [oldC w] w (Mem.old w)).mono fun e w' ⟨x, h, hm⟩ => ⟨h, (show Mem (oldC w :: []) w' from hm).below 0 rfl⟩
end Go.Proofs.YtlamaakconjkcaaGreat
end
