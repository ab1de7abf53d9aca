/- Ky6, Sm0, Sm1, Sm2, Sm3, Sm4, EbW0, Open, OpA, EaP, Of7. -/
import Derived.Test.YtifapcpcemigdaaGreatMfe2533a
import Derived.Test.YtifapcpcemigdaaGreatMf331612
import Derived.Test.YtifapcpcemigdaaGreatM50f98c5
import Derived.Test.YtifapcpcemigdaaGreatM3e71795
import Derived.ChangeKeysEq
import Derived.Test.YtifapcpcemigdaaGreatM2efc9fd
import Derived.WideShapes
import Derived.Lib.SmallJoins
import Derived.Test.YtifapcpcemigdaaGreatM533403a
import Derived.Test.YtifapcpcemigdaaGreatMb930152
set_option maxRecDepth 100000
set_option linter.unusedVariables false
set_option linter.unusedSimpArgs false
set_option linter.unusedSectionVars false
section
namespace Go.Proofs.YtifapcpcemigdaaGreat
open Go.RowKit Go.Lib Go.Tk Go.Shelf Go.Vc Go.Sx Go.Maps
def tidR (l : List Tid) : SC := .row 35 2 l.length (.shal (cellsL tcL l)) []
def serials (n : Nat) : List Int := (List.range n).map fun i : Nat => (i : Int) + 1
theorem serials_sorted (n : Nat) : sortBy cmpI (serials n) = serials n := by
  refine sortBy_self swoI totI ?_
  unfold serials
  rw [List.pairwise_map]
  refine List.Pairwise.imp ?_ (List.pairwise_lt_range (n := n))
  intro a b h
  rw [ltI]
  simp
  omega
theorem docs_tids {B : BookV} (hb : BookOk B) : B.docs.map (·.t) = (serials B.docs.length).map (Tid.mk B.self) := by
  unfold serials
  rw [List.map_map]
  refine List.ext_getElem? fun i => ?_
  rw [List.getElem?_map, List.getElem?_map]
  by_cases h : i < B.docs.length
  · rw [List.getElem?_eq_getElem h, List.getElem?_range h]
    have := hb.docs i _ (List.getElem?_eq_getElem h)
    simp only [Option.map_some, Function.comp, this]
  · rw [List.getElem?_eq_none (by omega), List.getElem?_eq_none (by rw [List.length_range]; omega)]; rfl
theorem tickets_c {B : BookV} (hb : BookOk B) : CallOK Tryz.prog TicketsF [.ptr 0 0 0] [] (bkC B) (.raw 1 0) (bkC B ++ [((1, 0), tidR (B.docs.map (·.t)))]) := by
  refine shut (bkX fun L hL => ?_) rfl rfl rfl rfl
  have hlen : L.length = B.docs.length := by rw [← hL, List.length_map]
  have h := tickets_w (docsF L) B (L := ents docW (docKV L)) (c := B.self) (rs := serials B.docs.length) docsG_at (by
    rw [← docs_tids hb, ← hL]
    unfold ents docKV
    simp only [List.map_map]; rfl) (by have := hb.many; simp only [ents, docKV, List.length_map]; omega)
  rw [serials_sorted, ← docs_tids hb] at h
  have hl : (serials B.docs.length).length = (B.docs.map (·.t)).length := by unfold serials; simp
  rw [hl] at h
  exact h.of_rd.post_mono fun ε R w hM => by
    have hM : Mem (_ :: docsF L (ε 0 1).1 (ε 0 1).2 :: _) w := hM
    have h1 := hM.front 1 rfl
    have h2 : Mem (docsX B.docs (ε 0 1).1 (ε 0 1).2 :: _) w := Mem.in_ex ⟨L, hL⟩ h1
    exact h2.front 1 rfl
end Go.Proofs.YtifapcpcemigdaaGreat
end
section
namespace Go.Proofs.YtifapcpcemigdaaGreat
open Go.RowKit Go.Lib Go.Tk Go.Shelf Go.Vc Go.Sx Go.Maps
end Go.Proofs.YtifapcpcemigdaaGreat
end
section
namespace Go.Proofs.YtifapcpcemigdaaGreat
open Go.RowKit Go.Lib Go.Tk Go.Shelf Go.Vc Go.Sx Go.Maps
end Go.Proofs.YtifapcpcemigdaaGreat
end
section
namespace Go.Proofs.YtifapcpcemigdaaGreat
open Go.RowKit Go.Lib Go.Tk Go.Shelf Go.Vc Go.Sx Go.Maps
end Go.Proofs.YtifapcpcemigdaaGreat
end
section
namespace Go.Proofs.YtifapcpcemigdaaGreat
open Go.RowKit Go.Lib Go.Tk Go.Shelf Go.Vc Go.Sx Go.Maps
structure DocsOk (L : List (DocV × DocA)) : Prop where
  sal : ∀ p ∈ L, SaleOk p.1.s
  vl : ∀ p ∈ L, p.1.vals.length ≤ 1073741824
end Go.Proofs.YtifapcpcemigdaaGreat
end
section
namespace Go.Proofs.YtifapcpcemigdaaGreat
open Go.RowKit Go.Lib Go.Tk Go.Shelf Go.Vc Go.Sx Go.Maps
structure DsOk (ds : List DocV) : Prop where
  sal : ∀ d ∈ ds, SaleOk d.s
  vl : ∀ d ∈ ds, d.vals.length ≤ 1073741824
theorem DsOk.docs {ds : List DocV} (h : DsOk ds) {L : List (DocV × DocA)} (hL : L.map (·.1) = ds) : DocsOk L := ⟨fun p hp => h.sal _ (hL ▸ List.mem_map_of_mem hp), fun p hp => h.vl _ (hL ▸ List.mem_map_of_mem hp)⟩
end Go.Proofs.YtifapcpcemigdaaGreat
end
section
namespace Go.Proofs.YtifapcpcemigdaaGreat
open Go.RowKit Go.Lib Go.Tk Go.Shelf Go.Vc Go.Sx
theorem tid_nth {l : List Tid} {k : Nat} {t : Tid} (h : l[k]? = some t) : ∀ (ε : Env) (q : Nat) (v : SV), (tidS t)[q]? = some v → (cellsL tcL l)[k * 2 + q]? = some (v.den ε) :=
  cells_nth (enc := tcL) (encS := tidS) (fun _ _ => rfl) (fun _ => rfl) h
theorem tids_get {ds : List DocV} {k : Nat} {d : DocV} (h : ds[k]? = some d) : (ds.map (·.t))[k]? = some d.t := by rw [List.getElem?_map, h]; rfl
theorem tid_docs {B : BookV} (h : BookOk B) {d : DocV} (hd : d ∈ B.docs) : TidOk d.t := by
  obtain ⟨j, hj, hjd⟩ := List.getElem_of_mem hd
  have e := h.docs j d (by rw [List.getElem?_eq_getElem hj, hjd])
  have hs := h.self
  have hn := h.n
  have hm := h.many
  rw [e]
  exact ⟨⟨by show 0 ≤ B.self; omega, by show B.self ≤ 255; omega⟩, by show 0 ≤ (j : Int) + 1; omega, by show (j : Int) + 1 ≤ _; omega⟩
theorem slOk_row {w : World} {a : Option Addr} {xs : List Value} {n c : Nat} (hr : Row w a xs) (hx : a = none → xs.length = 0 → n = 0) (hn : a = none → c = 0) : SlOk a n c := ⟨fun e => ⟨hx e (by
  subst e
  cases hl : xs.length with
  | zero => rfl
  | succ k =>
    obtain ⟨b, off, h, -⟩ := hr 0 (by omega)
    cases h), hn e⟩⟩
theorem encTaxL_len (l : List Tax) : (cellsL encTax l).length = l.length * 2 := cellsL_len (enc := encTax) (size := 2) (fun _ => rfl) l
theorem ExOk.ds {B : BookV} (h : ExOk B) : DsOk B.docs := ⟨h.sal, fun d hd => (h.sm d hd).nv⟩
theorem ExOk.cl {B : BookV} (h : ExOk B) : ∀ d ∈ B.docs, TidOk d.t ∧ DocSmall d := fun d hd => ⟨tid_docs h.bk hd, h.sm d hd⟩
structure BI (B : BookV) : Prop where
  ex : ExOk B
  hk : ∀ k h, lkt B.helds k = some h → B.badK k = false
  hl : B.helds.length ≤ 64
theorem putt_len {κ α : Type} [DecidableEq κ] (k : κ) (a : α) : ∀ L : List (κ × α), (putt L k a).length = if (lkt L k).isSome then L.length else L.length + 1
  | [] => rfl
  | p :: L => by
    show (if p.1 = k then (k, a) :: L else p :: putt L k a).length = _
    have e : lkt (p :: L) k = if p.1 = k then some p.2 else lkt L k := rfl
    rw [e]
    by_cases q : p.1 = k
    · rw [if_pos q, if_pos q]; rfl
    · rw [if_neg q, if_neg q, List.length_cons, putt_len k a L]
      split <;> rfl
theorem badK_same {B C : BookV} (h1 : C.self = B.self) (h2 : C.n = B.n) (k : Kid) : C.badK k = B.badK k := by unfold BookV.badK; rw [h1, h2]
theorem setH_same (B : BookV) (k : Kid) (h : HeldV) : (B.setH k h).docs = B.docs ∧ (B.setH k h).self = B.self ∧ (B.setH k h).n = B.n ∧ (B.setH k h).owns = B.owns := by
  unfold BookV.setH; cases decide (B.setHE k = 0) <;> exact ⟨rfl, rfl, rfl, rfl⟩
theorem ExOk.setH {B : BookV} (h : ExOk B) (k : Kid) (x : HeldV) : ExOk (B.setH k x) := by
  obtain ⟨e1, e2, e3, e4⟩ := setH_same B k x
  exact ⟨⟨by rw [e2, e3]; exact h.bk.self, by rw [e3]; exact h.bk.n, by rw [e1, e2]; exact h.bk.docs, by rw [e1]; exact h.bk.many⟩, by rw [e1]; exact h.sal, by rw [e1]; exact h.sm, by rw [e4]; exact h.own⟩
theorem setHE_cases (B : BookV) (k : Kid) : (B.setHE k = 1 ∧ B.badK k = true) ∨ (B.setHE k = 3 ∧ B.badK k = false ∧ lkt B.helds k = none ∧ 64 ≤ B.helds.length) ∨ (B.setHE k = 0 ∧ B.badK k = false ∧ ((lkt B.helds k).isSome = true ∨ B.helds.length < 64)) := by
  unfold BookV.setHE
  cases h1 : B.badK k
  · cases h2 : lkt B.helds k with
    | none =>
      rcases Bool.eq_false_or_eq_true (decide (64 ≤ B.helds.length)) with h3 | h3
      · rw [h3]; exact .inr (.inl ⟨rfl, rfl, rfl, of_decide_eq_true h3⟩)
      · rw [h3]; exact .inr (.inr ⟨rfl, rfl, .inr (by have := of_decide_eq_false h3; omega)⟩)
    | some x => exact .inr (.inr ⟨rfl, rfl, .inl rfl⟩)
  · exact .inl ⟨rfl, rfl⟩
theorem setH_ok {B : BookV} {k : Kid} (h : B.setHE k = 0) (x : HeldV) : B.setH k x = { B with helds := putt B.helds k x } := by unfold BookV.setH; rw [decide_eq_true h]; rfl
theorem setH_not {B : BookV} {k : Kid} (h : B.setHE k ≠ 0) (x : HeldV) : B.setH k x = B := by unfold BookV.setH; rw [decide_eq_false h]; rfl
theorem BI.setH {B : BookV} (h : BI B) (k : Kid) (x : HeldV) : BI (B.setH k x) := by
  obtain ⟨e1, e2, e3, e4⟩ := setH_same B k x
  refine ⟨h.ex.setH k x, fun k' y hy => ?_, ?_⟩
  · rw [badK_same e2 e3]
    rcases setHE_cases B k with ⟨g, -⟩ | ⟨g, -⟩ | ⟨g, gb, -⟩
    · rw [setH_not (by rw [g]; decide)] at hy; exact h.hk k' y hy
    · rw [setH_not (by rw [g]; decide)] at hy; exact h.hk k' y hy
    · rw [setH_ok g] at hy
      have hy : lkt (putt B.helds k x) k' = some y := hy
      rw [lkt_put] at hy
      by_cases q : k = k'
      · rw [← q]; exact gb
      · rw [if_neg q] at hy; exact h.hk k' y hy
  · rcases setHE_cases B k with ⟨g, -⟩ | ⟨g, -⟩ | ⟨g, gb, gl⟩
    · rw [setH_not (by rw [g]; decide)]; exact h.hl
    · rw [setH_not (by rw [g]; decide)]; exact h.hl
    · rw [setH_ok g]
      show (putt B.helds k x).length ≤ 64
      rw [putt_len]
      have := h.hl
      rcases gl with gl | gl
      · rw [if_pos gl]; exact this
      · split <;> omega
theorem BI.setO {B : BookV} (h : BI B) {k : Kid} {o : OwnV} (ho : OwnOk o) : BI (B.setO k o) := by
  obtain ⟨e1, e2, e3, e4⟩ := setO_same B k o
  exact ⟨h.ex.setO ho, by rw [e4]; intro k' y hy; rw [badK_same e2 e3]; exact h.hk k' y hy, by rw [e4]; exact h.hl⟩
theorem new_bi (self n : Int) (h : 0 ≤ self ∧ self < n ∧ 2 ≤ n ∧ n ≤ 8) : BI (bookNew self n) := ⟨new_ex self n h, (fun k o e => by cases e), by show (0 : Nat) ≤ 64; decide⟩
theorem bookE_ok {self n : Int} (hs : 0 ≤ self) (h : bookE self n = 0) : 0 ≤ self ∧ self < n ∧ 2 ≤ n ∧ n ≤ 8 := by
  have h0 : (decide (n < 2) || (decide (8 < n) || decide (n ≤ self))) = false := by
    cases hb : (decide (n < 2) || (decide (8 < n) || decide (n ≤ self))) with
    | false => rfl
    | true => unfold bookE at h; rw [hb] at h; cases h
  simp only [Bool.or_eq_false_iff, decide_eq_false_iff_not] at h0
  omega
theorem setO_lk {B : BookV} {k : Kid} {o : OwnV} (k' : Kid) : lkt (B.setO k o).owns k' = if k = k' then (lkt B.owns k).map fun _ => o else lkt B.owns k' := by
  cases h : lkt B.owns k with
  | none =>
    rw [setO_none h]
    by_cases q : k = k'
    · rw [if_pos q, ← q, h]; rfl
    · rw [if_neg q]
  | some x =>
    rw [setO_some h]
    show lkt (putt B.owns k o) k' = _
    rw [lkt_put]
    by_cases q : k = k'
    · rw [if_pos q, if_pos q]; rfl
    · rw [if_neg q, if_neg q]
end Go.Proofs.YtifapcpcemigdaaGreat
end
section
namespace Go.Proofs.YtifapcpcemigdaaGreat
open Go.RowKit Go.Lib Go.Tk Go.WideShapes Go.Joins Go.ChangeShapes
structure SaleW (s : SaleV) : Prop where
  name : s.name.size ≤ maxLen
  legs : ∀ l ∈ s.legs, LegOk l
  taxes : ∀ t ∈ s.taxes, TaxOk t
  fare : -9223372036854775808 ≤ s.fare ∧ s.fare ≤ 9223372036854775807
  pen : -9223372036854775808 ≤ s.pen ∧ s.pen ≤ 9223372036854775807
  nl : s.legs.length ≤ maxLen
  nt : s.taxes.length ≤ maxLen
theorem SaleW.small {s : SaleV} (h : SaleW s) (h1 : s.legs.length ≤ 1000) (h2 : s.taxes.length ≤ 1000) : SaleOk s := ⟨h.name, h.legs, h.taxes, h.fare, h.pen, h1, h2⟩
theorem wfi64 {a : Int} (h : (Lit.int .i64 a).wf = true) : -9223372036854775808 ≤ a ∧ a ≤ 9223372036854775807 := by
  simpa [Lit.wf, IntKind.min, IntKind.max, IntKind.signed, IntKind.bits] using h
theorem wfu8 {a : Int} (h : (Lit.int .u8 a).wf = true) : 0 ≤ a ∧ a ≤ 255 := by
  simpa [Lit.wf, IntKind.min, IntKind.max, IntKind.signed, IntKind.bits] using h
theorem wfu16 {a : Int} (h : (Lit.int .u16 a).wf = true) : 0 ≤ a ∧ a ≤ 65535 := by
  simpa [Lit.wf, IntKind.min, IntKind.max, IntKind.signed, IntKind.bits] using h
theorem wfu32 {a : Int} (h : (Lit.int .u32 a).wf = true) : 0 ≤ a ∧ a ≤ 4294967295 := by
  simpa [Lit.wf, IntKind.min, IntKind.max, IntKind.signed, IntKind.bits] using h
theorem wfu64 {a : Int} (h : (Lit.int .u64 a).wf = true) : 0 ≤ a ∧ a ≤ 18446744073709551615 := by
  simpa [Lit.wf, IntKind.min, IntKind.max, IntKind.signed, IntKind.bits] using h
theorem len2 {cs : List Value} (h : cs.length = 2) : ∃ a b, cs = [a, b] := by
  match cs, h with
  | [a, b], _ => exact ⟨a, b, rfl⟩
theorem len3 {cs : List Value} (h : cs.length = 3) : ∃ a b c, cs = [a, b, c] := by
  match cs, h with
  | [a, b, c], _ => exact ⟨a, b, c, rfl⟩
variable {H : Type} {enc : TypeId × Value → H} {w : World} {base : Nat} {spare : Nat → Bool} {held : Bool}
set_option maxRecDepth 100000 in
theorem leg_cells {n : Nat} {cs : List Value} {y : DataW H × List MemPlace} (hl : cs.length = 3) (h : DataW.trod enc Tryz.prog w base spare held n 43 cs = some y) : ∃ l : Leg, encLeg l = cs ∧ LegOk l := by
  obtain ⟨_, m, hf⟩ := struct_fields Tryz.underlying43 h
  obtain ⟨c0, c1, c2, rfl⟩ := len3 hl
  simp only [List.forall_mem_cons] at hf
  obtain ⟨⟨y0, h0⟩, ⟨y1, h1⟩, ⟨y2, h2⟩, -⟩ := hf
  obtain ⟨a0, e0, w0⟩ := int_cell Tryz.underlying5 h0
  obtain ⟨a1, e1, w1⟩ := int_cell Tryz.underlying40 h1
  obtain ⟨a2, e2, w2⟩ := int_cell Tryz.underlying41 h2
  have f0 : c0 = .int .u8 a0 := by simpa [show Tryz.prog.cellsOf 5 = 1 by kernel_rfl] using e0
  have f1 : c1 = .int .u16 a1 := by simpa [show Tryz.prog.cellsOf 40 = 1 by kernel_rfl] using e1
  have f2 : c2 = .int .u32 a2 := by simpa [show Tryz.prog.cellsOf 41 = 1 by kernel_rfl] using e2
  exact ⟨⟨a0, a1, a2⟩, by rw [f0, f1, f2]; rfl, wfu8 w0, wfu16 w1, wfu32 w2⟩
set_option maxRecDepth 100000 in
theorem tax_cells {n : Nat} {cs : List Value} {y : DataW H × List MemPlace} (hl : cs.length = 2) (h : DataW.trod enc Tryz.prog w base spare held n 154 cs = some y) : ∃ l : Tax, encTax l = cs ∧ TaxOk l := by
  obtain ⟨_, m, hf⟩ := struct_fields Tryz.underlying154 h
  obtain ⟨c0, c1, rfl⟩ := len2 hl
  simp only [List.forall_mem_cons] at hf
  obtain ⟨⟨y0, h0⟩, ⟨y1, h1⟩, -⟩ := hf
  obtain ⟨a0, e0, w0⟩ := string_cell Tryz.underlying9 h0
  obtain ⟨a1, e1, w1⟩ := int_cell Tryz.underlying2 h1
  have f0 : c0 = .string a0 := by simpa [show Tryz.prog.cellsOf 9 = 1 by kernel_rfl] using e0
  have f1 : c1 = .int .i64 a1 := by simpa [show Tryz.prog.cellsOf 2 = 1 by kernel_rfl] using e1
  exact ⟨⟨a0, a1⟩, by rw [f0, f1]; rfl, w0, wfi64 w1⟩
theorem legs_cell {n : Nat} {v : Value} {y : DataW H × List MemPlace} (h : DataW.trod enc Tryz.prog w base spare held n 29 [v] = some y) :
    ∃ (a : Option Addr) (l : List Leg) (c : Nat), v = .slice a l.length c ∧ Row w a (cellsL encLeg l) ∧ (a = none → c = 0) ∧ l.length ≤ maxLen ∧ ∀ x ∈ l, LegOk x := by
  obtain ⟨a, len, cap, rows, rfl, hlen, hrows, hr, hn, hm, _⟩ := slice_rows (fun cs => ∃ l : Leg, encLeg l = cs ∧ LegOk l) Tryz.underlying29 (show Tryz.prog.cellsOf 43 = 3 by kernel_rfl) (by decide) (fun n cs y hl h => leg_cells hl h) h
  obtain ⟨l, hl⟩ := listOf (enc := fun x : { x : Leg // LegOk x } => encLeg x.1) (Q := fun cs => ∃ l : Leg, encLeg l = cs ∧ LegOk l) (fun r ⟨x, hx, hk⟩ => ⟨⟨x, hk⟩, hx⟩) rows (fun r hr => (hrows r hr).2)
  have hl2 : (l.map (·.1)).map encLeg = rows := by rw [List.map_map]; exact hl
  have hl3 : (l.map (·.1)).length = len := by rw [← hlen, ← hl2]; simp
  refine ⟨a, l.map (·.1), cap, by rw [hl3], ?_, hn, by rw [hl3]; exact hm, fun x hx => ?_⟩
  · unfold cellsL; rw [hl2]; exact hr
  · obtain ⟨z, _, rfl⟩ := List.mem_map.1 hx; exact z.2
theorem taxes_cell {n : Nat} {v : Value} {y : DataW H × List MemPlace} (h : DataW.trod enc Tryz.prog w base spare held n 30 [v] = some y) :
    ∃ (a : Option Addr) (l : List Tax) (c : Nat), v = .slice a l.length c ∧ Row w a (cellsL encTax l) ∧ (a = none → c = 0) ∧ l.length ≤ maxLen ∧ ∀ x ∈ l, TaxOk x := by
  obtain ⟨a, len, cap, rows, rfl, hlen, hrows, hr, hn, hm, _⟩ := slice_rows (fun cs => ∃ l : Tax, encTax l = cs ∧ TaxOk l) Tryz.underlying30 (show Tryz.prog.cellsOf 154 = 2 by kernel_rfl) (by decide) (fun n cs y hl h => tax_cells hl h) h
  obtain ⟨l, hl⟩ := listOf (enc := fun x : { x : Tax // TaxOk x } => encTax x.1) (Q := fun cs => ∃ l : Tax, encTax l = cs ∧ TaxOk l) (fun r ⟨x, hx, hk⟩ => ⟨⟨x, hk⟩, hx⟩) rows (fun r hr => (hrows r hr).2)
  have hl2 : (l.map (·.1)).map encTax = rows := by rw [List.map_map]; exact hl
  have hl3 : (l.map (·.1)).length = len := by rw [← hlen, ← hl2]; simp
  refine ⟨a, l.map (·.1), cap, by rw [hl3], ?_, hn, by rw [hl3]; exact hm, fun x hx => ?_⟩
  · unfold cellsL; rw [hl2]; exact hr
  · obtain ⟨z, _, rfl⟩ := List.mem_map.1 hx; exact z.2
end Go.Proofs.YtifapcpcemigdaaGreat
end
section
namespace Go.Proofs.YtifapcpcemigdaaGreat
open Go.RowKit Go.Lib Go.Tk Go.Shelf Go.Vc Go.Sx Go.WideShapes
structure Act17 where
  d : Int
  t : Tid
  s : SaleV
  A : SaleA
section
variable {H : Type} {enc : TypeId × Value → H} {w : World} {base : Nat} {spare : Nat → Bool} {held : Bool}
end
end Go.Proofs.YtifapcpcemigdaaGreat
end
section
namespace Go.Proofs.YtifapcpcemigdaaGreat
open Go.RowKit Go.Lib Go.Tk Go.Shelf Go.Vc Go.Sx
def doX (B : BookV) (x : Act17) : XR := if x.d = 0 then exIssue B x.s else if x.d = 1 then exDisplay B x.t else if x.d = 2 then exVoid B x.t else if x.d = 3 then exRefund B x.t else exExchange B x.t x.s
inductive ActEnd (B : BookV) (x : Act17) : XR → Prop where
  | fail (e : Int) (h : e ≠ 0) : ActEnd B x (failX e B)
  | look (d : DocV) (hd : d ∈ B.docs) (h : x.d = 1) (ht : d.t = x.t) : ActEnd B x (toldX B d.t d.left)
  | made (h : x.d = 0) (hm : B.issE x.s = 0) : ActEnd B x (toldX (B.issued x.s) B.nextT (priceI x.s))
  | turn (d d' : DocV) (s a : Int) (hd : d ∈ B.docs) (ht : d.t = x.t) (ht' : d'.t = d.t) (hl : d'.left = d.left ∨ d'.left = 0) (h : x.d = 2 ∨ x.d = 3) (ha : mayI a = true) : ActEnd B x (toldX (turnB (B.setD d') d.t s) d.t a)
  | exch (d : DocV) (hd : d ∈ B.docs) (ht : d.t = x.t) (h : ¬ (x.d = 0 ∨ x.d = 1 ∨ x.d = 2 ∨ x.d = 3)) (hg : (giftV B d).e = 0) (hm : B.issE x.s = 0) : ActEnd B x (toldX ((exB2 B d x.s).setD (exD2 B d x.s)) B.nextT (priceI x.s - usedX x.s (giftV B d)))
theorem mayI_mk {x : Int} (h : -1125899906842624 ≤ x ∧ x ≤ 1125899906842624) : mayI x = true := by simp [mayI]; omega
theorem price_may (s : SaleV) : -1125899906842624 ≤ priceI s ∧ priceI s ≤ 1125899906842624 := sum_bound _ 0 (by decide) (by decide)
theorem noneB_gift {B : BookV} {d : DocV} : -1125899906842624 ≤ (giftV B d).g ∧ (giftV B d).g ≤ 1125899906842624 := sum_bound _ 0 (by decide) (by decide)
theorem doX_end (B : BookV) (x : Act17) : ActEnd B x (doX B x) := by
  unfold doX
  by_cases g0 : x.d = 0
  · rw [if_pos g0]
    unfold exIssue
    rcases Bool.eq_false_or_eq_true (decide (B.issE x.s = 0)) with e | e <;> rw [e]
    · exact .made g0 (of_decide_eq_true e)
    · exact .fail _ (of_decide_eq_false e)
  rw [if_neg g0]
  by_cases g1 : x.d = 1
  · rw [if_pos g1]
    unfold exDisplay
    cases hf : lkD B.docs x.t with
    | none => exact .fail 4 (by decide)
    | some d =>
      obtain ⟨hd, ht⟩ := lkD_mem hf
      show ActEnd B x (toldX B x.t d.left)
      rw [← ht]
      exact .look d hd g1 ht
  rw [if_neg g1]
  by_cases g2 : x.d = 2
  · rw [if_pos g2]
    unfold exVoid
    cases hf : lkD B.docs x.t with
    | none => exact .fail 4 (by decide)
    | some d =>
      obtain ⟨hd, ht⟩ := lkD_mem hf
      show ActEnd B x (exVoidD B x.t d)
      rw [← ht]
      unfold exVoidD
      rcases Bool.eq_false_or_eq_true (voidL (tid0B d.frm) (coupL B d.t)) with e1 | e1 <;> rw [e1]
      · rcases Bool.eq_false_or_eq_true (decide ((addI d.back d.paid).2 = 0)) with e2 | e2 <;> rw [e2]
        · have := price_may d.s
          exact .turn d (voidD d) 5 _ hd ht rfl (.inl rfl) (.inl g2) (mayI_mk (by omega))
        · exact .fail _ (of_decide_eq_false e2)
      · exact .fail 6 (by decide)
  rw [if_neg g2]
  by_cases g3 : x.d = 3
  · rw [if_pos g3]
    unfold exRefund
    cases hf : lkD B.docs x.t with
    | none => exact .fail 4 (by decide)
    | some d =>
      obtain ⟨hd, ht⟩ := lkD_mem hf
      show ActEnd B x (exRefundD B x.t d)
      rw [← ht]
      unfold exRefundD
      cases noneB B d
      · rcases Bool.eq_false_or_eq_true (decide (refE B d = 0)) with e2 | e2 <;> rw [e2]
        · have := noneB_gift (B := B) (d := d)
          exact .turn d (refD B d) 6 _ hd ht rfl (.inr rfl) (.inr g3) (mayI_mk (by omega))
        · exact .fail _ (of_decide_eq_false e2)
      · exact .fail 6 (by decide)
  rw [if_neg g3]
  unfold exExchange
  cases hf : lkD B.docs x.t with
  | none => exact .fail 4 (by decide)
  | some d =>
    obtain ⟨hd, ht⟩ := lkD_mem hf
    show ActEnd B x (exExchangeD B d x.s)
    unfold exExchangeD
    rcases Bool.eq_false_or_eq_true (noneB B d || !tid0B d.dst) with e1 | e1 <;> rw [e1]
    · exact .fail 6 (by decide)
    rcases Bool.eq_false_or_eq_true (decide (exE B d = 0)) with e2 | e2 <;> rw [e2]
    · rcases Bool.eq_false_or_eq_true (decide (B.issE x.s = 0)) with e3 | e3 <;> rw [e3]
      · exact .exch d hd ht (by omega) (first2_0 (of_decide_eq_true e2)).1 (of_decide_eq_true e3)
      · exact .fail _ (of_decide_eq_false e3)
    · exact .fail _ (of_decide_eq_false e2)
theorem turn1_helds (B : BookV) (k : Kid) (o : OwnV) (s : Int) : (turn1 B k o s).helds = B.helds := by
  unfold turn1
  cases freeO o
  · rfl
  · exact (setO_same B k _).2.2.2
theorem turnL_helds (s : Int) (t : Tid) : ∀ (l : List OwnV) (B : BookV) (i : Int), (turnL s t B i l).helds = B.helds
  | [], _, _ => rfl
  | o :: l, B, i => by
    show (turnL s t (turn1 B ⟨t, i⟩ o s) (i + 1) l).helds = _
    rw [turnL_helds s t l, turn1_helds]
theorem turnB_helds (B : BookV) (t : Tid) (s : Int) : (turnB B t s).helds = B.helds := turnL_helds s t _ B 0
theorem turnB_lk (B : BookV) (t : Tid) (s : Int) (k : Kid) : lkt (turnB B t s).owns k = lkt B.owns k ∨ ∃ o, lkt B.owns k = some o ∧ lkt (turnB B t s).owns k = some (turnO s o) := by
  by_cases h : ∃ i : Nat, i < (coupL B t).length ∧ k = ⟨t, (i : Int)⟩
  · obtain ⟨i, hi, rfl⟩ := h
    exact .inr ⟨_, coupL_get hi, turnB_at hi⟩
  · exact .inl (turnB_other fun i hi e => h ⟨i, hi, e⟩)
theorem doX_helds (B : BookV) (x : Act17) : (doX B x).b.helds = B.helds := by
  have q := doX_end B x
  generalize doX B x = r at q ⊢
  cases q with
  | fail e h => rfl
  | look d hd h ht => rfl
  | made h hm => rfl
  | turn d d' s a hd ht ht' hl h ha => exact turnB_helds _ _ _
  | exch d hd ht h hg hm => exact turnB_helds _ _ _
theorem putD_length (ds : List DocV) (d : DocV) : (putD ds d).length = ds.length := List.length_map _
structure EL (B : BookV) : Prop where
  ex : ExOk B
  ks : KeysIn B
  lf : ∀ d ∈ B.docs, 0 ≤ d.left ∧ d.left ≤ 1125899906842624
  ne : ∀ d ∈ B.docs, coupL B d.t ≠ []
theorem newL_ne {B : BookV} {s : SaleV} (ok : SaleOk s) (hm : B.issE s = 0) : newL s ≠ [] := by
  obtain ⟨-, -, hsh, -⟩ := check_shape (issE_check hm)
  obtain ⟨hS, ha, l1, l4, f0, f1⟩ := shape_share ok hsh
  intro e
  have := newL_len s
  rw [e, shareV_len hS, ws_len] at this
  simp at this
  omega
theorem EL.issued {B : BookV} (h : EL B) {s : SaleV} (ok : SaleOk s) (hm : B.issE s = 0) : EL (B.issued s) := by
  have m := made_i ok hm
  refine ⟨h.ex.issued ok hm, h.ks.issued s, fun d hd => ?_, fun d hd => ?_⟩
  · rcases List.mem_append.1 (show d ∈ B.docs ++ [docMade B.nextT s] from hd) with hd | hd
    · exact h.lf d hd
    · rw [List.mem_singleton.1 hd]; exact ⟨Int.le_refl _, by show (0 : Int) ≤ _; decide⟩
  · rcases List.mem_append.1 (show d ∈ B.docs ++ [docMade B.nextT s] from hd) with hd | hd
    · rw [coupL_issued_ne (nextT_fresh h.ex.bk d hd)]; exact h.ne d hd
    · rw [List.mem_singleton.1 hd]
      show coupL (B.issued s) B.nextT ≠ []
      rw [coupL_issued (h.ks.next h.ex.bk) m.vl]; exact newL_ne ok hm
theorem doX_ok {B : BookV} (h : ExOk B) {x : Act17} (ok : SaleOk x.s) : ExOk (doX B x).b := by
  unfold doX
  by_cases g0 : x.d = 0
  · rw [if_pos g0]; exact exIssue_ok h ok
  rw [if_neg g0]
  by_cases g1 : x.d = 1
  · rw [if_pos g1]; exact exDisplay_ok h x.t
  rw [if_neg g1]
  by_cases g2 : x.d = 2
  · rw [if_pos g2]; exact exVoid_ok h x.t
  rw [if_neg g2]
  by_cases g3 : x.d = 3
  · rw [if_pos g3]; exact exRefund_ok h x.t
  rw [if_neg g3]; exact exExchange_ok h x.t ok
theorem doX_eb {B : BookV} (h : EB B) {x : Act17} (ok : SaleOk x.s) (hf : x.s.fare < 1099511627776) : EB (doX B x).b := by
  unfold doX
  by_cases g0 : x.d = 0
  · rw [if_pos g0]; exact exIssue_b h ok hf
  rw [if_neg g0]
  by_cases g1 : x.d = 1
  · rw [if_pos g1]; exact exDisplay_b h x.t
  rw [if_neg g1]
  by_cases g2 : x.d = 2
  · rw [if_pos g2]; exact exVoid_b h x.t
  rw [if_neg g2]
  by_cases g3 : x.d = 3
  · rw [if_pos g3]; exact exRefund_b h x.t
  rw [if_neg g3]; exact exExchange_b h x.t ok hf
end Go.Proofs.YtifapcpcemigdaaGreat
end
section
namespace Go.Proofs.YtifapcpcemigdaaGreat
open Go.RowKit Go.Lib Go.Tk Go.Shelf Go.Vc Go.Sx
def InB (s : Int) : Prop := 0 ≤ s ∧ s ≤ 255
inductive OSt : OwnV → OwnV → Prop
  | asked (y : OwnV) (b : Bool) : OSt y { y with asked := b }
  | give (y : OwnV) (c : Int) : y.away = false → y.k.s = 1 → InB c → OSt y (givenO y c)
  | back (y : OwnV) : y.away = true → OSt y (backO y)
  | use (y : OwnV) (cmd : Int) : useB cmd = true → y.away = false → (nextI y.k.s cmd).2 = 0 → OSt y (usedO y (nextI y.k.s cmd).1)
  | pay (y : OwnV) : y.away = true → y.paid = false → OSt y (paidO y)
def HsOk (B : BookV) : Prop := ∀ k h, lkt B.helds k = some h → InB h.k.s
inductive Mv : BookV → BookV → Prop
  | refl (B) : Mv B B
  | own (B k y z) : lkt B.owns k = some y → OSt y z → Mv B (B.setO k z)
  | held (B k h) : (HsOk B → InB h.k.s) → Mv B (B.setH k h)
structure MvR (B : BookV) (q : HR) : Prop where
  mv : ∃ D, Mv B D ∧ Mv D q.b
  dst : (∀ k o, lkt B.owns k = some o → InB o.dst) → ∀ x ∈ q.out, InB x.dst
  one : q.out.length ≤ 1
theorem bcs {α : Type} {p : α → Prop} (b : Bool) {x y : α} (h1 : b = true → p x) (h2 : b = false → p y) : p (bif b then x else y) := by
  cases b
  · exact h2 rfl
  · exact h1 rfl
theorem MvR.no {B : BookV} (e : Int) : MvR B ⟨[], e, B⟩ := ⟨⟨B, .refl B, .refl B⟩, fun _ x hx => (by cases hx), Nat.zero_le _⟩
theorem MvR.say {B : BookV} (x : OutV) (e : Int) (h : InB x.dst) : MvR B ⟨[x], e, B⟩ := ⟨⟨B, .refl B, .refl B⟩, fun _ y hy => by rw [List.mem_singleton.1 hy]; exact h, Nat.le_refl _⟩
theorem MvR.one' {B C : BookV} {x : OutV} {e : Int} (h : Mv B C) (hd : (∀ k o, lkt B.owns k = some o → InB o.dst) → InB x.dst) : MvR B ⟨[x], e, C⟩ := ⟨⟨C, h, .refl C⟩, fun g y hy => by rw [List.mem_singleton.1 hy]; exact hd g, Nat.le_refl _⟩
theorem MvR.still {B C : BookV} {e : Int} (h : Mv B C) : MvR B ⟨[], e, C⟩ := ⟨⟨C, h, .refl C⟩, fun g y hy => (by cases hy), Nat.zero_le _⟩
theorem hs_get {B : BookV} (k : Kid) (h : HsOk B) : InB ((lkt B.helds k).getD held0).k.s := by
  cases e : lkt B.helds k with
  | none => exact ⟨by show (0 : Int) ≤ 0; decide, by show (0 : Int) ≤ 255; decide⟩
  | some x => exact h k x e
theorem ofs_own {B : BookV} {k : Kid} (h : (!(lkt B.owns k).isSome) = false) : lkt B.owns k = some ((lkt B.owns k).getD own0) := by
  cases h1 : lkt B.owns k with
  | none => rw [h1] at h; cases h
  | some y => rfl
theorem ofs_get {B : BookV} {k : Kid} (h : (lkt B.owns k).isSome = true) : lkt B.owns k = some ((lkt B.owns k).getD own0) := ofs_own (by rw [h]; rfl)
theorem toI_in {s c v : Int} (h : toI s c = some v) : InB v := by
  unfold toI at h
  unfold InB
  repeat' split at h
  all_goals first | (cases h; done) | (simp only [Option.some.injEq] at h; omega)
theorem next_in (s c : Int) : InB (nextI s c).1 := by
  unfold nextI
  cases isB s && cmdB c with
  | false => exact ⟨by show (0 : Int) ≤ 0; decide, by show (0 : Int) ≤ 255; decide⟩
  | true =>
    cases hv : toI s c with
    | none => exact ⟨by show (0 : Int) ≤ 0; decide, by show (0 : Int) ≤ 255; decide⟩
    | some v => exact toI_in hv
theorem not_dec {p : Prop} [Decidable p] (h : (!decide p) = false) : p := of_decide_eq_true (by cases e : decide p with | true => rfl | false => rw [e] at h; cases h)
theorem want_mv {B : BookV} {k : Kid} (hk : InB k.t.c) : MvR B (wantQ B k) := by
  unfold wantQ
  exact bcs _ (fun _ => .no 6) fun _ => bcs _ (fun _ => .one' (.held B k _ fun h => hs_get k h) fun _ => hk) fun _ => .no _
theorem return_mv {B : BookV} {k : Kid} (hk : InB k.t.c) : MvR B (returnQ B k) := by
  unfold returnQ
  exact bcs _ (fun _ => .no 4) fun _ => bcs _ (fun _ => .no 160) fun _ => bcs _ (fun _ => .no 6) fun _ => .one' (.held B k _ fun h => hs_get k h) fun _ => hk
theorem recall_mv (B : BookV) (k : Kid) : MvR B (recallQ B k) := by
  unfold recallQ
  exact bcs _ (fun _ => .no 4) fun h1 => bcs _ (fun _ => .no 6) fun _ => .one' (.own B k _ _ (ofs_own h1) (.asked _ true)) fun g => g k _ (ofs_own h1)
theorem hwant_mv {B : BookV} {c : Int} (hc : InB c) (k : Kid) : MvR B (hwantQ B c k) := by
  unfold hwantQ
  exact bcs _ (fun _ => .say _ _ hc) fun h1 => bcs _ (fun _ => .say _ _ hc) fun h2 => bcs _ (fun _ => .say _ _ hc) fun _ => bcs _ (fun _ => .say _ _ hc) fun h3 => bcs _ (fun _ => .say _ _ hc) fun _ => .one' (.own B k _ _ (ofs_own h1) (.give _ c h2 (not_dec h3) hc)) fun _ => hc
theorem hgrant_mv {B : BookV} (c : Int) {m : MsV} (hm : InB m.k.s) : MvR B ⟨[], (hgrantQ B c m).e, (hgrantQ B c m).b⟩ := by
  have h : Mv B (hgrantQ B c m).b := by
    unfold hgrantQ
    exact bcs (p := fun q : HR => Mv B q.b) _ (fun _ => .refl B) fun _ => bcs (p := fun q : HR => Mv B q.b) _ (fun _ => .refl B) fun _ => .held B _ _ fun _ => hm
  exact .still h
theorem href_mv (B : BookV) (c : Int) (k : Kid) : MvR B ⟨[], 0, hrefB B c k⟩ := by
  have h1 : Mv B (hrefH B c k) := by
    unfold hrefH
    exact bcs (p := fun q => Mv B q) _ (fun _ => .held B k _ fun h => hs_get k h) fun _ => .refl B
  refine ⟨⟨_, h1, ?_⟩, fun _ x hx => (by cases hx), Nat.zero_le _⟩
  unfold hrefB
  refine bcs (p := fun q => Mv (hrefH B c k) q) _ (fun h => ?_) fun _ => .refl _
  unfold isAway at h
  rw [Bool.and_eq_true] at h
  exact .own _ k _ _ (ofs_get h.1) (.asked _ false)
theorem hrecall_mv {B : BookV} {c : Int} (hc : InB c) {k : Kid} (hk : InB k.t.c) : MvR B (hrecallQ B c k) := by
  unfold hrecallQ
  exact bcs _ (fun _ => .no 0) fun _ => bcs _ (fun _ => .say _ _ hc) fun _ => .one' (.held B k _ fun h => hs_get k h) fun _ => hk
theorem hret_mv (B : BookV) (c : Int) (m : MsV) : MvR B ⟨[], 0, hretB B c m⟩ := by
  have h : Mv B (hretB B c m) := by
    unfold hretB
    refine bcs (p := fun q => Mv B q) _ (fun h => ?_) fun _ => .refl B
    unfold isAway at h
    rw [Bool.and_eq_true, Bool.and_eq_true, Bool.and_eq_true] at h
    exact .own _ m.key _ _ (ofs_get h.1.1) (.back _ h.1.2.1)
  exact .still h
theorem hear_mv {B : BookV} {c : Int} (hc : InB c) {m : MsV} (hm : InB m.k.s) (hk : InB m.key.t.c) : MvR B (hearQ B c m) := by
  unfold hearQ
  refine bcs _ (fun _ => .no 1) fun _ => ?_
  unfold hearDo
  exact bcs _ (fun _ => hwant_mv hc m.key) fun _ => bcs _ (fun _ => hgrant_mv c hm) fun _ => bcs _ (fun _ => href_mv B c m.key) fun _ => bcs _ (fun _ => hrecall_mv hc hk) fun _ => hret_mv B c m
theorem use_mv {B : BookV} {k : Kid} (hk : InB k.t.c) (cmd : Int) : MvR B (useQ B k cmd) := by
  unfold useQ
  refine bcs _ (fun _ => .no 1) fun hu => bcs _ (fun _ => ?_) fun _ => ?_
  · have h : Mv B (useOwn B k cmd).b := by
      unfold useOwn
      refine bcs (p := fun q : HR => Mv B q.b) _ (fun _ => .refl B) fun h1 => bcs (p := fun q : HR => Mv B q.b) _ (fun _ => .refl B) fun h2 => bcs (p := fun q : HR => Mv B q.b) _ (fun _ => .refl B) fun h3 => .own _ k _ _ (ofs_own h1) (.use _ cmd (by rw [Bool.not_eq_false'] at hu; exact hu) ?_ (not_dec h3))
      rw [Bool.or_eq_false_iff] at h2
      exact h2.1
    exact .still h
  · unfold useHeld
    refine bcs _ (fun _ => .no 4) fun _ => bcs _ (fun _ => .no 160) fun _ => bcs _ (fun _ => .no _) fun _ => ?_
    have h : Mv B (B.setH k (usedH ((lkt B.helds k).getD held0) (nextI ((lkt B.helds k).getD held0).k.s cmd).1)) := .held B k _ fun _ => next_in _ _
    cases decide ((nextI ((lkt B.helds k).getD held0).k.s cmd).1 = 4)
    · exact .still h
    · exact .one' h fun _ => hk
theorem bill_mv {B : BookV} {k : Kid} (hk : InB k.t.c) (amt : Int) : MvR B (billQ B k amt) := by
  unfold billQ
  exact bcs _ (fun _ => .no 4) fun h1 => bcs _ (fun _ => .no 160) fun _ => bcs _ (fun _ => .no 6) fun _ => bcs _ (fun _ => .no 7) fun _ => .one' (.held B k _ fun h => hs_get k h) fun _ => hk
theorem hbill_mv {B : BookV} {c : Int} (hc : InB c) (m : MsV) : MvR B (hbillQ B c m) := by
  unfold hbillQ
  refine bcs _ (fun _ => .say _ _ hc) fun h1 => bcs _ (fun _ => .say _ _ hc) fun h2 => bcs _ (fun _ => .say _ _ hc) fun h3 => bcs _ (fun _ => .say _ _ hc) fun _ => .one' (.own B m.key _ _ (ofs_own h1) (.pay _ ?_ h3)) fun _ => hc
  rw [Bool.or_eq_false_iff, Bool.not_eq_false'] at h2
  exact h2.1
theorem hans_mv (B : BookV) (c : Int) (m : MsV) : MvR B ⟨[], 0, hansB B c m⟩ := by
  have h : Mv B (hansB B c m) := by
    unfold hansB
    exact bcs (p := fun q => Mv B q) _ (fun _ => .held B m.key _ fun h => hs_get m.key h) fun _ => .refl B
  exact .still h
theorem hearB_mv {B : BookV} {c : Int} (hc : InB c) (m : MsV) : MvR B (hearBQ B c m) := by
  unfold hearBQ
  exact bcs _ (fun _ => .no 1) fun _ => bcs _ (fun _ => hbill_mv hc m) fun _ => hans_mv B c m
theorem hearO_mv {B : BookV} {c : Int} (hc : InB c) {m : MsV} (hm : InB m.k.s) (hk : InB m.key.t.c) : MvR B (hearO B c m) := by
  unfold hearO
  exact bcs _ (fun _ => hearB_mv hc m) fun _ => hear_mv hc hm hk
theorem coup_mv {B : BookV} {c : CmdO} (hk : InB c.t.c) : MvR B (coupQ B c) := by
  unfold coupQ
  split
  · exact want_mv hk
  split
  · exact return_mv hk
  split
  · exact recall_mv B _
  split
  · exact bill_mv hk _
  exact use_mv hk _
end Go.Proofs.YtifapcpcemigdaaGreat
end
