/- Bw, Bs1, Bs2, Lw16b, HoP1, Lw16c, StP, Coup1, Coup2, Coup3. -/
import Derived.Test.YtnkghdakjdhhdaaGreatM467ed32
import Derived.Test.YtnkghdakjdhhdaaGreatM289763c
import Derived.Test.YtnkghdakjdhhdaaGreatM79bafec
import Derived.Test.YtnkghdakjdhhdaaGreatRows
import Derived.Test.YtnkghdakjdhhdaaGreatM642530e
import Derived.DeepKeys4
import Derived.Deep.LoopGhost
set_option maxRecDepth 100000
set_option linter.unusedVariables false
set_option linter.unusedSimpArgs false
set_option linter.unusedSectionVars false
section
namespace Go.Proofs.YtnkghdakjdhhdaaGreat
open Go.RowKit Go.Lib Go.Tk Go.Shelf Go.Vc Go.Sx
def t15 : Tid := ⟨1, 1⟩
end Go.Proofs.YtnkghdakjdhhdaaGreat
end
section
namespace Go.Proofs.YtnkghdakjdhhdaaGreat
open Go.RowKit Go.Lib Go.Tk Go.Shelf Go.Vc Go.Sx
def AT15 : TypeId := 22
def act15X (x : Act15) : List SV := .val (.int .i64 x.d) :: .val (.string x.s.name) :: .val (.slice x.A.la x.s.legs.length x.A.lc) :: .val (.int .i64 x.s.fare) :: .val (.slice x.A.ta x.s.taxes.length x.A.tc) :: .val (.int .i64 x.s.pen) :: (docSA x.dv x.da ++ (kidS x.k ++ (ownS x.o ++ heldS x.h)))
def act15Z : Act15 := ⟨0, ⟨⟨#[]⟩, [], 0, [], 0⟩, ⟨none, 0, none, 0⟩, doc0, docA0, kid0, own0, held0⟩
theorem act15X_den (x : Act15) (ε : Env) : SV.dens ε (act15X x) = act15C x := rfl
theorem act15_nth {acts : List Act15} {i : Nat} (h : i < acts.length) : ∀ (ε : Env) (q : Nat) (v : SV), (act15X (acts.getD i act15Z))[q]? = some v → (cellsL act15C acts)[i * 46 + q]? = some (v.den ε) :=
  cells_nth (enc := act15C) (encS := act15X) act15X_den (fun _ => rfl) (getD_some h act15Z)
theorem acts15_len (acts : List Act15) : (cellsL act15C acts).length = acts.length * 46 := cellsL_len (enc := act15C) (size := 46) (fun _ => rfl) acts
end Go.Proofs.YtnkghdakjdhhdaaGreat
end
section
namespace Go.Proofs.YtnkghdakjdhhdaaGreat
open Go.RowKit Go.Lib Go.Tk Go.Shelf Go.Vc Go.Sx
structure BI (B : BookV) : Prop where
  ex : ExOk B
  hk : ∀ k h, lkt B.helds k = some h → B.badK k = false
  hl : B.helds.length ≤ 64
theorem putt_len {κ α : Type} [DecidableEq κ] (k : κ) (a : α) : ∀ L : List (κ × α), (putt L k a).length = if (lkt L k).isSome then L.length else L.length + 1
  | [] => rfl
  | p :: L => by
    show (if p.1 = k then (k, a) :: L else p :: putt L k a).length = _
    have e : lkt (p :: L) k = if p.1 = k then some p.2 else lkt L k := rfl
    rw [e]
    by_cases q : p.1 = k
    · rw [if_pos q, if_pos q]; rfl
    · rw [if_neg q, if_neg q, List.length_cons, putt_len k a L]
      split <;> rfl
theorem badK_same {B C : BookV} (h1 : C.self = B.self) (h2 : C.n = B.n) (k : Kid) : C.badK k = B.badK k := by unfold BookV.badK; rw [h1, h2]
theorem setH_same (B : BookV) (k : Kid) (h : HeldV) : (B.setH k h).docs = B.docs ∧ (B.setH k h).self = B.self ∧ (B.setH k h).n = B.n ∧ (B.setH k h).owns = B.owns := by
  unfold BookV.setH; cases decide (B.setHE k = 0) <;> exact ⟨rfl, rfl, rfl, rfl⟩
theorem ExOk.setH {B : BookV} (h : ExOk B) (k : Kid) (x : HeldV) : ExOk (B.setH k x) := by
  obtain ⟨e1, e2, e3, e4⟩ := setH_same B k x
  exact ⟨⟨by rw [e2, e3]; exact h.bk.self, by rw [e3]; exact h.bk.n, by rw [e1, e2]; exact h.bk.docs, by rw [e1]; exact h.bk.many⟩, by rw [e1]; exact h.sal, by rw [e1]; exact h.sm, by rw [e4]; exact h.own⟩
theorem setHE_cases (B : BookV) (k : Kid) : (B.setHE k = 1 ∧ B.badK k = true) ∨ (B.setHE k = 3 ∧ B.badK k = false ∧ lkt B.helds k = none ∧ 64 ≤ B.helds.length) ∨ (B.setHE k = 0 ∧ B.badK k = false ∧ ((lkt B.helds k).isSome = true ∨ B.helds.length < 64)) := by
  unfold BookV.setHE
  cases h1 : B.badK k
  · cases h2 : lkt B.helds k with
    | none =>
      rcases Bool.eq_false_or_eq_true (decide (64 ≤ B.helds.length)) with h3 | h3
      · rw [h3]; exact .inr (.inl ⟨rfl, rfl, rfl, of_decide_eq_true h3⟩)
      · rw [h3]; exact .inr (.inr ⟨rfl, rfl, .inr (by have := of_decide_eq_false h3; omega)⟩)
    | some x => exact .inr (.inr ⟨rfl, rfl, .inl rfl⟩)
  · exact .inl ⟨rfl, rfl⟩
theorem setH_ok {B : BookV} {k : Kid} (h : B.setHE k = 0) (x : HeldV) : B.setH k x = { B with helds := putt B.helds k x } := by unfold BookV.setH; rw [decide_eq_true h]; rfl
theorem setH_not {B : BookV} {k : Kid} (h : B.setHE k ≠ 0) (x : HeldV) : B.setH k x = B := by unfold BookV.setH; rw [decide_eq_false h]; rfl
theorem BI.setH {B : BookV} (h : BI B) (k : Kid) (x : HeldV) : BI (B.setH k x) := by
  obtain ⟨e1, e2, e3, e4⟩ := setH_same B k x
  refine ⟨h.ex.setH k x, fun k' y hy => ?_, ?_⟩
  · rw [badK_same e2 e3]
    rcases setHE_cases B k with ⟨g, -⟩ | ⟨g, -⟩ | ⟨g, gb, -⟩
    · rw [setH_not (by rw [g]; decide)] at hy; exact h.hk k' y hy
    · rw [setH_not (by rw [g]; decide)] at hy; exact h.hk k' y hy
    · rw [setH_ok g] at hy
      have hy : lkt (putt B.helds k x) k' = some y := hy
      rw [lkt_put] at hy
      by_cases q : k = k'
      · rw [← q]; exact gb
      · rw [if_neg q] at hy; exact h.hk k' y hy
  · rcases setHE_cases B k with ⟨g, -⟩ | ⟨g, -⟩ | ⟨g, gb, gl⟩
    · rw [setH_not (by rw [g]; decide)]; exact h.hl
    · rw [setH_not (by rw [g]; decide)]; exact h.hl
    · rw [setH_ok g]
      show (putt B.helds k x).length ≤ 64
      rw [putt_len]
      have := h.hl
      rcases gl with gl | gl
      · rw [if_pos gl]; exact this
      · split <;> omega
theorem BI.setO {B : BookV} (h : BI B) {k : Kid} {o : OwnV} (ho : OwnOk o) : BI (B.setO k o) := by
  obtain ⟨e1, e2, e3, e4⟩ := setO_same B k o
  exact ⟨h.ex.setO ho, by rw [e4]; intro k' y hy; rw [badK_same e2 e3]; exact h.hk k' y hy, by rw [e4]; exact h.hl⟩
theorem BI.issue {B : BookV} (h : BI B) {s : SaleV} (ok : SaleOk s) : BI (B.issue s) := by
  unfold BookV.issue
  rcases Bool.eq_false_or_eq_true (decide (B.issE s = 0)) with e | e <;> rw [e]
  · exact ⟨h.ex.issued ok (of_decide_eq_true e), h.hk, h.hl⟩
  · exact h
theorem new_bi (self n : Int) (h : 0 ≤ self ∧ self < n ∧ 2 ≤ n ∧ n ≤ 8) : BI (bookNew self n) := ⟨new_ex self n h, (fun k o e => by cases e), by show (0 : Nat) ≤ 64; decide⟩
theorem bookE_ok {self n : Int} (hs : 0 ≤ self) (h : bookE self n = 0) : 0 ≤ self ∧ self < n ∧ 2 ≤ n ∧ n ≤ 8 := by
  have h0 : (decide (n < 2) || (decide (8 < n) || decide (n ≤ self))) = false := by
    cases hb : (decide (n < 2) || (decide (8 < n) || decide (n ≤ self))) with
    | false => rfl
    | true => unfold bookE at h; rw [hb] at h; cases h
  simp only [Bool.or_eq_false_iff, decide_eq_false_iff_not] at h0
  omega
def step15 (B : BookV) (x : Act15) : BookV := if x.d = 0 then B.issue x.s else if x.d = 2 then B.setO x.k x.o else if x.d = 3 then B.setH x.k x.h else B
def run15 (B : BookV) (acts : List Act15) : Nat → BookV
  | 0 => B
  | i + 1 => step15 (run15 B acts i) (acts.getD i act15Z)
theorem BI.step {B : BookV} (h : BI B) {x : Act15} (ok : SaleOk x.s) (ho : OwnOk x.o) : BI (step15 B x) := by
  unfold step15
  by_cases g0 : x.d = 0
  · rw [if_pos g0]; exact h.issue ok
  rw [if_neg g0]
  by_cases g2 : x.d = 2
  · rw [if_pos g2]; exact h.setO ho
  rw [if_neg g2]
  by_cases g3 : x.d = 3
  · rw [if_pos g3]; exact h.setH _ _
  rw [if_neg g3]; exact h
theorem setO_lk {B : BookV} {k : Kid} {o : OwnV} (k' : Kid) : lkt (B.setO k o).owns k' = if k = k' then (lkt B.owns k).map fun _ => o else lkt B.owns k' := by
  cases h : lkt B.owns k with
  | none =>
    rw [setO_none h]
    by_cases q : k = k'
    · rw [if_pos q, ← q, h]; rfl
    · rw [if_neg q]
  | some x =>
    rw [setO_some h]
    show lkt (putt B.owns k o) k' = _
    rw [lkt_put]
    by_cases q : k = k'
    · rw [if_pos q, if_pos q]; rfl
    · rw [if_neg q, if_neg q]
def kidEq (a b : Kid) : Bool := (decide (a.t.c = b.t.c) && (decide (a.t.r = b.t.r) && true)) && (decide (a.i = b.i) && true)
theorem kidEq_iff (a b : Kid) : kidEq a b = true ↔ a = b := by
  obtain ⟨⟨a1, a2⟩, a3⟩ := a
  obtain ⟨⟨b1, b2⟩, b3⟩ := b
  simp [kidEq, and_assoc]
end Go.Proofs.YtnkghdakjdhhdaaGreat
end
section
namespace Go.Proofs.YtnkghdakjdhhdaaGreat
open Go.RowKit Go.Lib Go.Tk Go.Shelf Go.Vc Go.Sx
end Go.Proofs.YtnkghdakjdhhdaaGreat
end
section
namespace Go.Proofs.YtnkghdakjdhhdaaGreat
open Go.RowKit Go.Lib Go.Tk Go.Shelf Go.Vc Go.Sx
structure HSt where
  a : BookV
  b : BookV
  down : List MsV
  up : List MsV
def tA : Tid := ⟨0, 1⟩
def keyA (i : Int) : Kid := ⟨tA, i⟩
def nM (kind : Int) (k : Kid) : List MsV → Nat
  | [] => 0
  | m :: l => (if m.kind = kind ∧ m.key = k then 1 else 0) + nM kind k l
def keysA : List Kid := [keyA 0, keyA 1, keyA 2, keyA 3]
end Go.Proofs.YtnkghdakjdhhdaaGreat
end
section
namespace Go.Proofs.YtnkghdakjdhhdaaGreat
open Go.RowKit Go.Lib Go.Tk Go.Shelf Go.Vc Go.Sx
end Go.Proofs.YtnkghdakjdhhdaaGreat
end
section
namespace Go.Proofs.YtnkghdakjdhhdaaGreat
open Go.RowKit Go.Lib Go.Tk Go.Shelf Go.Vc Go.Sx
def NonceI (n : Int) : Prop := 0 ≤ n ∧ n ≤ 4294967295
structure Stay (y z : OwnV) : Prop where
  s : z.k.s = y.k.s
  v : z.k.v = y.k.v
  l : z.k.l = y.k.l
  paid : z.paid = y.paid
  n : NonceI y.k.n → y.k.n ≤ z.k.n ∧ NonceI z.k.n
inductive Hop : BookV → BookV → Prop
  | refl (B) : Hop B B
  | own (B k y z) : lkt B.owns k = some y → Stay y z → Hop B (B.setO k z)
  | held (B k h) : Hop B (B.setH k h)
def Hops (B C : BookV) : Prop := ∃ D, Hop B D ∧ Hop D C
theorem Hops.one {B C : BookV} (h : Hop B C) : Hops B C := ⟨C, h, .refl C⟩
theorem Hops.none (B : BookV) : Hops B B := ⟨B, .refl B, .refl B⟩
theorem Stay.refl (y : OwnV) : Stay y y := ⟨rfl, rfl, rfl, rfl, fun h => ⟨Int.le_refl _, h⟩⟩
theorem Stay.trans {x y z : OwnV} (h : Stay x y) (g : Stay y z) : Stay x z := ⟨g.s.trans h.s, g.v.trans h.v, g.l.trans h.l, g.paid.trans h.paid, fun hn => ⟨Int.le_trans (h.n hn).1 (g.n (h.n hn).2).1, (g.n (h.n hn).2).2⟩⟩
structure BIN (B : BookV) : Prop where
  bi : BI B
  nn : ∀ k o, lkt B.owns k = some o → NonceI o.k.n
structure StayB (B C : BookV) : Prop where
  docs : C.docs = B.docs
  self : C.self = B.self
  n : C.n = B.n
  own : ∀ k, (lkt B.owns k = none ∧ lkt C.owns k = none) ∨ ∃ y z, lkt B.owns k = some y ∧ lkt C.owns k = some z ∧ Stay y z
theorem StayB.refl (B : BookV) : StayB B B := ⟨rfl, rfl, rfl, fun k => by
  cases h : lkt B.owns k with
  | none => exact .inl ⟨rfl, rfl⟩
  | some y => exact .inr ⟨y, y, rfl, rfl, Stay.refl y⟩⟩
theorem StayB.trans {B C D : BookV} (h : StayB B C) (g : StayB C D) : StayB B D := ⟨g.docs.trans h.docs, g.self.trans h.self, g.n.trans h.n, fun k => by
  rcases h.own k with ⟨h1, h2⟩ | ⟨x, y, h1, h2, h3⟩
  · rcases g.own k with ⟨g1, g2⟩ | ⟨y, z, g1, g2, g3⟩
    · exact .inl ⟨h1, g2⟩
    · rw [h2] at g1; cases g1
  · rcases g.own k with ⟨g1, g2⟩ | ⟨y', z, g1, g2, g3⟩
    · rw [h2] at g1; cases g1
    · rw [h2] at g1; cases g1
      exact .inr ⟨x, z, h1, g2, h3.trans g3⟩⟩
theorem Hop.stay {B C : BookV} (h : Hop B C) : StayB B C := by
  cases h with
  | refl => exact StayB.refl B
  | own k y z hk hs =>
    obtain ⟨e1, e2, e3, e4⟩ := setO_same B k z
    refine ⟨e1, e2, e3, fun k' => ?_⟩
    rw [setO_lk]
    by_cases q : k = k'
    · subst q
      rw [if_pos rfl, hk]; exact .inr ⟨y, z, rfl, rfl, hs⟩
    · rw [if_neg q]; exact (StayB.refl B).own k'
  | held k x =>
    obtain ⟨e1, e2, e3, e4⟩ := setH_same B k x
    exact ⟨e1, e2, e3, fun k' => by rw [e4]; exact (StayB.refl B).own k'⟩
theorem Hops.stay {B C : BookV} (h : Hops B C) : StayB B C := by
  obtain ⟨D, h1, h2⟩ := h
  exact h1.stay.trans h2.stay
theorem bcase {α : Type} {p : α → Prop} (b : Bool) {x y : α} (h1 : b = true → p x) (h2 : b = false → p y) : p (bif b then x else y) := by
  cases b
  · exact h2 rfl
  · exact h1 rfl
theorem some_of {B : BookV} {k : Kid} (h : (!(lkt B.owns k).isSome) = false) : lkt B.owns k = some ((lkt B.owns k).getD own0) := by
  cases h1 : lkt B.owns k with
  | none => rw [h1] at h; cases h
  | some y => rfl
theorem iss_nonce (t : Tid) (s : SaleV) (vs : List Int) (L : OwnsV) (h : ∀ k o, lkt L k = some o → NonceI o.k.n) : ∀ (i : Nat) k o, lkt (issO t s vs L i) k = some o → NonceI o.k.n
  | 0, k, o, e => h k o e
  | i + 1, k, o, e => by
    unfold issO at e
    rw [lkt_put] at e
    split at e
    · cases e; exact ⟨Int.le_refl _, by show (0 : Int) ≤ _; decide⟩
    · exact iss_nonce t s vs L h i k o e
theorem BIN.step {B : BookV} (h : BIN B) {x : Act15} (ok : SaleOk x.s) (ho : OwnOk x.o) (hn : NonceI x.o.k.n) : BIN (step15 B x) := by
  refine ⟨h.bi.step ok ho, fun k o hk => ?_⟩
  unfold step15 at hk
  split at hk
  · unfold BookV.issue at hk
    cases hd : decide (B.issE x.s = 0) with
    | true => rw [hd] at hk; exact iss_nonce _ _ _ _ h.nn _ k o hk
    | false => rw [hd] at hk; exact h.nn k o hk
  split at hk
  · rw [setO_lk] at hk
    split at hk
    · cases hq : lkt B.owns x.k with
      | none => rw [hq] at hk; cases hk
      | some y => rw [hq] at hk; cases hk; exact hn
    · exact h.nn k o hk
  split at hk
  · rw [(setH_same B x.k x.h).2.2.2] at hk; exact h.nn k o hk
  exact h.nn k o hk
end Go.Proofs.YtnkghdakjdhhdaaGreat
end
section
namespace Go.Proofs.YtnkghdakjdhhdaaGreat
open Go.RowKit Go.Lib Go.Tk Go.Maps
theorem Tryz.laidOutC : laidOutB Tryz.prog = true := by kernel_rfl
theorem step_law : WideMaps.KeyLaw Tryz.prog 212 := deep_law_laid Tryz.laidOutC (m := 3) (by omega) (of_decide_eq_true (by kernel_rfl)) (by kernel_rfl) (by kernel_rfl)
theorem cells51 : Tryz.prog.cellsOf 212 = 2 := by kernel_rfl
theorem cells22 : Tryz.prog.cellsOf 32 = 1 := by kernel_rfl
theorem cells5 : Tryz.prog.cellsOf 5 = 1 := by kernel_rfl
theorem typesSize : ∃ n, Tryz.prog.types.size = n + 1 := ⟨Tryz.prog.types.size - 1, by have : 0 < Tryz.prog.types.size := of_decide_eq_true (by kernel_rfl); omega⟩
theorem keyOf_step (a b : Int) (ha : (Lit.int .u8 a).wf = true) (hb : (Lit.int .u8 b).wf = true) : ∃ l, keyOf Tryz.prog 212 (.agg #[.int .u8 a, .int .u8 b]) = some l := by
  have h1 : Tryz.prog.keyType 212 = true := by kernel_rfl
  have h2 : (Value.agg #[.int .u8 a, .int .u8 b]).formed Tryz.prog 212 = true := by simp [Value.formed, Tryz.underlying212, cells51]
  have h3 : Tryz.prog.keyLits (Tryz.prog.types.size + 1) 212 [.int .u8 a, .int .u8 b] = some [.int .u8 a, .int .u8 b] := by
    obtain ⟨n, hn⟩ := typesSize
    rw [hn, tkKeyStruct Tryz.underlying212 _ _ (by rw [cells51]; rfl) (by kernel_rfl)]
    simp [cells22, cells5, tkKeyInt Tryz.underlying32 n ha, tkKeyInt Tryz.underlying5 n hb]
  refine ⟨.string (keyBytes [.int .u8 a, .int .u8 b]), ?_⟩
  unfold keyOf
  rw [Tryz.underlying212]
  simp only [h1, h2, Bool.and_true, if_true, Value.cells, h3, Option.map_some]
def stepK : KeyKind Tryz.prog 212 (Int × Int) where
  kv := fun x => .agg #[.int .u8 x.1, .int .u8 x.2]
  ok := fun x => (Lit.int .u8 x.1).wf = true ∧ (Lit.int .u8 x.2).wf = true
  inj := fun {x y} h => by
    simp only [Value.agg.injEq, Array.mk.injEq, List.cons.injEq, Value.int.injEq, true_and, and_true] at h
    exact Prod.ext h.1 h.2
  keyed := Keyed.of_law step_law
  reads := fun {x} h => keyOf_step x.1 x.2 h.1 h.2
def waysL : List ((Int × Int) × Value) := [((1, 9), .int .u8 2), ((2, 10), .int .u8 1), ((2, 11), .int .u8 3), ((3, 12), .int .u8 4), ((1, 3), .int .u8 5), ((1, 4), .int .u8 6), ((1, 5), .int .u8 7)]
def entOf {α : Type} : List Bool → List α → List α
  | b :: f, x :: l => if b then x :: entOf f l else entOf f l
  | _, _ => []
theorem entOf_set {α : Type} : ∀ (f : List Bool) (l : List α) (j : Nat) (x : α), f[j]? = some false → l[j]? = some x → (entOf (f.set j true) l).Perm (x :: entOf f l)
  | [], _, j, _, h, _ => by simp at h
  | b :: f, [], j, _, _, h => by simp at h
  | b :: f, y :: l, 0, x, h, h' => by
    simp only [List.getElem?_cons_zero, Option.some.injEq] at h h'
    subst h; subst h'; simp [entOf]
  | b :: f, y :: l, j + 1, x, h, h' => by
    have := entOf_set f l j x (by simpa using h) (by simpa using h')
    cases b
    · simpa [entOf] using this
    · simp only [List.set_cons_succ, entOf, if_true]
      exact (this.cons y).trans (List.Perm.swap _ _ _)
theorem entOf_sub {α : Type} : ∀ (f : List Bool) (l : List α), (entOf f l).Sublist l
  | [], l => by cases l <;> simp [entOf]
  | _ :: _, [] => by simp [entOf]
  | b :: f, x :: l => by
    cases b
    · simp only [entOf, Bool.false_eq_true, if_false]; exact (entOf_sub f l).cons x
    · simp only [entOf, if_true]; exact (entOf_sub f l).cons_cons x
theorem entOf_not {f : List Bool} {l : List ((Int × Int) × Value)} {j : Nat} {x : (Int × Int) × Value} (hn : (l.map (·.1)).Nodup) (hf : f[j]? = some false) (hl : l[j]? = some x) : putL (entOf f l) x.1 x.2 = x :: entOf f l := by
  unfold putL
  congr 1
  rw [List.filter_eq_self]
  intro p hp
  have h1 : ((entOf (f.set j true) l).map (·.1)).Nodup := hn.sublist ((entOf_sub _ _).map _)
  have h2 := ((entOf_set f l j x hf hl).map (·.1)).nodup_iff.1 h1
  simp only [List.map_cons, List.nodup_cons] at h2
  have : p.1 ≠ x.1 := fun e => h2.1 (by rw [← e]; exact List.mem_map_of_mem (f := (·.1)) hp)
  simp [this]
def flagsOf (l : Array Bool) : List Bool := [l.getD 2 false, l.getD 4 false, l.getD 6 false, l.getD 8 false, l.getD 10 false, l.getD 12 false, l.getD 14 false]
theorem waysL_nodup : (waysL.map (·.1)).Nodup := by decide
def WaysInv (w0 : World) (B : Nat) (l : Array Bool) (a : Act) (w : World) : Prop :=
  ∃ s0 s1 s2 s3 s4 s5 s6 s7 s8 s9 : Value, a = { tmps := #[s0, s1, s2, s3, s4, s5, s6, s7, s8, s9], defers := [] } ∧ (l.getD 0 false = true → s1 = .map (some B)) ∧
  (l.getD 1 false = true → s2 = stepK.kv (1, 9)) ∧
  (l.getD 3 false = true → s3 = stepK.kv (2, 10)) ∧
  (l.getD 5 false = true → s4 = stepK.kv (2, 11)) ∧
  (l.getD 7 false = true → s5 = stepK.kv (3, 12)) ∧
  (l.getD 9 false = true → s6 = stepK.kv (1, 3)) ∧
  (l.getD 11 false = true → s7 = stepK.kv (1, 4)) ∧
  (l.getD 13 false = true → s8 = stepK.kv (1, 5)) ∧
  (l.getD 15 false = true → s9 = .map (some B)) ∧ (l.getD 16 false = true → s0 = .map (some B)) ∧ (l.getD 0 false = false → w = w0 ∧ flagsOf l = [false, false, false, false, false, false, false]) ∧
  (l.getD 0 false = true → MapAt stepK w B (entOf (flagsOf l) waysL)) ∧ Below w0.heap.size w0 w
set_option maxRecDepth 100000 in
set_option maxHeartbeats 4000000 in
theorem ways_any (w : World) : Calls Tryz.prog 131 #[] w fun e w' => ∃ b, e = .returned (.map (some b)) ∧ MapAt stepK w' b waysL ∧ Below w.heap.size w w' ∧ w.heap.size ≤ b := by
  go_enter Tryz.func131, Tryz.ntmps131
  go_wp2
  refine wp_region_any (by kernel_rfl) ?_
  refine wpAny_inv (WaysInv w.drew w.heap.size) ?_ ?_ _ _ _ _ (by simp) (by simp) ?_
  · intro l a w1 hs hI i hi
    obtain ⟨h1, h2⟩ := List.mem_filter.1 hi
    have hi17 : i < 17 := by simpa using h1
    have hl : l.size = 17 := hs
    obtain ⟨b0, b1, b2, b3, b4, b5, b6, b7, b8, b9, b10, b11, b12, b13, b14, b15, b16, rfl⟩ : ∃ b0 b1 b2 b3 b4 b5 b6 b7 b8 b9 b10 b11 b12 b13 b14 b15 b16 : Bool, l = #[b0, b1, b2, b3, b4, b5, b6, b7, b8, b9, b10, b11, b12, b13, b14, b15, b16] := by
      match l, hl with
      | ⟨[b0, b1, b2, b3, b4, b5, b6, b7, b8, b9, b10, b11, b12, b13, b14, b15, b16]⟩, _ => exact ⟨_, _, _, _, _, _, _, _, _, _, _, _, _, _, _, _, _, rfl⟩
    clear hi h1 hs hl
    obtain ⟨s0, s1, s2, s3, s4, s5, s6, s7, s8, s9, rfl, c0, c1, c2, c3, c4, c5, c6, c7, c8, c9, d0, d1, hb⟩ := hI
    simp only [flagsOf, Array.getD_eq_getD_getElem?, List.getElem?_toArray, List.getElem?_cons_succ, List.getElem?_cons_zero, Option.getD_some] at c0 c1 c2 c3 c4 c5 c6 c7 c8 c9 d0 d1
    have hc : i = 0 ∨ i = 1 ∨ i = 2 ∨ i = 3 ∨ i = 4 ∨ i = 5 ∨ i = 6 ∨ i = 7 ∨ i = 8 ∨ i = 9 ∨ i = 10 ∨ i = 11 ∨ i = 12 ∨ i = 13 ∨ i = 14 ∨ i = 15 ∨ i = 16 := by omega
    rcases hc with rfl | rfl | rfl | rfl | rfl | rfl | rfl | rfl | rfl | rfl | rfl | rfl | rfl | rfl | rfl | rfl | rfl
    · simp [Region.binds] at h2
      subst h2
      obtain ⟨rfl, hfl⟩ := d0 rfl
      unfold wpOp
      have hmm := @run_makeMap Tryz.prog
      go_simp
      left
      refine ⟨s0, _, s2, s3, s4, s5, s6, s7, s8, s9, rfl, fun _ => rfl, c1, c2, c3, c4, c5, c6, c7, c8, c9, fun h => by simp at h, fun _ => ?_, hb.alloc (Nat.le_refl _) _⟩
      have : flagsOf #[true, b1, b2, b3, b4, b5, b6, b7, b8, b9, b10, b11, b12, b13, b14, b15, b16] = [false, false, false, false, false, false, false] := hfl
      rw [this]
      exact MapAt.made stepK w.drew
    · simp [Region.binds] at h2
      subst h2
      unfold wpOp
      go_simp
      left
      exact ⟨s0, s1, _, s3, s4, s5, s6, s7, s8, s9, rfl, c0, fun _ => rfl, c2, c3, c4, c5, c6, c7, c8, c9, d0, d1, hb⟩
    · simp [Region.binds] at h2
      obtain ⟨h2, h3, h4⟩ := h2
      subst h2
      subst h3
      obtain rfl := c0 rfl
      obtain rfl := c1 h4
      subst h4
      obtain ⟨w', hrun, hm, hg⟩ := (d1 rfl).update Tryz.underlying208 (x := (1, 9)) ⟨by decide, by decide⟩ (.int .u8 2)
      rw [entOf_not (x := ((1, 9), .int .u8 2)) waysL_nodup (j := 0) rfl rfl] at hm
      have hm2 := hm.perm (entOf_set _ waysL 0 _ rfl rfl).symm
      clear hm d0
      unfold wpOp
      go_simp
      left
      exact ⟨_, _, _, _, _, _, _, _, _, _, rfl, c0, c1, c2, c3, c4, c5, c6, c7, c8, c9, fun h => by simp at h, fun _ => hm2, hb.grown hg hb.size (fun j hj => by cases hj; exact Nat.le_refl _)⟩
    · simp [Region.binds] at h2
      subst h2
      unfold wpOp
      go_simp
      left
      exact ⟨s0, s1, s2, _, s4, s5, s6, s7, s8, s9, rfl, c0, c1, fun _ => rfl, c3, c4, c5, c6, c7, c8, c9, d0, d1, hb⟩
    · simp [Region.binds] at h2
      obtain ⟨h2, h3, h4⟩ := h2
      subst h2
      subst h3
      obtain rfl := c0 rfl
      obtain rfl := c2 h4
      subst h4
      obtain ⟨w', hrun, hm, hg⟩ := (d1 rfl).update Tryz.underlying208 (x := (2, 10)) ⟨by decide, by decide⟩ (.int .u8 1)
      rw [entOf_not (x := ((2, 10), .int .u8 1)) waysL_nodup (j := 1) rfl rfl] at hm
      have hm2 := hm.perm (entOf_set _ waysL 1 _ rfl rfl).symm
      clear hm d0
      unfold wpOp
      go_simp
      left
      exact ⟨_, _, _, _, _, _, _, _, _, _, rfl, c0, c1, c2, c3, c4, c5, c6, c7, c8, c9, fun h => by simp at h, fun _ => hm2, hb.grown hg hb.size (fun j hj => by cases hj; exact Nat.le_refl _)⟩
    · simp [Region.binds] at h2
      subst h2
      unfold wpOp
      go_simp
      left
      exact ⟨s0, s1, s2, s3, _, s5, s6, s7, s8, s9, rfl, c0, c1, c2, fun _ => rfl, c4, c5, c6, c7, c8, c9, d0, d1, hb⟩
    · simp [Region.binds] at h2
      obtain ⟨h2, h3, h4⟩ := h2
      subst h2
      subst h3
      obtain rfl := c0 rfl
      obtain rfl := c3 h4
      subst h4
      obtain ⟨w', hrun, hm, hg⟩ := (d1 rfl).update Tryz.underlying208 (x := (2, 11)) ⟨by decide, by decide⟩ (.int .u8 3)
      rw [entOf_not (x := ((2, 11), .int .u8 3)) waysL_nodup (j := 2) rfl rfl] at hm
      have hm2 := hm.perm (entOf_set _ waysL 2 _ rfl rfl).symm
      clear hm d0
      unfold wpOp
      go_simp
      left
      exact ⟨_, _, _, _, _, _, _, _, _, _, rfl, c0, c1, c2, c3, c4, c5, c6, c7, c8, c9, fun h => by simp at h, fun _ => hm2, hb.grown hg hb.size (fun j hj => by cases hj; exact Nat.le_refl _)⟩
    · simp [Region.binds] at h2
      subst h2
      unfold wpOp
      go_simp
      left
      exact ⟨s0, s1, s2, s3, s4, _, s6, s7, s8, s9, rfl, c0, c1, c2, c3, fun _ => rfl, c5, c6, c7, c8, c9, d0, d1, hb⟩
    · simp [Region.binds] at h2
      obtain ⟨h2, h3, h4⟩ := h2
      subst h2
      subst h3
      obtain rfl := c0 rfl
      obtain rfl := c4 h4
      subst h4
      obtain ⟨w', hrun, hm, hg⟩ := (d1 rfl).update Tryz.underlying208 (x := (3, 12)) ⟨by decide, by decide⟩ (.int .u8 4)
      rw [entOf_not (x := ((3, 12), .int .u8 4)) waysL_nodup (j := 3) rfl rfl] at hm
      have hm2 := hm.perm (entOf_set _ waysL 3 _ rfl rfl).symm
      clear hm d0
      unfold wpOp
      go_simp
      left
      exact ⟨_, _, _, _, _, _, _, _, _, _, rfl, c0, c1, c2, c3, c4, c5, c6, c7, c8, c9, fun h => by simp at h, fun _ => hm2, hb.grown hg hb.size (fun j hj => by cases hj; exact Nat.le_refl _)⟩
    · simp [Region.binds] at h2
      subst h2
      unfold wpOp
      go_simp
      left
      exact ⟨s0, s1, s2, s3, s4, s5, _, s7, s8, s9, rfl, c0, c1, c2, c3, c4, fun _ => rfl, c6, c7, c8, c9, d0, d1, hb⟩
    · simp [Region.binds] at h2
      obtain ⟨h2, h3, h4⟩ := h2
      subst h2
      subst h3
      obtain rfl := c0 rfl
      obtain rfl := c5 h4
      subst h4
      obtain ⟨w', hrun, hm, hg⟩ := (d1 rfl).update Tryz.underlying208 (x := (1, 3)) ⟨by decide, by decide⟩ (.int .u8 5)
      rw [entOf_not (x := ((1, 3), .int .u8 5)) waysL_nodup (j := 4) rfl rfl] at hm
      have hm2 := hm.perm (entOf_set _ waysL 4 _ rfl rfl).symm
      clear hm d0
      unfold wpOp
      go_simp
      left
      exact ⟨_, _, _, _, _, _, _, _, _, _, rfl, c0, c1, c2, c3, c4, c5, c6, c7, c8, c9, fun h => by simp at h, fun _ => hm2, hb.grown hg hb.size (fun j hj => by cases hj; exact Nat.le_refl _)⟩
    · simp [Region.binds] at h2
      subst h2
      unfold wpOp
      go_simp
      left
      exact ⟨s0, s1, s2, s3, s4, s5, s6, _, s8, s9, rfl, c0, c1, c2, c3, c4, c5, fun _ => rfl, c7, c8, c9, d0, d1, hb⟩
    · simp [Region.binds] at h2
      obtain ⟨h2, h3, h4⟩ := h2
      subst h2
      subst h3
      obtain rfl := c0 rfl
      obtain rfl := c6 h4
      subst h4
      obtain ⟨w', hrun, hm, hg⟩ := (d1 rfl).update Tryz.underlying208 (x := (1, 4)) ⟨by decide, by decide⟩ (.int .u8 6)
      rw [entOf_not (x := ((1, 4), .int .u8 6)) waysL_nodup (j := 5) rfl rfl] at hm
      have hm2 := hm.perm (entOf_set _ waysL 5 _ rfl rfl).symm
      clear hm d0
      unfold wpOp
      go_simp
      left
      exact ⟨_, _, _, _, _, _, _, _, _, _, rfl, c0, c1, c2, c3, c4, c5, c6, c7, c8, c9, fun h => by simp at h, fun _ => hm2, hb.grown hg hb.size (fun j hj => by cases hj; exact Nat.le_refl _)⟩
    · simp [Region.binds] at h2
      subst h2
      unfold wpOp
      go_simp
      left
      exact ⟨s0, s1, s2, s3, s4, s5, s6, s7, _, s9, rfl, c0, c1, c2, c3, c4, c5, c6, fun _ => rfl, c8, c9, d0, d1, hb⟩
    · simp [Region.binds] at h2
      obtain ⟨h2, h3, h4⟩ := h2
      subst h2
      subst h3
      obtain rfl := c0 rfl
      obtain rfl := c7 h4
      subst h4
      obtain ⟨w', hrun, hm, hg⟩ := (d1 rfl).update Tryz.underlying208 (x := (1, 5)) ⟨by decide, by decide⟩ (.int .u8 7)
      rw [entOf_not (x := ((1, 5), .int .u8 7)) waysL_nodup (j := 6) rfl rfl] at hm
      have hm2 := hm.perm (entOf_set _ waysL 6 _ rfl rfl).symm
      clear hm d0
      unfold wpOp
      go_simp
      left
      exact ⟨_, _, _, _, _, _, _, _, _, _, rfl, c0, c1, c2, c3, c4, c5, c6, c7, c8, c9, fun h => by simp at h, fun _ => hm2, hb.grown hg hb.size (fun j hj => by cases hj; exact Nat.le_refl _)⟩
    · simp [Region.binds] at h2
      have h3 : b0 = true := by simp_all
      have h4 := h2.1
      subst h4
      subst h3
      obtain rfl := c0 rfl
      clear h2
      unfold wpOp
      go_simp
      left
      exact ⟨_, _, _, _, _, _, _, _, _, _, rfl, c0, c1, c2, c3, c4, c5, c6, c7, fun _ => rfl, c9, d0, d1, hb⟩
    · simp [Region.binds] at h2
      have h3 : b15 = true := by simp_all
      have h4 := h2.1
      subst h4
      subst h3
      obtain rfl := c8 rfl
      clear h2
      unfold wpOp
      go_simp
      left
      exact ⟨_, _, _, _, _, _, _, _, _, _, rfl, c0, c1, c2, c3, c4, c5, c6, c7, c8, fun _ => rfl, d0, d1, hb⟩
  · intro l a w1 hs hI hr
    have hl : l.size = 17 := hs
    obtain ⟨b0, b1, b2, b3, b4, b5, b6, b7, b8, b9, b10, b11, b12, b13, b14, b15, b16, rfl⟩ : ∃ b0 b1 b2 b3 b4 b5 b6 b7 b8 b9 b10 b11 b12 b13 b14 b15 b16 : Bool, l = #[b0, b1, b2, b3, b4, b5, b6, b7, b8, b9, b10, b11, b12, b13, b14, b15, b16] := by
      match l, hl with
      | ⟨[b0, b1, b2, b3, b4, b5, b6, b7, b8, b9, b10, b11, b12, b13, b14, b15, b16]⟩, _ => exact ⟨_, _, _, _, _, _, _, _, _, _, _, _, _, _, _, _, _, rfl⟩
    have hh := List.filter_eq_nil_iff.1 hr
    have e0 := hh 0 (by simp)
    simp [Region.binds] at e0
    subst e0
    have e1 := hh 1 (by simp)
    simp [Region.binds] at e1
    subst e1
    have e3 := hh 3 (by simp)
    simp [Region.binds] at e3
    subst e3
    have e5 := hh 5 (by simp)
    simp [Region.binds] at e5
    subst e5
    have e7 := hh 7 (by simp)
    simp [Region.binds] at e7
    subst e7
    have e9 := hh 9 (by simp)
    simp [Region.binds] at e9
    subst e9
    have e11 := hh 11 (by simp)
    simp [Region.binds] at e11
    subst e11
    have e13 := hh 13 (by simp)
    simp [Region.binds] at e13
    subst e13
    have e2 := hh 2 (by simp)
    simp [Region.binds] at e2
    subst e2
    have e4 := hh 4 (by simp)
    simp [Region.binds] at e4
    subst e4
    have e6 := hh 6 (by simp)
    simp [Region.binds] at e6
    subst e6
    have e8 := hh 8 (by simp)
    simp [Region.binds] at e8
    subst e8
    have e10 := hh 10 (by simp)
    simp [Region.binds] at e10
    subst e10
    have e12 := hh 12 (by simp)
    simp [Region.binds] at e12
    subst e12
    have e14 := hh 14 (by simp)
    simp [Region.binds] at e14
    subst e14
    have e15 := hh 15 (by simp)
    simp [Region.binds] at e15
    subst e15
    have e16 := hh 16 (by simp)
    simp [Region.binds] at e16
    subst e16
    obtain ⟨s0, s1, s2, s3, s4, s5, s6, s7, s8, s9, rfl, c0, c1, c2, c3, c4, c5, c6, c7, c8, c9, d0, d1, hb⟩ := hI
    obtain rfl := c9 rfl
    have hm := d1 rfl
    clear c0 c1 c2 c3 c4 c5 c6 c7 c8 c9 d0 d1 hh hr hs hl
    go_wp2
    go_ret
    exact ⟨_, rfl, hm, ((Below.refl w.heap.size w).drew).trans hb, Nat.le_refl _⟩
  · refine ⟨_, _, _, _, _, _, _, _, _, _, rfl, fun h => by simp at h, fun h => by simp at h, fun h => by simp at h, fun h => by simp at h, fun h => by simp at h, fun h => by simp at h, fun h => by simp at h, fun h => by simp at h, fun h => by simp at h, fun h => by simp at h, fun _ => ⟨rfl, rfl⟩, fun h => by simp at h, Below.refl _ _⟩
end Go.Proofs.YtnkghdakjdhhdaaGreat
end
section
namespace Go.Proofs.YtnkghdakjdhhdaaGreat
open Go.RowKit Go.Lib Go.Tk Go.Maps
theorem stepK_kv (x : Int × Int) : stepK.kv x = .agg #[.int .u8 x.1, .int .u8 x.2] := rfl
def hasCmd (L : List ((Int × Int) × Value)) (c : Int) : Bool := L.any fun p => p.1.2 == c
theorem hasCmd_perm {L left left' : List ((Int × Int) × Value)} {p : (Int × Int) × Value} {c : Int} (hp : left.Perm (p :: left')) (h : hasCmd L c = hasCmd left c) (hne : p.1.2 ≠ c) : hasCmd L c = hasCmd left' c := by
  rw [h]; unfold hasCmd
  rw [hp.any_eq]; simp [hne]
set_option maxHeartbeats 1000000 in
theorem known_any (b : Nat) (L : List ((Int × Int) × Value)) (cmd : Int) (w : World) (hm : MapAt stepK w b L) :
    Calls Tryz.prog 133 #[.map (some b), .int .u8 cmd] w fun e w' => e = .returned (.bool (hasCmd L cmd)) ∧ Below w.heap.size w w' := by
  have Hm := hid hm
  clear hm
  go_enter Tryz.func133, Tryz.ntmps133
  go_wp2_with (at_range; refine wpList_range_map rfl _ 208 rfl Tryz.underlying208 rfl Hm.out ?_; intro w1 hrg hb1; go_frame)
  have Hrg := hid hrg
  clear hrg
  go_loopg [] L.length (fun k wr => ∃ left, k = left.length ∧ Hid (Ranging stepK wr w.heap.size b L left) ∧ Hid (hasCmd L cmd = hasCmd left cmd) ∧ Below w.heap.size w wr)
  case atStart => exact ⟨L, rfl, Hrg, rfl, hb1⟩
  case round =>
    obtain ⟨left, rfl, hr, hc, hbel⟩ := hrel
    go_wp2_with (at_next; refine wpList_next_map rfl _ rfl rfl hr.out ?_ ?_)
    · intro hnil
      subst hnil
      go_wp2
      go_ret
      exact ⟨ret_bool (by rw [hc.out]; rfl), hbel⟩
    · intro a c v left' w2 hp hmem hr2 hg hen
      simp only [stepK_kv] at hen ⊢
      have hb2 : Below w.heap.size w w2 := hbel.grown hg hbel.size (fun j hj => by cases hj; exact Nat.le_refl _)
      have Hr2 := hid hr2
      have Hp := hid hp
      have hlen := hp.length_eq
      have Hmem := hid hmem
      clear hp hmem hr2 hg
      simp only [List.length_cons] at hlen
      have HL := hid hlen
      clear hlen
      by_cases hcc : c = cmd
      · have hcb : (c == cmd) = true := by simpa using hcc
        have HC := hid hcc
        clear hcc
        go_wp2
        go_ret
        refine ⟨ret_bool ?_, hb2.alloc hb2.size _⟩
        symm; unfold hasCmd; rw [List.any_eq_true]
        exact ⟨_, Hmem.out, by simpa using HC.out⟩
      · have hcb : (c == cmd) = false := by simpa using hcc
        have HC := hid hcc
        clear hcc
        go_wp2
        go_roundg left'.length
        case measure => have := HL.out; omega
        case rel => exact ⟨left', rfl, hid (Hr2.out.kept ((Below.refl _ _).alloc (Nat.le_refl _) _)), hid (hasCmd_perm Hp.out hc.out HC.out), hb2.alloc hb2.size _⟩
end Go.Proofs.YtnkghdakjdhhdaaGreat
end
section
namespace Go.Proofs.YtnkghdakjdhhdaaGreat
open Go.RowKit Go.Lib Go.Tk Go.Maps
def isB (s : Int) : Bool := decide (1 ≤ s) && decide (s ≤ 7)
set_option maxHeartbeats 400000 in
theorem is_any (s : Int) (w : World) :
    Calls Tryz.prog 132 #[.int .u8 s] w fun e w' => e = .returned (.bool (isB s)) ∧ w = w' := by
  go_enter Tryz.func132, Tryz.ntmps132
  go_wp2
  all_goals (go_ret; refine ⟨ret_bool ?_, rfl⟩; unfold isB; rw [Bool.eq_iff_iff]; simp; omega)
def cmdB (c : Int) : Bool := c == 9 || c == 10 || c == 11 || c == 12 || c == 3 || c == 4 || c == 5
theorem hasCmd_ways (c : Int) : hasCmd waysL c = cmdB c := by
  unfold hasCmd cmdB waysL
  rw [Bool.eq_iff_iff]
  simp only [List.any_cons, List.any_nil, Bool.or_false, Bool.or_eq_true, beq_iff_eq]
  omega
def toI (s c : Int) : Option Int :=
  if s = 1 ∧ c = 9 then some 2 else if s = 2 ∧ c = 10 then some 1 else if s = 2 ∧ c = 11 then some 3 else if s = 3 ∧ c = 12 then some 4
  else if s = 1 ∧ c = 3 then some 5 else if s = 1 ∧ c = 4 then some 6 else if s = 1 ∧ c = 5 then some 7 else none
theorem lk_ways (s c : Int) : lk waysL (s, c) = (toI s c).map (.int .u8) := by
  have e : ∀ (a b : Int), decide (((a, b) : Int × Int) = (s, c)) = decide (s = a ∧ c = b) := by
    intro a b; rw [decide_eq_decide]; simp only [Prod.mk.injEq]; omega
  unfold lk waysL toI
  simp only [List.find?_cons, e, List.find?_nil]
  repeat (split <;> simp_all)
def nextI (s c : Int) : Int × Int :=
  if isB s && cmdB c then (match toI s c with | some v => (v, 0) | none => (0, 6)) else (0, 1)
theorem zero22 (w : World) : (zeroValue 32).run Tryz.prog w = .ok (.int .u8 0) w := by kernel_rfl
theorem ret_ui2 {a b c d : Int} (h : (a, b) = (c, d)) : Ending.returned (.tuple #[.int .u8 a, .int .i64 b]) = .returned (.tuple #[.int .u8 c, .int .i64 d]) := ret_i2 h
set_option maxHeartbeats 1000000 in
theorem next_any (s c : Int) (w : World) (hs : (Lit.int .u8 s).wf = true) (hc : (Lit.int .u8 c).wf = true) :
    Calls Tryz.prog 97 #[.int .u8 s, .int .u8 c] w fun e w' => e = .returned (.tuple #[.int .u8 (nextI s c).1, .int .i64 (nextI s c).2]) ∧ Below w.heap.size w w' := by
  have Hs := hid hs
  have Hc := hid hc
  clear hs hc
  have hz := zero22
  have Hz := hid hz
  clear hz
  cases hi : isB s
  · have F := hid (show nextI s c = (0, 1) by simp [nextI, hi])
    go_enter Tryz.func97, Tryz.ntmps97
    go_wp2_with fail
    refine (ways_any _).mono ?_
    rintro e w1 ⟨b, rfl, hm, hb, -⟩
    go_wp2_with (at_lookup; refine wpList_lookup_map (K := stepK) rfl _ _ 208 true rfl Tryz.underlying208 Hz.out rfl hm (s, c) ⟨Hs.out, Hc.out⟩ rfl ?_)
    refine (is_any _ _).mono ?_
    rintro e w' ⟨rfl, rfl⟩
    go_wp2
    go_ret2
    exact ⟨ret_ui2 (by rw [F.out]), hb⟩
  cases hk : cmdB c
  · have F := hid (show nextI s c = (0, 1) by simp [nextI, hk])
    go_enter Tryz.func97, Tryz.ntmps97
    go_wp2_with fail
    refine (ways_any _).mono ?_
    rintro e w1 ⟨b, rfl, hm, hb, -⟩
    go_wp2_with (at_lookup; refine wpList_lookup_map (K := stepK) rfl _ _ 208 true rfl Tryz.underlying208 Hz.out rfl hm (s, c) ⟨Hs.out, Hc.out⟩ rfl ?_)
    refine (is_any _ _).mono ?_
    rintro e w' ⟨rfl, rfl⟩
    go_wp2_with fail
    refine (known_any _ _ _ _ (hm.kept (Below.refl _ _))).mono ?_
    rintro e w2 ⟨rfl, hb2⟩
    rw [hasCmd_ways]
    go_wp2
    go_ret2
    exact ⟨ret_ui2 (by rw [F.out]), bt hb hb2⟩
  cases ht : toI s c with
  | none =>
    have F := hid (show nextI s c = (0, 6) by simp [nextI, hk, hi, ht])
    have hl : lk waysL (s, c) = none := by rw [lk_ways, ht]; rfl
    clear ht
    go_enter Tryz.func97, Tryz.ntmps97
    go_wp2_with fail
    refine (ways_any _).mono ?_
    rintro e w1 ⟨b, rfl, hm, hb, -⟩
    go_wp2_with (at_lookup; refine wpList_lookup_map (K := stepK) rfl _ _ 208 true rfl Tryz.underlying208 Hz.out rfl hm (s, c) ⟨Hs.out, Hc.out⟩ rfl ?_)
    refine (is_any _ _).mono ?_
    rintro e w' ⟨rfl, rfl⟩
    go_wp2_with fail
    refine (known_any _ _ _ _ (hm.kept (Below.refl _ _))).mono ?_
    rintro e w2 ⟨rfl, hb2⟩
    rw [hasCmd_ways]
    go_wp2
    go_ret2
    exact ⟨ret_ui2 (by rw [F.out]), bt hb hb2⟩
  | some v =>
    have F := hid (show nextI s c = (v, 0) by simp [nextI, hk, hi, ht])
    have hl : lk waysL (s, c) = some (.int .u8 v) := by rw [lk_ways, ht]; rfl
    clear ht
    go_enter Tryz.func97, Tryz.ntmps97
    go_wp2_with fail
    refine (ways_any _).mono ?_
    rintro e w1 ⟨b, rfl, hm, hb, -⟩
    go_wp2_with (at_lookup; refine wpList_lookup_map (K := stepK) rfl _ _ 208 true rfl Tryz.underlying208 Hz.out rfl hm (s, c) ⟨Hs.out, Hc.out⟩ rfl ?_)
    refine (is_any _ _).mono ?_
    rintro e w' ⟨rfl, rfl⟩
    go_wp2_with fail
    refine (known_any _ _ _ _ (hm.kept (Below.refl _ _))).mono ?_
    rintro e w2 ⟨rfl, hb2⟩
    rw [hasCmd_ways]
    go_wp2
    go_ret2
    exact ⟨ret_ui2 (by rw [F.out]), bt hb hb2⟩
end Go.Proofs.YtnkghdakjdhhdaaGreat
end
