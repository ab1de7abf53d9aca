/- Bw, Bs1, Bs2, Lw16b, HoP1, Lw16c, StP. -/
import Derived.Test.YtnkghdakjdhhdaaGreatM467ed32
import Derived.Test.YtnkghdakjdhhdaaGreatM289763c
import Derived.Test.YtnkghdakjdhhdaaGreatM79bafec
section
namespace Go.Proofs.YtnkghdakjdhhdaaGreat
set_option maxRecDepth 100000
open Go.RowKit Go.Lib Go.Tk Go.Shelf Go.Vc Go.Sx
set_option linter.unusedVariables false
set_option linter.unusedSimpArgs false

def t15 : Tid := ⟨1, 1⟩
end Go.Proofs.YtnkghdakjdhhdaaGreat
end
section
namespace Go.Proofs.YtnkghdakjdhhdaaGreat
set_option maxRecDepth 100000
open Go.RowKit Go.Lib Go.Tk Go.Shelf Go.Vc Go.Sx
set_option linter.unusedVariables false
set_option linter.unusedSimpArgs false

def AT15 : TypeId := 22
def act15X (x : Act15) : List SV := .val (.int .i64 x.d) :: .val (.string x.s.name) :: .val (.slice x.A.la x.s.legs.length x.A.lc) :: .val (.int .i64 x.s.fare) :: .val (.slice x.A.ta x.s.taxes.length x.A.tc) :: .val (.int .i64 x.s.pen) :: (docSA x.dv x.da ++ (kidS x.k ++ (ownS x.o ++ heldS x.h)))
def act15Z : Act15 := ⟨0, ⟨⟨#[]⟩, [], 0, [], 0⟩, ⟨none, 0, none, 0⟩, doc0, docA0, kid0, own0, held0⟩
theorem act15X_den (x : Act15) (ε : Env) : SV.dens ε (act15X x) = act15C x := rfl
theorem act15_nth {acts : List Act15} {i : Nat} (h : i < acts.length) : ∀ (ε : Env) (q : Nat) (v : SV), (act15X (acts.getD i act15Z))[q]? = some v → (cellsL act15C acts)[i * 46 + q]? = some (v.den ε) :=
  cells_nth (enc := act15C) (encS := act15X) act15X_den (fun _ => rfl) (getD_some h act15Z)
theorem acts15_len (acts : List Act15) : (cellsL act15C acts).length = acts.length * 46 := cellsL_len (enc := act15C) (size := 46) (fun _ => rfl) acts
end Go.Proofs.YtnkghdakjdhhdaaGreat
end
section
namespace Go.Proofs.YtnkghdakjdhhdaaGreat
set_option maxRecDepth 100000
open Go.RowKit Go.Lib Go.Tk Go.Shelf Go.Vc Go.Sx
set_option linter.unusedVariables false
set_option linter.unusedSimpArgs false

structure BI (B : BookV) : Prop where
  ex : ExOk B
  hk : ∀ k h, lkt B.helds k = some h → B.badK k = false
  hl : B.helds.length ≤ 64
theorem putt_len {κ α : Type} [DecidableEq κ] (k : κ) (a : α) : ∀ L : List (κ × α), (putt L k a).length = if (lkt L k).isSome then L.length else L.length + 1
  | [] => rfl
  | p :: L => by
    show (if p.1 = k then (k, a) :: L else p :: putt L k a).length = _
    have e : lkt (p :: L) k = if p.1 = k then some p.2 else lkt L k := rfl
    rw [e]
    by_cases q : p.1 = k
    · rw [if_pos q, if_pos q]; rfl
    · rw [if_neg q, if_neg q, List.length_cons, putt_len k a L]
      split <;> rfl
theorem badK_same {B C : BookV} (h1 : C.self = B.self) (h2 : C.n = B.n) (k : Kid) : C.badK k = B.badK k := by unfold BookV.badK; rw [h1, h2]
theorem setH_same (B : BookV) (k : Kid) (h : HeldV) : (B.setH k h).docs = B.docs ∧ (B.setH k h).self = B.self ∧ (B.setH k h).n = B.n ∧ (B.setH k h).owns = B.owns := by
  unfold BookV.setH; cases decide (B.setHE k = 0) <;> exact ⟨rfl, rfl, rfl, rfl⟩
theorem ExOk.setH {B : BookV} (h : ExOk B) (k : Kid) (x : HeldV) : ExOk (B.setH k x) := by
  obtain ⟨e1, e2, e3, e4⟩ := setH_same B k x
  exact ⟨⟨by rw [e2, e3]; exact h.bk.self, by rw [e3]; exact h.bk.n, by rw [e1, e2]; exact h.bk.docs, by rw [e1]; exact h.bk.many⟩, by rw [e1]; exact h.sal, by rw [e1]; exact h.sm, by rw [e4]; exact h.own⟩
theorem setHE_cases (B : BookV) (k : Kid) : (B.setHE k = 1 ∧ B.badK k = true) ∨ (B.setHE k = 3 ∧ B.badK k = false ∧ lkt B.helds k = none ∧ 64 ≤ B.helds.length) ∨ (B.setHE k = 0 ∧ B.badK k = false ∧ ((lkt B.helds k).isSome = true ∨ B.helds.length < 64)) := by
  unfold BookV.setHE
  cases h1 : B.badK k
  · cases h2 : lkt B.helds k with
    | none =>
      rcases Bool.eq_false_or_eq_true (decide (64 ≤ B.helds.length)) with h3 | h3
      · rw [h3]; exact .inr (.inl ⟨rfl, rfl, rfl, of_decide_eq_true h3⟩)
      · rw [h3]; exact .inr (.inr ⟨rfl, rfl, .inr (by have := of_decide_eq_false h3; omega)⟩)
    | some x => exact .inr (.inr ⟨rfl, rfl, .inl rfl⟩)
  · exact .inl ⟨rfl, rfl⟩
theorem setH_ok {B : BookV} {k : Kid} (h : B.setHE k = 0) (x : HeldV) : B.setH k x = { B with helds := putt B.helds k x } := by unfold BookV.setH; rw [decide_eq_true h]; rfl
theorem setH_not {B : BookV} {k : Kid} (h : B.setHE k ≠ 0) (x : HeldV) : B.setH k x = B := by unfold BookV.setH; rw [decide_eq_false h]; rfl
theorem BI.setH {B : BookV} (h : BI B) (k : Kid) (x : HeldV) : BI (B.setH k x) := by
  obtain ⟨e1, e2, e3, e4⟩ := setH_same B k x
  refine ⟨h.ex.setH k x, fun k' y hy => ?_, ?_⟩
  · rw [badK_same e2 e3]
    rcases setHE_cases B k with ⟨g, -⟩ | ⟨g, -⟩ | ⟨g, gb, -⟩
    · rw [setH_not (by rw [g]; decide)] at hy; exact h.hk k' y hy
    · rw [setH_not (by rw [g]; decide)] at hy; exact h.hk k' y hy
    · rw [setH_ok g] at hy
      have hy : lkt (putt B.helds k x) k' = some y := hy
      rw [lkt_put] at hy
      by_cases q : k = k'
      · rw [← q]; exact gb
      · rw [if_neg q] at hy; exact h.hk k' y hy
  · rcases setHE_cases B k with ⟨g, -⟩ | ⟨g, -⟩ | ⟨g, gb, gl⟩
    · rw [setH_not (by rw [g]; decide)]; exact h.hl
    · rw [setH_not (by rw [g]; decide)]; exact h.hl
    · rw [setH_ok g]
      show (putt B.helds k x).length ≤ 64
      rw [putt_len]
      have := h.hl
      rcases gl with gl | gl
      · rw [if_pos gl]; exact this
      · split <;> omega
theorem BI.setO {B : BookV} (h : BI B) {k : Kid} {o : OwnV} (ho : OwnOk o) : BI (B.setO k o) := by
  obtain ⟨e1, e2, e3, e4⟩ := setO_same B k o
  exact ⟨h.ex.setO ho, by rw [e4]; intro k' y hy; rw [badK_same e2 e3]; exact h.hk k' y hy, by rw [e4]; exact h.hl⟩
theorem BI.issue {B : BookV} (h : BI B) {s : SaleV} (ok : SaleOk s) : BI (B.issue s) := by
  unfold BookV.issue
  rcases Bool.eq_false_or_eq_true (decide (B.issE s = 0)) with e | e <;> rw [e]
  · exact ⟨h.ex.issued ok (of_decide_eq_true e), h.hk, h.hl⟩
  · exact h
theorem new_bi (self n : Int) (h : 0 ≤ self ∧ self < n ∧ 2 ≤ n ∧ n ≤ 8) : BI (bookNew self n) := ⟨new_ex self n h, (fun k o e => by cases e), by show (0 : Nat) ≤ 64; decide⟩
theorem bookE_ok {self n : Int} (hs : 0 ≤ self) (h : bookE self n = 0) : 0 ≤ self ∧ self < n ∧ 2 ≤ n ∧ n ≤ 8 := by
  have h0 : (decide (n < 2) || (decide (8 < n) || decide (n ≤ self))) = false := by
    cases hb : (decide (n < 2) || (decide (8 < n) || decide (n ≤ self))) with
    | false => rfl
    | true => unfold bookE at h; rw [hb] at h; cases h
  simp only [Bool.or_eq_false_iff, decide_eq_false_iff_not] at h0
  omega
/-- what is done -/
def step15 (B : BookV) (x : Act15) : BookV := if x.d = 0 then B.issue x.s else if x.d = 2 then B.setO x.k x.o else if x.d = 3 then B.setH x.k x.h else B
def run15 (B : BookV) (acts : List Act15) : Nat → BookV
  | 0 => B
  | i + 1 => step15 (run15 B acts i) (acts.getD i act15Z)
theorem BI.step {B : BookV} (h : BI B) {x : Act15} (ok : SaleOk x.s) (ho : OwnOk x.o) : BI (step15 B x) := by
  unfold step15
  by_cases g0 : x.d = 0
  · rw [if_pos g0]; exact h.issue ok
  rw [if_neg g0]
  by_cases g2 : x.d = 2
  · rw [if_pos g2]; exact h.setO ho
  rw [if_neg g2]
  by_cases g3 : x.d = 3
  · rw [if_pos g3]; exact h.setH _ _
  rw [if_neg g3]; exact h
theorem setO_lk {B : BookV} {k : Kid} {o : OwnV} (k' : Kid) : lkt (B.setO k o).owns k' = if k = k' then (lkt B.owns k).map fun _ => o else lkt B.owns k' := by
  cases h : lkt B.owns k with
  | none =>
    rw [setO_none h]
    by_cases q : k = k'
    · rw [if_pos q, ← q, h]; rfl
    · rw [if_neg q]
  | some x =>
    rw [setO_some h]
    show lkt (putt B.owns k o) k' = _
    rw [lkt_put]
    by_cases q : k = k'
    · rw [if_pos q, if_pos q]; rfl
    · rw [if_neg q, if_neg q]
def kidEq (a b : Kid) : Bool := (decide (a.t.c = b.t.c) && (decide (a.t.r = b.t.r) && true)) && (decide (a.i = b.i) && true)
theorem kidEq_iff (a b : Kid) : kidEq a b = true ↔ a = b := by
  obtain ⟨⟨a1, a2⟩, a3⟩ := a
  obtain ⟨⟨b1, b2⟩, b3⟩ := b
  simp [kidEq, and_assoc]
theorem kidEq_no {a b : Kid} (h : kidEq a b = false) : a ≠ b := fun e => by rw [(kidEq_iff a b).2 e] at h; cases h
end Go.Proofs.YtnkghdakjdhhdaaGreat
end
section
namespace Go.Proofs.YtnkghdakjdhhdaaGreat
set_option maxRecDepth 100000
open Go.RowKit Go.Lib Go.Tk Go.Shelf Go.Vc Go.Sx
set_option linter.unusedVariables false
set_option linter.unusedSimpArgs false

end Go.Proofs.YtnkghdakjdhhdaaGreat
end
section
namespace Go.Proofs.YtnkghdakjdhhdaaGreat
set_option maxRecDepth 100000
open Go.RowKit Go.Lib Go.Tk Go.Shelf Go.Vc Go.Sx
set_option linter.unusedVariables false
set_option linter.unusedSimpArgs false

structure HSt where
  a : BookV
  b : BookV
  down : List MsV
  up : List MsV
def tA : Tid := ⟨0, 1⟩
def keyA (i : Int) : Kid := ⟨tA, i⟩
/-- how many messages of a kind say something of a coupon -/
def nM (kind : Int) (k : Kid) : List MsV → Nat
  | [] => 0
  | m :: l => (if m.kind = kind ∧ m.key = k then 1 else 0) + nM kind k l
def keysA : List Kid := [keyA 0, keyA 1, keyA 2, keyA 3]
end Go.Proofs.YtnkghdakjdhhdaaGreat
end
section
namespace Go.Proofs.YtnkghdakjdhhdaaGreat
set_option maxRecDepth 100000
open Go.RowKit Go.Lib Go.Tk Go.Shelf Go.Vc Go.Sx
set_option linter.unusedVariables false
set_option linter.unusedSimpArgs false

structure Act16 where
  d : Int
  k : Kid
  frm : Int
  m : MsV
deriving Inhabited
def act16L (x : Act16) : List Value := .int .i64 x.d :: .int .u8 x.k.t.c :: .int .u64 x.k.t.r :: .int .u8 x.k.i :: .int .u8 x.frm :: msL x.m
def act16S (x : Act16) : List SV := .val (.int .i64 x.d) :: .val (.int .u8 x.k.t.c) :: .val (.int .u64 x.k.t.r) :: .val (.int .u8 x.k.i) :: .val (.int .u8 x.frm) :: msS x.m
theorem act16_len (x : Act16) : (act16L x).length = 17 := rfl
def act0 : Act16 := ⟨0, kid0, 0, ⟨0, kid0, cpn0, 0, 0⟩⟩
theorem act16_nth {l : List Act16} {i : Nat} (h : i < l.length) (d : Act16) : ∀ (ε : Env) (q : Nat) (v : SV), (act16S (l.getD i d))[q]? = some v → (cellsL act16L l)[i * 17 + q]? = some (v.den ε) := cells_nth (fun _ _ => rfl) act16_len (getD_some h d)
def AT : TypeId := 90
end Go.Proofs.YtnkghdakjdhhdaaGreat
end
section
namespace Go.Proofs.YtnkghdakjdhhdaaGreat
set_option maxRecDepth 100000
open Go.RowKit Go.Lib Go.Tk Go.Shelf Go.Vc Go.Sx
set_option linter.unusedVariables false
set_option linter.unusedSimpArgs false

def NonceI (n : Int) : Prop := 0 ≤ n ∧ n ≤ 4294967295
structure Stay (y z : OwnV) : Prop where
  s : z.k.s = y.k.s
  v : z.k.v = y.k.v
  l : z.k.l = y.k.l
  paid : z.paid = y.paid
  n : NonceI y.k.n → y.k.n ≤ z.k.n ∧ NonceI z.k.n
/-- one step: a coupon of one's own is set to one that it may be, or anything is held -/
inductive Hop : BookV → BookV → Prop
  | refl (B) : Hop B B
  | own (B k y z) : lkt B.owns k = some y → Stay y z → Hop B (B.setO k z)
  | held (B k h) : Hop B (B.setH k h)
def Hops (B C : BookV) : Prop := ∃ D, Hop B D ∧ Hop D C
theorem Hops.one {B C : BookV} (h : Hop B C) : Hops B C := ⟨C, h, .refl C⟩
theorem Hops.none (B : BookV) : Hops B B := ⟨B, .refl B, .refl B⟩
theorem Stay.refl (y : OwnV) : Stay y y := ⟨rfl, rfl, rfl, rfl, fun h => ⟨Int.le_refl _, h⟩⟩
theorem Stay.trans {x y z : OwnV} (h : Stay x y) (g : Stay y z) : Stay x z := ⟨g.s.trans h.s, g.v.trans h.v, g.l.trans h.l, g.paid.trans h.paid, fun hn => ⟨Int.le_trans (h.n hn).1 (g.n (h.n hn).2).1, (g.n (h.n hn).2).2⟩⟩
structure BIN (B : BookV) : Prop where
  bi : BI B
  nn : ∀ k o, lkt B.owns k = some o → NonceI o.k.n
structure StayB (B C : BookV) : Prop where
  docs : C.docs = B.docs
  self : C.self = B.self
  n : C.n = B.n
  own : ∀ k, (lkt B.owns k = none ∧ lkt C.owns k = none) ∨ ∃ y z, lkt B.owns k = some y ∧ lkt C.owns k = some z ∧ Stay y z
theorem StayB.refl (B : BookV) : StayB B B := ⟨rfl, rfl, rfl, fun k => by
  cases h : lkt B.owns k with
  | none => exact .inl ⟨rfl, rfl⟩
  | some y => exact .inr ⟨y, y, rfl, rfl, Stay.refl y⟩⟩
theorem StayB.trans {B C D : BookV} (h : StayB B C) (g : StayB C D) : StayB B D := ⟨g.docs.trans h.docs, g.self.trans h.self, g.n.trans h.n, fun k => by
  rcases h.own k with ⟨h1, h2⟩ | ⟨x, y, h1, h2, h3⟩
  · rcases g.own k with ⟨g1, g2⟩ | ⟨y, z, g1, g2, g3⟩
    · exact .inl ⟨h1, g2⟩
    · rw [h2] at g1; cases g1
  · rcases g.own k with ⟨g1, g2⟩ | ⟨y', z, g1, g2, g3⟩
    · rw [h2] at g1; cases g1
    · rw [h2] at g1; cases g1
      exact .inr ⟨x, z, h1, g2, h3.trans g3⟩⟩
theorem Hop.stay {B C : BookV} (h : Hop B C) : StayB B C := by
  cases h with
  | refl => exact StayB.refl B
  | own k y z hk hs =>
    obtain ⟨e1, e2, e3, e4⟩ := setO_same B k z
    refine ⟨e1, e2, e3, fun k' => ?_⟩
    rw [setO_lk]
    by_cases q : k = k'
    · subst q
      rw [if_pos rfl, hk]; exact .inr ⟨y, z, rfl, rfl, hs⟩
    · rw [if_neg q]; exact (StayB.refl B).own k'
  | held k x =>
    obtain ⟨e1, e2, e3, e4⟩ := setH_same B k x
    exact ⟨e1, e2, e3, fun k' => by rw [e4]; exact (StayB.refl B).own k'⟩
theorem Hop.bin {B C : BookV} (h : Hop B C) (b : BIN B) : BIN C := by
  cases h with
  | refl => exact b
  | own k y z hk hs =>
    refine ⟨b.bi.setO (by have := b.bi.ex.own k y hk; unfold OwnOk at this ⊢; rw [hs.v]; exact this), fun k' o ho => ?_⟩
    rw [setO_lk] at ho
    by_cases q : k = k'
    · rw [if_pos q, hk] at ho
      cases ho
      exact (hs.n (b.nn k y hk)).2
    · rw [if_neg q] at ho; exact b.nn k' o ho
  | held k x =>
    exact ⟨b.bi.setH k x, by rw [(setH_same B k x).2.2.2]; exact b.nn⟩
theorem Hops.stay {B C : BookV} (h : Hops B C) : StayB B C := by
  obtain ⟨D, h1, h2⟩ := h
  exact h1.stay.trans h2.stay
theorem Hops.bin {B C : BookV} (h : Hops B C) (b : BIN B) : BIN C := by
  obtain ⟨D, h1, h2⟩ := h
  exact h2.bin (h1.bin b)
/-! ### what is done -/
structure HopR (B : BookV) (q : HR) : Prop where
  hop : Hops B q.b
  fail : q.e ≠ 0 → q.out = [] ∧ q.b = B
  one : q.out.length ≤ 1
theorem bcase {α : Type} {p : α → Prop} (b : Bool) {x y : α} (h1 : b = true → p x) (h2 : b = false → p y) : p (bif b then x else y) := by
  cases b
  · exact h2 rfl
  · exact h1 rfl
theorem want_hop (B : BookV) (k : Kid) : HopR B (wantQ B k) := by
  unfold wantQ
  refine bcase _ (fun _ => ⟨Hops.none B, fun _ => ⟨rfl, rfl⟩, Nat.zero_le _⟩) fun _ => bcase _ (fun _ => ⟨Hops.one (.held B _ _), fun h => absurd rfl h, Nat.le_refl _⟩) fun _ => ⟨Hops.none B, fun _ => ⟨rfl, rfl⟩, Nat.zero_le _⟩
theorem return_hop (B : BookV) (k : Kid) : HopR B (returnQ B k) := by
  unfold returnQ
  refine bcase _ (fun _ => ⟨Hops.none B, fun _ => ⟨rfl, rfl⟩, Nat.zero_le _⟩) fun _ => bcase _ (fun _ => ⟨Hops.none B, fun _ => ⟨rfl, rfl⟩, Nat.zero_le _⟩) fun _ => bcase _ (fun _ => ⟨Hops.none B, fun _ => ⟨rfl, rfl⟩, Nat.zero_le _⟩) fun _ => ⟨Hops.one (.held B _ _), fun h => absurd rfl h, Nat.le_refl _⟩
theorem some_of {B : BookV} {k : Kid} (h : (!(lkt B.owns k).isSome) = false) : lkt B.owns k = some ((lkt B.owns k).getD own0) := by
  cases h1 : lkt B.owns k with
  | none => rw [h1] at h; cases h
  | some y => rfl
theorem recall_hop (B : BookV) (k : Kid) : HopR B (recallQ B k) := by
  unfold recallQ
  refine bcase _ (fun _ => ⟨Hops.none B, fun _ => ⟨rfl, rfl⟩, Nat.zero_le _⟩) fun h1 => bcase _ (fun _ => ⟨Hops.none B, fun _ => ⟨rfl, rfl⟩, Nat.zero_le _⟩) fun _ => ⟨Hops.one (.own B _ _ _ (some_of h1) ⟨rfl, rfl, rfl, rfl, fun hn => ⟨Int.le_refl _, hn⟩⟩), fun h => absurd rfl h, Nat.le_refl _⟩
theorem given_stay (o : OwnV) (c : Int) (h : decide (o.k.n = 4294967295) = false) : Stay o (givenO o c) := ⟨rfl, rfl, rfl, rfl, fun hn => by
  have h := of_decide_eq_false h
  unfold NonceI at *
  have e : (givenO o c).k.n = o.k.n + 1 := by
    show IntKind.u32.wrap (o.k.n + 1) = _
    exact wr_u32 (by omega)
  rw [e]; omega⟩
theorem hwant_hop (B : BookV) (c : Int) (k : Kid) : HopR B (hwantQ B c k) := by
  unfold hwantQ
  refine bcase _ (fun _ => ⟨Hops.none B, fun h => absurd rfl h, Nat.le_refl _⟩) fun h1 => bcase _ (fun _ => ⟨Hops.none B, fun h => absurd rfl h, Nat.le_refl _⟩) fun _ => bcase _ (fun _ => ⟨Hops.none B, fun h => absurd rfl h, Nat.le_refl _⟩) fun _ => bcase _ (fun _ => ⟨Hops.none B, fun h => absurd rfl h, Nat.le_refl _⟩) fun _ => bcase _ (fun _ => ⟨Hops.none B, fun h => absurd rfl h, Nat.le_refl _⟩) fun h2 => ⟨Hops.one (.own B _ _ _ (some_of h1) (given_stay _ c h2)), fun h => absurd rfl h, Nat.le_refl _⟩
theorem hgrant_hop (B : BookV) (c : Int) (m : MsV) : HopR B ⟨[], (hgrantQ B c m).e, (hgrantQ B c m).b⟩ := by
  refine ⟨?_, fun h => ⟨rfl, ?_⟩, Nat.zero_le _⟩
  · unfold hgrantQ
    exact bcase (p := fun q : HR => Hops B q.b) _ (fun _ => Hops.none B) fun _ => bcase (p := fun q : HR => Hops B q.b) _ (fun _ => Hops.none B) fun _ => Hops.one (.held B _ _)
  · revert h
    unfold hgrantQ
    exact bcase (p := fun q : HR => q.e ≠ 0 → q.b = B) _ (fun _ _ => rfl) fun _ => bcase (p := fun q : HR => q.e ≠ 0 → q.b = B) _ (fun _ _ => rfl) fun _ h => absurd rfl h
theorem href_hop (B : BookV) (c : Int) (k : Kid) : HopR B ⟨[], 0, hrefB B c k⟩ := by
  refine ⟨?_, fun h => absurd rfl h, Nat.zero_le _⟩
  have h1 : Hop B (hrefH B c k) := by
    unfold hrefH
    exact bcase (p := fun q => Hop B q) _ (fun _ => .held B _ _) fun _ => .refl B
  refine ⟨_, h1, ?_⟩
  unfold hrefB
  refine bcase (p := fun q => Hop (hrefH B c k) q) _ (fun h => ?_) fun _ => .refl _
  have h2 : (lkt (hrefH B c k).owns k).isSome = true := by
    unfold isAway at h
    rw [Bool.and_eq_true] at h
    exact h.1
  obtain ⟨y, hy⟩ := Option.isSome_iff_exists.1 h2
  rw [hy]
  exact .own _ _ y _ hy ⟨rfl, rfl, rfl, rfl, fun hn => ⟨Int.le_refl _, hn⟩⟩
theorem hrecall_hop (B : BookV) (c : Int) (k : Kid) : HopR B (hrecallQ B c k) := by
  unfold hrecallQ
  refine bcase _ (fun _ => ⟨Hops.none B, fun h => absurd rfl h, Nat.zero_le _⟩) fun _ => bcase _ (fun _ => ⟨Hops.none B, fun h => absurd rfl h, Nat.le_refl _⟩) fun _ => ⟨Hops.one (.held B _ _), fun h => absurd rfl h, Nat.le_refl _⟩
theorem hret_hop (B : BookV) (c : Int) (m : MsV) : HopR B ⟨[], 0, hretB B c m⟩ := by
  refine ⟨?_, fun h => absurd rfl h, Nat.zero_le _⟩
  unfold hretB
  refine bcase (p := fun q => Hops B q) _ (fun h => ?_) fun _ => Hops.none B
  have h2 : (lkt B.owns m.key).isSome = true := by
    unfold isAway at h
    rw [Bool.and_eq_true, Bool.and_eq_true] at h
    exact h.1.1
  obtain ⟨y, hy⟩ := Option.isSome_iff_exists.1 h2
  rw [hy]
  exact Hops.one (.own _ _ y _ hy ⟨rfl, rfl, rfl, rfl, fun hn => ⟨Int.le_refl _, hn⟩⟩)
theorem hear_hop (B : BookV) (c : Int) (m : MsV) : HopR B (hearQ B c m) := by
  unfold hearQ
  refine bcase _ (fun _ => ⟨Hops.none B, fun _ => ⟨rfl, rfl⟩, Nat.zero_le _⟩) fun _ => ?_
  unfold hearDo
  exact bcase _ (fun _ => hwant_hop B c m.key) fun _ => bcase _ (fun _ => hgrant_hop B c m) fun _ => bcase _ (fun _ => href_hop B c m.key) fun _ => bcase _ (fun _ => hrecall_hop B c m.key) fun _ => hret_hop B c m
def doH (B : BookV) (x : Act16) : HR := if x.d = 0 then wantQ B x.k else if x.d = 1 then returnQ B x.k else if x.d = 2 then recallQ B x.k else hearQ B x.frm x.m
theorem do_hop (B : BookV) (x : Act16) : HopR B (doH B x) := by
  unfold doH
  split
  · exact want_hop B _
  split
  · exact return_hop B _
  split
  · exact recall_hop B _
  exact hear_hop B _ _
theorem stay_status {B C : BookV} (h : StayB B C) (t : Tid) : statusL C t = statusL B t := by
  have key : ∀ i, (lkt B.owns ⟨t, i⟩ = none ∧ lkt C.owns ⟨t, i⟩ = none) ∨ ∃ y z, lkt B.owns ⟨t, i⟩ = some y ∧ lkt C.owns ⟨t, i⟩ = some z ∧ z.k.s = y.k.s := fun i => by
    rcases h.own ⟨t, i⟩ with h1 | ⟨y, z, h1, h2, h3⟩
    · exact .inl h1
    · exact .inr ⟨y, z, h1, h2, h3.s⟩
  unfold statusL coupL
  rcases key 0 with ⟨a1, a2⟩ | ⟨y0, z0, a1, a2, a3⟩ <;> rw [a1, a2]
  rcases key 1 with ⟨b1, b2⟩ | ⟨y1, z1, b1, b2, b3⟩ <;> rw [b1, b2]
  · simp [a3]
  rcases key 2 with ⟨c1, c2⟩ | ⟨y2, z2, c1, c2, c3⟩ <;> rw [c1, c2]
  · simp [a3, b3]
  rcases key 3 with ⟨d1, d2⟩ | ⟨y3, z3, d1, d2, d3⟩ <;> rw [d1, d2]
  · simp [a3, b3, c3]
  · simp [a3, b3, c3, d3]
theorem new_bin (self n : Int) (h : 0 ≤ self ∧ self < n ∧ 2 ≤ n ∧ n ≤ 8) : BIN (bookNew self n) := ⟨new_bi self n h, fun k o e => by cases e⟩
theorem iss_nonce (t : Tid) (s : SaleV) (vs : List Int) (L : OwnsV) (h : ∀ k o, lkt L k = some o → NonceI o.k.n) : ∀ (i : Nat) k o, lkt (issO t s vs L i) k = some o → NonceI o.k.n
  | 0, k, o, e => h k o e
  | i + 1, k, o, e => by
    unfold issO at e
    rw [lkt_put] at e
    split at e
    · cases e; exact ⟨Int.le_refl _, by show (0 : Int) ≤ _; decide⟩
    · exact iss_nonce t s vs L h i k o e
theorem BIN.step {B : BookV} (h : BIN B) {x : Act15} (ok : SaleOk x.s) (ho : OwnOk x.o) (hn : NonceI x.o.k.n) : BIN (step15 B x) := by
  refine ⟨h.bi.step ok ho, fun k o hk => ?_⟩
  unfold step15 at hk
  split at hk
  · unfold BookV.issue at hk
    cases hd : decide (B.issE x.s = 0) with
    | true => rw [hd] at hk; exact iss_nonce _ _ _ _ h.nn _ k o hk
    | false => rw [hd] at hk; exact h.nn k o hk
  split at hk
  · rw [setO_lk] at hk
    split at hk
    · cases hq : lkt B.owns x.k with
      | none => rw [hq] at hk; cases hk
      | some y => rw [hq] at hk; cases hk; exact hn
    · exact h.nn k o hk
  split at hk
  · rw [(setH_same B x.k x.h).2.2.2] at hk; exact h.nn k o hk
  exact h.nn k o hk
theorem run_bin {self n : Int} (hs : 0 ≤ self ∧ self < n ∧ 2 ≤ n ∧ n ≤ 8) {acts : List Act15} (hA : ∀ x ∈ acts, SaleOk x.s ∧ OwnOk x.o ∧ NonceI x.o.k.n) : ∀ i ≤ acts.length, BIN (run15 (bookNew self n) acts i)
  | 0, _ => new_bin self n hs
  | i + 1, hi => by
    have hin : acts.getD i act15Z ∈ acts := List.mem_of_getElem? (getD_some (by omega) act15Z)
    exact (run_bin hs hA i (by omega)).step (hA _ hin).1 (hA _ hin).2.1 (hA _ hin).2.2
end Go.Proofs.YtnkghdakjdhhdaaGreat
end
