/- OpA, OpB, CeO, Lw16b, HoP1, Lw16c, Lw16d, Lw16e, HoP2, HoP3, HoP4, PostPlain, BoxLoad, PostAct, Lw16f, Lw16n, Ex8, Ce30, FsCentralNil. -/
import Derived.Test.YtdnaegleifhmgaaGreatM7ce3b18
import Derived.Test.YtdnaegleifhmgaaGreatMd41ca14
import Derived.Test.YtdnaegleifhmgaaGreatM6fdd07c
import Derived.Test.YtdnaegleifhmgaaGreatM0eb6659
import Derived.Shelf.SlicesQ.Load
import Derived.Test.YtdnaegleifhmgaaGreatRows
import Derived.SizedLaws
import Derived.Test.YtdnaegleifhmgaaGreatChecked
import Derived.ProofKit
import Derived.OpenShut
import Derived.ShutString
import Derived.ChangeOld
import Derived.Below
set_option maxRecDepth 100000
set_option linter.unusedVariables false
set_option linter.unusedSimpArgs false
set_option linter.unusedSectionVars false
section
namespace Go.Proofs.YtdnaegleifhmgaaGreat
open Go.RowKit Go.Lib Go.Tk Go.Shelf Go.Vc Go.Sx Go.WideShapes
section
variable {H : Type} {enc : TypeId × Value → H} {w : World} {base : Nat} {spare : Nat → Bool} {held : Bool}
end
end Go.Proofs.YtdnaegleifhmgaaGreat
end
section
namespace Go.Proofs.YtdnaegleifhmgaaGreat
open Go.RowKit Go.Lib Go.Tk Go.Shelf Go.Vc Go.Sx Go.WideShapes
def saleC (s : SaleV) (A : SaleA) : List Value := [.string s.name, .slice A.la s.legs.length A.lc, .int .i64 s.fare, .slice A.ta s.taxes.length A.tc, .int .i64 s.pen]
section
variable {H : Type} {enc : TypeId × Value → H} {w : World} {base : Nat} {spare : Nat → Bool} {held : Bool}
theorem FlatAs.split : ∀ {ts us : List TypeId} {cs : List Value}, FlatAs enc Tryz.prog w base spare held (ts ++ us) cs → ∃ a b, cs = a ++ b ∧ FlatAs enc Tryz.prog w base spare held ts a ∧ FlatAs enc Tryz.prog w base spare held us b
  | [], us, cs, h => ⟨[], cs, rfl, rfl, h⟩
  | t :: ts, us, cs, ⟨v, cs', e, hv, h⟩ => by
    obtain ⟨a, b, h1, ha, hb⟩ := FlatAs.split h
    subst h1
    subst e
    exact ⟨v :: a, b, rfl, ⟨v, a, rfl, hv, ha⟩, hb⟩
theorem sale_of {cs : List Value} (h : FlatAs enc Tryz.prog w base spare held [9, 32, 2, 33, 2] cs) : ∃ s A, saleC s A = cs ∧ SaleAt w s A ∧ SaleW s := by
  obtain ⟨v0, _, rfl, ⟨n0, y0, h0⟩, v1, _, rfl, ⟨n1, y1, h1⟩, v2, _, rfl, ⟨n2, y2, h2⟩, v3, _, rfl, ⟨n3, y3, h3⟩, v4, _, rfl, ⟨n4, y4, h4⟩, rfl⟩ := h
  obtain ⟨a0, e0, w0⟩ := string_cell Tryz.underlying9 h0
  cases e0
  obtain ⟨b1, a1, c1, e1, r1, i1, m1, o1⟩ := legs_cell h1
  cases e1
  obtain ⟨a2, e2, w2⟩ := int_cell Tryz.underlying2 h2
  cases e2
  obtain ⟨b3, a3, c3, e3, r3, i3, m3, o3⟩ := taxes_cell h3
  cases e3
  obtain ⟨a4, e4, w4⟩ := int_cell Tryz.underlying2 h4
  cases e4
  exact ⟨⟨a0, a1, a2, a3, a4⟩, ⟨b1, c1, b3, c3⟩, rfl, ⟨r1, r3, i1, i3⟩, ⟨w0, o1, o3, wfi64 w2, wfi64 w4, m1, m3⟩⟩
end
end Go.Proofs.YtdnaegleifhmgaaGreat
end
section
namespace Go.Proofs.YtdnaegleifhmgaaGreat
open Go.RowKit Go.Lib Go.Tk Go.Shelf Go.Vc Go.Sx Go.WideShapes
structure CmX where
  c : CmtV
  A : SaleA
def cmHeadC (c : CmtV) : List Value := [.int .u8 c.car, .int .u8 c.kind, .int .u8 c.cmd.kind, .int .u8 c.cmd.t.c, .int .u64 c.cmd.t.r, .int .u8 c.cmd.i]
def cmMidC (c : CmtV) : List Value := [.int .i64 c.cmd.amt, .int .u8 c.src, .int .u64 c.num]
def cmC (x : CmX) : List Value := cmHeadC x.c ++ (saleC x.c.cmd.s x.A ++ (cmMidC x.c ++ msL x.c.m))
structure CmIn (w : World) (x : CmX) : Prop where
  at_ : SaleAt w x.c.cmd.s x.A
  ok : SaleW x.c.cmd.s
  car : 0 ≤ x.c.car ∧ x.c.car ≤ 255
  kind : 0 ≤ x.c.kind ∧ x.c.kind ≤ 255
  ck : 0 ≤ x.c.cmd.kind ∧ x.c.cmd.kind ≤ 255
  ct : TidOk x.c.cmd.t
  ci : 0 ≤ x.c.cmd.i ∧ x.c.cmd.i ≤ 255
  src : 0 ≤ x.c.src ∧ x.c.src ≤ 255
  key : KidOk x.c.m.key
section
variable {H : Type} {enc : TypeId × Value → H} {w : World} {base : Nat} {spare : Nat → Bool} {held : Bool}
theorem cmHead_of {cs : List Value} (h : FlatAs enc Tryz.prog w base spare held [5, 5, 5, 5, 29, 5] cs) : ∃ a b c : Int, ∃ t : Tid, ∃ i : Int, [Value.int .u8 a, .int .u8 b, .int .u8 c, .int .u8 t.c, .int .u64 t.r, .int .u8 i] = cs ∧ (0 ≤ a ∧ a ≤ 255) ∧ (0 ≤ b ∧ b ≤ 255) ∧ (0 ≤ c ∧ c ≤ 255) ∧ TidOk t ∧ 0 ≤ i ∧ i ≤ 255 := by
  obtain ⟨v0, _, rfl, ⟨n0, y0, h0⟩, v1, _, rfl, ⟨n1, y1, h1⟩, v2, _, rfl, ⟨n2, y2, h2⟩, v3, _, rfl, ⟨n3, y3, h3⟩, v4, _, rfl, ⟨n4, y4, h4⟩, v5, _, rfl, ⟨n5, y5, h5⟩, rfl⟩ := h
  obtain ⟨a0, e0, w0⟩ := int_cell Tryz.underlying5 h0
  cases e0
  obtain ⟨a1, e1, w1⟩ := int_cell Tryz.underlying5 h1
  cases e1
  obtain ⟨a2, e2, w2⟩ := int_cell Tryz.underlying5 h2
  cases e2
  obtain ⟨a3, e3, w3⟩ := int_cell Tryz.underlying5 h3
  cases e3
  obtain ⟨a4, e4, w4⟩ := int_cell Tryz.underlying29 h4
  cases e4
  obtain ⟨a5, e5, w5⟩ := int_cell Tryz.underlying5 h5
  cases e5
  exact ⟨a0, a1, a2, ⟨a3, a4⟩, a5, rfl, wfu8 w0, wfu8 w1, wfu8 w2, ⟨wfu8 w3, wfu64 w4⟩, wfu8 w5⟩
theorem cmMid_of {cs : List Value} (h : FlatAs enc Tryz.prog w base spare held [2, 5, 29] cs) : ∃ a b c : Int, [Value.int .i64 a, .int .u8 b, .int .u64 c] = cs ∧ 0 ≤ b ∧ b ≤ 255 := by
  obtain ⟨v0, _, rfl, ⟨n0, y0, h0⟩, v1, _, rfl, ⟨n1, y1, h1⟩, v2, _, rfl, ⟨n2, y2, h2⟩, rfl⟩ := h
  obtain ⟨a0, e0, w0⟩ := int_cell Tryz.underlying2 h0
  cases e0
  obtain ⟨a1, e1, w1⟩ := int_cell Tryz.underlying5 h1
  cases e1
  obtain ⟨a2, e2, w2⟩ := int_cell Tryz.underlying29 h2
  cases e2
  exact ⟨a0, a1, a2, rfl, wfu8 w1⟩
theorem cmMsg_of {cs : List Value} (h : FlatAs enc Tryz.prog w base spare held [5, 5, 29, 5, 5, 40, 41, 2, 44, 41, 2, 26] cs) : ∃ m : MsV, msL m = cs ∧ KidOk m.key := by
  obtain ⟨v0, _, rfl, ⟨n0, y0, h0⟩, v1, _, rfl, ⟨n1, y1, h1⟩, v2, _, rfl, ⟨n2, y2, h2⟩, v3, _, rfl, ⟨n3, y3, h3⟩, v4, _, rfl, ⟨n4, y4, h4⟩, v5, _, rfl, ⟨n5, y5, h5⟩, v6, _, rfl, ⟨n6, y6, h6⟩, v7, _, rfl, ⟨n7, y7, h7⟩, v8, _, rfl, ⟨n8, y8, h8⟩, v9, _, rfl, ⟨n9, y9, h9⟩, v10, _, rfl, ⟨n10, y10, h10⟩, v11, _, rfl, ⟨n11, y11, h11⟩, rfl⟩ := h
  obtain ⟨a0, e0, w0⟩ := int_cell Tryz.underlying5 h0
  cases e0
  obtain ⟨a1, e1, w1⟩ := int_cell Tryz.underlying5 h1
  cases e1
  obtain ⟨a2, e2, w2⟩ := int_cell Tryz.underlying29 h2
  cases e2
  obtain ⟨a3, e3, w3⟩ := int_cell Tryz.underlying5 h3
  cases e3
  obtain ⟨a4, e4, w4⟩ := int_cell Tryz.underlying5 h4
  cases e4
  obtain ⟨a5, e5, w5⟩ := int_cell Tryz.underlying40 h5
  cases e5
  obtain ⟨a6, e6, w6⟩ := int_cell Tryz.underlying41 h6
  cases e6
  obtain ⟨a7, e7, w7⟩ := int_cell Tryz.underlying2 h7
  cases e7
  obtain ⟨a8, e8, w8⟩ := int_cell Tryz.underlying44 h8
  cases e8
  obtain ⟨a9, e9, w9⟩ := int_cell Tryz.underlying41 h9
  cases e9
  obtain ⟨a10, e10, w10⟩ := int_cell Tryz.underlying2 h10
  cases e10
  obtain ⟨a11, e11, w11⟩ := int_cell Tryz.underlying26 h11
  cases e11
  exact ⟨⟨a0, ⟨⟨a1, a2⟩, a3⟩, ⟨⟨a4, a5, a6⟩, a7, a8, a9⟩, a10, a11⟩, rfl, ⟨wfu8 w1, wfu64 w2⟩, wfu8 w3⟩
def cmTs : List TypeId := [5, 5, 5, 5, 29, 5] ++ ([9, 32, 2, 33, 2] ++ ([2, 5, 29] ++ [5, 5, 29, 5, 5, 40, 41, 2, 44, 41, 2, 26]))
theorem cm_of {cs : List Value} (h : FlatAs enc Tryz.prog w base spare held cmTs cs) : ∃ x : CmX, cmC x = cs ∧ CmIn w x := by
  obtain ⟨x1, r1, e1, h1, g1⟩ := FlatAs.split h
  obtain ⟨x2, r2, e2, h2, g2⟩ := FlatAs.split g1
  obtain ⟨x3, x4, e3, h3, h4⟩ := FlatAs.split g2
  obtain ⟨a, b, c, t, i, f1, k1, k2, k3, k4, k5⟩ := cmHead_of h1
  obtain ⟨s, A, f2, s1, s2⟩ := sale_of h2
  obtain ⟨am, src, num, f3, k6⟩ := cmMid_of h3
  obtain ⟨m, f4, k7⟩ := cmMsg_of h4
  refine ⟨⟨⟨a, b, ⟨c, t, i, s, am⟩, src, num, m⟩, A⟩, ?_, ⟨s1, s2, k1, k2, k3, k4, k5, k6, k7⟩⟩
  rw [e1, e2, e3, ← f1, ← f2, ← f3, ← f4]
  rfl
theorem cm_flat : flatT Tryz.prog 6 52 = some cmTs := by kernel_rfl
theorem open_cm {r : Reach} {b0 : Nat} {v : Value} {d : DataW H} {p : List MemPlace} (hv : Value.okWide Tryz.prog w r b0 52 v) (h : DataW.Trod enc Tryz.prog w base spare held 52 v d p) :
    ∃ x : CmX, v = .agg (cmC x).toArray ∧ CmIn w x := by
  obtain ⟨cs, rfl, hf⟩ := flat_open 6 Tryz.underlying52 cm_flat hv h
  obtain ⟨x, rfl, ok⟩ := cm_of hf
  exact ⟨x, rfl, ok⟩
end
end Go.Proofs.YtdnaegleifhmgaaGreat
end
section
namespace Go.Proofs.YtdnaegleifhmgaaGreat
open Go.RowKit Go.Lib Go.Tk Go.Shelf Go.Vc Go.Sx
end Go.Proofs.YtdnaegleifhmgaaGreat
end
section
namespace Go.Proofs.YtdnaegleifhmgaaGreat
open Go.RowKit Go.Lib Go.Tk Go.Shelf Go.Vc Go.Sx
def nM (kind : Int) (k : Kid) : List MsV → Nat
  | [] => 0
  | m :: l => (if m.kind = kind ∧ m.key = k then 1 else 0) + nM kind k l
end Go.Proofs.YtdnaegleifhmgaaGreat
end
section
namespace Go.Proofs.YtdnaegleifhmgaaGreat
open Go.RowKit Go.Lib Go.Tk Go.Shelf Go.Vc Go.Sx
end Go.Proofs.YtdnaegleifhmgaaGreat
end
section
namespace Go.Proofs.YtdnaegleifhmgaaGreat
open Go.RowKit Go.Lib Go.Tk Go.Shelf Go.Vc Go.Sx
end Go.Proofs.YtdnaegleifhmgaaGreat
end
section
namespace Go.Proofs.YtdnaegleifhmgaaGreat
open Go.RowKit Go.Lib Go.Tk Go.Shelf Go.Vc Go.Sx
end Go.Proofs.YtdnaegleifhmgaaGreat
end
section
namespace Go.Proofs.YtdnaegleifhmgaaGreat
open Go.RowKit Go.Lib Go.Tk Go.Shelf Go.Vc Go.Sx
structure OneP (o : OwnV) (x : HeldV) (k : Kid) (D U : List MsV) : Prop where
  stay : o.away = false → nM 2 k D = 0 ∧ nM 5 k U = 0 ∧ x.here = false
  gone : o.away = true → o.dst = 1 ∧ nM 2 k D + nM 5 k U + (if x.here = true then 1 else 0) = 1
  dn : ∀ m ∈ D, m.kind = 2 → m.key = k → m.k.n = o.k.n
  upn : ∀ m ∈ U, m.kind = 5 → m.key = k → m.k.n = o.k.n
  hn : x.here = true → x.k.n = o.k.n
  le : x.k.n ≤ o.k.n
  lt : 0 < nM 2 k D → x.k.n < o.k.n
  lo : 0 ≤ o.k.n
  hi : o.k.n ≤ 4294967295
theorem nM_drop1 (kind : Int) (k : Kid) (l : List MsV) {m : MsV} (hm : m.kind = kind ∧ m.key = k) : nM kind k (m :: l) = nM kind k l + 1 := by
  show (if _ then 1 else 0) + _ = _; rw [if_pos hm]; omega
section
variable {o : OwnV} {x : HeldV} {k : Kid} {D U : List MsV} {m : MsV}
theorem OneP.own {o' : OwnV} (h : OneP o x k D U) (h1 : o'.away = o.away) (h2 : o'.dst = o.dst) (h3 : o'.k = o.k) : OneP o' x k D U :=
  ⟨by rw [h1]; exact h.stay, by rw [h1, h2]; exact h.gone, by rw [h3]; exact h.dn, by rw [h3]; exact h.upn, by rw [h3]; exact h.hn, by rw [h3]; exact h.le, by rw [h3]; exact h.lt, by rw [h3]; exact h.lo, by rw [h3]; exact h.hi⟩
theorem OneP.held {x' : HeldV} (h : OneP o x k D U) (h1 : x'.here = x.here) (h2 : x'.k = x.k) : OneP o x' k D U :=
  ⟨by rw [h1]; exact h.stay, by rw [h1]; exact h.gone, h.dn, h.upn, by rw [h1, h2]; exact h.hn, by rw [h2]; exact h.le, by rw [h2]; exact h.lt, h.lo, h.hi⟩
theorem OneP.away_of (h : OneP o x k D U) (h1 : x.here = true ∨ 0 < nM 2 k D ∨ 0 < nM 5 k U) : o.away = true := by
  rcases Bool.eq_false_or_eq_true o.away with e | e
  · exact e
  · have := h.stay e
    rcases h1 with h1 | h1 | h1
    · rw [this.2.2] at h1; cases h1
    · omega
    · omega
theorem OneP.back (h : OneP o x k D (m :: U)) (h1 : m.kind = 5) (h2 : m.key = k) : o.away = true ∧ o.dst = 1 ∧ o.k.n = m.k.n ∧ OneP (backO o) x k D U := by
  have hz := nM_drop1 5 k U (m := m) ⟨h1, h2⟩
  have hn := h.upn m List.mem_cons_self h1 h2
  have hp : 0 < nM 5 k (m :: U) := by omega
  have ha := h.away_of (.inr (.inr hp))
  have hg := h.gone ha
  rw [hz] at hg
  have hf : x.here = false := by
    rcases Bool.eq_false_or_eq_true x.here with e | e
    · rw [if_pos e] at hg; omega
    · exact e
  exact ⟨ha, hg.1, hn.symm, ⟨fun _ => ⟨by omega, by omega, hf⟩, (fun e => by cases e), h.dn, fun m' hm' e1 e2 => h.upn m' (List.mem_cons_of_mem _ hm') e1 e2, h.hn, h.le, h.lt, h.lo, h.hi⟩⟩
end
section
variable {A B : BookV} {D U D' U' : List MsV} {k : Kid}
end
end Go.Proofs.YtdnaegleifhmgaaGreat
end
section
namespace Go.Proofs.YtdnaegleifhmgaaGreat
open Go.RowKit Go.Lib Go.Tk Go.Shelf Go.Vc Go.Sx
section
variable {A B : BookV} {D U : List MsV}
end
end Go.Proofs.YtdnaegleifhmgaaGreat
end
section
namespace Go.Proofs.YtdnaegleifhmgaaGreat
open Go.RowKit Go.Lib Go.Tk Go.Shelf Go.Vc Go.Sx
end Go.Proofs.YtdnaegleifhmgaaGreat
end
section
namespace Go.Proofs.YtdnaegleifhmgaaGreat
open Go.RowKit Go.Lib Go.Tk
structure Msg where
  k : Int
  tc : Int
  tr : Int
  ix : Int
  lc : Int
  lf : Int
  lx : Int
  v : Int
  st : Int
  nn : Int
  amt : Int
  cd : Int
deriving DecidableEq, Inhabited
structure BoxV where
  wait : List Msg
  given : Int
  last : Int
structure PostV where
  self : Int
  n : Int
  box : Nat → BoxV
def PostV.other (P : PostV) (c : Int) : Bool := decide (0 ≤ c) && decide (c < P.n) && !decide (c = P.self)
def PostV.put (P : PostV) (c : Nat) (X : BoxV) : PostV := { P with box := fun i => if i = c then X else P.box i }
def PostV.cs (P : PostV) : List Nat := (List.range P.n.toNat).filter fun c => P.other c
end Go.Proofs.YtdnaegleifhmgaaGreat
end
section
namespace Go.Proofs.YtdnaegleifhmgaaGreat
open Go.RowKit Go.Lib Go.Tk Go.Shelf
end Go.Proofs.YtdnaegleifhmgaaGreat
end
section
namespace Go.Proofs.YtdnaegleifhmgaaGreat
open Go.RowKit Go.Lib Go.Tk Go.WideShapes
variable {H : Type} {enc : TypeId × Value → H} {w : World} {base : Nat} {spare : Nat → Bool} {held : Bool}
end Go.Proofs.YtdnaegleifhmgaaGreat
end
section
namespace Go.Proofs.YtdnaegleifhmgaaGreat
open Go.RowKit Go.Lib Go.Tk Go.Shelf Go.Vc Go.Sx Go.WideShapes
section
variable {H : Type} {enc : TypeId × Value → H} {w : World} {base : Nat} {spare : Nat → Bool} {held : Bool}
end
end Go.Proofs.YtdnaegleifhmgaaGreat
end
section
namespace Go.Proofs.YtdnaegleifhmgaaGreat
open Go.RowKit Go.Lib Go.Tk Go.Shelf Go.Vc Go.Sx
end Go.Proofs.YtdnaegleifhmgaaGreat
end
section
namespace Go.Proofs.YtdnaegleifhmgaaGreat
open Go.RowKit Go.Lib Go.Tk Go.Shelf Go.Vc Go.Sx
def Same17F : Nat := 19
def StatusesF : Nat := 37
theorem statuses_nil : CallOK Tryz.prog StatusesF [nilS, nilS] [] [] (.val (.bool true)) [] := callOK_runU 400 [] (by kernel_rfl) (by kernel_rfl)
theorem same17_nil : CallOK Tryz.prog Same17F [.agg (repS 8 tid0 0 nilS), .agg (repS 8 tid0 0 nilS)] [] [] (.val (.bool true)) [] := by
  have c1 := statuses_nil
  exact callOK_run 400 [hC 1 24 c1] (by kernel_rfl) (by kernel_rfl)
end Go.Proofs.YtdnaegleifhmgaaGreat
end
section
namespace Go.Proofs.YtdnaegleifhmgaaGreat
open Go.RowKit Go.Lib Go.Tk Go.Shelf Go.Vc Go.Sx
def Nil24F : Nat := 6
theorem nil24_w (F : CF) (x : CmX) : CallOK Tryz.prog Nil24F [.agg (cmtS x.c x.A)] [((0, 9), .fam F)] [] (.val (.bool true)) [] := by
  have c1 := step_nil x.c x.A
  have c2 := same17_nil
  have c3 := places_nil
  have c4 := docs_nil
  have c5 := clone_nil
  have c6 := wakes24_w
  exact callOK_run 900 [hC 2 2 c1, hC 3 2 c2, hC 3 9 c3, hC 3 15 c4, hC 3 21 c5, hC 3 25 c6] (by kernel_rfl) (by kernel_rfl)
theorem nil24_any (x : CmX) (w : World) (_ : CmIn w x) : Calls Tryz.prog Nil24F #[.agg (cmC x).toArray] w fun e w' => e = .returned (.bool true) ∧ Below w.heap.size w w' :=
  (nil24_w (fun _ _ => oldC w) x (fun _ _ => (0, undef)) [] w (Mem.old w)).mono fun e w' ⟨x, h, hm⟩ => ⟨h, (show Mem (oldC w :: []) w' from hm).below 0 rfl⟩
end Go.Proofs.YtdnaegleifhmgaaGreat
end
section
namespace Go.Proofs.YtdnaegleifhmgaaGreat.centralNilF
open Go
theorem closed : joinedFacts Tryz.pinned.checked.prog 6 Tryz.f6 Rows.centralNilSpec Rows.centralNilRow = true := by kernel_rfl
theorem inst : Tryz.f6.isInstance Tryz.pinned.checked.prog Rows.centralNilRow.origin Rows.centralNilRow.targs := of_decide_eq_true (by kernel_rfl)
theorem wrap : Tryz.f6.isWrapper Tryz.pinned.checked.prog Rows.centralNilRow.wrapper Rows.centralNilRow.mainSum := by
  unfold Func.isWrapper
  first | (rw [if_pos (by decide +kernel)]; kernel_rfl) | (rw [if_neg (by decide +kernel)]; exact ⟨rfl, rfl⟩)
end Go.Proofs.YtdnaegleifhmgaaGreat.centralNilF
end
